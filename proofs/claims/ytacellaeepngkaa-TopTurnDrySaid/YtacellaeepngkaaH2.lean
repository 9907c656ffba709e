/- elmOwn. -/
import Derived.Test.YtacellaeepngkaaH1
import Derived.Test.YtacellaeepngkaaSG
namespace Go.Proofs.Ytacellaeepngkaa
set_option linter.unusedVariables false
set_option linter.unusedSimpArgs false
open Go.RowKit Go.Shelf

theorem info_tw : (Try.prog.info? 41).map (fun i => (i.zero, i.size, i.bytes)) = some (some (.agg #[.int .i64 0, .int .i64 0, .int .i64 0, .int .i64 0]), 4, 32) := by kernel_rfl

set_option maxRecDepth 100000 in
set_option maxHeartbeats 2000000 in
theorem elm_Own (cs : List TwC) (fr : List Int) (gap str : Int) (hf : FieldOk cs fr gap str) (A A2 : Option Addr) (cap cap2 : Nat) (w : World) (hz : Sl w A 4 encTw cs) (hr : Sl w A2 1 encI fr) :
    Calls Try.prog 13 #[.agg #[.slice A cs.length cap, .slice A2 fr.length cap2, .int .i64 gap, .int .i64 str]] w fun e w' =>
      (∃ v v2, e = .returned (.agg #[v, v2, .int .i64 gap, .int .i64 str]) ∧ w'.ownsRow w.heap.size 41 4 v cs.length (cs.flatMap encTw) ∧ w'.ownsRow w.heap.size 3 1 v2 fr.length (fr.flatMap encI)) ∧ Below w.heap.size w w' := by
  obtain ⟨i0, hi, hz0, hz1, hz2⟩ := info_parts info_tw
  obtain ⟨j0, ji, jz0, jz1, jz2⟩ := info_parts info_int
  have h7 := hf.few
  have h3 := hf.frames.2
  go_enter Try.func13, Try.ntmps13
  go_upto_region 1 with fail
  refine name_world (fun W hW => ?_)
  have HB : Below w.heap.size w W := by rw [hW]; exact (by repeat (first | with_reducible exact Below.refl _ _ | with_reducible assumption | with_reducible refine Below.al ?_ _ | with_reducible refine Below.drew ?_ | with_reducible refine Below.st ?_ (by first | (simp; done) | assumption | (simp; omega)) _ | with_reducible refine Below.call ?_ (by with_reducible assumption) | exact Below.refl _ _ | assumption | refine Below.al ?_ _ | refine Below.drew ?_ | refine Below.call ?_ (by assumption) | refine Below.st ?_ (by first | (simp; done) | assumption | (simp; omega)) _))
  have hl0 : w.heap.size < W.heap.size := by rw [hW]; simp; omega
  have hl1 : w.heap.size + 1 < W.heap.size := by rw [hW]; simp
  have x0 : W.cell? ⟨w.heap.size, 0, none⟩ = some (.slice A cs.length cap) := by rw [hW]; go_simp
  have x1 : W.cell? ⟨w.heap.size, 1, none⟩ = some (.slice A2 fr.length cap2) := by rw [hW]; go_simp
  have x2 : W.cell? ⟨w.heap.size, 2, none⟩ = some (.int .i64 gap) := by rw [hW]; go_simp
  have x3 : W.cell? ⟨w.heap.size, 3, none⟩ = some (.int .i64 str) := by rw [hW]; go_simp
  have z0 : W.cell? ⟨w.heap.size + 1, 0, none⟩ = some (.slice none 0 0) := by rw [hW]; go_simp
  have z1 : W.cell? ⟨w.heap.size + 1, 1, none⟩ = some (.slice none 0 0) := by rw [hW]; go_simp
  have z2 : W.cell? ⟨w.heap.size + 1, 2, none⟩ = some (.int .i64 0) := by rw [hW]; go_simp
  have z3 : W.cell? ⟨w.heap.size + 1, 3, none⟩ = some (.int .i64 0) := by rw [hW]; go_simp
  have y1 : ∀ k, W.frozen? ⟨w.heap.size + 1, k, none⟩ = false := by intro k; rw [hW]; go_simp
  have y0 : ∀ k, W.frozen? ⟨w.heap.size, k, none⟩ = false := by intro k; rw [hW]; go_simp
  clear hW
  have te : ∀ x : TwC, ∀ u ∈ encTw x, u.oneCell' = true := by
    intro x u hu
    simp only [encTw, List.mem_cons, List.not_mem_nil, or_false] at hu
    rcases hu with rfl | rfl | rfl | rfl <;> rfl
  have ie : ∀ x : Int, ∀ u ∈ encI x, u.oneCell' = true := by
    intro x u hu
    simp only [encI, List.mem_cons, List.not_mem_nil, or_false] at hu
    subst hu; rfl
  have hzW := hz.below HB
  have hrW := hr.below HB
  refine wp_region_soft 9 (by kernel_rfl) (by kernel_rfl) ?_; simp only [List.take_succ_cons, List.take_zero, List.drop_succ_cons, List.drop_zero]
  refine wpSoft_fact (EmptyF W.heap.size 41) lasting_empty (fun v wk hb hf => softOp_new (by simp only [headPut]; go_simp) hb.size) ?_
  (with_reducible apply wpSoft_eq; focus (intro v wk hb hf; clear hf; simp only [headPut]; go_simp; first | done | rfl))
  (with_reducible apply wpSoft_eq; focus (intro v wk hb hf; have q1 := hf 1 (by kernel_rfl); simp only [factAt, List.nil_append, List.cons_append, List.getElem?_cons_succ, List.getElem?_cons_zero, Option.getD_some] at q1; clear hf; have cc := fun o => hb.cell (p := ⟨w.heap.size, o, none⟩) hl0; simp only [headPut]; go_simp; first | done | rfl))
  refine wpSoft_fact (OwnF W.heap.size 41 4 cs.length (cs.flatMap encTw)) lasting_own (fun v wk hb hf => ?_) ?_
  · have q0 := hf 0 (by kernel_rfl); simp only [factAt, List.nil_append, List.cons_append, List.getElem?_cons_succ, List.getElem?_cons_zero, Option.getD_some] at q0; have q2 := hf 2 (by kernel_rfl); simp only [factAt, List.nil_append, List.cons_append, List.getElem?_cons_succ, List.getElem?_cons_zero, Option.getD_some] at q2; clear hf
    exact softOp_app _ _ 33 rfl W.heap.size 41 i0 _ 4 32 Try.underlying33 hi hz0 hz1 hz2 rfl (by decide) A cap encTw cs (fun _ => rfl) te (by unfold maxLen; omega) (by omega) q0 (by simp only [headPut]; go_simp) (by simp only [headPut]; go_simp) (hzW.below hb) hb.size
  refine wpSoft_fact (EmptyF W.heap.size 3) lasting_empty (fun v wk hb hf => softOp_new (by clear hf; simp only [headPut]; go_simp) hb.size) ?_
  (with_reducible apply wpSoft_eq; focus (intro v wk hb hf; clear hf; simp only [headPut]; go_simp; first | done | rfl))
  (with_reducible apply wpSoft_eq; focus (intro v wk hb hf; have q5 := hf 5 (by kernel_rfl); simp only [factAt, List.nil_append, List.cons_append, List.getElem?_cons_succ, List.getElem?_cons_zero, Option.getD_some] at q5; clear hf; have cc := fun o => hb.cell (p := ⟨w.heap.size, o, none⟩) hl0; simp only [headPut]; go_simp; first | done | rfl))
  refine wpSoft_fact (OwnF W.heap.size 3 1 fr.length (fr.flatMap encI)) lasting_own (fun v wk hb hf => ?_) ?_
  · have q4 := hf 4 (by kernel_rfl); simp only [factAt, List.nil_append, List.cons_append, List.getElem?_cons_succ, List.getElem?_cons_zero, Option.getD_some] at q4; have q6 := hf 6 (by kernel_rfl); simp only [factAt, List.nil_append, List.cons_append, List.getElem?_cons_succ, List.getElem?_cons_zero, Option.getD_some] at q6; clear hf
    exact softOp_app _ _ 29 rfl W.heap.size 3 j0 _ 1 8 Try.underlying29 ji jz0 jz1 jz2 rfl (by decide) A2 cap2 encI fr (fun _ => rfl) ie (by unfold maxLen; omega) (by omega) q4 (by simp only [headPut]; go_simp) (by simp only [headPut]; go_simp) (hrW.below hb) hb.size
  (with_reducible apply wpSoft_eq; focus (intro v wk hb hf; clear hf; simp only [headPut]; go_simp; first | done | rfl))
  refine wpSoft_end fun v wk hb hf a' ha => ?_; have q0 := hf 0 (by simp); simp only [factAt, List.nil_append, List.cons_append, List.getElem?_cons_succ, List.getElem?_cons_zero, Option.getD_some] at q0; have q1 := hf 1 (by simp); simp only [factAt, List.nil_append, List.cons_append, List.getElem?_cons_succ, List.getElem?_cons_zero, Option.getD_some] at q1; have q2 := hf 2 (by simp); simp only [factAt, List.nil_append, List.cons_append, List.getElem?_cons_succ, List.getElem?_cons_zero, Option.getD_some] at q2; have q3 := hf 3 (by simp); simp only [factAt, List.nil_append, List.cons_append, List.getElem?_cons_succ, List.getElem?_cons_zero, Option.getD_some] at q3; have q4 := hf 4 (by simp); simp only [factAt, List.nil_append, List.cons_append, List.getElem?_cons_succ, List.getElem?_cons_zero, Option.getD_some] at q4; have q5 := hf 5 (by simp); simp only [factAt, List.nil_append, List.cons_append, List.getElem?_cons_succ, List.getElem?_cons_zero, Option.getD_some] at q5; have q6 := hf 6 (by simp); simp only [factAt, List.nil_append, List.cons_append, List.getElem?_cons_succ, List.getElem?_cons_zero, Option.getD_some] at q6; have q7 := hf 7 (by simp); simp only [factAt, List.nil_append, List.cons_append, List.getElem?_cons_succ, List.getElem?_cons_zero, Option.getD_some] at q7; have q8 := hf 8 (by simp); simp only [factAt, List.nil_append, List.cons_append, List.getElem?_cons_succ, List.getElem?_cons_zero, Option.getD_some] at q8; clear hf; simp only [headPut, Act.put, List.setIfInBounds_toArray, List.set_cons_succ, List.set_cons_zero] at ha
  obtain ⟨⟨A', c', e3⟩, o3⟩ := q3
  obtain ⟨⟨B', d', e7⟩, o7⟩ := q7
  simp only [Nat.zero_add, Nat.reduceAdd, q8, e3, e7] at ha
  subst ha
  simp only [e3] at o3
  simp only [e7] at o7
  clear q0 q1 q2 q4 q5 q6 q8 e3 e7
  have c0 := (hb.cell (p := ⟨w.heap.size, 0, none⟩) hl0).trans x0
  have c1 := (hb.cell (p := ⟨w.heap.size, 1, none⟩) hl0).trans x1
  have c2 := (hb.cell (p := ⟨w.heap.size, 2, none⟩) hl0).trans x2
  have c3 := (hb.cell (p := ⟨w.heap.size, 3, none⟩) hl0).trans x3
  have f0 := fun k => (hb.frozen (p := ⟨w.heap.size, k, none⟩) hl0).trans (y0 k)
  have d0 := (hb.cell (p := ⟨w.heap.size + 1, 0, none⟩) hl1).trans z0
  have d1 := (hb.cell (p := ⟨w.heap.size + 1, 1, none⟩) hl1).trans z1
  have d2 := (hb.cell (p := ⟨w.heap.size + 1, 2, none⟩) hl1).trans z2
  have d3 := (hb.cell (p := ⟨w.heap.size + 1, 3, none⟩) hl1).trans z3
  have f1 := fun k => (hb.frozen (p := ⟨w.heap.size + 1, k, none⟩) hl1).trans (y1 k)
  clear x0 x1 x2 x3 y0 z0 z1 z2 z3 y1
  go_wp2
  have HX : Below w.heap.size w wk := HB.call hb
  have so := fun {p : Addr} (u : Value) (hp : p.block < W.heap.size) => (ownsRow_setCell_below · (a := p) hp u : ∀ {wz : World} {e n k xs vv}, wz.ownsRow W.heap.size e k vv n xs → (wz.setCell p u).ownsRow W.heap.size e k vv n xs)
  generalize cs.flatMap encTw = zc at *
  generalize fr.flatMap encI = zf at *
  refine bodyPost_ret (v := .agg #[.slice A' cs.length c', .slice B' fr.length d', .int .i64 gap, .int .i64 str]) ?_ rfl ⟨⟨_, _, rfl, ?_, ?_⟩, ?_⟩
  · simp [results, Try.results13, go_sem, c0, c1, c2, c3, f0, f1, d0, d1, d2, d3]
  · with_reducible exact (so _ hl1 (so _ hl1 (so _ hl1 (so _ hl1 (so _ hl0 (so _ hl0 o3)))))).mono HB.size
  · with_reducible exact (so _ hl1 (so _ hl1 (so _ hl1 (so _ hl1 (so _ hl0 (so _ hl0 o7)))))).mono HB.size
  · exact (by repeat (first | with_reducible exact Below.refl _ _ | with_reducible assumption | with_reducible refine Below.al ?_ _ | with_reducible refine Below.drew ?_ | with_reducible refine Below.st ?_ (by first | (simp; done) | assumption | (simp; omega)) _ | with_reducible refine Below.call ?_ (by with_reducible assumption) | exact Below.refl _ _ | assumption | refine Below.al ?_ _ | refine Below.drew ?_ | refine Below.call ?_ (by assumption) | refine Below.st ?_ (by first | (simp; done) | assumption | (simp; omega)) _))
end Go.Proofs.Ytacellaeepngkaa
