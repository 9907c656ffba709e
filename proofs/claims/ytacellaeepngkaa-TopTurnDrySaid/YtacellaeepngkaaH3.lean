/- elmTenter. -/
import Derived.Test.YtacellaeepngkaaH2
namespace Go.Proofs.Ytacellaeepngkaa
set_option linter.unusedVariables false
set_option linter.unusedSimpArgs false
open Go.RowKit Go.Shelf

theorem twc_one : ∀ x : TwC, ∀ u ∈ encTw x, u.oneCell' = true := by
  intro x u hu
  simp only [encTw, List.mem_cons, List.not_mem_nil, or_false] at hu
  rcases hu with rfl | rfl | rfl | rfl <;> rfl
theorem int_one : ∀ x : Int, ∀ u ∈ encI x, u.oneCell' = true := by
  intro x u hu
  simp only [encI, List.mem_cons, List.not_mem_nil, or_false] at hu
  subst hu; rfl

def framesF (a c d : Int) : List Int := [60 + 3 * c, 60 + 3 * d, 60 + 3 * c].take ((a / 32 % 3).toNat + 1)

set_option maxRecDepth 100000 in
set_option maxHeartbeats 2000000 in
theorem elm_Tenter (cs : List TwC) (h7 : cs.length ≤ 7) (a b c d : Int) (ha : 0 ≤ a ∧ a ≤ 255) (hb : 0 ≤ b ∧ b ≤ 255) (hc : 0 ≤ c ∧ c ≤ 255) (hd : 0 ≤ d ∧ d ≤ 255) (A : Option Addr) (cap : Nat) (w : World) (hz : Sl w A 4 encTw cs) :
    Calls Try.prog 9 #[.slice A cs.length cap, .agg #[.int .u8 a, .int .u8 b, .int .u8 c, .int .u8 d]] w fun e w' =>
      (∃ v v2, e = .returned (.agg #[v, v2, .int .i64 (a % 20), .int .i64 (b % 120)]) ∧ w'.ownsRow w.heap.size 41 4 v cs.length (cs.flatMap encTw) ∧ w'.ownsRow w.heap.size 3 1 v2 (framesF a c d).length ((framesF a c d).flatMap encI)) ∧ Below w.heap.size w w' := by
  obtain ⟨i0, hi, hz0, hz1, hz2⟩ := info_parts info_tw
  obtain ⟨j0, ji, jz0, jz1, jz2⟩ := info_parts info_int
  obtain ⟨a0, a1⟩ := ha
  obtain ⟨b0, b1⟩ := hb
  obtain ⟨c0, c1⟩ := hc
  obtain ⟨d0, d1⟩ := hd
  go_enter Try.func9, Try.ntmps9
  go_upto_region 1 with fail
  refine name_world (fun W hW => ?_)
  have HB : Below w.heap.size w W := by rw [hW]; exact (by repeat (first | with_reducible exact Below.refl _ _ | with_reducible assumption | with_reducible refine Below.al ?_ _ | with_reducible refine Below.drew ?_ | with_reducible refine Below.st ?_ (by first | (simp; done) | assumption | (simp; omega)) _ | with_reducible refine Below.call ?_ (by with_reducible assumption) | exact Below.refl _ _ | assumption | refine Below.al ?_ _ | refine Below.drew ?_ | refine Below.call ?_ (by assumption) | refine Below.st ?_ (by first | (simp; done) | assumption | (simp; omega)) _))
  have hl0 : w.heap.size < W.heap.size := by rw [hW]; simp; omega
  have hl1 : w.heap.size + 1 < W.heap.size := by rw [hW]; simp
  have x0 : W.cell? ⟨w.heap.size, 0, none⟩ = some (.int .u8 a) := by rw [hW]; go_simp
  have x1 : W.cell? ⟨w.heap.size, 1, none⟩ = some (.int .u8 b) := by rw [hW]; go_simp
  have x2 : W.cell? ⟨w.heap.size, 2, none⟩ = some (.int .u8 c) := by rw [hW]; go_simp
  have x3 : W.cell? ⟨w.heap.size, 3, none⟩ = some (.int .u8 d) := by rw [hW]; go_simp
  have z0 : W.cell? ⟨w.heap.size + 1, 0, none⟩ = some (.slice none 0 0) := by rw [hW]; go_simp
  have z1 : W.cell? ⟨w.heap.size + 1, 1, none⟩ = some (.slice none 0 0) := by rw [hW]; go_simp
  have z2 : W.cell? ⟨w.heap.size + 1, 2, none⟩ = some (.int .i64 0) := by rw [hW]; go_simp
  have z3 : W.cell? ⟨w.heap.size + 1, 3, none⟩ = some (.int .i64 0) := by rw [hW]; go_simp
  have y1 : ∀ k, W.frozen? ⟨w.heap.size + 1, k, none⟩ = false := by intro k; rw [hW]; go_simp
  clear hW
  have hzW := hz.below HB
  refine wp_region_soft 13 (by kernel_rfl) (by kernel_rfl) ?_; simp only [List.take_succ_cons, List.take_zero, List.drop_succ_cons, List.drop_zero]
  refine wpSoft_fact (EmptyF W.heap.size 41) lasting_empty (fun v wk hb hf => softOp_new (by simp only [headPut]; go_simp) hb.size) ?_
  (with_reducible apply wpSoft_eq; focus (intro v wk hb hf; clear hf; simp only [headPut]; go_simp; first | done | rfl))
  refine wpSoft_fact (OwnF W.heap.size 41 4 cs.length (cs.flatMap encTw)) lasting_own (fun v wk hb hf => ?_) ?_
  · have q0 := hf 0 (by kernel_rfl); simp only [factAt, List.nil_append, List.cons_append, List.getElem?_cons_succ, List.getElem?_cons_zero, Option.getD_some] at q0; have q1 := hf 1 (by kernel_rfl); simp only [factAt, List.nil_append, List.cons_append, List.getElem?_cons_succ, List.getElem?_cons_zero, Option.getD_some] at q1; clear hf
    exact softOp_app _ _ 33 rfl W.heap.size 41 i0 _ 4 32 Try.underlying33 hi hz0 hz1 hz2 rfl (by decide) A cap encTw cs (fun _ => rfl) twc_one (by unfold maxLen; omega) (by omega) q0 (by simp only [headPut]; go_simp) (by simp only [headPut]; go_simp) (hzW.below hb) hb.size
  (with_reducible apply wpSoft_eq; focus (intro v wk hb hf; clear hf; have cc := fun o => hb.cell (p := ⟨w.heap.size, o, none⟩) hl0; simp only [headPut]; go_simp; first | done | rfl)); (with_reducible apply wpSoft_eq; focus (intro v wk hb hf; have q3 := hf 3 (by kernel_rfl); simp only [factAt, List.nil_append, List.cons_append, List.getElem?_cons_succ, List.getElem?_cons_zero, Option.getD_some] at q3; clear hf; have cc := fun o => hb.cell (p := ⟨w.heap.size, o, none⟩) hl0; simp only [headPut]; go_simp; first | done | rfl))
  (with_reducible apply wpSoft_eq; focus (intro v wk hb hf; have q4 := hf 4 (by kernel_rfl); simp only [factAt, List.nil_append, List.cons_append, List.getElem?_cons_succ, List.getElem?_cons_zero, Option.getD_some] at q4; clear hf; have wa : IntKind.i64.wrap a = a := IntWalk.i64_in _ (by omega); have ta : a.tmod 20 = a % 20 := Int.tmod_eq_emod_of_nonneg a0; simp only [headPut]; go_simp; first | done | rfl)); (with_reducible apply wpSoft_eq; focus (intro v wk hb hf; have q5 := hf 5 (by kernel_rfl); simp only [factAt, List.nil_append, List.cons_append, List.getElem?_cons_succ, List.getElem?_cons_zero, Option.getD_some] at q5; clear hf; have wa : IntKind.i64.wrap a = a := IntWalk.i64_in _ (by omega); have ta : a.tmod 20 = a % 20 := Int.tmod_eq_emod_of_nonneg a0; simp only [headPut]; go_simp; first | done | rfl))
  (with_reducible apply wpSoft_eq; focus (intro v wk hb hf; clear hf; have cc := fun o => hb.cell (p := ⟨w.heap.size, o, none⟩) hl0; simp only [headPut]; go_simp; first | done | rfl)); (with_reducible apply wpSoft_eq; focus (intro v wk hb hf; have q7 := hf 7 (by kernel_rfl); simp only [factAt, List.nil_append, List.cons_append, List.getElem?_cons_succ, List.getElem?_cons_zero, Option.getD_some] at q7; clear hf; have cc := fun o => hb.cell (p := ⟨w.heap.size, o, none⟩) hl0; simp only [headPut]; go_simp; first | done | rfl))
  (with_reducible apply wpSoft_eq; focus (intro v wk hb hf; have q8 := hf 8 (by kernel_rfl); simp only [factAt, List.nil_append, List.cons_append, List.getElem?_cons_succ, List.getElem?_cons_zero, Option.getD_some] at q8; clear hf; have wa : IntKind.i64.wrap b = b := IntWalk.i64_in _ (by omega); have ta : b.tmod 120 = b % 120 := Int.tmod_eq_emod_of_nonneg b0; simp only [headPut]; go_simp; first | done | rfl)); (with_reducible apply wpSoft_eq; focus (intro v wk hb hf; have q9 := hf 9 (by kernel_rfl); simp only [factAt, List.nil_append, List.cons_append, List.getElem?_cons_succ, List.getElem?_cons_zero, Option.getD_some] at q9; clear hf; have wa : IntKind.i64.wrap b = b := IntWalk.i64_in _ (by omega); have ta : b.tmod 120 = b % 120 := Int.tmod_eq_emod_of_nonneg b0; simp only [headPut]; go_simp; first | done | rfl))
  refine wpSoft_fact (fun u wz => ∃ s, u = .agg #[s, .slice none 0 0, .int .i64 (a % 20), .int .i64 (b % 120)] ∧ OwnF W.heap.size 41 4 cs.length (cs.flatMap encTw) s wz) (fun _ _ _ hb ⟨s, h1, h2⟩ => ⟨s, h1, lasting_own _ _ _ hb h2⟩) (fun v wk hb hf => ?_) ?_
  · have q2 := hf 2 (by kernel_rfl); simp only [factAt, List.nil_append, List.cons_append, List.getElem?_cons_succ, List.getElem?_cons_zero, Option.getD_some] at q2; have q6 := hf 6 (by kernel_rfl); simp only [factAt, List.nil_append, List.cons_append, List.getElem?_cons_succ, List.getElem?_cons_zero, Option.getD_some] at q6; have q10 := hf 10 (by kernel_rfl); simp only [factAt, List.nil_append, List.cons_append, List.getElem?_cons_succ, List.getElem?_cons_zero, Option.getD_some] at q10; clear hf
    have q2' := q2
    obtain ⟨⟨A', c', e2⟩, o2⟩ := q2
    refine softOp_val (v := .agg #[.slice A' cs.length c', .slice none 0 0, .int .i64 (a % 20), .int .i64 (b % 120)]) (w' := wk) ?_ (Below.refl _ _) ⟨_, rfl, e2 ▸ q2'⟩
    clear o2 q2'
    simp only [headPut]
    go_simp
  refine wpSoft_fact (CellsF W.heap.size #[.slice none 0 0, .slice none 0 0, .int .i64 0, .int .i64 0] 43) lasting_cells (fun v wk hb hf => softOp_alloc (by clear hf; simp only [headPut]; go_simp) hb.size) ?_
  refine wpSoft_end fun v wk hb hf a' ha => ?_; have q0 := hf 0 (by simp); simp only [factAt, List.nil_append, List.cons_append, List.getElem?_cons_succ, List.getElem?_cons_zero, Option.getD_some] at q0; have q1 := hf 1 (by simp); simp only [factAt, List.nil_append, List.cons_append, List.getElem?_cons_succ, List.getElem?_cons_zero, Option.getD_some] at q1; have q2 := hf 2 (by simp); simp only [factAt, List.nil_append, List.cons_append, List.getElem?_cons_succ, List.getElem?_cons_zero, Option.getD_some] at q2; have q3 := hf 3 (by simp); simp only [factAt, List.nil_append, List.cons_append, List.getElem?_cons_succ, List.getElem?_cons_zero, Option.getD_some] at q3; have q4 := hf 4 (by simp); simp only [factAt, List.nil_append, List.cons_append, List.getElem?_cons_succ, List.getElem?_cons_zero, Option.getD_some] at q4; have q5 := hf 5 (by simp); simp only [factAt, List.nil_append, List.cons_append, List.getElem?_cons_succ, List.getElem?_cons_zero, Option.getD_some] at q5; have q6 := hf 6 (by simp); simp only [factAt, List.nil_append, List.cons_append, List.getElem?_cons_succ, List.getElem?_cons_zero, Option.getD_some] at q6; have q7 := hf 7 (by simp); simp only [factAt, List.nil_append, List.cons_append, List.getElem?_cons_succ, List.getElem?_cons_zero, Option.getD_some] at q7; have q8 := hf 8 (by simp); simp only [factAt, List.nil_append, List.cons_append, List.getElem?_cons_succ, List.getElem?_cons_zero, Option.getD_some] at q8; have q9 := hf 9 (by simp); simp only [factAt, List.nil_append, List.cons_append, List.getElem?_cons_succ, List.getElem?_cons_zero, Option.getD_some] at q9; have q10 := hf 10 (by simp); simp only [factAt, List.nil_append, List.cons_append, List.getElem?_cons_succ, List.getElem?_cons_zero, Option.getD_some] at q10; have q11 := hf 11 (by simp); simp only [factAt, List.nil_append, List.cons_append, List.getElem?_cons_succ, List.getElem?_cons_zero, Option.getD_some] at q11; have q12 := hf 12 (by simp); simp only [factAt, List.nil_append, List.cons_append, List.getElem?_cons_succ, List.getElem?_cons_zero, Option.getD_some] at q12; clear hf; simp only [headPut, Act.put, List.setIfInBounds_toArray, List.set_cons_succ, List.set_cons_zero] at ha
  obtain ⟨s, e11, ⟨A', c', rfl⟩, o3⟩ := q11
  obtain ⟨g, e12, hg, hgc⟩ := q12
  simp only [Nat.zero_add, Nat.reduceAdd, e11, e12] at ha
  subst ha
  clear q0 q1 q2 q3 q4 q5 q6 q7 q8 q9 q10 e11 e12
  have gne := own_type o3 hgc (by decide)
  have g0 : wk.cell? ⟨g, 0, none⟩ = some (.slice none 0 0) := cell_blk hgc rfl
  have g1 : wk.cell? ⟨g, 1, none⟩ = some (.slice none 0 0) := cell_blk hgc rfl
  have g2 : wk.cell? ⟨g, 2, none⟩ = some (.int .i64 0) := cell_blk hgc rfl
  have g3 : wk.cell? ⟨g, 3, none⟩ = some (.int .i64 0) := cell_blk hgc rfl
  have gf := fun k => frozen_blk (k := k) hgc
  have gl := lt_blk hgc
  clear hgc
  go_wp2
  have HX := HB.call hb
  have r0 := (hb.cell (p := ⟨w.heap.size, 0, none⟩) hl0).trans x0
  have r1 := (hb.cell (p := ⟨w.heap.size, 1, none⟩) hl0).trans x1
  have r2 := (hb.cell (p := ⟨w.heap.size, 2, none⟩) hl0).trans x2
  have r3 := (hb.cell (p := ⟨w.heap.size, 3, none⟩) hl0).trans x3
  have s0 := (hb.cell (p := ⟨w.heap.size + 1, 0, none⟩) hl1).trans z0
  have s1 := (hb.cell (p := ⟨w.heap.size + 1, 1, none⟩) hl1).trans z1
  have s2 := (hb.cell (p := ⟨w.heap.size + 1, 2, none⟩) hl1).trans z2
  have s3 := (hb.cell (p := ⟨w.heap.size + 1, 3, none⟩) hl1).trans z3
  have t1 := fun k => (hb.frozen (p := ⟨w.heap.size + 1, k, none⟩) hl1).trans (y1 k)
  have gw : w.heap.size ≤ g := by have := HB.size; omega
  have n0 : g ≠ w.heap.size := by omega
  have n1 : g ≠ w.heap.size + 1 := by omega
  refine name_world (fun V hV => ?_)
  have HV : Below w.heap.size w V := by rw [hV]; exact (by repeat (first | with_reducible exact Below.refl _ _ | with_reducible assumption | with_reducible refine Below.al ?_ _ | with_reducible refine Below.drew ?_ | with_reducible refine Below.st ?_ (by first | (simp; done) | assumption | (simp; omega)) _ | with_reducible refine Below.call ?_ (by with_reducible assumption) | exact Below.refl _ _ | assumption | refine Below.al ?_ _ | refine Below.drew ?_ | refine Below.call ?_ (by assumption) | refine Below.st ?_ (by first | (simp; done) | assumption | (simp; omega)) _))
  have vs : V.heap.size = wk.heap.size := by rw [hV]; simp
  have so := fun {p : Addr} (u : Value) (hp : (Value.slice A' cs.length c').ownBlock ≠ some p.block) => (ownsRow_setCell_other · (a := p) hp u : ∀ {wz : World} {e n k xs}, wz.ownsRow W.heap.size e k (.slice A' cs.length c') n xs → (wz.setCell p u).ownsRow W.heap.size e k (.slice A' cs.length c') n xs)
  have oV : V.ownsRow W.heap.size 41 4 (.slice A' cs.length c') cs.length (cs.flatMap encTw) := by rw [hV]; exact so _ gne (so _ gne (so _ gne (so _ gne o3)))
  have olt : ∀ k, (Value.slice A' cs.length c').ownBlock = some k → k < V.heap.size := fun k hk => (oV.lt k hk).2
  have v0 : V.cell? ⟨g, 0, none⟩ = some (.slice A' cs.length c') := by rw [hV]; go_simp
  have v1 : V.cell? ⟨g, 1, none⟩ = some (.slice none 0 0) := by rw [hV]; go_simp
  have v2 : V.cell? ⟨g, 2, none⟩ = some (.int .i64 (a % 20)) := by rw [hV]; go_simp
  have v3 : V.cell? ⟨g, 3, none⟩ = some (.int .i64 (b % 120)) := by rw [hV]; go_simp
  have vf : ∀ k, V.frozen? ⟨g, k, none⟩ = false := by intro k; rw [hV]; go_simp
  have u0 : V.cell? ⟨w.heap.size, 0, none⟩ = some (.int .u8 a) := by rw [hV]; go_simp
  have u1 : V.cell? ⟨w.heap.size, 1, none⟩ = some (.int .u8 b) := by rw [hV]; go_simp
  have u2 : V.cell? ⟨w.heap.size, 2, none⟩ = some (.int .u8 c) := by rw [hV]; go_simp
  have u3 : V.cell? ⟨w.heap.size, 3, none⟩ = some (.int .u8 d) := by rw [hV]; go_simp
  have p0 : V.cell? ⟨w.heap.size + 1, 0, none⟩ = some (.slice none 0 0) := by rw [hV]; go_simp
  have p1 : V.cell? ⟨w.heap.size + 1, 1, none⟩ = some (.slice none 0 0) := by rw [hV]; go_simp
  have p2 : V.cell? ⟨w.heap.size + 1, 2, none⟩ = some (.int .i64 0) := by rw [hV]; go_simp
  have p3 : V.cell? ⟨w.heap.size + 1, 3, none⟩ = some (.int .i64 0) := by rw [hV]; go_simp
  have pf : ∀ k, V.frozen? ⟨w.heap.size + 1, k, none⟩ = false := by intro k; rw [hV]; go_simp
  clear hV g0 g1 g2 g3 gf r0 r1 r2 r3 s0 s1 s2 s3 t1 x0 x1 x2 x3 z0 z1 z2 z3 y1 o3
  have gV : g < V.heap.size := by omega
  have hVW : W.heap.size ≤ V.heap.size := by have := hb.size; omega
  have bV0 : w.heap.size < V.heap.size := by have := hb.size; omega
  have bV1 : w.heap.size + 1 < V.heap.size := by have := hb.size; omega
  clear vs
  have hm0 : 0 ≤ a / 32 % 3 := by omega
  have hm1 : a / 32 % 3 ≤ 2 := by omega
  go_loopw [6] (fun i wr => ∃ (k : Nat) (S : Value), i = .int .i64 k ∧ k ≤ (a / 32 % 3).toNat + 1 ∧ V.grownBy wr (some g) ∧ wr.cell? ⟨g, 0, none⟩ = some (.slice A' cs.length c') ∧ wr.cell? ⟨g, 1, none⟩ = some S ∧ wr.cell? ⟨g, 2, none⟩ = some (.int .i64 (a % 20)) ∧ wr.cell? ⟨g, 3, none⟩ = some (.int .i64 (b % 120)) ∧
      (∀ j, wr.frozen? ⟨g, j, none⟩ = false) ∧ wr.ownsRow V.heap.size 3 1 S k (([60 + 3 * c, 60 + 3 * d, 60 + 3 * c].take k).flatMap encI)) (fun i _ => 3 - (intOf i).toNat)
  case atStart => exact ⟨0, .slice none 0 0, rfl, by omega, ⟨rfl, rfl, rfl, Nat.le_refl _, fun _ _ _ => rfl⟩, v0, v1, v2, v3, vf, World.ownsRow_nil _ _ _ _⟩
  case round =>
    obtain ⟨k, S, rfl, hk, rgr, rg0, rg1, rg2, rg3, rgf, rS⟩ := hrel
    have e0 := rgr.cell u0 (by simp; omega)
    have e1 := rgr.cell u1 (by simp; omega)
    have e2 := rgr.cell u2 (by simp; omega)
    have e3 := rgr.cell u3 (by simp; omega)
    by_cases hlt : (k : Int) ≤ a / 32 % 3
    · go_wp2
      have hgl : g < wr.heap.size := by have := rgr.size; omega
      have hwl : w.heap.size < wr.heap.size := by have := rgr.size; omega
      obtain ⟨r, x, er, r0, r1, ex, hx0, hx1, htk⟩ : ∃ (r x : Int), ((k : Int).tmod 2 = r) ∧ 0 ≤ 2 + r ∧ 2 + r < 4 ∧ wr.cell? ⟨w.heap.size, (2 + r).toNat, none⟩ = some (.int .u8 x) ∧ 0 ≤ x ∧ x ≤ 255 ∧ [60 + 3 * c, 60 + 3 * d, 60 + 3 * c].take (k + 1) = [60 + 3 * c, 60 + 3 * d, 60 + 3 * c].take k ++ [60 + 3 * x] := by
        have hk2 : k = 0 ∨ k = 1 ∨ k = 2 := by omega
        rcases hk2 with rfl | rfl | rfl
        · exact ⟨0, c, rfl, by omega, by omega, e2, c0, c1, rfl⟩
        · exact ⟨1, d, rfl, by omega, by omega, e3, d0, d1, rfl⟩
        · exact ⟨0, c, rfl, by omega, by omega, e2, c0, c1, rfl⟩
      have HT := Lib.hid htk
      clear htk
      refine wp_region_soft 11 (by kernel_rfl) (by kernel_rfl) ?_; simp only [List.take_succ_cons, List.take_zero, List.drop_succ_cons, List.drop_zero]
      (with_reducible apply wpSoft_eq; focus (intro v wk hb hf; clear hf; simp only [headPut]; go_simp; first | done | rfl))
      (with_reducible apply wpSoft_eq; focus (intro v wk hb hf; have q0 := hf 0 (by kernel_rfl); simp only [factAt, List.nil_append, List.cons_append, List.getElem?_cons_succ, List.getElem?_cons_zero, Option.getD_some] at q0; clear hf; have cc := (hb.cell (p := ⟨g, 1, none⟩) hgl).trans rg1; simp only [headPut]; go_simp; first | done | rfl))
      (with_reducible apply wpSoft_eq; focus (intro v wk hb hf; clear hf; simp only [headPut]; go_simp; first | done | rfl)); (with_reducible apply wpSoft_eq; focus (intro v wk hb hf; have q2 := hf 2 (by kernel_rfl); simp only [factAt, List.nil_append, List.cons_append, List.getElem?_cons_succ, List.getElem?_cons_zero, Option.getD_some] at q2; clear hf; simp only [headPut]; go_simp; first | done | rfl))
      (with_reducible apply wpSoft_eq; focus (intro v wk hb hf; have q3 := hf 3 (by kernel_rfl); simp only [factAt, List.nil_append, List.cons_append, List.getElem?_cons_succ, List.getElem?_cons_zero, Option.getD_some] at q3; clear hf; have w2 : IntKind.i64.wrap (2 + r) = 2 + r := IntWalk.i64_in _ (by omega); simp only [headPut]; go_simp; first | done | rfl)); (with_reducible apply wpSoft_eq; focus (intro v wk hb hf; have q4 := hf 4 (by kernel_rfl); simp only [factAt, List.nil_append, List.cons_append, List.getElem?_cons_succ, List.getElem?_cons_zero, Option.getD_some] at q4; clear hf; have w2 : IntKind.i64.wrap (2 + r) = 2 + r := IntWalk.i64_in _ (by omega); simp only [headPut]; go_simp; first | done | rfl))
      (with_reducible apply wpSoft_eq; focus (intro v wk hb hf; have q5 := hf 5 (by kernel_rfl); simp only [factAt, List.nil_append, List.cons_append, List.getElem?_cons_succ, List.getElem?_cons_zero, Option.getD_some] at q5; clear hf; have cc := (hb.cell (p := ⟨w.heap.size, (2 + r).toNat, none⟩) hwl).trans ex; simp only [headPut]; go_simp; first | done | rfl))
      (with_reducible apply wpSoft_eq; focus (intro v wk hb hf; have q6 := hf 6 (by kernel_rfl); simp only [factAt, List.nil_append, List.cons_append, List.getElem?_cons_succ, List.getElem?_cons_zero, Option.getD_some] at q6; clear hf; have wa : IntKind.i64.wrap x = x := IntWalk.i64_in _ (by omega); simp only [headPut]; go_simp; first | done | rfl))
      (with_reducible apply wpSoft_eq; focus (intro v wk hb hf; have q7 := hf 7 (by kernel_rfl); simp only [factAt, List.nil_append, List.cons_append, List.getElem?_cons_succ, List.getElem?_cons_zero, Option.getD_some] at q7; clear hf; have wa : IntKind.i64.wrap (3 * x) = 3 * x := IntWalk.i64_in _ (by omega); simp only [headPut]; go_simp; first | done | rfl))
      (with_reducible apply wpSoft_eq; focus (intro v wk hb hf; have q8 := hf 8 (by kernel_rfl); simp only [factAt, List.nil_append, List.cons_append, List.getElem?_cons_succ, List.getElem?_cons_zero, Option.getD_some] at q8; clear hf; have wa : IntKind.i64.wrap (60 + 3 * x) = 60 + 3 * x := IntWalk.i64_in _ (by omega); simp only [headPut]; go_simp; first | done | rfl))
      refine wpSoft_fact (SliceF wr.heap.size 1 #[.int .i64 (60 + 3 * x)] 3) lasting_slice (fun v wk hb hf => ?_) ?_
      · have q9 := hf 9 (by kernel_rfl); simp only [factAt, List.nil_append, List.cons_append, List.getElem?_cons_succ, List.getElem?_cons_zero, Option.getD_some] at q9; clear hf
        exact softOp_slice (by simp only [headPut]; go_simp) hb.size
      refine wpSoft_end fun v wk hb hf a' ha => ?_; have q0 := hf 0 (by simp); simp only [factAt, List.nil_append, List.cons_append, List.getElem?_cons_succ, List.getElem?_cons_zero, Option.getD_some] at q0; have q1 := hf 1 (by simp); simp only [factAt, List.nil_append, List.cons_append, List.getElem?_cons_succ, List.getElem?_cons_zero, Option.getD_some] at q1; have q2 := hf 2 (by simp); simp only [factAt, List.nil_append, List.cons_append, List.getElem?_cons_succ, List.getElem?_cons_zero, Option.getD_some] at q2; have q3 := hf 3 (by simp); simp only [factAt, List.nil_append, List.cons_append, List.getElem?_cons_succ, List.getElem?_cons_zero, Option.getD_some] at q3; have q4 := hf 4 (by simp); simp only [factAt, List.nil_append, List.cons_append, List.getElem?_cons_succ, List.getElem?_cons_zero, Option.getD_some] at q4; have q5 := hf 5 (by simp); simp only [factAt, List.nil_append, List.cons_append, List.getElem?_cons_succ, List.getElem?_cons_zero, Option.getD_some] at q5; have q6 := hf 6 (by simp); simp only [factAt, List.nil_append, List.cons_append, List.getElem?_cons_succ, List.getElem?_cons_zero, Option.getD_some] at q6; have q7 := hf 7 (by simp); simp only [factAt, List.nil_append, List.cons_append, List.getElem?_cons_succ, List.getElem?_cons_zero, Option.getD_some] at q7; have q8 := hf 8 (by simp); simp only [factAt, List.nil_append, List.cons_append, List.getElem?_cons_succ, List.getElem?_cons_zero, Option.getD_some] at q8; have q9 := hf 9 (by simp); simp only [factAt, List.nil_append, List.cons_append, List.getElem?_cons_succ, List.getElem?_cons_zero, Option.getD_some] at q9; have q10 := hf 10 (by simp); simp only [factAt, List.nil_append, List.cons_append, List.getElem?_cons_succ, List.getElem?_cons_zero, Option.getD_some] at q10; clear hf; simp only [headPut, Act.put, List.setIfInBounds_toArray, List.set_cons_succ, List.set_cons_zero] at ha
      obtain ⟨h, e10, hh, hhc⟩ := q10
      simp only [Nat.zero_add, Nat.reduceAdd, e10, q1] at ha
      subst ha
      clear q0 q1 q2 q3 q4 q5 q6 q7 q8 q9 e10
      have rS2 := own_below rS hb
      have k0 := (hb.cell (p := ⟨g, 0, none⟩) hgl).trans rg0
      have k1 := (hb.cell (p := ⟨g, 1, none⟩) hgl).trans rg1
      have k2 := (hb.cell (p := ⟨g, 2, none⟩) hgl).trans rg2
      have k3 := (hb.cell (p := ⟨g, 3, none⟩) hgl).trans rg3
      have kf := fun j => (hb.frozen (p := ⟨g, j, none⟩) hgl).trans (rgf j)
      go_wp2_with (at_builtin; refine wpList_append_own _ rfl _ _ 29 rfl V.heap.size 3 j0 _ 1 8 Try.underlying29 ji jz0 jz1 jz2 rfl (by decide) _ _ _ rfl rS2 ⟨h, 0, none⟩ 1 1 [.int .i64 (60 + 3 * x)] rfl rfl (World.news_of_block hhc) (by simp [Value.oneCell']) (by unfold maxLen; omega) (by omega) (by have := hb.size; have := rgr.size; omega) ?_; intro v' w3 hown' hgrow0 _; have hgrow : wk.grownBy w3 S.ownBlock := hgrow0; clear hgrow0; obtain ⟨A3, c3, rfl⟩ := own_slice hown'; have gns : some g ≠ S.ownBlock := (fun e => by have := (rS.lt g e.symm).1; omega); have m0 := hgrow.cell k0 gns; have m1 := hgrow.cell k1 gns; have m2 := hgrow.cell k2 gns; have m3 := hgrow.cell k3 gns; have mf := (fun j => (World.frozen?_of_block (a := ⟨g, j, none⟩) (hgrow.block g (by have := hb.size; omega) gns)).trans (kf j)); clear k0 k1 k2 k3 kf)
      refine ⟨⟨k + 1, .slice A3 (k + 1) c3, by go_num, by omega, grown_step rgr hb hgrow (fun j hj => (rS.lt j hj).1) 1 _, by go_simp, by go_simp, by go_simp, by go_simp, fun j => by go_simp, ?_⟩, by simp [intOf]; omega⟩
      rw [HT.out, List.flatMap_append]
      exact ownsRow_setCell_below hown' (by simp; omega) _
    · have f0 := rgr.cell p0 (by simp; omega)
      have f1 := rgr.cell p1 (by simp; omega)
      have f2 := rgr.cell p2 (by simp; omega)
      have f3 := rgr.cell p3 (by simp; omega)
      have ff := fun j => (World.frozen?_of_block (a := ⟨w.heap.size + 1, j, none⟩) (rgr.block (w.heap.size + 1) bV1 (by simp; omega))).trans (pf j)
      obtain rfl : k = (a / 32 % 3).toNat + 1 := by omega
      obtain ⟨A3, c3, rfl⟩ := own_slice rS
      go_wp2
      have oW := (oV.kept rgr (Classical.or_iff_not_imp_left.2 fun _ => gne))
      have HF : Below w.heap.size w wr := HV.grown rgr (by have := HV.size; omega) (fun k hk => by cases hk; exact gw)
      have gwW : w.heap.size + 1 < W.heap.size := hl1
      have hlen : (framesF a c d).length = (a / 32 % 3).toNat + 1 := by unfold framesF; rw [List.length_take]; simp; omega
      have so2 := fun {p : Addr} (u : Value) (hp : p.block < W.heap.size) => (ownsRow_setCell_below · (a := p) hp u : ∀ {wz : World} {e n k xs vv}, wz.ownsRow W.heap.size e k vv n xs → (wz.setCell p u).ownsRow W.heap.size e k vv n xs)
      have rW := rS.mono hVW
      refine bodyPost_ret (v := .agg #[.slice A' cs.length c', .slice A3 ((a / 32 % 3).toNat + 1) c3, .int .i64 (a % 20), .int .i64 (b % 120)]) ?_ rfl ⟨⟨_, _, rfl, ?_, ?_⟩, ?_⟩
      · simp [results, Try.results9, go_sem, f0, f1, f2, f3, ff]
      · with_reducible exact (so2 _ hl1 (so2 _ hl1 (so2 _ hl1 (so2 _ hl1 oW)))).mono HB.size
      · rw [hlen]
        unfold framesF
        with_reducible exact (so2 _ hl1 (so2 _ hl1 (so2 _ hl1 (so2 _ hl1 rW)))).mono HB.size
      · exact (by repeat (first | with_reducible exact Below.refl _ _ | with_reducible assumption | with_reducible refine Below.al ?_ _ | with_reducible refine Below.drew ?_ | with_reducible refine Below.st ?_ (by first | (simp; done) | assumption | (simp; omega)) _ | with_reducible refine Below.call ?_ (by with_reducible assumption) | exact Below.refl _ _ | assumption | refine Below.al ?_ _ | refine Below.drew ?_ | refine Below.call ?_ (by assumption) | refine Below.st ?_ (by first | (simp; done) | assumption | (simp; omega)) _))
end Go.Proofs.Ytacellaeepngkaa
