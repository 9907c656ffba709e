/- tenter.open and Hangs at the one field that elmField asks about; elmField. -/
import Derived.Test.YtacellaeepngkaaH5
namespace Go.Proofs.Ytacellaeepngkaa
set_option linter.unusedVariables false
set_option linter.unusedSimpArgs false
open Go.RowKit Go.Shelf

set_option maxHeartbeats 1000000 in
theorem tenter_pulled (A A2 : Option Addr) (n n2 cap cap2 : Nat) (w : World) :
    Calls Try.prog 122 #[.agg #[.slice A n cap, .slice A2 n2 cap2, .int .i64 0, .int .i64 50], .int .i64 200] w fun e w' => e = .returned (.int .i64 210) ∧ Below w.heap.size w w' := by
  go_enter Try.func122, Try.ntmps122
  go_wp2
  go_ret
  exact ⟨rfl, (by repeat (first | with_reducible exact Below.refl _ _ | with_reducible assumption | with_reducible refine Below.al ?_ _ | with_reducible refine Below.drew ?_ | with_reducible refine Below.st ?_ (by first | (simp; done) | assumption | (simp; omega)) _ | with_reducible refine Below.call ?_ (by with_reducible assumption) | exact Below.refl _ _ | assumption | refine Below.al ?_ _ | refine Below.drew ?_ | refine Below.call ?_ (by assumption) | refine Below.st ?_ (by first | (simp; done) | assumption | (simp; omega)) _))⟩

def fCs : List TwC := [⟨200, 204, 0, 0⟩]
theorem fCs_ok : FieldOk fCs [520] 0 50 := by
  refine ⟨by decide, by decide, ?_, ?_, by decide, by decide⟩
  · intro c hc
    simp only [fCs, List.mem_cons, List.not_mem_nil, or_false] at hc
    subst hc
    unfold TwC.ok; decide
  · intro x hx
    simp only [List.mem_cons, List.not_mem_nil, or_false] at hx
    subst hx; decide

set_option maxRecDepth 100000 in
set_option maxHeartbeats 2000000 in
theorem tenter_open1 (A A2 : Option Addr) (cap cap2 : Nat) (w : World) (hz : Sl w A 4 encTw fCs) (hr : Sl w A2 1 encI [520]) :
    Calls Try.prog 81 #[.agg #[.slice A 1 cap, .slice A2 1 cap2, .int .i64 0, .int .i64 50]] w fun e w' =>
      (∃ S, e = .returned (.tuple #[.agg #[.slice A 1 cap, .slice A2 1 cap2, .int .i64 0, .int .i64 50, S], .int .i64 0]) ∧ w'.ownsRow w.heap.size 36 2 S 1 [.int .i64 204, .int .i64 210]) ∧ Below w.heap.size w w' := by
  obtain ⟨i0, hi, hz0, hz1, hz2⟩ := info_parts info_span
  obtain ⟨b, off, rfl, hbl, hc⟩ := hz (by decide)
  have r0 : w.cell? ⟨b, off, none⟩ = some (.int .i64 200) := by have := (hc 0 _ rfl).cell 0 rfl; simpa using this
  have r1 : w.cell? ⟨b, off + 1, none⟩ = some (.int .i64 204) := by have := (hc 0 _ rfl).cell 1 rfl; simpa using this
  have r2 : w.cell? ⟨b, off + 2, none⟩ = some (.int .i64 0) := by have := (hc 0 _ rfl).cell 2 rfl; simpa using this
  have r3 : w.cell? ⟨b, off + 3, none⟩ = some (.int .i64 0) := by have := (hc 0 _ rfl).cell 3 rfl; simpa using this
  go_enter Try.func81, Try.ntmps81
  go_wp2_with fail
  refine (tenter_Check fCs [520] 0 50 fCs_ok (some ⟨b, off, none⟩) A2 cap cap2 _ (hz.below (by repeat (first | with_reducible exact Below.refl _ _ | with_reducible assumption | with_reducible refine Below.al ?_ _ | with_reducible refine Below.drew ?_ | with_reducible refine Below.st ?_ (by first | (simp; done) | assumption | (simp; omega)) _ | with_reducible refine Below.call ?_ (by with_reducible assumption) | exact Below.refl _ _ | assumption | refine Below.al ?_ _ | refine Below.drew ?_ | refine Below.call ?_ (by assumption) | refine Below.st ?_ (by first | (simp; done) | assumption | (simp; omega)) _))) (hr.below (by repeat (first | with_reducible exact Below.refl _ _ | with_reducible assumption | with_reducible refine Below.al ?_ _ | with_reducible refine Below.drew ?_ | with_reducible refine Below.st ?_ (by first | (simp; done) | assumption | (simp; omega)) _ | with_reducible refine Below.call ?_ (by with_reducible assumption) | exact Below.refl _ _ | assumption | refine Below.al ?_ _ | refine Below.drew ?_ | refine Below.call ?_ (by assumption) | refine Below.st ?_ (by first | (simp; done) | assumption | (simp; omega)) _)))).mono ?_
  rintro e w1 ⟨rfl, hb1⟩
  have c1_0 := fun o => hb1.cell (p := ⟨w.heap.size, o, none⟩) (by first | omega | (simp; done) | (simp; omega)); have f1_0 := fun o => hb1.frozen (p := ⟨w.heap.size, o, none⟩) (by first | omega | (simp; done) | (simp; omega)); have z1_0 : w.heap.size < w1.heap.size := (by have h := hb1.size; first | omega | (simp at h; omega)); have c1_1 := fun o => hb1.cell (p := ⟨(w.heap.size+1), o, none⟩) (by first | omega | (simp; done) | (simp; omega)); have f1_1 := fun o => hb1.frozen (p := ⟨(w.heap.size+1), o, none⟩) (by first | omega | (simp; done) | (simp; omega)); have z1_1 : (w.heap.size+1) < w1.heap.size := (by have h := hb1.size; first | omega | (simp at h; omega))
  have k0 : w1.cell? ⟨w.heap.size + 1, 0, none⟩ = some (.slice none 0 0) := by go_simp
  have k1 : w1.cell? ⟨w.heap.size + 1, 1, none⟩ = some (.slice none 0 0) := by go_simp
  have k2 : w1.cell? ⟨w.heap.size + 1, 2, none⟩ = some (.int .i64 0) := by go_simp
  have k3 : w1.cell? ⟨w.heap.size + 1, 3, none⟩ = some (.int .i64 0) := by go_simp
  have k4 : w1.cell? ⟨w.heap.size + 1, 4, none⟩ = some (.slice none 0 0) := by go_simp
  go_wp2
  refine name_world (fun W hW => ?_)
  have HW : Below w.heap.size w W := by rw [hW]; exact (by repeat (first | with_reducible exact Below.refl _ _ | with_reducible assumption | with_reducible refine Below.al ?_ _ | with_reducible refine Below.drew ?_ | with_reducible refine Below.st ?_ (by first | (simp; done) | assumption | (simp; omega)) _ | with_reducible refine Below.call ?_ (by with_reducible assumption) | exact Below.refl _ _ | assumption | refine Below.al ?_ _ | refine Below.drew ?_ | refine Below.call ?_ (by assumption) | refine Below.st ?_ (by first | (simp; done) | assumption | (simp; omega)) _))
  have v0 : W.cell? ⟨w.heap.size + 1, 0, none⟩ = some (.slice (some ⟨b, off, none⟩) 1 cap) := by rw [hW]; go_simp
  have v1 : W.cell? ⟨w.heap.size + 1, 1, none⟩ = some (.slice A2 1 cap2) := by rw [hW]; go_simp
  have v2 : W.cell? ⟨w.heap.size + 1, 2, none⟩ = some (.int .i64 0) := by rw [hW]; go_simp
  have v3 : W.cell? ⟨w.heap.size + 1, 3, none⟩ = some (.int .i64 50) := by rw [hW]; go_simp
  have v4 : W.cell? ⟨w.heap.size + 1, 4, none⟩ = some (.slice none 0 0) := by rw [hW]; go_simp
  have vf : ∀ j, W.frozen? ⟨w.heap.size + 1, j, none⟩ = false := by intro j; rw [hW]; go_simp
  have u0 : W.cell? ⟨w.heap.size, 0, none⟩ = some (.slice (some ⟨b, off, none⟩) 1 cap) := by rw [hW]; go_simp
  have u1 : W.cell? ⟨w.heap.size, 1, none⟩ = some (.slice A2 1 cap2) := by rw [hW]; go_simp
  have u2 : W.cell? ⟨w.heap.size, 2, none⟩ = some (.int .i64 0) := by rw [hW]; go_simp
  have u3 : W.cell? ⟨w.heap.size, 3, none⟩ = some (.int .i64 50) := by rw [hW]; go_simp
  have gz : w.heap.size + 1 < W.heap.size := by rw [hW]; simp; omega
  clear hW k0 k1 k2 k3 k4 c1_0 c1_1 f1_0 f1_1
  have s0 := HW.rdcell hbl r0
  have s1 := HW.rdcell hbl r1
  have s2 := HW.rdcell hbl r2
  have s3 := HW.rdcell hbl r3
  go_loopw [19] (fun i wr => ∃ (k : Nat) (S : Value), i = .int .i64 k ∧ k ≤ 1 ∧ W.grownBy wr (some (w.heap.size + 1)) ∧ wr.cell? ⟨w.heap.size + 1, 0, none⟩ = some (.slice (some ⟨b, off, none⟩) 1 cap) ∧ wr.cell? ⟨w.heap.size + 1, 1, none⟩ = some (.slice A2 1 cap2) ∧ wr.cell? ⟨w.heap.size + 1, 2, none⟩ = some (.int .i64 0) ∧ wr.cell? ⟨w.heap.size + 1, 3, none⟩ = some (.int .i64 50) ∧ wr.cell? ⟨w.heap.size + 1, 4, none⟩ = some S ∧
      (∀ j, wr.frozen? ⟨w.heap.size + 1, j, none⟩ = false) ∧ wr.ownsRow W.heap.size 36 2 S k (([.int .i64 204, .int .i64 210] : List Value).take (2 * k))) (fun i _ => 1 - (intOf i).toNat)
  case atStart => exact ⟨0, .slice none 0 0, rfl, by omega, grown_refl _ _, v0, v1, v2, v3, v4, vf, World.ownsRow_nil _ _ _ _⟩
  case round =>
    obtain ⟨k, S, rfl, hk, rgr, g0, g1, g2, g3, g4, gf, rS⟩ := hrel
    have hgz : w.heap.size + 1 < wr.heap.size := by have := rgr.size; omega
    have hgb : b < wr.heap.size := by have := rgr.size; have := HW.size; omega
    have hnb : some b ≠ some (w.heap.size + 1) := by simp; omega
    have e0 := rgr.cell s0 hnb
    have e1 := rgr.cell s1 hnb
    have e2 := rgr.cell s2 hnb
    have e3 := rgr.cell s3 hnb
    have p0 := rgr.cell u0 (by simp)
    have p1 := rgr.cell u1 (by simp)
    have p2 := rgr.cell u2 (by simp)
    have p3 := rgr.cell u3 (by simp)
    have hk2 : k = 0 ∨ k = 1 := by omega
    rcases hk2 with rfl | rfl
    · go_wp2
      refine name_world (fun V hV => ?_)
      have HV : Below wr.heap.size wr V := by rw [hV]; exact (by repeat (first | with_reducible exact Below.refl _ _ | with_reducible assumption | with_reducible refine Below.al ?_ _ | with_reducible refine Below.drew ?_ | with_reducible refine Below.st ?_ (by first | (simp; done) | assumption | (simp; omega)) _ | with_reducible refine Below.call ?_ (by with_reducible assumption) | exact Below.refl _ _ | assumption | refine Below.al ?_ _ | refine Below.drew ?_ | refine Below.call ?_ (by assumption) | refine Below.st ?_ (by first | (simp; done) | assumption | (simp; omega)) _))
      have l0 : wr.heap.size < V.heap.size := by rw [hV]; simp
      have a0 : V.cell? ⟨wr.heap.size, 0, none⟩ = some (.int .i64 200) := by rw [hV]; go_simp
      have a1 : V.cell? ⟨wr.heap.size, 1, none⟩ = some (.int .i64 204) := by rw [hV]; go_simp
      have hl1 : w.heap.size < V.heap.size := by omega
      have b0 := HV.rdcell (by omega) p0
      have b1 := HV.rdcell (by omega) p1
      have b2 := HV.rdcell (by omega) p2
      have b3 := HV.rdcell (by omega) p3
      clear hV
      refine wp_region_soft 10 (by kernel_rfl) (by kernel_rfl) ?_; simp only [List.take_succ_cons, List.take_zero, List.drop_succ_cons, List.drop_zero]
      (with_reducible apply wpSoft_eq; focus (intro v wk hb hf; clear hf; simp only [headPut]; go_simp; first | done | rfl)); (with_reducible apply wpSoft_eq; focus (intro v wk hb hf; have q0 := hf 0 (by kernel_rfl); simp only [factAt, List.nil_append, List.cons_append, List.getElem?_cons_succ, List.getElem?_cons_zero, Option.getD_some] at q0; clear hf; simp only [headPut]; go_simp; first | done | rfl))
      (with_reducible apply wpSoft_eq; focus (intro v wk hb hf; have q1 := hf 1 (by kernel_rfl); simp only [factAt, List.nil_append, List.cons_append, List.getElem?_cons_succ, List.getElem?_cons_zero, Option.getD_some] at q1; clear hf; have cc := fun o => hb.cell (p := ⟨wr.heap.size, o, none⟩) l0; simp only [headPut]; go_simp; first | done | rfl))
      (with_reducible apply wpSoft_eq; focus (intro v wk hb hf; clear hf; have cc := fun o => hb.cell (p := ⟨w.heap.size, o, none⟩) hl1; simp only [headPut]; go_simp; first | done | rfl))
      (with_reducible apply wpSoft_eq; focus (intro v wk hb hf; clear hf; simp only [headPut]; go_simp; first | done | rfl)); (with_reducible apply wpSoft_eq; focus (intro v wk hb hf; have q4 := hf 4 (by kernel_rfl); simp only [factAt, List.nil_append, List.cons_append, List.getElem?_cons_succ, List.getElem?_cons_zero, Option.getD_some] at q4; clear hf; simp only [headPut]; go_simp; first | done | rfl))
      (with_reducible apply wpSoft_eq; focus (intro v wk hb hf; have q5 := hf 5 (by kernel_rfl); simp only [factAt, List.nil_append, List.cons_append, List.getElem?_cons_succ, List.getElem?_cons_zero, Option.getD_some] at q5; clear hf; have cc := fun o => hb.cell (p := ⟨wr.heap.size, o, none⟩) l0; simp only [headPut]; go_simp; first | done | rfl))
      refine wpSoft_call (c := .int .i64 210) (fun v wk hb hf => ?_) ?_
      · have q3 := hf 3 (by kernel_rfl); simp only [factAt, List.nil_append, List.cons_append, List.getElem?_cons_succ, List.getElem?_cons_zero, Option.getD_some] at q3; have q6 := hf 6 (by kernel_rfl); simp only [factAt, List.nil_append, List.cons_append, List.getElem?_cons_succ, List.getElem?_cons_zero, Option.getD_some] at q6; clear hf
        refine ⟨_, _, ?_, tenter_pulled (some ⟨b, off, none⟩) A2 1 1 cap cap2 wk⟩
        simp only [headPut]
        go_simp
      (with_reducible apply wpSoft_eq; focus (intro v wk hb hf; have q2 := hf 2 (by kernel_rfl); simp only [factAt, List.nil_append, List.cons_append, List.getElem?_cons_succ, List.getElem?_cons_zero, Option.getD_some] at q2; have q7 := hf 7 (by kernel_rfl); simp only [factAt, List.nil_append, List.cons_append, List.getElem?_cons_succ, List.getElem?_cons_zero, Option.getD_some] at q7; clear hf; simp only [headPut]; go_simp; first | done | rfl))
      refine wpSoft_fact (CellsF V.heap.size #[.int .i64 0, .int .i64 0] 36) lasting_cells (fun v wk hb hf => softOp_alloc (by clear hf; simp only [headPut]; go_simp) hb.size) ?_
      refine wpSoft_end fun v wk hb hf a' ha => ?_; have q0 := hf 0 (by simp); simp only [factAt, List.nil_append, List.cons_append, List.getElem?_cons_succ, List.getElem?_cons_zero, Option.getD_some] at q0; have q1 := hf 1 (by simp); simp only [factAt, List.nil_append, List.cons_append, List.getElem?_cons_succ, List.getElem?_cons_zero, Option.getD_some] at q1; have q2 := hf 2 (by simp); simp only [factAt, List.nil_append, List.cons_append, List.getElem?_cons_succ, List.getElem?_cons_zero, Option.getD_some] at q2; have q3 := hf 3 (by simp); simp only [factAt, List.nil_append, List.cons_append, List.getElem?_cons_succ, List.getElem?_cons_zero, Option.getD_some] at q3; have q4 := hf 4 (by simp); simp only [factAt, List.nil_append, List.cons_append, List.getElem?_cons_succ, List.getElem?_cons_zero, Option.getD_some] at q4; have q5 := hf 5 (by simp); simp only [factAt, List.nil_append, List.cons_append, List.getElem?_cons_succ, List.getElem?_cons_zero, Option.getD_some] at q5; have q6 := hf 6 (by simp); simp only [factAt, List.nil_append, List.cons_append, List.getElem?_cons_succ, List.getElem?_cons_zero, Option.getD_some] at q6; have q7 := hf 7 (by simp); simp only [factAt, List.nil_append, List.cons_append, List.getElem?_cons_succ, List.getElem?_cons_zero, Option.getD_some] at q7; have q8 := hf 8 (by simp); simp only [factAt, List.nil_append, List.cons_append, List.getElem?_cons_succ, List.getElem?_cons_zero, Option.getD_some] at q8; have q9 := hf 9 (by simp); simp only [factAt, List.nil_append, List.cons_append, List.getElem?_cons_succ, List.getElem?_cons_zero, Option.getD_some] at q9; clear hf; simp only [headPut, Act.put, List.setIfInBounds_toArray, List.set_cons_succ, List.set_cons_zero] at ha
      obtain ⟨h, e9, hh, hhc⟩ := q9
      simp only [Nat.zero_add, Nat.reduceAdd, e9, q8] at ha
      subst ha
      clear q0 q1 q2 q3 q4 q5 q6 q7 q8 e9
      have HX : Below wr.heap.size wr wk := HV.call hb
      have rS2 := own_below rS HX
      have k0 := HX.rdcell hgz g0
      have k1 := HX.rdcell hgz g1
      have k2 := HX.rdcell hgz g2
      have k3 := HX.rdcell hgz g3
      have k4 := HX.rdcell hgz g4
      have kf := fun j => (HX.frozen (p := ⟨w.heap.size + 1, j, none⟩) hgz).trans (gf j)
      have m0 : wk.cell? ⟨h, 0, none⟩ = some (.int .i64 0) := cell_blk hhc rfl
      have m1 : wk.cell? ⟨h, 1, none⟩ = some (.int .i64 0) := cell_blk hhc rfl
      have mf := fun k => frozen_blk (k := k) hhc
      have hne : w.heap.size + 1 ≠ h := by have := HV.size; omega
      have hlh := lt_blk hhc
      have hwW : W.heap.size ≤ wk.heap.size := by have := HX.size; have := rgr.size; omega
      have hWh : W.heap.size ≤ h := by have := HV.size; have := rgr.size; omega
      have hnS : S.ownBlock ≠ some h := fun e => by have := (rS.lt h e).2; have := HV.size; omega
      have hnS2 : some (w.heap.size + 1) ≠ S.ownBlock := fun e => by have := (rS.lt _ e.symm).1; omega
      clear hhc
      have so := fun {p : Addr} (u : Value) (hp : S.ownBlock ≠ some p.block) => (ownsRow_setCell_other · (a := p) hp u : ∀ {wz : World} {e n k xs}, wz.ownsRow W.heap.size e k S n xs → (wz.setCell p u).ownsRow W.heap.size e k S n xs)
      have hwk : w.heap.size + 1 < wk.heap.size := by omega
      obtain ⟨X, hX⟩ : ∃ X, X = (((wk.setCell ⟨h, 0, none⟩ (.int .i64 204)).setCell ⟨h, 1, none⟩ (.int .i64 210)).alloc (.cells #[.int .i64 204, .int .i64 210] 36)) := ⟨_, rfl⟩
      have t0 : X.cell? ⟨w.heap.size + 1, 0, none⟩ = some (.slice (some ⟨b, off, none⟩) 1 cap) := by rw [hX]; go_simp
      have t1 : X.cell? ⟨w.heap.size + 1, 1, none⟩ = some (.slice A2 1 cap2) := by rw [hX]; go_simp
      have t2 : X.cell? ⟨w.heap.size + 1, 2, none⟩ = some (.int .i64 0) := by rw [hX]; go_simp
      have t3 : X.cell? ⟨w.heap.size + 1, 3, none⟩ = some (.int .i64 50) := by rw [hX]; go_simp
      have t4 : X.cell? ⟨w.heap.size + 1, 4, none⟩ = some S := by rw [hX]; go_simp
      have tf : ∀ j, X.frozen? ⟨w.heap.size + 1, j, none⟩ = false := by intro j; rw [hX]; go_simp
      have tn : X.heap[wk.heap.size]? = some (.cells #[.int .i64 204, .int .i64 210] 36 (0, 0)) := by
        have := World.alloc_heap_new ((wk.setCell ⟨h, 0, none⟩ (.int .i64 204)).setCell ⟨h, 1, none⟩ (.int .i64 210)) (.cells #[.int .i64 204, .int .i64 210] 36)
        rw [hX]; simpa using this
      have tO : X.ownsRow W.heap.size 36 2 S 0 (([.int .i64 204, .int .i64 210] : List Value).take (2 * 0)) := by rw [hX]; exact (so _ hnS (so _ hnS rS2)).alloc _
      have tz : W.heap.size ≤ X.heap.size := by rw [hX]; simp; omega
      have tl : w.heap.size + 1 < X.heap.size := by omega
      have HXX : Below wr.heap.size wr X := by rw [hX]; exact ((HX.st (p := ⟨h, 0, none⟩) (by simp; omega) _).st (p := ⟨h, 1, none⟩) (by simp; omega) _).al _
      have hX2 := hX.symm
      clear hX
      have HX3 := Lib.hid hX2
      go_wp2_with (at_builtin; (try rw [hX2]); refine wpList_append_own _ rfl _ _ 27 rfl W.heap.size 36 i0 _ 2 16 Try.underlying27 hi hz0 hz1 hz2 rfl (by decide) S 0 _ rfl tO ⟨wk.heap.size, 0, none⟩ 1 1 [.int .i64 204, .int .i64 210] rfl rfl (World.news_of_block (cs := #[.int .i64 204, .int .i64 210]) (t := 36) (fr := (0, 0)) tn) (by simp [Value.oneCell']) (by unfold maxLen; omega) (by omega) tz ?_; intro v' w3 hown' hgrow0 _; have hgrow : World.grownBy X w3 S.ownBlock := hgrow0; clear hgrow0; obtain ⟨A3, c3, rfl⟩ := own_slice hown'; have j0 := hgrow.cell t0 hnS2; have j1 := hgrow.cell t1 hnS2; have j2 := hgrow.cell t2 hnS2; have j3 := hgrow.cell t3 hnS2; have j4 := hgrow.cell t4 hnS2; have jf := (fun j => (World.frozen?_of_block (a := ⟨w.heap.size + 1, j, none⟩) (hgrow.block (w.heap.size + 1) tl hnS2)).trans (tf j)); clear k0 k1 k2 k3 k4 kf)
      refine ⟨⟨1, .slice A3 1 c3, rfl, by omega, grown_step rgr HXX hgrow (fun j hj => (rS.lt j hj).1) 4 _, by go_simp, by go_simp, by go_simp, by go_simp, by go_simp, fun j => by go_simp, ?_⟩, by simp [intOf]⟩
      exact ownsRow_setCell_below hown' (by simp; omega) _
    · obtain ⟨A3, c3, rfl⟩ := own_slice rS
      have HF : Below w.heap.size w wr := HW.grown rgr (by have := HW.size; omega) (fun k hk => by cases hk; omega)
      clear e0 e1 e2 e3 p0 p1 p2 p3
      go_wp2
      have rS' : wr.ownsRow W.heap.size 36 2 (.slice A3 1 c3) 1 [.int .i64 204, .int .i64 210] := rS
      have so2 := fun {p : Addr} (u : Value) (hp : p.block < W.heap.size) => (ownsRow_setCell_below · (a := p) hp u : ∀ {wz : World} {e n k xs vv}, wz.ownsRow W.heap.size e k vv n xs → (wz.setCell p u).ownsRow W.heap.size e k vv n xs)
      refine bodyPost_ret (v := .tuple #[.agg #[.slice (some ⟨b, off, none⟩) 1 cap, .slice A2 1 cap2, .int .i64 0, .int .i64 50, .slice A3 1 c3], .int .i64 0]) ?_ rfl ⟨⟨_, rfl, ?_⟩, ?_⟩
      · simp [results, Try.results81, go_sem, g0, g1, g2, g3, g4, gf]
      · with_reducible exact (so2 _ gz (so2 _ gz (so2 _ gz (so2 _ gz (so2 _ gz rS'))))).mono HW.size
      · exact (by repeat (first | with_reducible exact Below.refl _ _ | with_reducible assumption | with_reducible refine Below.al ?_ _ | with_reducible refine Below.drew ?_ | with_reducible refine Below.st ?_ (by first | (simp; done) | assumption | (simp; omega)) _ | with_reducible refine Below.call ?_ (by with_reducible assumption) | exact Below.refl _ _ | assumption | refine Below.al ?_ _ | refine Below.drew ?_ | refine Below.call ?_ (by assumption) | refine Below.st ?_ (by first | (simp; done) | assumption | (simp; omega)) _))

set_option maxHeartbeats 1000000 in
theorem tenter_Hangs1 (A A2 : Option Addr) (cap cap2 : Nat) (w : World) (hz : Sl w A 4 encTw fCs) (hr : Sl w A2 1 encI [520]) :
    Calls Try.prog 46 #[.agg #[.slice A 1 cap, .slice A2 1 cap2, .int .i64 0, .int .i64 50]] w fun e w' =>
      (∃ S, e = .returned (.tuple #[S, .int .i64 0]) ∧ w'.ownsRow w.heap.size 36 2 S 1 [.int .i64 204, .int .i64 210]) ∧ Below w.heap.size w w' := by
  go_enter Try.func46, Try.ntmps46
  go_wp2_with fail
  refine (tenter_open1 A A2 cap cap2 _ (hz.below (by repeat (first | with_reducible exact Below.refl _ _ | with_reducible assumption | with_reducible refine Below.al ?_ _ | with_reducible refine Below.drew ?_ | with_reducible refine Below.st ?_ (by first | (simp; done) | assumption | (simp; omega)) _ | with_reducible refine Below.call ?_ (by with_reducible assumption) | exact Below.refl _ _ | assumption | refine Below.al ?_ _ | refine Below.drew ?_ | refine Below.call ?_ (by assumption) | refine Below.st ?_ (by first | (simp; done) | assumption | (simp; omega)) _))) (hr.below (by repeat (first | with_reducible exact Below.refl _ _ | with_reducible assumption | with_reducible refine Below.al ?_ _ | with_reducible refine Below.drew ?_ | with_reducible refine Below.st ?_ (by first | (simp; done) | assumption | (simp; omega)) _ | with_reducible refine Below.call ?_ (by with_reducible assumption) | exact Below.refl _ _ | assumption | refine Below.al ?_ _ | refine Below.drew ?_ | refine Below.call ?_ (by assumption) | refine Below.st ?_ (by first | (simp; done) | assumption | (simp; omega)) _)))).mono ?_
  rintro e w1 ⟨⟨S, rfl, hS⟩, hb1⟩
  obtain ⟨A3, c3, rfl⟩ := own_slice hS
  go_wp2
  exact bodyPost_ret (v := .tuple #[.slice A3 1 c3, .int .i64 0]) (by simp [results, Try.results46, go_sem]) rfl ⟨⟨_, rfl, (hS.alloc _).mono (by simp)⟩, (by repeat (first | with_reducible exact Below.refl _ _ | with_reducible assumption | with_reducible refine Below.al ?_ _ | with_reducible refine Below.drew ?_ | with_reducible refine Below.st ?_ (by first | (simp; done) | assumption | (simp; omega)) _ | with_reducible refine Below.call ?_ (by with_reducible assumption) | exact Below.refl _ _ | assumption | refine Below.al ?_ _ | refine Below.drew ?_ | refine Below.call ?_ (by assumption) | refine Below.st ?_ (by first | (simp; done) | assumption | (simp; omega)) _))⟩

set_option maxRecDepth 100000 in
set_option maxHeartbeats 2000000 in
theorem elm_Field (w : World) : Calls Try.prog 17 #[] w fun e w' => e = .returned (.bool true) ∧ Below w.heap.size w w' := by
  go_enter Try.func17, Try.ntmps17
  go_wp2_with fail
  refine (elm_Span _ _ _).mono ?_
  rintro e w1 ⟨rfl, hb1⟩
  go_wp2_with fail
  have hx1 : (((w1.alloc (.cells #[.int .i64 200, .int .i64 204, .int .i64 0, .int .i64 0] 41)).alloc (.cells #[.int .i64 520] 3))).heap[w1.heap.size]? = some (.cells #[.int .i64 200, .int .i64 204, .int .i64 0, .int .i64 0] 41 (0, 0)) :=
    (heap_alloc_old _ _ (by simp)).trans (World.alloc_heap_new _ _)
  have hx2 : (((w1.alloc (.cells #[.int .i64 200, .int .i64 204, .int .i64 0, .int .i64 0] 41)).alloc (.cells #[.int .i64 520] 3))).heap[w1.heap.size + 1]? = some (.cells #[.int .i64 520] 3 (0, 0)) := by
    have := World.alloc_heap_new (w1.alloc (.cells #[.int .i64 200, .int .i64 204, .int .i64 0, .int .i64 0] 41)) (.cells #[.int .i64 520] 3)
    simpa using this
  refine (tenter_Hangs1 _ _ _ _ _ (fun _ => ⟨w1.heap.size, 0, rfl, lt_blk hx1, fun i x hx j v hv => cell_blk hx1 ?_⟩) (sl_ints _ _ [520] hx2)).mono ?_
  · match i, hx with
    | 0, hx => cases hx; match j, hv with | 0, hv => cases hv; rfl | 1, hv => cases hv; rfl | 2, hv => cases hv; rfl | 3, hv => cases hv; rfl
  rintro e w2 ⟨⟨S, rfl, hS⟩, hb2⟩
  obtain ⟨A3, c3, rfl⟩ := own_slice hS
  clear hx1 hx2
  have HW2 : Below w.heap.size w w2 := (by repeat (first | with_reducible exact Below.refl _ _ | with_reducible assumption | with_reducible refine Below.al ?_ _ | with_reducible refine Below.drew ?_ | with_reducible refine Below.st ?_ (by first | (simp; done) | assumption | (simp; omega)) _ | with_reducible refine Below.call ?_ (by with_reducible assumption) | exact Below.refl _ _ | assumption | refine Below.al ?_ _ | refine Below.drew ?_ | refine Below.call ?_ (by assumption) | refine Below.st ?_ (by first | (simp; done) | assumption | (simp; omega)) _))
  rcases hS.2 with ⟨_, h0⟩ | ⟨g, cap, cur, e, hg, hcur, hn, hcap, hcs, htk⟩
  · cases h0
  cases e
  have hlt := lt_blk hcur
  have s0 := hS.cells (g := g) rfl 0 _ rfl
  have s1 := hS.cells (g := g) rfl 1 _ rfl
  simp only [Addr.add] at s0 s1
  clear hcur htk hcs hS
  go_wp2
  have L0 := Later.cell hlt s0
  have L1 := Later.cell hlt s1
  have n1 := fun p : Later w2 => p.call (elm_Span 204 210 p.w)
  (refine wp_region_q (by kernel_rfl) (by kernel_rfl) ?_; (first | go_big_quiet_skip | (go_big_quiet_want; go_big_quiet_op; first | go_big_quiet_on | (apply Exists.intro; refine ⟨fun p => ?_, ?_⟩; (with_reducible exact n1 p); go_big_quiet_on))); (first | go_big_quiet_skip | (go_big_quiet_want; go_big_quiet_op; first | go_big_quiet_on | (apply Exists.intro; refine ⟨fun p => ?_, ?_⟩; (with_reducible exact n1 p); go_big_quiet_on))); (first | go_big_quiet_skip | (go_big_quiet_want; go_big_quiet_op; first | go_big_quiet_on | (apply Exists.intro; refine ⟨fun p => ?_, ?_⟩; (with_reducible exact n1 p); go_big_quiet_on))); (first | go_big_quiet_skip | (go_big_quiet_want; go_big_quiet_op; first | go_big_quiet_on | (apply Exists.intro; refine ⟨fun p => ?_, ?_⟩; (with_reducible exact n1 p); go_big_quiet_on))); (first | go_big_quiet_skip | (go_big_quiet_want; go_big_quiet_op; first | go_big_quiet_on | (apply Exists.intro; refine ⟨fun p => ?_, ?_⟩; (with_reducible exact n1 p); go_big_quiet_on))); (first | go_big_quiet_skip | (go_big_quiet_want; go_big_quiet_op; first | go_big_quiet_on | (apply Exists.intro; refine ⟨fun p => ?_, ?_⟩; (with_reducible exact n1 p); go_big_quiet_on))); (first | go_big_quiet_skip | (go_big_quiet_want; go_big_quiet_op; first | go_big_quiet_on | (apply Exists.intro; refine ⟨fun p => ?_, ?_⟩; (with_reducible exact n1 p); go_big_quiet_on))); (first | go_big_quiet_skip | (go_big_quiet_want; go_big_quiet_op; first | go_big_quiet_on | (apply Exists.intro; refine ⟨fun p => ?_, ?_⟩; (with_reducible exact n1 p); go_big_quiet_on))); (first | go_big_quiet_skip | (go_big_quiet_want; go_big_quiet_op; first | go_big_quiet_on | (apply Exists.intro; refine ⟨fun p => ?_, ?_⟩; (with_reducible exact n1 p); go_big_quiet_on))); (first | go_big_quiet_skip | (go_big_quiet_want; go_big_quiet_op; first | go_big_quiet_on | (apply Exists.intro; refine ⟨fun p => ?_, ?_⟩; (with_reducible exact n1 p); go_big_quiet_on))); (first | go_big_quiet_skip | (go_big_quiet_want; go_big_quiet_op; first | go_big_quiet_on | (apply Exists.intro; refine ⟨fun p => ?_, ?_⟩; (with_reducible exact n1 p); go_big_quiet_on))); (first | go_big_quiet_skip | (go_big_quiet_want; go_big_quiet_op; first | go_big_quiet_on | (apply Exists.intro; refine ⟨fun p => ?_, ?_⟩; (with_reducible exact n1 p); go_big_quiet_on))); (first | go_big_quiet_skip | (go_big_quiet_want; go_big_quiet_op; first | go_big_quiet_on | (apply Exists.intro; refine ⟨fun p => ?_, ?_⟩; (with_reducible exact n1 p); go_big_quiet_on))); (first | go_big_quiet_skip | (go_big_quiet_want; go_big_quiet_op; first | go_big_quiet_on | (apply Exists.intro; refine ⟨fun p => ?_, ?_⟩; (with_reducible exact n1 p); go_big_quiet_on))); (first | go_big_quiet_skip | (go_big_quiet_want; go_big_quiet_op; first | go_big_quiet_on | (apply Exists.intro; refine ⟨fun p => ?_, ?_⟩; (with_reducible exact n1 p); go_big_quiet_on))); refine wpQuiet_nil ?_; rintro _ ⟨p, rfl⟩)
  obtain ⟨w3, hb3⟩ := p
  go_wp2
  go_ret
  exact ⟨rfl, HW2.call hb3⟩
end Go.Proofs.Ytacellaeepngkaa
