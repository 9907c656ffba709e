/- (day).before. -/
import Derived.Test.YtacellaeepngkaaT2
namespace Go.Proofs.Ytacellaeepngkaa
set_option linter.unusedVariables false
set_option linter.unusedSimpArgs false
open Go.RowKit Go.Shelf

set_option maxRecDepth 100000 in
set_option maxHeartbeats 2000000 in
theorem turn_before (cs : List TC) (rk : List Int) (i j : Nat) (hi : i < cs.length) (hj : j < cs.length) (hlen : cs.length ≤ 1000) (A : Option Addr) (cap : Nat) (hcap : cs.length ≤ cap) (A2 : Option Addr) (cap2 : Nat) (w : World)
    (hz : Sl w A 4 encTC cs) (hr : Sl w A2 1 encI rk) (hrl : rk.length ≤ 6) (hrb : ∀ r ∈ rk, 0 ≤ r ∧ r < 10) (hok : ∀ c ∈ cs, c.ok rk.length) :
    Calls Try.prog 72 #[.agg #[.slice A cs.length cap, .slice A2 rk.length cap2], .int .i64 i, .int .i64 j] w fun e w' =>
      e = .returned (.int .i64 (orF [cs[i].comes - cs[j].comes, (nthF cs cs[i] i : Int) - nthF cs cs[j] j, rk.getD cs[i].wv.toNat 0 - rk.getD cs[j].wv.toNat 0, (i : Int) - j])) ∧ Below w.heap.size w w' := by
  have hz0 := hz
  obtain ⟨b, off, rfl, hbl, hc⟩ := hz (by omega)
  have r0 := (hc i cs[i] (List.getElem?_eq_getElem hi)).cell 0 rfl
  have r1 := (hc i cs[i] (List.getElem?_eq_getElem hi)).cell 1 rfl
  have r2 := (hc i cs[i] (List.getElem?_eq_getElem hi)).cell 2 rfl
  have r3 := (hc i cs[i] (List.getElem?_eq_getElem hi)).cell 3 rfl
  have s0 := (hc j cs[j] (List.getElem?_eq_getElem hj)).cell 0 rfl
  have s1 := (hc j cs[j] (List.getElem?_eq_getElem hj)).cell 1 rfl
  have s2 := (hc j cs[j] (List.getElem?_eq_getElem hj)).cell 2 rfl
  have s3 := (hc j cs[j] (List.getElem?_eq_getElem hj)).cell 3 rfl
  simp only [Nat.add_zero] at r0 s0
  have hiz : (i : Int) < (cs.length : Int) := by omega
  have hjz : (j : Int) < (cs.length : Int) := by omega
  have hl1 : b < w.heap.size + 1 := by omega
  have hl2 : b < w.heap.size + 1 + 1 := by omega
  obtain ⟨wi0, wi1, ci0, ci1, -⟩ := hok cs[i] (List.getElem_mem hi)
  obtain ⟨wj0, wj1, cj0, cj1, -⟩ := hok cs[j] (List.getElem_mem hj)
  have hr0 := hr
  obtain ⟨b2, off2, rfl, hbl2, hc2⟩ := hr (by omega)
  have q0 := (hc2 cs[i].wv.toNat (rk.getD cs[i].wv.toNat 0) (by rw [List.getD_eq_getElem?_getD, List.getElem?_eq_getElem (by omega)]; rfl)).cell 0 rfl
  have q1 := (hc2 cs[j].wv.toNat (rk.getD cs[j].wv.toNat 0) (by rw [List.getD_eq_getElem?_getD, List.getElem?_eq_getElem (by omega)]; rfl)).cell 0 rfl
  simp only [Nat.add_zero, Nat.mul_one] at q0 q1
  have vb0 : 0 ≤ rk.getD cs[i].wv.toNat 0 ∧ rk.getD cs[i].wv.toNat 0 < 10 := hrb _ (by rw [List.getD_eq_getElem?_getD, List.getElem?_eq_getElem (by omega)]; exact List.getElem_mem _)
  have vb1 : 0 ≤ rk.getD cs[j].wv.toNat 0 ∧ rk.getD cs[j].wv.toNat 0 < 10 := hrb _ (by rw [List.getD_eq_getElem?_getD, List.getElem?_eq_getElem (by omega)]; exact List.getElem_mem _)
  have nb0 := nthF_le cs cs[i] i
  have nb1 := nthF_le cs cs[j] j
  clear hc hc2 hrb hok hr
  go_enter Try.func72, Try.ntmps72
  go_wp2_with fail
  go_region
  · go_wp2_with fail
    refine name_world (fun W hW => ?_)
    have HB : Below w.heap.size w W := by rw [hW]; exact (by repeat (first | with_reducible exact Below.refl _ _ | with_reducible assumption | with_reducible refine Below.al ?_ _ | with_reducible refine Below.drew ?_ | with_reducible refine Below.st ?_ (by first | (simp; done) | assumption | (simp; omega)) _ | with_reducible refine Below.call ?_ (by with_reducible assumption) | exact Below.refl _ _ | assumption | refine Below.al ?_ _ | refine Below.drew ?_ | refine Below.call ?_ (by assumption) | refine Below.st ?_ (by first | (simp; done) | assumption | (simp; omega)) _))
    have hs : w.heap.size + 1 + 1 < W.heap.size := by rw [hW]; simp
    have a0 := Later.cell (b := w.heap.size) (o := 0) (W := W) (by omega) (by rw [hW]; go_simp; rfl)
    have a1 := Later.cell (b := w.heap.size) (o := 1) (W := W) (by omega) (by rw [hW]; go_simp; rfl)
    have b0 := Later.cell (b := w.heap.size + 1) (o := 0) (W := W) (by omega) (by rw [hW]; go_simp; rfl)
    have b1 := Later.cell (b := w.heap.size + 1) (o := 1) (W := W) (by omega) (by rw [hW]; go_simp; rfl)
    have d0 := Later.cell (b := w.heap.size + 1 + 1) (o := 0) (W := W) (by omega) (by rw [hW]; go_simp; rfl)
    have d1 := Later.cell (b := w.heap.size + 1 + 1) (o := 1) (W := W) (by omega) (by rw [hW]; go_simp; rfl)
    have e0 := Later.cell (W := W) (Nat.lt_of_lt_of_le hbl2 HB.size) (HB.rdcell hbl2 q0)
    have e1 := Later.cell (W := W) (Nat.lt_of_lt_of_le hbl2 HB.size) (HB.rdcell hbl2 q1)
    have zW := hz0.below HB
    have rW := hr0.below HB
    clear hW r0 r1 r2 r3 s0 s1 s2 s3 q0 q1 hz0 hr0 hz
    generalize hri : rk.getD cs[i].wv.toNat 0 = ri at *
    generalize hrj : rk.getD cs[j].wv.toNat 0 = rj at *
    have HRI := Lib.hid hri
    have HRJ := Lib.hid hrj
    clear hri hrj
    have x1 : IntKind.i64.wrap (cs[i].comes - cs[j].comes) = cs[i].comes - cs[j].comes := IntWalk.i64_in _ (by omega)
    have x2 : IntKind.i64.wrap ((nthF cs cs[i] i : Int) - nthF cs cs[j] j) = (nthF cs cs[i] i : Int) - nthF cs cs[j] j := IntWalk.i64_in _ (by omega)
    have x3 : IntKind.i64.wrap (ri - rj) = ri - rj := IntWalk.i64_in _ (by omega)
    have x4 : IntKind.i64.wrap ((i : Int) - j) = (i : Int) - j := IntWalk.i64_in _ (by omega)
    have n1 := fun p : Later W => p.call (turn_nth cs i hi hlen _ cap hcap (.slice (some ⟨b2, off2, none⟩) rk.length cap2) rfl _ (zW.below p.le))
    have n2 := fun p : Later W => p.call (turn_nth cs j hj hlen _ cap hcap (.slice (some ⟨b2, off2, none⟩) rk.length cap2) rfl _ (zW.below p.le))
    (refine wp_region_qt 30 (by kernel_rfl) (by kernel_rfl) ?_; simp only [List.take_succ_cons, List.take_zero, List.drop_succ_cons, List.drop_zero]; (first | go_big_quiet_skip | (go_big_quiet_want; go_big_quiet_op; first | go_big_quiet_on | (apply Exists.intro; refine ⟨fun p => ?_, ?_⟩; (first | with_reducible exact n1 p | with_reducible exact n2 p); go_big_quiet_on))); (first | go_big_quiet_skip | (go_big_quiet_want; go_big_quiet_op; first | go_big_quiet_on | (apply Exists.intro; refine ⟨fun p => ?_, ?_⟩; (first | with_reducible exact n1 p | with_reducible exact n2 p); go_big_quiet_on))); (first | go_big_quiet_skip | (go_big_quiet_want; go_big_quiet_op; first | go_big_quiet_on | (apply Exists.intro; refine ⟨fun p => ?_, ?_⟩; (first | with_reducible exact n1 p | with_reducible exact n2 p); go_big_quiet_on))); (first | go_big_quiet_skip | (go_big_quiet_want; go_big_quiet_op; first | go_big_quiet_on | (apply Exists.intro; refine ⟨fun p => ?_, ?_⟩; (first | with_reducible exact n1 p | with_reducible exact n2 p); go_big_quiet_on))); (first | go_big_quiet_skip | (go_big_quiet_want; go_big_quiet_op; first | go_big_quiet_on | (apply Exists.intro; refine ⟨fun p => ?_, ?_⟩; (first | with_reducible exact n1 p | with_reducible exact n2 p); go_big_quiet_on))); (first | go_big_quiet_skip | (go_big_quiet_want; go_big_quiet_op; first | go_big_quiet_on | (apply Exists.intro; refine ⟨fun p => ?_, ?_⟩; (first | with_reducible exact n1 p | with_reducible exact n2 p); go_big_quiet_on))); (first | go_big_quiet_skip | (go_big_quiet_want; go_big_quiet_op; first | go_big_quiet_on | (apply Exists.intro; refine ⟨fun p => ?_, ?_⟩; (first | with_reducible exact n1 p | with_reducible exact n2 p); go_big_quiet_on))); (first | go_big_quiet_skip | (go_big_quiet_want; go_big_quiet_op; first | go_big_quiet_on | (apply Exists.intro; refine ⟨fun p => ?_, ?_⟩; (first | with_reducible exact n1 p | with_reducible exact n2 p); go_big_quiet_on))); (first | go_big_quiet_skip | (go_big_quiet_want; go_big_quiet_op; first | go_big_quiet_on | (apply Exists.intro; refine ⟨fun p => ?_, ?_⟩; (first | with_reducible exact n1 p | with_reducible exact n2 p); go_big_quiet_on))); (first | go_big_quiet_skip | (go_big_quiet_want; go_big_quiet_op; first | go_big_quiet_on | (apply Exists.intro; refine ⟨fun p => ?_, ?_⟩; (first | with_reducible exact n1 p | with_reducible exact n2 p); go_big_quiet_on))); (first | go_big_quiet_skip | (go_big_quiet_want; go_big_quiet_op; first | go_big_quiet_on | (apply Exists.intro; refine ⟨fun p => ?_, ?_⟩; (first | with_reducible exact n1 p | with_reducible exact n2 p); go_big_quiet_on))); (first | go_big_quiet_skip | (go_big_quiet_want; go_big_quiet_op; first | go_big_quiet_on | (apply Exists.intro; refine ⟨fun p => ?_, ?_⟩; (first | with_reducible exact n1 p | with_reducible exact n2 p); go_big_quiet_on))); (first | go_big_quiet_skip | (go_big_quiet_want; go_big_quiet_op; first | go_big_quiet_on | (apply Exists.intro; refine ⟨fun p => ?_, ?_⟩; (first | with_reducible exact n1 p | with_reducible exact n2 p); go_big_quiet_on))); (first | go_big_quiet_skip | (go_big_quiet_want; go_big_quiet_op; first | go_big_quiet_on | (apply Exists.intro; refine ⟨fun p => ?_, ?_⟩; (first | with_reducible exact n1 p | with_reducible exact n2 p); go_big_quiet_on))); (first | go_big_quiet_skip | (go_big_quiet_want; go_big_quiet_op; first | go_big_quiet_on | (apply Exists.intro; refine ⟨fun p => ?_, ?_⟩; (first | with_reducible exact n1 p | with_reducible exact n2 p); go_big_quiet_on))); (first | go_big_quiet_skip | (go_big_quiet_want; go_big_quiet_op; first | go_big_quiet_on | (apply Exists.intro; refine ⟨fun p => ?_, ?_⟩; (first | with_reducible exact n1 p | with_reducible exact n2 p); go_big_quiet_on))); (first | go_big_quiet_skip | (go_big_quiet_want; go_big_quiet_op; first | go_big_quiet_on | (apply Exists.intro; refine ⟨fun p => ?_, ?_⟩; (first | with_reducible exact n1 p | with_reducible exact n2 p); go_big_quiet_on))); (first | go_big_quiet_skip | (go_big_quiet_want; go_big_quiet_op; first | go_big_quiet_on | (apply Exists.intro; refine ⟨fun p => ?_, ?_⟩; (first | with_reducible exact n1 p | with_reducible exact n2 p); go_big_quiet_on))); (first | go_big_quiet_skip | (go_big_quiet_want; go_big_quiet_op; first | go_big_quiet_on | (apply Exists.intro; refine ⟨fun p => ?_, ?_⟩; (first | with_reducible exact n1 p | with_reducible exact n2 p); go_big_quiet_on))); (first | go_big_quiet_skip | (go_big_quiet_want; go_big_quiet_op; first | go_big_quiet_on | (apply Exists.intro; refine ⟨fun p => ?_, ?_⟩; (first | with_reducible exact n1 p | with_reducible exact n2 p); go_big_quiet_on))); (first | go_big_quiet_skip | (go_big_quiet_want; go_big_quiet_op; first | go_big_quiet_on | (apply Exists.intro; refine ⟨fun p => ?_, ?_⟩; (first | with_reducible exact n1 p | with_reducible exact n2 p); go_big_quiet_on))); (first | go_big_quiet_skip | (go_big_quiet_want; go_big_quiet_op; first | go_big_quiet_on | (apply Exists.intro; refine ⟨fun p => ?_, ?_⟩; (first | with_reducible exact n1 p | with_reducible exact n2 p); go_big_quiet_on))); (first | go_big_quiet_skip | (go_big_quiet_want; go_big_quiet_op; first | go_big_quiet_on | (apply Exists.intro; refine ⟨fun p => ?_, ?_⟩; (first | with_reducible exact n1 p | with_reducible exact n2 p); go_big_quiet_on))); (first | go_big_quiet_skip | (go_big_quiet_want; go_big_quiet_op; first | go_big_quiet_on | (apply Exists.intro; refine ⟨fun p => ?_, ?_⟩; (first | with_reducible exact n1 p | with_reducible exact n2 p); go_big_quiet_on))); (first | go_big_quiet_skip | (go_big_quiet_want; go_big_quiet_op; first | go_big_quiet_on | (apply Exists.intro; refine ⟨fun p => ?_, ?_⟩; (first | with_reducible exact n1 p | with_reducible exact n2 p); go_big_quiet_on))); (first | go_big_quiet_skip | (go_big_quiet_want; go_big_quiet_op; first | go_big_quiet_on | (apply Exists.intro; refine ⟨fun p => ?_, ?_⟩; (first | with_reducible exact n1 p | with_reducible exact n2 p); go_big_quiet_on))); (first | go_big_quiet_skip | (go_big_quiet_want; go_big_quiet_op; first | go_big_quiet_on | (apply Exists.intro; refine ⟨fun p => ?_, ?_⟩; (first | with_reducible exact n1 p | with_reducible exact n2 p); go_big_quiet_on))); (first | go_big_quiet_skip | (go_big_quiet_want; go_big_quiet_op; first | go_big_quiet_on | (apply Exists.intro; refine ⟨fun p => ?_, ?_⟩; (first | with_reducible exact n1 p | with_reducible exact n2 p); go_big_quiet_on))); (first | go_big_quiet_skip | (go_big_quiet_want; go_big_quiet_op; first | go_big_quiet_on | (apply Exists.intro; refine ⟨fun p => ?_, ?_⟩; (first | with_reducible exact n1 p | with_reducible exact n2 p); go_big_quiet_on))); (first | go_big_quiet_skip | (go_big_quiet_want; go_big_quiet_op; first | go_big_quiet_on | (apply Exists.intro; refine ⟨fun p => ?_, ?_⟩; (first | with_reducible exact n1 p | with_reducible exact n2 p); go_big_quiet_on))); refine wpQuiet_nil ?_; rintro _ ⟨p, rfl⟩)
    obtain ⟨w1, hb1⟩ := p
    clear a0 a1 b0 b1 d0 d1 e0 e1 n1 n2 zW rW
    go_wp2_with fail
    refine (cmp_or (some ⟨w1.heap.size, 0, none⟩) 4 [cs[i].comes - cs[j].comes, (nthF cs cs[i] i : Int) - nthF cs cs[j] j, ri - rj, (i : Int) - j] _ (Sl.ints (by simp) ?_) (by simp)).mono ?_
    · intro k x hx
      match k, hx with
      | 0, hx => cases hx; go_simp
      | 1, hx => cases hx; go_simp
      | 2, hx => cases hx; go_simp
      | 3, hx => cases hx; go_simp
    rintro e w2 ⟨rfl, rfl⟩
    go_wp2
    go_ret
    exact ⟨retI rfl (by rw [HRI.out, HRJ.out]), (HB.call hb1).al _⟩
  · go_wp2_with fail
    refine name_world (fun W hW => ?_)
    have HB : Below w.heap.size w W := by rw [hW]; exact (by repeat (first | with_reducible exact Below.refl _ _ | with_reducible assumption | with_reducible refine Below.al ?_ _ | with_reducible refine Below.drew ?_ | with_reducible refine Below.st ?_ (by first | (simp; done) | assumption | (simp; omega)) _ | with_reducible refine Below.call ?_ (by with_reducible assumption) | exact Below.refl _ _ | assumption | refine Below.al ?_ _ | refine Below.drew ?_ | refine Below.call ?_ (by assumption) | refine Below.st ?_ (by first | (simp; done) | assumption | (simp; omega)) _))
    have hs : w.heap.size + 1 + 1 < W.heap.size := by rw [hW]; simp
    have a0 := Later.cell (b := w.heap.size) (o := 0) (W := W) (by omega) (by rw [hW]; go_simp; rfl)
    have a1 := Later.cell (b := w.heap.size) (o := 1) (W := W) (by omega) (by rw [hW]; go_simp; rfl)
    have b0 := Later.cell (b := w.heap.size + 1 + 1) (o := 0) (W := W) (by omega) (by rw [hW]; go_simp; rfl)
    have b1 := Later.cell (b := w.heap.size + 1 + 1) (o := 1) (W := W) (by omega) (by rw [hW]; go_simp; rfl)
    have d0 := Later.cell (b := w.heap.size + 1) (o := 0) (W := W) (by omega) (by rw [hW]; go_simp; rfl)
    have d1 := Later.cell (b := w.heap.size + 1) (o := 1) (W := W) (by omega) (by rw [hW]; go_simp; rfl)
    have e0 := Later.cell (W := W) (Nat.lt_of_lt_of_le hbl2 HB.size) (HB.rdcell hbl2 q0)
    have e1 := Later.cell (W := W) (Nat.lt_of_lt_of_le hbl2 HB.size) (HB.rdcell hbl2 q1)
    have zW := hz0.below HB
    have rW := hr0.below HB
    clear hW r0 r1 r2 r3 s0 s1 s2 s3 q0 q1 hz0 hr0 hz
    generalize hri : rk.getD cs[i].wv.toNat 0 = ri at *
    generalize hrj : rk.getD cs[j].wv.toNat 0 = rj at *
    have HRI := Lib.hid hri
    have HRJ := Lib.hid hrj
    clear hri hrj
    have x1 : IntKind.i64.wrap (cs[i].comes - cs[j].comes) = cs[i].comes - cs[j].comes := IntWalk.i64_in _ (by omega)
    have x2 : IntKind.i64.wrap ((nthF cs cs[i] i : Int) - nthF cs cs[j] j) = (nthF cs cs[i] i : Int) - nthF cs cs[j] j := IntWalk.i64_in _ (by omega)
    have x3 : IntKind.i64.wrap (ri - rj) = ri - rj := IntWalk.i64_in _ (by omega)
    have x4 : IntKind.i64.wrap ((i : Int) - j) = (i : Int) - j := IntWalk.i64_in _ (by omega)
    have n1 := fun p : Later W => p.call (turn_nth cs i hi hlen _ cap hcap (.slice (some ⟨b2, off2, none⟩) rk.length cap2) rfl _ (zW.below p.le))
    have n2 := fun p : Later W => p.call (turn_nth cs j hj hlen _ cap hcap (.slice (some ⟨b2, off2, none⟩) rk.length cap2) rfl _ (zW.below p.le))
    (refine wp_region_qt 30 (by kernel_rfl) (by kernel_rfl) ?_; simp only [List.take_succ_cons, List.take_zero, List.drop_succ_cons, List.drop_zero]; (first | go_big_quiet_skip | (go_big_quiet_want; go_big_quiet_op; first | go_big_quiet_on | (apply Exists.intro; refine ⟨fun p => ?_, ?_⟩; (first | with_reducible exact n1 p | with_reducible exact n2 p); go_big_quiet_on))); (first | go_big_quiet_skip | (go_big_quiet_want; go_big_quiet_op; first | go_big_quiet_on | (apply Exists.intro; refine ⟨fun p => ?_, ?_⟩; (first | with_reducible exact n1 p | with_reducible exact n2 p); go_big_quiet_on))); (first | go_big_quiet_skip | (go_big_quiet_want; go_big_quiet_op; first | go_big_quiet_on | (apply Exists.intro; refine ⟨fun p => ?_, ?_⟩; (first | with_reducible exact n1 p | with_reducible exact n2 p); go_big_quiet_on))); (first | go_big_quiet_skip | (go_big_quiet_want; go_big_quiet_op; first | go_big_quiet_on | (apply Exists.intro; refine ⟨fun p => ?_, ?_⟩; (first | with_reducible exact n1 p | with_reducible exact n2 p); go_big_quiet_on))); (first | go_big_quiet_skip | (go_big_quiet_want; go_big_quiet_op; first | go_big_quiet_on | (apply Exists.intro; refine ⟨fun p => ?_, ?_⟩; (first | with_reducible exact n1 p | with_reducible exact n2 p); go_big_quiet_on))); (first | go_big_quiet_skip | (go_big_quiet_want; go_big_quiet_op; first | go_big_quiet_on | (apply Exists.intro; refine ⟨fun p => ?_, ?_⟩; (first | with_reducible exact n1 p | with_reducible exact n2 p); go_big_quiet_on))); (first | go_big_quiet_skip | (go_big_quiet_want; go_big_quiet_op; first | go_big_quiet_on | (apply Exists.intro; refine ⟨fun p => ?_, ?_⟩; (first | with_reducible exact n1 p | with_reducible exact n2 p); go_big_quiet_on))); (first | go_big_quiet_skip | (go_big_quiet_want; go_big_quiet_op; first | go_big_quiet_on | (apply Exists.intro; refine ⟨fun p => ?_, ?_⟩; (first | with_reducible exact n1 p | with_reducible exact n2 p); go_big_quiet_on))); (first | go_big_quiet_skip | (go_big_quiet_want; go_big_quiet_op; first | go_big_quiet_on | (apply Exists.intro; refine ⟨fun p => ?_, ?_⟩; (first | with_reducible exact n1 p | with_reducible exact n2 p); go_big_quiet_on))); (first | go_big_quiet_skip | (go_big_quiet_want; go_big_quiet_op; first | go_big_quiet_on | (apply Exists.intro; refine ⟨fun p => ?_, ?_⟩; (first | with_reducible exact n1 p | with_reducible exact n2 p); go_big_quiet_on))); (first | go_big_quiet_skip | (go_big_quiet_want; go_big_quiet_op; first | go_big_quiet_on | (apply Exists.intro; refine ⟨fun p => ?_, ?_⟩; (first | with_reducible exact n1 p | with_reducible exact n2 p); go_big_quiet_on))); (first | go_big_quiet_skip | (go_big_quiet_want; go_big_quiet_op; first | go_big_quiet_on | (apply Exists.intro; refine ⟨fun p => ?_, ?_⟩; (first | with_reducible exact n1 p | with_reducible exact n2 p); go_big_quiet_on))); (first | go_big_quiet_skip | (go_big_quiet_want; go_big_quiet_op; first | go_big_quiet_on | (apply Exists.intro; refine ⟨fun p => ?_, ?_⟩; (first | with_reducible exact n1 p | with_reducible exact n2 p); go_big_quiet_on))); (first | go_big_quiet_skip | (go_big_quiet_want; go_big_quiet_op; first | go_big_quiet_on | (apply Exists.intro; refine ⟨fun p => ?_, ?_⟩; (first | with_reducible exact n1 p | with_reducible exact n2 p); go_big_quiet_on))); (first | go_big_quiet_skip | (go_big_quiet_want; go_big_quiet_op; first | go_big_quiet_on | (apply Exists.intro; refine ⟨fun p => ?_, ?_⟩; (first | with_reducible exact n1 p | with_reducible exact n2 p); go_big_quiet_on))); (first | go_big_quiet_skip | (go_big_quiet_want; go_big_quiet_op; first | go_big_quiet_on | (apply Exists.intro; refine ⟨fun p => ?_, ?_⟩; (first | with_reducible exact n1 p | with_reducible exact n2 p); go_big_quiet_on))); (first | go_big_quiet_skip | (go_big_quiet_want; go_big_quiet_op; first | go_big_quiet_on | (apply Exists.intro; refine ⟨fun p => ?_, ?_⟩; (first | with_reducible exact n1 p | with_reducible exact n2 p); go_big_quiet_on))); (first | go_big_quiet_skip | (go_big_quiet_want; go_big_quiet_op; first | go_big_quiet_on | (apply Exists.intro; refine ⟨fun p => ?_, ?_⟩; (first | with_reducible exact n1 p | with_reducible exact n2 p); go_big_quiet_on))); (first | go_big_quiet_skip | (go_big_quiet_want; go_big_quiet_op; first | go_big_quiet_on | (apply Exists.intro; refine ⟨fun p => ?_, ?_⟩; (first | with_reducible exact n1 p | with_reducible exact n2 p); go_big_quiet_on))); (first | go_big_quiet_skip | (go_big_quiet_want; go_big_quiet_op; first | go_big_quiet_on | (apply Exists.intro; refine ⟨fun p => ?_, ?_⟩; (first | with_reducible exact n1 p | with_reducible exact n2 p); go_big_quiet_on))); (first | go_big_quiet_skip | (go_big_quiet_want; go_big_quiet_op; first | go_big_quiet_on | (apply Exists.intro; refine ⟨fun p => ?_, ?_⟩; (first | with_reducible exact n1 p | with_reducible exact n2 p); go_big_quiet_on))); (first | go_big_quiet_skip | (go_big_quiet_want; go_big_quiet_op; first | go_big_quiet_on | (apply Exists.intro; refine ⟨fun p => ?_, ?_⟩; (first | with_reducible exact n1 p | with_reducible exact n2 p); go_big_quiet_on))); (first | go_big_quiet_skip | (go_big_quiet_want; go_big_quiet_op; first | go_big_quiet_on | (apply Exists.intro; refine ⟨fun p => ?_, ?_⟩; (first | with_reducible exact n1 p | with_reducible exact n2 p); go_big_quiet_on))); (first | go_big_quiet_skip | (go_big_quiet_want; go_big_quiet_op; first | go_big_quiet_on | (apply Exists.intro; refine ⟨fun p => ?_, ?_⟩; (first | with_reducible exact n1 p | with_reducible exact n2 p); go_big_quiet_on))); (first | go_big_quiet_skip | (go_big_quiet_want; go_big_quiet_op; first | go_big_quiet_on | (apply Exists.intro; refine ⟨fun p => ?_, ?_⟩; (first | with_reducible exact n1 p | with_reducible exact n2 p); go_big_quiet_on))); (first | go_big_quiet_skip | (go_big_quiet_want; go_big_quiet_op; first | go_big_quiet_on | (apply Exists.intro; refine ⟨fun p => ?_, ?_⟩; (first | with_reducible exact n1 p | with_reducible exact n2 p); go_big_quiet_on))); (first | go_big_quiet_skip | (go_big_quiet_want; go_big_quiet_op; first | go_big_quiet_on | (apply Exists.intro; refine ⟨fun p => ?_, ?_⟩; (first | with_reducible exact n1 p | with_reducible exact n2 p); go_big_quiet_on))); (first | go_big_quiet_skip | (go_big_quiet_want; go_big_quiet_op; first | go_big_quiet_on | (apply Exists.intro; refine ⟨fun p => ?_, ?_⟩; (first | with_reducible exact n1 p | with_reducible exact n2 p); go_big_quiet_on))); (first | go_big_quiet_skip | (go_big_quiet_want; go_big_quiet_op; first | go_big_quiet_on | (apply Exists.intro; refine ⟨fun p => ?_, ?_⟩; (first | with_reducible exact n1 p | with_reducible exact n2 p); go_big_quiet_on))); (first | go_big_quiet_skip | (go_big_quiet_want; go_big_quiet_op; first | go_big_quiet_on | (apply Exists.intro; refine ⟨fun p => ?_, ?_⟩; (first | with_reducible exact n1 p | with_reducible exact n2 p); go_big_quiet_on))); refine wpQuiet_nil ?_; rintro _ ⟨p, rfl⟩)
    obtain ⟨w1, hb1⟩ := p
    clear a0 a1 b0 b1 d0 d1 e0 e1 n1 n2 zW rW
    go_wp2_with fail
    refine (cmp_or (some ⟨w1.heap.size, 0, none⟩) 4 [cs[i].comes - cs[j].comes, (nthF cs cs[i] i : Int) - nthF cs cs[j] j, ri - rj, (i : Int) - j] _ (Sl.ints (by simp) ?_) (by simp)).mono ?_
    · intro k x hx
      match k, hx with
      | 0, hx => cases hx; go_simp
      | 1, hx => cases hx; go_simp
      | 2, hx => cases hx; go_simp
      | 3, hx => cases hx; go_simp
    rintro e w2 ⟨rfl, rfl⟩
    go_wp2
    go_ret
    exact ⟨retI rfl (by rw [HRI.out, HRJ.out]), (HB.call hb1).al _⟩
end Go.Proofs.Ytacellaeepngkaa
