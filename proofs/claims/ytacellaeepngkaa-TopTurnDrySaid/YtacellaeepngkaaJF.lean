/- TopTurnDry returns true for every input, and each argument reads behind the call as it read before. Conditions: none. -/
import Derived.Test.YtacellaeepngkaaJ1
import Derived.Test.YtacellaeepngkaaFR
namespace Go.Proofs.Ytacellaeepngkaa
set_option linter.unusedVariables false
set_option linter.unusedSimpArgs false
open Go.ChangeShapes Go.WideShapes Go.ChangeAt Go.RowKit Go.Deep

theorem own_knob : ownKnob Try.prog.godebug = none := by kernel_rfl
theorem laid_out : laidOutB Try.prog = true := by kernel_rfl
theorem read_0 : Try.prog.readableRec 24 = true := by kernel_rfl
theorem read_1 : Try.prog.readableRec 25 = true := by kernel_rfl
theorem read_2 : Try.prog.readableRec 26 = true := by kernel_rfl
theorem row_0 : 24 < Try.prog.types.size := of_decide_eq_true (by kernel_rfl)
theorem row_1 : 25 < Try.prog.types.size := of_decide_eq_true (by kernel_rfl)
theorem row_2 : 26 < Try.prog.types.size := of_decide_eq_true (by kernel_rfl)
theorem cells_sky : Try.prog.cellsOf 24 = 1 := by kernel_rfl
theorem cells_rows2 : Try.prog.cellsOf 22 = 1 := by kernel_rfl
theorem cells_b2 : Try.prog.cellsOf 76 = 2 := by kernel_rfl
theorem cells_b3 : Try.prog.cellsOf 34 = 3 := by kernel_rfl
theorem cells_b4 : Try.prog.cellsOf 26 = 4 := by kernel_rfl
theorem cells_u8 : Try.prog.cellsOf 5 = 1 := by kernel_rfl

theorem len4 (l : List Value) (h : l.length = 4) : ∃ x0 x1 x2 x3, l = [x0, x1, x2, x3] := by
  match l, h with
  | [x0, x1, x2, x3], _ => exact ⟨x0, x1, x2, x3, rfl⟩

theorem row_get {len : Nat} {α : Type} (f : Nat → α) (i : Nat) (x : α) (h : ((List.range len).map f)[i]? = some x) : i < len ∧ x = f i := by
  rw [List.getElem?_map] at h
  cases hr : (List.range len)[i]? with
  | none => rw [hr] at h; cases h
  | some j =>
    rw [hr] at h
    obtain ⟨h1, h2⟩ := List.getElem?_eq_some_iff.1 hr
    simp at h1 h2 h
    subst h2
    exact ⟨h1, h.symm⟩

theorem dry_call (A A2 : Option Addr) (len len2 cap cap2 : Nat) (g g2 : Nat → Nat → Int) (hlen : len ≤ 9223372036854775807) (hlen2 : len2 ≤ 9223372036854775807) (hg : ∀ i j, i < len → j < 2 → 0 ≤ g i j ∧ g i j ≤ 255) (hg2 : ∀ i j, i < len2 → j < 3 → 0 ≤ g2 i j ∧ g2 i j ≤ 255)
    (z0 z1 z2 z3 : Int) (ha : 0 ≤ z0 ∧ z0 ≤ 255) (hb : 0 ≤ z1 ∧ z1 ≤ 255) (hcc : 0 ≤ z2 ∧ z2 ≤ 255) (hd : 0 ≤ z3 ∧ z3 ≤ 255) (W : World)
    (hc : 0 < len → ∃ b off, A = some ⟨b, off, none⟩ ∧ b < W.heap.size ∧ ∀ i j, i < len → j < 2 → W.cell? ⟨b, off + i * 2 + j, none⟩ = some (.int .u8 (g i j)))
    (hc2 : 0 < len2 → ∃ b off, A2 = some ⟨b, off, none⟩ ∧ b < W.heap.size ∧ ∀ i j, i < len2 → j < 3 → W.cell? ⟨b, off + i * 3 + j, none⟩ = some (.int .u8 (g2 i j))) :
    Calls Try.prog 3 #[.agg #[.slice A len cap], .slice A2 len2 cap2, .agg #[.int .u8 z0, .int .u8 z1, .int .u8 z2, .int .u8 z3]] W fun e w' => e = .returned (.bool true) ∧ Below W.heap.size W w' := by
  have hn1 : ((List.range len).map fun i => (g i 0, g i 1)).length = len := by simp
  have hn2 : ((List.range len2).map fun i => (g2 i 0, g2 i 1, g2 i 2)).length = len2 := by simp
  have hw := top_TurnDry ((List.range len).map fun i => (g i 0, g i 1)) (by rw [hn1]; exact hlen)
    (fun x hx => by
      obtain ⟨i, hi, rfl⟩ := List.mem_map.1 hx
      have hi' := List.mem_range.1 hi
      have q0 := hg i 0 hi' (by omega)
      have q1 := hg i 1 hi' (by omega)
      exact ⟨q0.1, q0.2, q1.1, q1.2⟩)
    ((List.range len2).map fun i => (g2 i 0, g2 i 1, g2 i 2)) (by rw [hn2]; exact hlen2)
    (fun x hx => by
      obtain ⟨i, hi, rfl⟩ := List.mem_map.1 hx
      have hi' := List.mem_range.1 hi
      have q0 := hg2 i 0 hi' (by omega)
      have q1 := hg2 i 1 hi' (by omega)
      have q2 := hg2 i 2 hi' (by omega)
      exact ⟨q0.1, q0.2, q1.1, q1.2, q2.1, q2.2⟩)
    z0 z1 z2 z3 ha hb hcc hd A A2 cap cap2 W
    (fun hp => by
      rw [hn1] at hp
      obtain ⟨b, off, e, hlt, hcell⟩ := hc hp
      refine ⟨b, off, e, hlt, fun i x hx => ?_⟩
      obtain ⟨hi, rfl⟩ := row_get _ i x hx
      intro j v hj
      match j, hj with
      | 0, hj => cases hj; exact hcell i 0 hi (by omega)
      | 1, hj => cases hj; exact hcell i 1 hi (by omega))
    (fun hp => by
      rw [hn2] at hp
      obtain ⟨b, off, e, hlt, hcell⟩ := hc2 hp
      refine ⟨b, off, e, hlt, fun i x hx => ?_⟩
      obtain ⟨hi, rfl⟩ := row_get _ i x hx
      intro j v hj
      match j, hj with
      | 0, hj => cases hj; exact hcell i 0 hi (by omega)
      | 1, hj => cases hj; exact hcell i 1 hi (by omega)
      | 2, hj => cases hj; exact hcell i 2 hi (by omega))
  rw [hn1, hn2] at hw
  exact hw

set_option maxRecDepth 100000 in
set_option maxHeartbeats 2000000 in
theorem dry_lifted (os : Os) (started : os.Started) (H : Type) (enc : TypeId × Value → H) :
    ReturnsInHanded {} Try.checked os 3 .any (Rows.topTurnDrySpec.pre6 enc Try.prog Try.f3 Rows.topTurnDryRow.domain false) (Rows.topTurnDrySpec.post enc Try.prog Try.f3 false true false false) := by
  refine returnsInHanded_of_change (C := Try.checked) own_knob started (by kernel_rfl) Try.func3
    (ChangeSpec.witness6 (enc := enc) (C := Try.checked) false ⟨#[], #[.agg #[.slice none 0 0], .slice none 0 0, .agg #[.int .u8 0, .int .u8 0, .int .u8 0, .int .u8 0]], []⟩ 8 (by kernel_rfl) (by kernel_rfl) (by kernel_rfl) (by kernel_rfl)) ?_
  intro W base args ds gs before hval0 hW hcnd _
  have hval : ∀ (j : Nat) t v, Try.f3.params[j]? = some t → args[j]? = some v → Value.okWide Try.prog W .any base t v := hval0
  have hW' := hW
  obtain ⟨p, q, hA0, hV, rfl, hfz, hnd⟩ := hW
  have hA : DataW.TrodAll enc Try.prog W 0 (fun _ => true) true Try.f3.params.toList args.toList ds p := hA0
  rw [Try.params3] at hA hval
  obtain ⟨v0, v1, v2, d0, d1, d2, p0, p1, p2, rfl, rfl, rfl, h0, h1, h2⟩ := trodAll_three hA
  obtain ⟨rfl, rfl⟩ := trodVars_none hV
  have k0 := h0
  have k1 := h1
  have k2 := h2
  obtain ⟨⟨l0⟩, rfl, s0⟩ := okWide_struct Try.underlying24 (hval 0 _ v0 rfl rfl)
  rw [cells_sky] at s0
  obtain ⟨f0, t0⟩ := h0
  obtain ⟨y0, n0, _, _, u0⟩ := trod_struct1 Try.underlying24 t0
  obtain ⟨c0, rfl⟩ : ∃ c0, l0 = [c0] := List.length_eq_one_iff.1 s0
  rw [cells_rows2] at u0
  obtain ⟨A, len, cap, g, e0, hlen, hg, hc⟩ := open_byte_rows (n := 2) (by omega) Try.underlying22 Try.underlying76 Try.underlying5 cells_u8 cells_b2 u0
  have e0' : c0 = .slice A len cap := by simpa [Value.cells] using e0
  subst e0'
  obtain ⟨a1, len1', cap1', rfl⟩ := okWide_slice Try.underlying25 (hval 1 _ v1 rfl rfl)
  obtain ⟨f1, t1⟩ := h1
  obtain ⟨A2, len2, cap2, g2, e1, hlen2, hg2, hc2⟩ := open_byte_rows (n := 3) (by omega) Try.underlying25 Try.underlying34 Try.underlying5 cells_u8 cells_b3 t1
  have e1' : Value.slice a1 len1' cap1' = .slice A2 len2 cap2 := by simpa [Value.cells] using e1
  simp only [Value.slice.injEq] at e1'
  obtain ⟨rfl, rfl, rfl⟩ := e1'
  obtain ⟨f2, t2⟩ := h2
  have hv2 := hval 2 _ v2 rfl rfl
  simp only [Value.okWide, Try.underlying26] at hv2
  obtain ⟨⟨l2⟩, rfl, s2, _⟩ := hv2
  obtain ⟨hl2, hb2⟩ := open_bytes Try.underlying26 Try.underlying5 cells_u8 cells_b4 t2
  have hl2' : l2.length = 4 := by simpa [Value.cells] using hl2
  obtain ⟨x0, x1, x2, x3, rfl⟩ := len4 l2 hl2'
  simp only [Value.cells] at hb2
  obtain ⟨z0, hz0, ha⟩ := hb2 0 (by omega)
  obtain ⟨z1, hz1, hb⟩ := hb2 1 (by omega)
  obtain ⟨z2, hz2, hcc⟩ := hb2 2 (by omega)
  obtain ⟨z3, hz3, hd⟩ := hb2 3 (by omega)
  simp only [List.getElem?_cons_zero, List.getElem?_cons_succ, Option.some.injEq] at hz0 hz1 hz2 hz3
  subst hz0 hz1 hz2 hz3
  have hw := dry_call A a1 len len1' cap cap1' g g2 hlen hlen2 hg hg2 z0 z1 z2 z3 ha hb hcc hd W hc hc2
  simp only [List.append_nil] at hW'
  have hlt := hW'.lt
  refine hw.mono fun e W' ⟨he, hbw⟩ => ?_
  subst he
  refine ⟨_, rfl, post_of_below (pa := p0 ++ (p1 ++ p2)) (pv := []) hW' (fun _ _ _ => trodAll_mk1 (shut_bool Try.underlying4 true)) (fun sp hsp => trodAll_mk3
    (WideElems.Trod_stays laid_out read_0 row_0 k0 (fun x hx => hbw.same (hlt x (List.mem_append_left _ (List.mem_append_left _ hx)))) (fun x hx => hsp x (List.mem_append_left _ (List.mem_append_left _ hx))))
    (WideElems.Trod_stays laid_out read_1 row_1 k1 (fun x hx => hbw.same (hlt x (List.mem_append_left _ (List.mem_append_right _ hx)))) (fun x hx => hsp x (List.mem_append_left _ (List.mem_append_right _ hx))))
    (WideElems.Trod_stays laid_out read_2 row_2 k2 (fun x hx => hbw.same (hlt x (List.mem_append_right _ hx))) (fun x hx => hsp x (List.mem_append_right _ hx)))) (fun _ _ => rfl) (by simp) hbw (ok_one (by kernel_rfl) rfl (okWide_bool_mk Try.underlying4 true))⟩

theorem TopTurnDry_holds : Rows.TopTurnDrySaid :=
  OpenClaim.holds_of_wide 3 Try.f3 rfl rfl rfl rfl rfl rfl rfl ⟨rfl, rfl, rfl, rfl, rfl⟩ rfl rfl rfl rfl rfl (by kernel_rfl) Try.func3 (by kernel_rfl)
    (of_decide_eq_true (by kernel_rfl)) (by unfold Func.isWrapper; first | (rw [if_pos (by decide +kernel)]; kernel_rfl) | (rw [if_neg (by decide +kernel)]; exact ⟨rfl, rfl⟩))
    (fun os started H enc _ => dry_lifted os started H enc)

#print axioms TopTurnDry_holds
end Go.Proofs.Ytacellaeepngkaa
