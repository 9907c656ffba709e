/- Opening arguments of bytes: slices of byte arrays, byte arrays, a struct of one slice; the row's last step. -/
import Derived.Test.YtacellaeepngkaaA0
import Derived.Test.YtacellaeepngkaaRows
import Derived.ProofKit
import Derived.Deep.Slices
import Derived.Deep.Fields
namespace Go.Proofs.Ytacellaeepngkaa
set_option linter.unusedVariables false
set_option linter.unusedSimpArgs false
open Go.ChangeShapes Go.WideShapes Go.ChangeAt Go.RowKit Go.Deep

section
variable {H : Type} {enc : TypeId × Value → H} {P : Program}
theorem post_of_below {f : Func} {s : ChangeSpec} {apart fresh handsOn again : Bool} {W W' : World} {args : Array Value} {v : Value} {ds gs : List (DataW H)} {before pa pv : List MemPlace}
    (hW : DataW.Whole enc P f.params.toList s.vars apart W args.toList ds gs before)
    (hres : ∀ (b : Nat) (sp : Nat → Bool) (hd : Bool), DataW.TrodAll enc P W' b sp hd f.resultTypes.toList (v.resultList f.resultTypes.size) (s.fn H (ds ++ gs)).results [])
    (hargs : ∀ sp : Nat → Bool, (∀ p ∈ before, sp p.block = true) → DataW.TrodAll enc P W' 0 sp true f.params.toList args.toList (s.fn H (ds ++ gs)).args pa)
    (hvars : ∀ sp : Nat → Bool, (∀ p ∈ before, sp p.block = true) → DataW.TrodVars enc P W' sp s.vars (s.fn H (ds ++ gs)).vars pv)
    (hps : before = pa ++ pv) (hb : Below W.heap.size W W')
    (hok : ∀ (j : Nat) (t : TypeId) (r : Value), f.resultTypes[j]? = some t → (v.resultList f.resultTypes.size)[j]? = some r → Value.okWide P W' .any 0 t r) :
    s.post enc P f apart fresh handsOn again W args v W' := by
  have hlt : ∀ p ∈ before, p.block < W.heap.size := fun p hp => hW.lt p hp
  have hold : ∀ p ∈ before, (fun b => decide (b < W.heap.size)) p.block = true := fun p hp => by simpa using hlt p hp
  refine ⟨ds, gs, before, [], pa, pv, hW, hres _ _ _, hargs _ hold, hvars _ hold, World.keptBut_mono (fun p hp => ⟨hp, ?_⟩) (hb.frame (· ∈ before)), fun _ => ?_⟩
  · rw [hps, List.mem_append] at hp
    exact Or.inr hp
  · obtain ⟨_, _, _, _, _, hz, hn⟩ := hW
    refine ⟨hok, _, _, ([] ++ pa) ++ pv, ⟨[] ++ pa, pv, trodAll_append (hargs _ (fun _ _ => rfl)) (hres _ _ _), hvars _ (fun _ _ => rfl), rfl, ?_, ?_⟩, ?_⟩
    · intro b off hp
      have hin : MemPlace.cell b off ∈ before := by rw [hps]; simpa using hp
      rw [hb.frozen (hlt _ hin)]
      exact hz b off hin
    · intro ha
      have := hn ha
      rw [hps] at this
      simpa using this
    · intro p hp _
      rw [hps]
      simpa using hp
end

section
variable {H : Type} {enc : TypeId × Value → H} {P : Program} {w : World} {base : Nat} {spare : Nat → Bool} {held : Bool}

theorem u8_wf {n : Int} (h : (Lit.int .u8 n).wf = true) : 0 ≤ n ∧ n ≤ 255 := by
  simp [Lit.wf, IntKind.min, IntKind.max, IntKind.signed, IntKind.bits] at h
  omega

/-- An array of bytes, read: its cells. -/
theorem open_bytes {n : Nat} {e u : TypeId} {fuel : Nat} {cs : List Value} {x : DataW H × List MemPlace} (he : P.underlying e = some (.array n u)) (hu : P.underlying u = some (.int .u8)) (h1 : P.cellsOf u = 1) (hC : P.cellsOf e = n)
    (h : DataW.trod enc P w base spare held fuel e cs = some x) : cs.length = n ∧ ∀ j, j < n → ∃ z : Int, cs[j]? = some (.int .u8 z) ∧ 0 ≤ z ∧ z ≤ 255 := by
  obtain ⟨xs, m, _, _, hl, hlen, hx⟩ := DataW.trod_array he h
  rw [hC] at hl
  refine ⟨hl, fun j hj => ?_⟩
  have h2 := hx j hj
  rw [h1, Nat.mul_one] at h2
  have h3 : (cs.drop j).take 1 = [cs[j]'(by omega)] := by rw [List.drop_eq_getElem_cons (by omega)]; rfl
  rw [h3, List.getElem?_eq_getElem (by omega)] at h2
  obtain ⟨z, hz, _, hw⟩ := DataW.trod_int hu h2
  simp only [List.cons.injEq, and_true] at hz
  exact ⟨z, by rw [List.getElem?_eq_getElem (by omega), hz], u8_wf hw⟩

/-- A slice of arrays of bytes. -/
theorem open_byte_rows {n : Nat} (hn : 0 < n) {t e u : TypeId} {fuel : Nat} {cs : List Value} {x : DataW H × List MemPlace} (ht : P.underlying t = some (.slice e)) (he : P.underlying e = some (.array n u)) (hu : P.underlying u = some (.int .u8)) (h1 : P.cellsOf u = 1) (hC : P.cellsOf e = n)
    (h : DataW.trod enc P w base spare held fuel t cs = some x) : ∃ (A : Option Addr) (len cap : Nat) (g : Nat → Nat → Int), cs = [.slice A len cap] ∧ len ≤ 9223372036854775807 ∧ (∀ i j, i < len → j < n → 0 ≤ g i j ∧ g i j ≤ 255) ∧
      (0 < len → ∃ b off, A = some ⟨b, off, none⟩ ∧ b < w.heap.size ∧ ∀ i j, i < len → j < n → w.cell? ⟨b, off + i * n + j, none⟩ = some (.int .u8 (g i j))) := by
  rcases open_slice ht h with ⟨rfl, _⟩ | ⟨a, len, cap, m, fu, D, Pl, rfl, hb, hl, hm, hmm, hx, hi⟩
  · exact ⟨none, 0, 0, fun _ _ => 0, rfl, by omega, fun i j hi => by omega, fun h => by omega⟩
  · have hlm : len ≤ m := by rw [hmm]; split <;> omega
    have key : ∀ i j, ∃ z : Int, i < len → j < n → w.cell? ((a.add (i * n)).add j) = some (.int .u8 z) ∧ 0 ≤ z ∧ z ≤ 255 := by
      intro i j
      by_cases hij : i < len ∧ j < n
      · obtain ⟨cs', hc, htr⟩ := hi i (by omega)
        rw [hC] at hc
        obtain ⟨_, hcl, hat⟩ := World.cells?_some hc
        obtain ⟨_, hz⟩ := open_bytes he hu h1 hC htr
        obtain ⟨z, hz1, hz2⟩ := hz j hij.2
        exact ⟨z, fun _ _ => ⟨(hat j hij.2).trans hz1, hz2⟩⟩
      · exact ⟨0, fun h1 h2 => absurd ⟨h1, h2⟩ hij⟩
    refine ⟨some a, len, cap, fun i j => (key i j).choose, rfl, by simp only [maxLen] at hm; omega, fun i j h2 h3 => ((key i j).choose_spec h2 h3).2, fun hpos => ?_⟩
    have h00 := ((key 0 0).choose_spec hpos hn).1
    have hspot : a.spot = none := by
      obtain ⟨z0, h0⟩ : ∃ z, w.cell? a = some (.int .u8 z) := ⟨_, by simpa only [Nat.zero_mul, Addr.add, if_true] using h00⟩
      unfold World.cell? at h0
      cases hs : a.spot with
      | none => rfl
      | some q =>
        simp only [hs, Option.isSome_some, if_true] at h0
        split at h0 <;> cases h0
    obtain ⟨b, off, sp⟩ := a
    simp only at hspot
    subst hspot
    have hadd : ∀ i j, ((⟨b, off, none⟩ : Addr).add (i * n)).add j = ⟨b, off + i * n + j, none⟩ := by
      intro i j
      simp only [Addr.add]
      split <;> split <;> simp_all
    refine ⟨b, off, rfl, ?_, fun i j h2 h3 => by rw [← hadd]; exact ((key i j).choose_spec h2 h3).1⟩
    have := World.block_lt_of_cell? w _ h00
    rw [hadd] at this
    exact this
end
end Go.Proofs.Ytacellaeepngkaa
