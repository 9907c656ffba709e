/- slices.IndexFunc, slices.ContainsFunc at api.TurnCloth. -/
import Derived.Test.YtacellaeepngkaaA1
namespace Go.Proofs.Ytacellaeepngkaa
set_option linter.unusedVariables false
set_option linter.unusedSimpArgs false
open Go.RowKit Go.Shelf

set_option maxHeartbeats 1000000 in
theorem index_tc {α : Type} (v0 v1 v2 v3 : α → Value) (g : Nat) (lb : Array Value) (p : α → Bool) (A : Option Addr) (c : Nat) (zs : List α) (w : World)
    (eg : ∀ args w, (callFunc g args).run Try.prog w = .ok (.enter g args) w) (hp : Pred g lb (fun x => .agg #[v0 x, v1 x, v2 x, v3 x]) p w) (hz : Sl w A 4 (fun x => [v0 x, v1 x, v2 x, v3 x]) zs) (hm : zs.length ≤ 9223372036854775807) :
    Calls Try.prog 156 #[.slice A zs.length c, .func (.func g) #[] lb] w fun e w' => e = .returned (.int .i64 (fidx p zs)) ∧ Below w.heap.size w w' := by
  go_enter Try.func156, Try.ntmps156
  go_wp2
  go_loopw [5, 8] (fun _ i wr => ∃ k : Nat, k ≤ zs.length ∧ i = .int .i64 k ∧ Below w.heap.size w wr ∧ ∀ j y, j < k → zs[j]? = some y → p y = false) (fun _ i _ => zs.length - (intOf i).toNat)
  case atStart => exact ⟨0, Nat.zero_le _, rfl, Below.refl _ _, fun j y h => absurd h (Nat.not_lt_zero _)⟩
  case round =>
    obtain ⟨k, hk, rfl, hb, hn⟩ := hrel
    by_cases hlt : k < zs.length
    · have hl : (k : Int) < (zs.length : Int) := by omega
      obtain ⟨b, off, rfl, hbl, hc⟩ := hz (by omega)
      have x0 : wr.cell? ⟨b, off + k * 4, none⟩ = some (v0 zs[k]) := by
        have h := hc k zs[k] (List.getElem?_eq_getElem hlt) 0 _ rfl
        rw [hb.cell (p := ⟨b, _, none⟩) hbl]; exact h
      have x1 : wr.cell? ⟨b, off + k * 4 + 1, none⟩ = some (v1 zs[k]) := by
        have h := hc k zs[k] (List.getElem?_eq_getElem hlt) 1 _ rfl
        rw [hb.cell (p := ⟨b, _, none⟩) hbl]; exact h
      have x2 : wr.cell? ⟨b, off + k * 4 + 2, none⟩ = some (v2 zs[k]) := by
        have h := hc k zs[k] (List.getElem?_eq_getElem hlt) 2 _ rfl
        rw [hb.cell (p := ⟨b, _, none⟩) hbl]; exact h
      have x3 : wr.cell? ⟨b, off + k * 4 + 3, none⟩ = some (v3 zs[k]) := by
        have h := hc k zs[k] (List.getElem?_eq_getElem hlt) 3 _ rfl
        rw [hb.cell (p := ⟨b, _, none⟩) hbl]; exact h
      have hcall := hp wr zs[k] hb
      clear hc hp
      cases hq : p zs[k] with
      | true =>
        rw [hq] at hcall
        go_wp2_with (go_at_fn g; refine hcall.mono ?_; rintro e w' ⟨rfl, hb'⟩)
        go_ret
        refine ⟨ret_v ?_, hb.trans (hb'.mono hb.size)⟩
        rw [fidx_hit p zs k zs[k] (List.getElem?_eq_getElem hlt) hq hn]; rfl
      | false =>
        rw [hq] at hcall
        go_wp2_with (go_at_fn g; refine hcall.mono ?_; rintro e w' ⟨rfl, hb'⟩)
        go_roundw
        case rel =>
          refine ⟨k + 1, by omega, by go_num, hb.trans (hb'.mono hb.size), fun j y hj hy => ?_⟩
          by_cases e : j = k
          · subst e; rw [List.getElem?_eq_getElem hlt] at hy; cases hy; exact hq
          · exact hn j y (by omega) hy
        case measure => simp [intOf]; omega
    · have hl : ¬ (k : Int) < (zs.length : Int) := by omega
      clear hz hp
      go_wp2
      go_ret
      refine ⟨ret_v ?_, hb⟩
      rw [fidx_miss p zs (fun j y hj hy => hn j y (by omega) hy)]; rfl

set_option maxHeartbeats 400000 in
theorem contains_tc {α : Type} (v0 v1 v2 v3 : α → Value) (g : Nat) (lb : Array Value) (p : α → Bool) (A : Option Addr) (c : Nat) (zs : List α) (w : World)
    (eg : ∀ args w, (callFunc g args).run Try.prog w = .ok (.enter g args) w) (hp : Pred g lb (fun x => .agg #[v0 x, v1 x, v2 x, v3 x]) p w) (hz : Sl w A 4 (fun x => [v0 x, v1 x, v2 x, v3 x]) zs) (hm : zs.length ≤ 9223372036854775807) :
    Calls Try.prog 111 #[.slice A zs.length c, .func (.func g) #[] lb] w fun e w' => e = .returned (.bool (zs.any p)) ∧ Below w.heap.size w w' := by
  have h := index_tc v0 v1 v2 v3 g lb p A c zs w eg hp hz hm
  clear hp hz
  go_enter Try.func111, Try.ntmps111
  go_wp2_with (go_at_call 156; refine h.mono ?_; rintro e w' ⟨rfl, hb⟩)
  go_ret
  exact ⟨ret_v (by rw [← fidx_any]; rfl), hb⟩

/-- Only the elements of the list are asked. -/
theorem contains_tc_none {α : Type} (v0 v1 v2 v3 : α → Value) (g : Nat) (lb : Array Value) (A : Option Addr) (c : Nat) (zs : List α) (w : World)
    (eg : ∀ args w, (callFunc g args).run Try.prog w = .ok (.enter g args) w) (hp : ∀ W x, x ∈ zs → Below w.heap.size w W → Calls Try.prog g (#[.agg #[v0 x, v1 x, v2 x, v3 x]] ++ lb) W fun e w' => e = .returned (.bool false) ∧ Below W.heap.size W w') (hz : Sl w A 4 (fun x => [v0 x, v1 x, v2 x, v3 x]) zs) (hm : zs.length ≤ 9223372036854775807) :
    Calls Try.prog 111 #[.slice A zs.length c, .func (.func g) #[] lb] w fun e w' => e = .returned (.bool false) ∧ Below w.heap.size w w' := by
  have hz' : Sl w A 4 (fun x : {x // x ∈ zs} => [v0 x.1, v1 x.1, v2 x.1, v3 x.1]) zs.attach := by
    intro h
    obtain ⟨b, off, e, hl, hc⟩ := hz (by simpa using h)
    refine ⟨b, off, e, hl, fun i x hi => hc i x.1 ?_⟩
    rw [List.getElem?_attach] at hi
    simp only [Option.pmap_eq_some_iff] at hi
    obtain ⟨a, h1, h2, rfl⟩ := hi
    exact h2
  have h := contains_tc (fun x : {x // x ∈ zs} => v0 x.1) (fun x : {x // x ∈ zs} => v1 x.1) (fun x : {x // x ∈ zs} => v2 x.1) (fun x : {x // x ∈ zs} => v3 x.1) g lb (fun _ => false) A c zs.attach w eg (fun W x hW => hp W x.1 x.2 hW) hz' (by simpa using hm)
  simp only [List.length_attach] at h
  refine h.mono fun _ _ ⟨he, hb⟩ => ⟨?_, hb⟩
  rw [he]; simp

end Go.Proofs.Ytacellaeepngkaa
