/- slices.IndexFunc, slices.ContainsFunc at integers; within. -/
import Derived.Test.YtacellaeepngkaaA0
namespace Go.Proofs.Ytacellaeepngkaa
set_option linter.unusedVariables false
set_option linter.unusedSimpArgs false
open Go.RowKit

theorem fidx_hit {α : Type} (p : α → Bool) (xs : List α) (k : Nat) (x : α) (hx : xs[k]? = some x) (hp : p x = true) (hn : ∀ j y, j < k → xs[j]? = some y → p y = false) : fidx p xs = k := by
  unfold fidx
  have : xs.findIdx? p = some k := by
    rw [List.findIdx?_eq_some_iff_getElem]
    obtain ⟨hk, rfl⟩ := List.getElem?_eq_some_iff.1 hx
    exact ⟨hk, hp, fun j hj => by simpa using hn j _ hj (List.getElem?_eq_getElem (by omega))⟩
  rw [this]

theorem fidx_miss {α : Type} (p : α → Bool) (xs : List α) (hn : ∀ j y, j < xs.length → xs[j]? = some y → p y = false) : fidx p xs = -1 := by
  unfold fidx
  have : xs.findIdx? p = none := by
    rw [List.findIdx?_eq_none_iff]
    intro x hx
    obtain ⟨j, hj, rfl⟩ := List.mem_iff_getElem.1 hx
    exact hn j _ hj (List.getElem?_eq_getElem hj)
  rw [this]

theorem fidx_any {α : Type} (p : α → Bool) (xs : List α) : decide (0 ≤ fidx p xs) = xs.any p := by
  unfold fidx
  cases h : xs.findIdx? p with
  | none =>
    rw [List.findIdx?_eq_none_iff] at h
    have : xs.any p = false := by simpa using h
    simp [this]
  | some i =>
    rw [List.findIdx?_eq_some_iff_getElem] at h
    obtain ⟨hi, hp, _⟩ := h
    have : xs.any p = true := List.any_eq_true.2 ⟨_, List.getElem_mem hi, hp⟩
    simp [this]

set_option maxHeartbeats 400000 in
theorem index_int (g : Nat) (lb : Array Value) (p : Int → Bool) (A : Option Addr) (c : Nat) (zs : List Int) (w : World)
    (eg : ∀ args w, (callFunc g args).run Try.prog w = .ok (.enter g args) w) (hp : Pred g lb (fun x => .int .i64 x) p w) (hz : Sl w A 1 encI zs) (hm : zs.length ≤ 9223372036854775807) :
    Calls Try.prog 132 #[.slice A zs.length c, .func (.func g) #[] lb] w fun e w' => e = .returned (.int .i64 (fidx p zs)) ∧ Below w.heap.size w w' := by
  go_enter Try.func132, Try.ntmps132
  go_wp2
  go_loopw [5, 8] (fun _ i wr => ∃ k : Nat, k ≤ zs.length ∧ i = .int .i64 k ∧ Below w.heap.size w wr ∧ ∀ j y, j < k → zs[j]? = some y → p y = false) (fun _ i _ => zs.length - (intOf i).toNat)
  case atStart => exact ⟨0, Nat.zero_le _, rfl, Below.refl _ _, fun j y h => absurd h (Nat.not_lt_zero _)⟩
  case round =>
    obtain ⟨k, hk, rfl, hb, hn⟩ := hrel
    by_cases hlt : k < zs.length
    · have hl : (k : Int) < (zs.length : Int) := by omega
      obtain ⟨b, off, rfl, hbl, hc⟩ := hz (by omega)
      have hx := hc k zs[k] (List.getElem?_eq_getElem hlt) 0 _ rfl
      have hx' : wr.cell? ⟨b, off + k, none⟩ = some (.int .i64 zs[k]) := by
        rw [hb.cell (p := ⟨b, off + k, none⟩) hbl]; simpa using hx
      have hcall := hp wr zs[k] hb
      clear hx hc hp
      cases hq : p zs[k] with
      | true =>
        rw [hq] at hcall
        go_wp2_with (go_at_fn g; refine hcall.mono ?_; rintro e w' ⟨rfl, hb'⟩)
        go_ret
        refine ⟨ret_v ?_, hb.trans (hb'.mono hb.size)⟩
        rw [fidx_hit p zs k zs[k] (List.getElem?_eq_getElem hlt) hq hn]; rfl
      | false =>
        rw [hq] at hcall
        go_wp2_with (go_at_fn g; refine hcall.mono ?_; rintro e w' ⟨rfl, hb'⟩)
        go_roundw
        case rel =>
          refine ⟨k + 1, by omega, by go_num, hb.trans (hb'.mono hb.size), fun j y hj hy => ?_⟩
          by_cases e : j = k
          · subst e; rw [List.getElem?_eq_getElem hlt] at hy; cases hy; exact hq
          · exact hn j y (by omega) hy
        case measure => simp [intOf]; omega
    · have hl : ¬ (k : Int) < (zs.length : Int) := by omega
      clear hz hp
      go_wp2
      go_ret
      refine ⟨ret_v ?_, hb⟩
      rw [fidx_miss p zs (fun j y hj hy => hn j y (by omega) hy)]; rfl

set_option maxHeartbeats 400000 in
theorem contains_int (g : Nat) (lb : Array Value) (p : Int → Bool) (A : Option Addr) (c : Nat) (zs : List Int) (w : World)
    (eg : ∀ args w, (callFunc g args).run Try.prog w = .ok (.enter g args) w) (hp : Pred g lb (fun x => .int .i64 x) p w) (hz : Sl w A 1 encI zs) (hm : zs.length ≤ 9223372036854775807) :
    Calls Try.prog 86 #[.slice A zs.length c, .func (.func g) #[] lb] w fun e w' => e = .returned (.bool (zs.any p)) ∧ Below w.heap.size w w' := by
  have h := index_int g lb p A c zs w eg hp hz hm
  clear hp hz
  go_enter Try.func86, Try.ntmps86
  go_wp2_with (go_at_call 132; refine h.mono ?_; rintro e w' ⟨rfl, hb⟩)
  go_ret
  exact ⟨ret_v (by rw [← fidx_any]; rfl), hb⟩

/-- Is each number between two others. -/
def inB (lo hi : Int) (zs : List Int) : Bool := zs.all fun n => decide (lo ≤ n) && decide (n ≤ hi)

theorem inB_not (lo hi : Int) (zs : List Int) : (!zs.any fun x => decide (x < lo) || decide (hi < x)) = inB lo hi zs := by
  unfold inB
  rw [List.all_eq_not_any_not]
  congr 2
  funext n
  by_cases h1 : n < lo <;> by_cases h2 : hi < n <;> simp [h1, h2, Int.not_lt.1, Int.not_le.2] <;> omega

end Go.Proofs.Ytacellaeepngkaa
