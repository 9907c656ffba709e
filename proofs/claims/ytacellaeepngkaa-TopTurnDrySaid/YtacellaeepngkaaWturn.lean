/- within of one package. -/
import Derived.Test.YtacellaeepngkaaA1
namespace Go.Proofs.Ytacellaeepngkaa
set_option linter.unusedVariables false
set_option linter.unusedSimpArgs false
open Go.RowKit

set_option maxHeartbeats 400000 in
theorem turn_within_1 (x lo hi : Int) (a1 a2 : Addr) (w : World) (h1 : w.cell? a1 = some (.int .i64 lo)) (h2 : w.cell? a2 = some (.int .i64 hi)) :
    Calls Try.prog 112 #[.int .i64 x, .pointer (some a1), .pointer (some a2)] w fun e w' => e = .returned (.bool (decide (x < lo) || decide (hi < x))) ∧ Below w.heap.size w w' := by
  go_enter Try.func112, Try.ntmps112
  go_wp2
  all_goals go_ret
  all_goals exact ⟨ret_v (by simp [*]), Below.refl _ _⟩

set_option maxHeartbeats 400000 in
theorem turn_within (lo hi : Int) (A : Option Addr) (c : Nat) (zs : List Int) (w : World) (hz : Sl w A 1 encI zs) (hm : zs.length ≤ 9223372036854775807) :
    Calls Try.prog 68 #[.int .i64 lo, .int .i64 hi, .slice A zs.length c] w fun e w' => e = .returned (.bool (inB lo hi zs)) ∧ Below w.heap.size w w' := by
  go_enter Try.func68, Try.ntmps68
  go_wp2_with fail
  have hb : Below w.heap.size w ((w.alloc (.cells #[.int .i64 lo] 3)).alloc (.cells #[.int .i64 hi] 3)) := ((Below.refl _ _).alloc (Nat.le_refl _) _).alloc (by simp) _
  refine (contains_int 112 _ (fun x => decide (x < lo) || decide (hi < x)) A c zs _ (enters_of Try.func112 (by kernel_rfl) rfl) ?_ (hz.below hb) hm).mono ?_
  · intro W x hW
    refine (turn_within_1 x lo hi _ _ W ?_ ?_)
    · rw [hW.cell (by simp; omega)]; go_simp
    · rw [hW.cell (by simp)]; go_simp
  rintro e w' ⟨rfl, hb'⟩
  go_wp2
  go_ret
  exact ⟨retB rfl (inB_not lo hi zs), hb.trans (hb'.mono hb.size)⟩


theorem turn_within1 {lo hi x : Int} {b : Nat} {w : World} (hl : b < w.heap.size) (h : w.cell? ⟨b, 0, none⟩ = some (.int .i64 x)) (hx : lo ≤ x ∧ x ≤ hi) :
    Calls Try.prog 68 #[.int .i64 lo, .int .i64 hi, .slice (some ⟨b, 0, none⟩) 1 1] w fun e w' => e = .returned (.bool true) ∧ Below w.heap.size w w' :=
  (turn_within lo hi (some ⟨b, 0, none⟩) 1 [x] w (Sl.one hl h) (by simp)).mono fun _ _ ⟨he, hb⟩ => ⟨by rw [he]; simp [inB, hx], hb⟩

theorem turn_within2 {lo hi x y : Int} {b : Nat} {w : World} (hl : b < w.heap.size) (h : w.cell? ⟨b, 0, none⟩ = some (.int .i64 x)) (h' : w.cell? ⟨b, 1, none⟩ = some (.int .i64 y)) (hx : lo ≤ x ∧ x ≤ hi) (hy : lo ≤ y ∧ y ≤ hi) :
    Calls Try.prog 68 #[.int .i64 lo, .int .i64 hi, .slice (some ⟨b, 0, none⟩) 2 2] w fun e w' => e = .returned (.bool true) ∧ Below w.heap.size w w' :=
  (turn_within lo hi (some ⟨b, 0, none⟩) 2 [x, y] w (Sl.ints hl fun i z hi => by match i, hi with | 0, hi => cases hi; simpa using h | 1, hi => cases hi; simpa using h') (by simp)).mono fun _ _ ⟨he, hb⟩ => ⟨by rw [he]; simp [inB, hx, hy], hb⟩

end Go.Proofs.Ytacellaeepngkaa
