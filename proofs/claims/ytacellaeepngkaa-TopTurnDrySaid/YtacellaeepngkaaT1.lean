/- turn.Check and what it calls. -/
import Derived.Test.YtacellaeepngkaaWturn
import Derived.Test.YtacellaeepngkaaP1
namespace Go.Proofs.Ytacellaeepngkaa
set_option linter.unusedVariables false
set_option linter.unusedSimpArgs false
open Go.RowKit Go.Shelf

set_option maxHeartbeats 400000 in
theorem turn_Check_1 (c : TC) (B : Nat) (nr : Nat) (vc : Value) (A : Option Addr) (cap : Nat) (w : World) (hB : B < w.heap.size) (h0 : w.cell? ⟨B, 1, none⟩ = some (.slice A nr cap)) (hc : c.ok nr) (hnr : nr ≤ 6) :
    Calls Try.prog 109 #[.agg (encTC c).toArray, .pointer (some ⟨B, 0, none⟩)] w fun e w' => e = .returned (.bool false) ∧ Below w.heap.size w w' := by
  obtain ⟨wv, co, lo, hi⟩ := c
  obtain ⟨a1, a2, a3, a4, a5, a6, a7⟩ := hc
  simp only at a1 a2 a3 a4 a5 a6 a7
  unfold encTC
  go_enter Try.func109, Try.ntmps109
  go_wp2_with fail
  refine (turn_within1 (x := wv) (by simp) (by go_simp) (by omega)).mono ?_
  rintro e w1 ⟨rfl, hb1⟩
  have k0 : w1.cell? ⟨w.heap.size, 1, none⟩ = some (.int .i64 co) := by rw [hb1.cell (by simp; omega)]; go_simp
  have k1 : w1.cell? ⟨w.heap.size, 2, none⟩ = some (.int .i64 lo) := by rw [hb1.cell (by simp; omega)]; go_simp
  have k2 : w1.cell? ⟨w.heap.size, 3, none⟩ = some (.int .i64 hi) := by rw [hb1.cell (by simp; omega)]; go_simp
  have z1 : w.heap.size < w1.heap.size := by have := hb1.size; simp at this; omega
  go_wp2_with fail
  refine (turn_within1 (x := co) (by simp) (by go_simp) (by omega)).mono ?_
  rintro e w2 ⟨rfl, hb2⟩
  have l1 : w2.cell? ⟨w.heap.size, 2, none⟩ = some (.int .i64 lo) := by rw [hb2.cell (by simp; omega)]; go_simp
  have l2 : w2.cell? ⟨w.heap.size, 3, none⟩ = some (.int .i64 hi) := by rw [hb2.cell (by simp; omega)]; go_simp
  have z2 : w.heap.size < w2.heap.size := by have := hb2.size; simp at this; omega
  go_wp2_with fail
  refine (turn_within2 (x := lo) (y := hi) (by simp) (by go_simp) (by go_simp) (by omega) (by omega)).mono ?_
  rintro e w3 ⟨rfl, hb3⟩
  have m1 : w3.cell? ⟨w.heap.size, 2, none⟩ = some (.int .i64 lo) := by rw [hb3.cell (by simp; omega)]; go_simp
  have m2 : w3.cell? ⟨w.heap.size, 3, none⟩ = some (.int .i64 hi) := by rw [hb3.cell (by simp; omega)]; go_simp
  go_wp2
  go_ret
  exact ⟨retB rfl (by simp; omega), (by repeat (first | with_reducible exact Below.refl _ _ | with_reducible assumption | with_reducible refine Below.al ?_ _ | with_reducible refine Below.drew ?_ | with_reducible refine Below.st ?_ (by first | (simp; done) | assumption | (simp; omega)) _ | with_reducible refine Below.call ?_ (by with_reducible assumption) | exact Below.refl _ _ | assumption | refine Below.al ?_ _ | refine Below.drew ?_ | refine Below.call ?_ (by assumption) | refine Below.st ?_ (by first | (simp; done) | assumption | (simp; omega)) _))⟩
end Go.Proofs.Ytacellaeepngkaa
