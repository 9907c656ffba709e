/- turn.open at valid days; turn.Order. -/
import Derived.Test.YtacellaeepngkaaD1
namespace Go.Proofs.Ytacellaeepngkaa
set_option linter.unusedVariables false
set_option linter.unusedSimpArgs false
open Go.RowKit Go.Shelf

set_option maxHeartbeats 1000000 in
theorem turn_open (cs : List TC) (rk : List Int) (hd : DayOk cs rk) (s m : Int) (hs : 1 ≤ s ∧ s ≤ 5) (hm : 0 ≤ m ∧ m ≤ 500) (A A2 : Option Addr) (cap cap2 : Nat) (w : World) (hz : Sl w A 4 encTC cs) (hr : Sl w A2 1 encI rk) :
    Calls Try.prog 36 #[.agg #[.slice A cs.length cap, .slice A2 rk.length cap2], .int .i64 s, .int .i64 m] w fun e w' => e = .returned (.tuple #[.agg #[.slice A cs.length cap, .slice A2 rk.length cap2], .int .i64 0]) ∧ Below w.heap.size w w' := by
  go_enter Try.func36, Try.ntmps36
  go_wp2_with fail
  refine (turn_Check cs rk hd A A2 cap cap2 _ (hz.below (by repeat (first | with_reducible exact Below.refl _ _ | with_reducible assumption | with_reducible refine Below.al ?_ _ | with_reducible refine Below.drew ?_ | with_reducible refine Below.st ?_ (by first | (simp; done) | assumption | (simp; omega)) _ | with_reducible refine Below.call ?_ (by with_reducible assumption) | exact Below.refl _ _ | assumption | refine Below.al ?_ _ | refine Below.drew ?_ | refine Below.call ?_ (by assumption) | refine Below.st ?_ (by first | (simp; done) | assumption | (simp; omega)) _))) (hr.below (by repeat (first | with_reducible exact Below.refl _ _ | with_reducible assumption | with_reducible refine Below.al ?_ _ | with_reducible refine Below.drew ?_ | with_reducible refine Below.st ?_ (by first | (simp; done) | assumption | (simp; omega)) _ | with_reducible refine Below.call ?_ (by with_reducible assumption) | exact Below.refl _ _ | assumption | refine Below.al ?_ _ | refine Below.drew ?_ | refine Below.call ?_ (by assumption) | refine Below.st ?_ (by first | (simp; done) | assumption | (simp; omega)) _)))).mono ?_
  rintro e w1 ⟨rfl, hb1⟩
  have c1_0 := fun o => hb1.cell (p := ⟨w.heap.size, o, none⟩) (by first | omega | (simp; done) | (simp; omega)); have f1_0 := fun o => hb1.frozen (p := ⟨w.heap.size, o, none⟩) (by first | omega | (simp; done) | (simp; omega)); have z1_0 : w.heap.size < w1.heap.size := (by have h := hb1.size; first | omega | (simp at h; omega)); have c1_1 := fun o => hb1.cell (p := ⟨(w.heap.size+1), o, none⟩) (by first | omega | (simp; done) | (simp; omega)); have f1_1 := fun o => hb1.frozen (p := ⟨(w.heap.size+1), o, none⟩) (by first | omega | (simp; done) | (simp; omega)); have z1_1 : (w.heap.size+1) < w1.heap.size := (by have h := hb1.size; first | omega | (simp at h; omega))
  go_wp2_with fail
  refine (turn_within1 (x := s) (by simp) (by go_simp) hs).mono ?_
  rintro e w2 ⟨rfl, hb2⟩
  have c2_0 := fun o => hb2.cell (p := ⟨w.heap.size, o, none⟩) (by first | omega | (simp; done) | (simp; omega)); have f2_0 := fun o => hb2.frozen (p := ⟨w.heap.size, o, none⟩) (by first | omega | (simp; done) | (simp; omega)); have z2_0 : w.heap.size < w2.heap.size := (by have h := hb2.size; first | omega | (simp at h; omega)); have c2_1 := fun o => hb2.cell (p := ⟨(w.heap.size+1), o, none⟩) (by first | omega | (simp; done) | (simp; omega)); have f2_1 := fun o => hb2.frozen (p := ⟨(w.heap.size+1), o, none⟩) (by first | omega | (simp; done) | (simp; omega)); have z2_1 : (w.heap.size+1) < w2.heap.size := (by have h := hb2.size; first | omega | (simp at h; omega))
  go_wp2_with fail
  refine (turn_within1 (x := m) (by simp) (by go_simp) hm).mono ?_
  rintro e w3 ⟨rfl, hb3⟩
  have c3_0 := fun o => hb3.cell (p := ⟨w.heap.size, o, none⟩) (by first | omega | (simp; done) | (simp; omega)); have f3_0 := fun o => hb3.frozen (p := ⟨w.heap.size, o, none⟩) (by first | omega | (simp; done) | (simp; omega)); have z3_0 : w.heap.size < w3.heap.size := (by have h := hb3.size; first | omega | (simp at h; omega)); have c3_1 := fun o => hb3.cell (p := ⟨(w.heap.size+1), o, none⟩) (by first | omega | (simp; done) | (simp; omega)); have f3_1 := fun o => hb3.frozen (p := ⟨(w.heap.size+1), o, none⟩) (by first | omega | (simp; done) | (simp; omega)); have z3_1 : (w.heap.size+1) < w3.heap.size := (by have h := hb3.size; first | omega | (simp at h; omega))
  have k0 : w3.cell? ⟨w.heap.size + 1, 0, none⟩ = some (.slice none 0 0) := by go_simp
  have k1 : w3.cell? ⟨w.heap.size + 1, 1, none⟩ = some (.slice none 0 0) := by go_simp
  go_wp2
  exact bodyPost_ret (v := .tuple #[.agg #[.slice A cs.length cap, .slice A2 rk.length cap2], .int .i64 0]) (by simp [results, Try.results36, go_sem, k0, k1]) rfl ⟨rfl, (by repeat (first | with_reducible exact Below.refl _ _ | with_reducible assumption | with_reducible refine Below.al ?_ _ | with_reducible refine Below.drew ?_ | with_reducible refine Below.st ?_ (by first | (simp; done) | assumption | (simp; omega)) _ | with_reducible refine Below.call ?_ (by with_reducible assumption) | exact Below.refl _ _ | assumption | refine Below.al ?_ _ | refine Below.drew ?_ | refine Below.call ?_ (by assumption) | refine Below.st ?_ (by first | (simp; done) | assumption | (simp; omega)) _))⟩
end Go.Proofs.Ytacellaeepngkaa
