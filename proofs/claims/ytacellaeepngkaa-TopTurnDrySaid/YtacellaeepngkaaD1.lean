/- turn.isOrder, turn.Check, turn.open at valid days. -/
import Derived.Test.YtacellaeepngkaaS4
import Derived.Test.YtacellaeepngkaaT1
import Derived.Test.YtacellaeepngkaaCtc
namespace Go.Proofs.Ytacellaeepngkaa
set_option linter.unusedVariables false
set_option linter.unusedSimpArgs false
open Go.RowKit Go.Shelf

/-- A list has each number below its length once. -/
def isPerm (l : List Int) : Prop := l.Perm ((List.range l.length).map fun (i : Nat) => (i : Int))

set_option maxHeartbeats 1000000 in
theorem turn_isOrder (l : List Int) (hp : isPerm l) (hlen : l.length ≤ 12) (A : Option Addr) (cap : Nat) (w : World) (hz : Sl w A 1 encI l) :
    Calls Try.prog 110 #[.slice A l.length cap, .int .i64 l.length] w fun e w' => e = .returned (.bool true) ∧ Below w.heap.size w w' := by
  have hsr := sortI_range l hp
  go_enter Try.func110, Try.ntmps110
  go_wp2_with fail
  refine (values_int A l.length cap w).mono ?_
  rintro e w1 ⟨rfl, rfl⟩
  go_wp2_with fail
  have HB : Below w.heap.size w (w.alloc (.cells #[.slice A l.length cap] 29)) := (by repeat (first | with_reducible exact Below.refl _ _ | with_reducible assumption | with_reducible refine Below.al ?_ _ | with_reducible refine Below.drew ?_ | with_reducible refine Below.st ?_ (by first | (simp; done) | assumption | (simp; omega)) _ | with_reducible refine Below.call ?_ (by with_reducible assumption) | exact Below.refl _ _ | assumption | refine Below.al ?_ _ | refine Below.drew ?_ | refine Below.call ?_ (by assumption) | refine Below.st ?_ (by first | (simp; done) | assumption | (simp; omega)) _))
  have hit := values_iter w.heap.size w.heap.size A cap l (by omega) (w.alloc (.cells #[.slice A l.length cap] 29)) (by simp) (by simp) (by go_simp)
    (fun h => by
      obtain ⟨b, off, e, hb, hc⟩ := hz h
      exact ⟨b, off, e, hb, fun i x hx => by have := HB.rdcell hb ((hc i x hx).cell 0 rfl); simpa using this⟩)
  refine (sorted_int w.heap.size _ _ (enters_of Try.func190 (by kernel_rfl) rfl) l hlen _ (by simp) hit).mono ?_
  rintro e w2 ⟨⟨v, rfl, hv⟩, hb2⟩
  obtain ⟨⟨A2, cap2, rfl, hz2⟩, -⟩ := hv
  have HB2 := HB.call hb2
  clear hit HB hz hp hb2
  rw [sortI_length]
  rw [hsr] at hz2
  clear hsr
  go_wp2_with fail
  go_loop [6, 7, 13] (fun _ _ k => ∃ q : Nat, q ≤ l.length ∧ k = .int .i64 q) (fun _ _ k => l.length - (intOf k).toNat)
  case atStart => exact ⟨0, Nat.zero_le _, rfl⟩
  case round =>
    obtain ⟨q, hq, rfl⟩ := hrel
    by_cases hlt : q < l.length
    · have hqz : (q : Int) < (l.length : Int) := by omega
      obtain ⟨b, off, rfl, hbl, hc⟩ := hz2 (by simp; omega)
      have hx := (hc q (q : Int) (by simp [hlt])).cell 0 rfl
      simp only [Nat.add_zero, Nat.mul_one] at hx
      clear hc hz2
      go_wp2
      go_round
      case rel => exact ⟨q + 1, by omega, by go_num⟩
      case measure => simp [intOf]; omega
    · have hqz : ¬ (q : Int) < (l.length : Int) := by omega
      clear hz2
      go_wp2
      go_ret
      exact ⟨retB rfl (by simp), HB2⟩

/-- A day that is valid. -/
structure DayOk (cs : List TC) (rk : List Int) : Prop where
  few : cs.length ≤ 10
  ranks : 1 ≤ rk.length ∧ rk.length ≤ 6
  perm : isPerm rk
  cloths : ∀ c ∈ cs, c.ok rk.length

theorem DayOk.rb {cs : List TC} {rk : List Int} (h : DayOk cs rk) : ∀ r ∈ rk, 0 ≤ r ∧ r < 10 := by
  intro r hr
  have := h.perm.mem_iff.1 hr
  simp only [List.mem_map, List.mem_range] at this
  obtain ⟨i, hi, rfl⟩ := this
  have := h.ranks.2
  omega

set_option maxHeartbeats 1000000 in
theorem turn_Check (cs : List TC) (rk : List Int) (hd : DayOk cs rk) (A A2 : Option Addr) (cap cap2 : Nat) (w : World) (hz : Sl w A 4 encTC cs) (hr : Sl w A2 1 encI rk) :
    Calls Try.prog 67 #[.agg #[.slice A cs.length cap, .slice A2 rk.length cap2]] w fun e w' => e = .returned (.int .i64 0) ∧ Below w.heap.size w w' := by
  have hf := hd.few
  have ⟨h1, h2⟩ := hd.ranks
  go_enter Try.func67, Try.ntmps67
  go_wp2_with fail
  refine (turn_within1 (x := (rk.length : Int)) (by simp) (by go_simp) (by omega)).mono ?_
  rintro e w1 ⟨rfl, hb1⟩
  have c1_0 := fun o => hb1.cell (p := ⟨w.heap.size, o, none⟩) (by first | omega | (simp; done) | (simp; omega)); have f1_0 := fun o => hb1.frozen (p := ⟨w.heap.size, o, none⟩) (by first | omega | (simp; done) | (simp; omega)); have z1_0 : w.heap.size < w1.heap.size := (by have h := hb1.size; first | omega | (simp at h; omega))
  go_wp2_with fail
  refine (turn_isOrder rk hd.perm (by omega) A2 cap2 w1 (hr.below (by repeat (first | with_reducible exact Below.refl _ _ | with_reducible assumption | with_reducible refine Below.al ?_ _ | with_reducible refine Below.drew ?_ | with_reducible refine Below.st ?_ (by first | (simp; done) | assumption | (simp; omega)) _ | with_reducible refine Below.call ?_ (by with_reducible assumption) | exact Below.refl _ _ | assumption | refine Below.al ?_ _ | refine Below.drew ?_ | refine Below.call ?_ (by assumption) | refine Below.st ?_ (by first | (simp; done) | assumption | (simp; omega)) _)))).mono ?_
  rintro e w2 ⟨rfl, hb2⟩
  have c2_0 := fun o => hb2.cell (p := ⟨w.heap.size, o, none⟩) (by first | omega | (simp; done) | (simp; omega)); have f2_0 := fun o => hb2.frozen (p := ⟨w.heap.size, o, none⟩) (by first | omega | (simp; done) | (simp; omega)); have z2_0 : w.heap.size < w2.heap.size := (by have h := hb2.size; first | omega | (simp at h; omega))
  have hten : decide ((cs.length : Int) > 10) = false := by simp; omega
  go_wp2_with fail
  have HB : Below w.heap.size w w2 := (by repeat (first | with_reducible exact Below.refl _ _ | with_reducible assumption | with_reducible refine Below.al ?_ _ | with_reducible refine Below.drew ?_ | with_reducible refine Below.st ?_ (by first | (simp; done) | assumption | (simp; omega)) _ | with_reducible refine Below.call ?_ (by with_reducible assumption) | exact Below.refl _ _ | assumption | refine Below.al ?_ _ | refine Below.drew ?_ | refine Below.call ?_ (by assumption) | refine Below.st ?_ (by first | (simp; done) | assumption | (simp; omega)) _))
  refine (contains_tc_none (α := TC) (fun c => .int .i64 c.wv) (fun c => .int .i64 c.comes) (fun c => .int .i64 c.lo) (fun c => .int .i64 c.hi) 109 _ A cap cs w2 (enters_of Try.func109 (by kernel_rfl) rfl) ?_ (hz.below HB) (by omega)).mono ?_
  · intro W x hx hW
    refine turn_Check_1 x w.heap.size rk.length (.slice A cs.length cap) A2 cap2 W (Nat.lt_of_lt_of_le z2_0 hW.size) ?_ (hd.cloths x hx) h2
    rw [hW.cell (p := ⟨w.heap.size, 1, none⟩) z2_0]
    go_simp
  rintro e w3 ⟨rfl, hb3⟩
  go_wp2
  go_ret
  exact ⟨rfl, HB.call hb3⟩
end Go.Proofs.Ytacellaeepngkaa
