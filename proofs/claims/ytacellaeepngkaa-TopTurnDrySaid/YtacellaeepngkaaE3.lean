/- tenter: dried, dry, late. -/
import Derived.Test.YtacellaeepngkaaE2
import Derived.Test.YtacellaeepngkaaTU
namespace Go.Proofs.Ytacellaeepngkaa
set_option linter.unusedVariables false
set_option linter.unusedSimpArgs false
open Go.RowKit Go.Shelf

/-- By which hour so much water has dried. -/
def driedF (en : Wx → Int) : List Wx → Int → Int → Int
  | [], h, wt => if wt ≤ 0 then h else h + 1
  | x :: l, h, wt => if wt ≤ 0 then h else driedF en l (h + 1) (wt - en x)

/-- How late a cloth can be hung. -/
def lateF (ws : List Wx) : Nat → Int → Int
  | 0, wt => if wt > 0 then -1 else 0
  | h + 1, wt => if wt ≤ 0 then (h + 1 : Nat) else lateF ws h (wt - (ws.getD h (0, 0)).1)

/-- A chooser of an end of the weather. -/
def PicksW (g : Nat) (en : Wx → Int) : Prop := ∀ (x : Wx) W, Calls Try.prog g #[.agg #[.int .i64 x.1, .int .i64 x.2]] W fun e w' => e = .returned (.int .i64 (en x)) ∧ Below W.heap.size W w'

theorem tenter_low : PicksW 80 Prod.fst := by
  intro c W
  go_enter Try.func80, Try.ntmps80
  go_wp2
  go_ret
  exact ⟨rfl, (by repeat (first | with_reducible exact Below.refl _ _ | with_reducible assumption | with_reducible refine Below.al ?_ _ | with_reducible refine Below.drew ?_ | with_reducible refine Below.st ?_ (by first | (simp; done) | assumption | (simp; omega)) _ | with_reducible refine Below.call ?_ (by with_reducible assumption) | exact Below.refl _ _ | assumption | refine Below.al ?_ _ | refine Below.drew ?_ | refine Below.call ?_ (by assumption) | refine Below.st ?_ (by first | (simp; done) | assumption | (simp; omega)) _))⟩

theorem tenter_high : PicksW 79 Prod.snd := by
  intro c W
  go_enter Try.func79, Try.ntmps79
  go_wp2
  go_ret
  exact ⟨rfl, (by repeat (first | with_reducible exact Below.refl _ _ | with_reducible assumption | with_reducible refine Below.al ?_ _ | with_reducible refine Below.drew ?_ | with_reducible refine Below.st ?_ (by first | (simp; done) | assumption | (simp; omega)) _ | with_reducible refine Below.call ?_ (by with_reducible assumption) | exact Below.refl _ _ | assumption | refine Below.al ?_ _ | refine Below.drew ?_ | refine Below.call ?_ (by assumption) | refine Below.st ?_ (by first | (simp; done) | assumption | (simp; omega)) _))⟩

theorem driedF_nil1 (en : Wx → Int) (h wt : Int) (hw : wt ≤ 0) : driedF en [] h wt = h := by simp [driedF, hw]
theorem driedF_nil2 (en : Wx → Int) (h wt : Int) (hw : ¬ wt ≤ 0) : driedF en [] h wt = h + 1 := if_neg hw

theorem driedF_step (en : Wx → Int) (ws : List Wx) (k : Nat) (h wt : Int) (hk : k < ws.length) (hw : ¬ wt ≤ 0) : driedF en (ws.drop k) h wt = driedF en (ws.drop (k + 1)) (h + 1) (wt - en ws[k]) := by
  rw [List.drop_eq_getElem_cons hk]
  simp [driedF, hw]

set_option maxRecDepth 100000 in
set_option maxHeartbeats 2000000 in
theorem tenter_dried (v v2 : Value) (A A2 A3 : Option Addr) (n n2 cap cap2 cap3 : Nat) (gap str : Int) (ws : List Wx) (hws : ws.length ≤ 1000) (hc3 : ws.length ≤ cap3) (from_ : Nat) (hfr : from_ ≤ ws.length) (water : Int) (hwt : -1000000 ≤ water ∧ water ≤ 1000000) (g : Nat) (en : Wx → Int) (hg : PicksW g en)
    (eg : ∀ args w, (callFunc g args).run Try.prog w = .ok (.enter g args) w) (hen : ∀ x ∈ ws, 0 ≤ en x ∧ en x ≤ 1000) (w : World) (hs : Sl w A3 2 encWx ws) :
    Calls Try.prog 78 #[.agg #[.slice A n cap, .slice A2 n2 cap2, .int .i64 gap, .int .i64 str, .slice A3 ws.length cap3], .int .i64 from_, .int .i64 water, .func (.func g) #[] #[]] w fun e w' =>
      e = .returned (.int .i64 (driedF en (ws.drop from_) from_ water)) ∧ Below w.heap.size w w' := by
  by_cases hfc : from_ < ws.length
  · obtain ⟨b, off, rfl, hbl, hc⟩ := hs (by omega)
    have hne : ¬ cap3 = from_ := by omega
    have hne2 : ¬ from_ = cap3 := by omega
    have hsub : ((ws.length - from_ : Nat) : Int) = (ws.length : Int) - from_ := by omega
    go_enter Try.func78, Try.ntmps78
    go_wp2
    refine name_world (fun W hW => ?_)
    have HB : Below w.heap.size w W := by rw [hW]; exact (by repeat (first | with_reducible exact Below.refl _ _ | with_reducible assumption | with_reducible refine Below.al ?_ _ | with_reducible refine Below.drew ?_ | with_reducible refine Below.st ?_ (by first | (simp; done) | assumption | (simp; omega)) _ | with_reducible refine Below.call ?_ (by with_reducible assumption) | exact Below.refl _ _ | assumption | refine Below.al ?_ _ | refine Below.drew ?_ | refine Below.call ?_ (by assumption) | refine Below.st ?_ (by first | (simp; done) | assumption | (simp; omega)) _))
    have hsW : w.heap.size < W.heap.size := by rw [hW]; simp
    have d0 : W.cell? ⟨w.heap.size, 4, none⟩ = some (.slice (some ⟨b, off, none⟩) ws.length cap3) := by rw [hW]; go_simp
    clear hW
    go_loopw [2, 9, 10, 16] (fun wt _ _ i wr => ∃ k : Nat, k ≤ ws.length - from_ ∧ i = .int .i64 k ∧ Below W.heap.size W wr ∧ ∃ q : Int, wt = .int .i64 q ∧ driedF en (ws.drop from_) from_ water = driedF en (ws.drop (from_ + k)) ((from_ + k : Nat) : Int) q ∧ q ≤ 1000000 ∧ -1000000 - 1000 * k ≤ q)
      (fun _ _ _ i _ => ws.length - (intOf i).toNat)
    case atStart => exact ⟨0, Nat.zero_le _, rfl, Below.refl _ _, water, rfl, by simp, hwt.2, by omega⟩
    case round =>
      obtain ⟨k, hk, rfl, hb, q, rfl, hq, hq1, hq2⟩ := hrel
      by_cases hlt : k < ws.length - from_
      · have hl : (k : Int) < ((ws.length - from_ : Nat) : Int) := by omega
        have hkl : from_ + k < ws.length := by omega
        have hoff : off + (from_ + k) * 2 = off + from_ * 2 + k * 2 := by omega
        have x0 := (HB.call hb).rdcell hbl ((hc (from_ + k) ws[from_ + k] (List.getElem?_eq_getElem hkl)).cell 0 rfl)
        have x1 := (HB.call hb).rdcell hbl ((hc (from_ + k) ws[from_ + k] (List.getElem?_eq_getElem hkl)).cell 1 rfl)
        rw [hoff] at x0 x1
        simp only [Nat.add_zero] at x0
        have he := hen _ (List.getElem_mem hkl)
        have hcall := fun Wc => hg ws[from_ + k] Wc
        by_cases hq0 : q ≤ 0
        · have hw1 : IntKind.i64.wrap ((from_ : Int) + k) = ((from_ + k : Nat) : Int) := by rw [IntWalk.i64_in _ (by omega)]; omega
          have hres : driedF en (ws.drop (from_ + k)) ((from_ + k : Nat) : Int) q = ((from_ + k : Nat) : Int) := by
            rw [List.drop_eq_getElem_cons hkl]; simp [driedF, hq0]
          have HQ := Lib.hid (hq.trans hres)
          clear hcall hc hq hres hoff
          go_wp2
          go_ret
          exact ⟨retI rfl (by rw [HQ.out]; omega), HB.call (hb.al _)⟩
        · have hres := driedF_step en ws (from_ + k) ((from_ + k : Nat) : Int) q hkl hq0
          have hw1 : IntKind.i64.wrap (q - en ws[from_ + k]) = q - en ws[from_ + k] := IntWalk.i64_in _ (by omega)
          have HQ := Lib.hid (hq.trans hres)
          clear hc hq hres hoff
          go_wp2_with (go_at_fn g; refine (hcall _).mono ?_; rintro e w' ⟨rfl, hb'⟩)
          go_roundw
          case rel =>
            refine ⟨k + 1, by omega, by go_num, (hb.al _).call hb', _, rfl, ?_, by omega, by omega⟩
            have e2 : ((from_ + (k + 1) : Nat) : Int) = ((from_ + k : Nat) : Int) + 1 := by omega
            rw [HQ.out, e2, ← Nat.add_assoc]
          case measure => simp [intOf]; omega
      · obtain rfl : k = ws.length - from_ := by omega
        have hl : ¬ ((ws.length - from_ : Nat) : Int) < ((ws.length - from_ : Nat) : Int) := by omega
        have hd : ws.drop (from_ + (ws.length - from_)) = [] := List.drop_eq_nil_of_le (by omega)
        have hcl : ((from_ + (ws.length - from_) : Nat) : Int) = (ws.length : Int) := by omega
        rw [hd, hcl] at hq
        have HQ := Lib.hid hq
        clear hc hq hd hcl
        have d1 := hb.rdcell hsW d0
        by_cases hq0 : q ≤ 0
        · go_wp2
          go_ret
          exact ⟨retI rfl (by rw [HQ.out, driedF_nil1 _ _ _ (by omega)]), HB.call hb⟩
        · go_wp2
          go_ret
          exact ⟨retI rfl (by rw [HQ.out, driedF_nil2 _ _ _ (by omega)]), HB.call hb⟩
  · obtain rfl : from_ = ws.length := by omega
    have hd : ws.drop ws.length = [] := List.drop_eq_nil_of_le (by omega)
    rw [hd]
    by_cases hq0 : water ≤ 0
    · go_enter Try.func78, Try.ntmps78
      go_wp2
      all_goals refine wp_loop_once ?_
      all_goals go_wp2
      all_goals go_ret
      all_goals exact ⟨retI rfl (by rw [driedF_nil1 _ _ _ (by omega)]), (by repeat (first | with_reducible exact Below.refl _ _ | with_reducible assumption | with_reducible refine Below.al ?_ _ | with_reducible refine Below.drew ?_ | with_reducible refine Below.st ?_ (by first | (simp; done) | assumption | (simp; omega)) _ | with_reducible refine Below.call ?_ (by with_reducible assumption) | exact Below.refl _ _ | assumption | refine Below.al ?_ _ | refine Below.drew ?_ | refine Below.call ?_ (by assumption) | refine Below.st ?_ (by first | (simp; done) | assumption | (simp; omega)) _))⟩
    · go_enter Try.func78, Try.ntmps78
      go_wp2
      all_goals refine wp_loop_once ?_
      all_goals go_wp2
      all_goals go_ret
      all_goals exact ⟨retI rfl (by rw [driedF_nil2 _ _ _ (by omega)]), (by repeat (first | with_reducible exact Below.refl _ _ | with_reducible assumption | with_reducible refine Below.al ?_ _ | with_reducible refine Below.drew ?_ | with_reducible refine Below.st ?_ (by first | (simp; done) | assumption | (simp; omega)) _ | with_reducible refine Below.call ?_ (by with_reducible assumption) | exact Below.refl _ _ | assumption | refine Below.al ?_ _ | refine Below.drew ?_ | refine Below.call ?_ (by assumption) | refine Below.st ?_ (by first | (simp; done) | assumption | (simp; omega)) _))⟩
end Go.Proofs.Ytacellaeepngkaa
