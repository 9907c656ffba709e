/- tenter: late, Late. -/
import Derived.Test.YtacellaeepngkaaE4
namespace Go.Proofs.Ytacellaeepngkaa
set_option linter.unusedVariables false
set_option linter.unusedSimpArgs false
open Go.RowKit Go.Shelf

theorem lateF_done (ws : List Wx) (h : Nat) (q : Int) (hq : q ≤ 0) : lateF ws h q = h := by
  cases h with
  | zero => simp only [lateF]; rw [if_neg (by omega)]; rfl
  | succ h => simp only [lateF]; rw [if_pos hq]
theorem lateF_zero (ws : List Wx) (q : Int) (hq : ¬ q ≤ 0) : lateF ws 0 q = -1 := by
  simp only [lateF]; rw [if_pos (by omega)]
theorem lateF_step (ws : List Wx) (h : Nat) (q : Int) (hh : h < ws.length) (hq : ¬ q ≤ 0) : lateF ws (h + 1) q = lateF ws h (q - ws[h].1) := by
  simp only [lateF]; rw [if_neg hq, List.getD_eq_getElem?_getD, List.getElem?_eq_getElem hh]; rfl

theorem late_range (ws : List Wx) : ∀ (h : Nat) (q : Int), -1 ≤ lateF ws h q ∧ lateF ws h q ≤ h := by
  intro h
  induction h with
  | zero => intro q; simp only [lateF]; split <;> omega
  | succ h ih => intro q; simp only [lateF]; split; omega; have := ih (q - (ws.getD h (0, 0)).1); omega

set_option maxRecDepth 100000 in
set_option maxHeartbeats 2000000 in
theorem tenter_late (cs : List TwC) (fr : List Int) (gap str : Int) (hf : FieldOk cs fr gap str) (ws : List Wx) (hw : SkyOk ws) (i : Nat) (hi : i < cs.length) (rain : Nat) (hr : rain ≤ ws.length) (A A2 A3 : Option Addr) (cap cap2 cap3 : Nat) (w : World)
    (hz : Sl w A 4 encTw cs) (hs : Sl w A3 2 encWx ws) :
    Calls Try.prog 43 #[.agg #[.slice A cs.length cap, .slice A2 fr.length cap2, .int .i64 gap, .int .i64 str, .slice A3 ws.length cap3], .int .i64 i, .int .i64 rain] w fun e w' =>
      e = .returned (.int .i64 (lateF ws rain cs[i].wh)) ∧ Below w.heap.size w w' := by
  obtain ⟨b, off, rfl, hbl, hc⟩ := hz (by omega)
  have ⟨b1, b2⟩ := hw.few
  obtain ⟨bs, offs, rfl, hbs, hcs⟩ := hs (by omega)
  have r3 := (hc i cs[i] (List.getElem?_eq_getElem hi)).cell 3 rfl
  have hiz : (i : Int) < (cs.length : Int) := by omega
  have hl1 : b < w.heap.size + 1 := by omega
  have ok := hf.cloths _ (List.getElem_mem hi)
  unfold TwC.ok at ok
  clear hc
  go_enter Try.func43, Try.ntmps43
  go_wp2
  refine name_world (fun W hW => ?_)
  have HB : Below w.heap.size w W := by rw [hW]; exact (by repeat (first | with_reducible exact Below.refl _ _ | with_reducible assumption | with_reducible refine Below.al ?_ _ | with_reducible refine Below.drew ?_ | with_reducible refine Below.st ?_ (by first | (simp; done) | assumption | (simp; omega)) _ | with_reducible refine Below.call ?_ (by with_reducible assumption) | exact Below.refl _ _ | assumption | refine Below.al ?_ _ | refine Below.drew ?_ | refine Below.call ?_ (by assumption) | refine Below.st ?_ (by first | (simp; done) | assumption | (simp; omega)) _))
  have a4 : W.cell? ⟨w.heap.size, 4, none⟩ = some (.slice (some ⟨bs, offs, none⟩) ws.length cap3) := by rw [hW]; go_simp
  clear hW r3
  go_loopw [7, 8] (fun v h wr => ∃ (k : Nat) (q : Int), v = .int .i64 q ∧ h = .int .i64 k ∧ k ≤ rain ∧ W = wr ∧ lateF ws rain cs[i].wh = lateF ws k q ∧ q ≤ 1000 ∧ -1000 - 100 * (rain - k : Int) ≤ q) (fun _ h _ => (intOf h).toNat)
  case atStart => exact ⟨rain, _, rfl, rfl, Nat.le_refl _, rfl, rfl, by omega, by omega⟩
  case round =>
    obtain ⟨k, q, rfl, rfl, hk, rfl, hq, hq1, hq2⟩ := hrel
    by_cases hq0 : q ≤ 0
    · have HQ := Lib.hid (hq.trans (lateF_done ws k q hq0))
      clear hq hcs
      go_wp2
      go_ret
      exact ⟨retI rfl HQ.out.symm, HB⟩
    · rcases k with _ | k
      · have HQ := Lib.hid (hq.trans (lateF_zero ws q hq0))
        clear hq hcs
        go_wp2
        go_ret
        exact ⟨retI rfl HQ.out.symm, HB⟩
      · have HQ := Lib.hid (hq.trans (lateF_step ws k q (by omega) hq0))
        have hx := hw.hours _ (List.getElem_mem (show k < ws.length by omega))
        have x0 := HB.rdcell hbs ((hcs k ws[k] (List.getElem?_eq_getElem (by omega))).cell 0 rfl)
        simp only [Nat.add_zero] at x0
        have hk1 : IntKind.i64.wrap (((k + 1 : Nat) : Int) - 1) = (k : Int) := by rw [IntWalk.i64_in _ (by omega)]; omega
        have hk2 : IntKind.i64.wrap (((k : Nat) : Int) + 1 - 1) = (k : Int) := by rw [IntWalk.i64_in _ (by omega)]; omega
        have hk0 : ¬ (((k + 1 : Nat) : Int) = 0) := by omega
        have hkz : (k : Int) < (ws.length : Int) := by omega
        have hw1 : IntKind.i64.wrap (q - ws[k].1) = q - ws[k].1 := IntWalk.i64_in _ (by omega)
        clear hq hcs
        go_wp2
        go_roundw
        case rel =>
          refine ⟨k, _, rfl, ?_, by omega, ?_, HQ.out, by omega, by omega⟩
          all_goals first | trivial | go_num
        case measure => first | (simp [intOf]; done) | (simp [intOf]; omega)

set_option maxRecDepth 100000 in
set_option maxHeartbeats 2000000 in
theorem tenter_Late (cs : List TwC) (fr : List Int) (gap str : Int) (hf : FieldOk cs fr gap str) (ws : List Wx) (hw : SkyOk ws) (i : Nat) (hi : i < cs.length) (rain : Nat) (hr : rain ≤ ws.length) (A A2 A3 : Option Addr) (cap cap2 cap3 : Nat) (w : World)
    (hz : Sl w A 4 encTw cs) (hfr : Sl w A2 1 encI fr) (hs : Sl w A3 2 encWx ws) :
    Calls Try.prog 12 #[.agg #[.slice A cs.length cap, .slice A2 fr.length cap2, .int .i64 gap, .int .i64 str], .slice A3 ws.length cap3, .int .i64 i, .int .i64 rain] w fun e w' =>
      e = .returned (if 0 ≤ lateF ws rain cs[i].wh then .tuple #[.int .i64 (lateF ws rain cs[i].wh), .int .i64 0] else .tuple #[.int .i64 0, .int .i64 9]) ∧ Below w.heap.size w w' := by
  go_enter Try.func12, Try.ntmps12
  go_wp2_with fail
  refine (tenter_newForecast cs fr gap str hf ws hw rain (by omega) A A2 A3 cap cap2 cap3 _ (hz.below (by repeat (first | with_reducible exact Below.refl _ _ | with_reducible assumption | with_reducible refine Below.al ?_ _ | with_reducible refine Below.drew ?_ | with_reducible refine Below.st ?_ (by first | (simp; done) | assumption | (simp; omega)) _ | with_reducible refine Below.call ?_ (by with_reducible assumption) | exact Below.refl _ _ | assumption | refine Below.al ?_ _ | refine Below.drew ?_ | refine Below.call ?_ (by assumption) | refine Below.st ?_ (by first | (simp; done) | assumption | (simp; omega)) _))) (hfr.below (by repeat (first | with_reducible exact Below.refl _ _ | with_reducible assumption | with_reducible refine Below.al ?_ _ | with_reducible refine Below.drew ?_ | with_reducible refine Below.st ?_ (by first | (simp; done) | assumption | (simp; omega)) _ | with_reducible refine Below.call ?_ (by with_reducible assumption) | exact Below.refl _ _ | assumption | refine Below.al ?_ _ | refine Below.drew ?_ | refine Below.call ?_ (by assumption) | refine Below.st ?_ (by first | (simp; done) | assumption | (simp; omega)) _))) (hs.below (by repeat (first | with_reducible exact Below.refl _ _ | with_reducible assumption | with_reducible refine Below.al ?_ _ | with_reducible refine Below.drew ?_ | with_reducible refine Below.st ?_ (by first | (simp; done) | assumption | (simp; omega)) _ | with_reducible refine Below.call ?_ (by with_reducible assumption) | exact Below.refl _ _ | assumption | refine Below.al ?_ _ | refine Below.drew ?_ | refine Below.call ?_ (by assumption) | refine Below.st ?_ (by first | (simp; done) | assumption | (simp; omega)) _)))).mono ?_
  rintro e w1 ⟨rfl, hb1⟩
  have c1_0 := fun o => hb1.cell (p := ⟨w.heap.size, o, none⟩) (by first | omega | (simp; done) | (simp; omega)); have f1_0 := fun o => hb1.frozen (p := ⟨w.heap.size, o, none⟩) (by first | omega | (simp; done) | (simp; omega)); have z1_0 : w.heap.size < w1.heap.size := (by have h := hb1.size; first | omega | (simp at h; omega))
  have HB1 : Below w.heap.size w w1 := (by repeat (first | with_reducible exact Below.refl _ _ | with_reducible assumption | with_reducible refine Below.al ?_ _ | with_reducible refine Below.drew ?_ | with_reducible refine Below.st ?_ (by first | (simp; done) | assumption | (simp; omega)) _ | with_reducible refine Below.call ?_ (by with_reducible assumption) | exact Below.refl _ _ | assumption | refine Below.al ?_ _ | refine Below.drew ?_ | refine Below.call ?_ (by assumption) | refine Below.st ?_ (by first | (simp; done) | assumption | (simp; omega)) _))
  go_wp2_with fail
  refine (tenter_isCloth cs.length i hi hf.few A cap _ A2 fr.length cap2 rfl gap str _).mono ?_
  rintro e w2 ⟨rfl, hb2⟩
  have c2_0 := fun o => hb2.cell (p := ⟨w1.heap.size, o, none⟩) (by first | omega | (simp; done) | (simp; omega)); have f2_0 := fun o => hb2.frozen (p := ⟨w1.heap.size, o, none⟩) (by first | omega | (simp; done) | (simp; omega)); have z2_0 : w1.heap.size < w2.heap.size := (by have h := hb2.size; first | omega | (simp at h; omega))
  have HB2 : Below w.heap.size w w2 := (by repeat (first | with_reducible exact Below.refl _ _ | with_reducible assumption | with_reducible refine Below.al ?_ _ | with_reducible refine Below.drew ?_ | with_reducible refine Below.st ?_ (by first | (simp; done) | assumption | (simp; omega)) _ | with_reducible refine Below.call ?_ (by with_reducible assumption) | exact Below.refl _ _ | assumption | refine Below.al ?_ _ | refine Below.drew ?_ | refine Below.call ?_ (by assumption) | refine Below.st ?_ (by first | (simp; done) | assumption | (simp; omega)) _))
  go_wp2_with fail
  refine (tenter_late cs fr gap str hf ws hw i hi rain hr A A2 A3 cap cap2 cap3 w2 (hz.below HB2) (hs.below HB2)).mono ?_
  rintro e w3 ⟨rfl, hb3⟩
  have HB3 := HB2.call hb3
  by_cases h0 : 0 ≤ lateF ws rain cs[i].wh
  · have HP := Lib.hid h0
    go_wp2
    exact bodyPost_ret (v := .tuple #[.int .i64 (lateF ws rain cs[i].wh), .int .i64 0]) (by simp [results, Try.results12, go_sem]) rfl ⟨by first | rfl | (rw [if_pos (by omega)]), HB3⟩
  · have HP := Lib.hid h0
    go_wp2
    exact bodyPost_ret (v := .tuple #[.int .i64 0, .int .i64 9]) (by simp [results, Try.results12, go_sem]) rfl ⟨by first | rfl | (rw [if_neg (by omega)]), HB3⟩
end Go.Proofs.Ytacellaeepngkaa
