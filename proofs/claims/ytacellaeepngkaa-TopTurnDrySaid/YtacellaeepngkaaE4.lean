/- tenter: dry, late. -/
import Derived.Test.YtacellaeepngkaaE3
namespace Go.Proofs.Ytacellaeepngkaa
set_option linter.unusedVariables false
set_option linter.unusedSimpArgs false
open Go.RowKit Go.Shelf

def dryF (ws : List Wx) (c : TwC) (from_ : Nat) : Wx := (driedF Prod.snd (ws.drop from_) from_ c.wl, driedF Prod.fst (ws.drop from_) from_ c.wh)

set_option maxRecDepth 100000 in
set_option maxHeartbeats 2000000 in
theorem tenter_dry (cs : List TwC) (fr : List Int) (gap str : Int) (hf : FieldOk cs fr gap str) (ws : List Wx) (hw : SkyOk ws) (i : Nat) (hi : i < cs.length) (from_ : Nat) (hfr : from_ ≤ ws.length) (A A2 A3 : Option Addr) (cap cap2 cap3 : Nat) (hc3 : ws.length ≤ cap3) (w : World)
    (hz : Sl w A 4 encTw cs) (hs : Sl w A3 2 encWx ws) :
    Calls Try.prog 44 #[.agg #[.slice A cs.length cap, .slice A2 fr.length cap2, .int .i64 gap, .int .i64 str, .slice A3 ws.length cap3], .int .i64 i, .int .i64 from_] w fun e w' =>
      e = .returned (.agg #[.int .i64 (dryF ws cs[i] from_).1, .int .i64 (dryF ws cs[i] from_).2]) ∧ Below w.heap.size w w' := by
  obtain ⟨b, off, rfl, hbl, hc⟩ := hz (by omega)
  have r0 := (hc i cs[i] (List.getElem?_eq_getElem hi)).cell 0 rfl
  have r1 := (hc i cs[i] (List.getElem?_eq_getElem hi)).cell 1 rfl
  have r2 := (hc i cs[i] (List.getElem?_eq_getElem hi)).cell 2 rfl
  have r3 := (hc i cs[i] (List.getElem?_eq_getElem hi)).cell 3 rfl
  simp only [Nat.add_zero] at r0
  have hiz : (i : Int) < (cs.length : Int) := by omega
  have hl1 : b < w.heap.size + 1 := by omega
  have hl2 : b < w.heap.size + 1 + 1 := by omega
  have ⟨b1, b2⟩ := hw.few
  have ok := hf.cloths _ (List.getElem_mem hi)
  unfold TwC.ok at ok
  clear hc
  go_enter Try.func44, Try.ntmps44
  go_wp2_with fail
  refine name_world (fun W hW => ?_)
  have HB : Below w.heap.size w W := by rw [hW]; exact (by repeat (first | with_reducible exact Below.refl _ _ | with_reducible assumption | with_reducible refine Below.al ?_ _ | with_reducible refine Below.drew ?_ | with_reducible refine Below.st ?_ (by first | (simp; done) | assumption | (simp; omega)) _ | with_reducible refine Below.call ?_ (by with_reducible assumption) | exact Below.refl _ _ | assumption | refine Below.al ?_ _ | refine Below.drew ?_ | refine Below.call ?_ (by assumption) | refine Below.st ?_ (by first | (simp; done) | assumption | (simp; omega)) _))
  have hsz1 : w.heap.size + 1 < W.heap.size := by rw [hW]; simp
  have hsz2 : w.heap.size + 1 + 1 < W.heap.size := by rw [hW]; simp
  have a0 := Later.cell (b := w.heap.size) (o := 0) (W := W) (by omega) (by rw [hW]; go_simp; rfl)
  have a1 := Later.cell (b := w.heap.size) (o := 1) (W := W) (by omega) (by rw [hW]; go_simp; rfl)
  have a2 := Later.cell (b := w.heap.size) (o := 2) (W := W) (by omega) (by rw [hW]; go_simp; rfl)
  have a3 := Later.cell (b := w.heap.size) (o := 3) (W := W) (by omega) (by rw [hW]; go_simp; rfl)
  have a4 := Later.cell (b := w.heap.size) (o := 4) (W := W) (by omega) (by rw [hW]; go_simp; rfl)
  have b0 := Later.cell (b := w.heap.size + 1 + 1) (o := 0) (W := W) (by omega) (by rw [hW]; go_simp; rfl)
  have b1 := Later.cell (b := w.heap.size + 1 + 1) (o := 1) (W := W) (by omega) (by rw [hW]; go_simp; rfl)
  have R0 : W.cell? ⟨w.heap.size + 1, 0, none⟩ = some (.int .i64 0) := by rw [hW]; go_simp
  have R1 : W.cell? ⟨w.heap.size + 1, 1, none⟩ = some (.int .i64 0) := by rw [hW]; go_simp
  have F0 : ∀ k, W.frozen? ⟨w.heap.size + 1, k, none⟩ = false := by intro k; rw [hW]; go_simp
  clear hW r0 r1 r2 r3
  have e1 := enters_of Try.func79 (by kernel_rfl) rfl
  have e2 := enters_of Try.func80 (by kernel_rfl) rfl
  have n1 := fun p : Later W => p.call (tenter_dried .nilFunc .nilFunc (some ⟨b, off, none⟩) A2 A3 cs.length fr.length cap cap2 cap3 gap str ws (by omega) hc3 from_ hfr cs[i].wl (by omega) 79 Prod.snd tenter_high e1 (fun x hx => by have := hw.hours x hx; omega) p.w ((hs.below HB).below p.le))
  have n2 := fun p : Later W => p.call (tenter_dried .nilFunc .nilFunc (some ⟨b, off, none⟩) A2 A3 cs.length fr.length cap cap2 cap3 gap str ws (by omega) hc3 from_ hfr cs[i].wh (by omega) 80 Prod.fst tenter_low e2 (fun x hx => by have := hw.hours x hx; omega) p.w ((hs.below HB).below p.le))
  clear e1 e2
  (refine wp_region_qt 11 (by kernel_rfl) (by kernel_rfl) ?_; simp only [List.take_succ_cons, List.take_zero, List.drop_succ_cons, List.drop_zero]; (first | go_big_quiet_skip | (go_big_quiet_want; go_big_quiet_op; first | go_big_quiet_on | (apply Exists.intro; refine ⟨fun p => ?_, ?_⟩; (first | with_reducible exact n1 p | with_reducible exact n2 p); go_big_quiet_on))); (first | go_big_quiet_skip | (go_big_quiet_want; go_big_quiet_op; first | go_big_quiet_on | (apply Exists.intro; refine ⟨fun p => ?_, ?_⟩; (first | with_reducible exact n1 p | with_reducible exact n2 p); go_big_quiet_on))); (first | go_big_quiet_skip | (go_big_quiet_want; go_big_quiet_op; first | go_big_quiet_on | (apply Exists.intro; refine ⟨fun p => ?_, ?_⟩; (first | with_reducible exact n1 p | with_reducible exact n2 p); go_big_quiet_on))); (first | go_big_quiet_skip | (go_big_quiet_want; go_big_quiet_op; first | go_big_quiet_on | (apply Exists.intro; refine ⟨fun p => ?_, ?_⟩; (first | with_reducible exact n1 p | with_reducible exact n2 p); go_big_quiet_on))); (first | go_big_quiet_skip | (go_big_quiet_want; go_big_quiet_op; first | go_big_quiet_on | (apply Exists.intro; refine ⟨fun p => ?_, ?_⟩; (first | with_reducible exact n1 p | with_reducible exact n2 p); go_big_quiet_on))); (first | go_big_quiet_skip | (go_big_quiet_want; go_big_quiet_op; first | go_big_quiet_on | (apply Exists.intro; refine ⟨fun p => ?_, ?_⟩; (first | with_reducible exact n1 p | with_reducible exact n2 p); go_big_quiet_on))); (first | go_big_quiet_skip | (go_big_quiet_want; go_big_quiet_op; first | go_big_quiet_on | (apply Exists.intro; refine ⟨fun p => ?_, ?_⟩; (first | with_reducible exact n1 p | with_reducible exact n2 p); go_big_quiet_on))); (first | go_big_quiet_skip | (go_big_quiet_want; go_big_quiet_op; first | go_big_quiet_on | (apply Exists.intro; refine ⟨fun p => ?_, ?_⟩; (first | with_reducible exact n1 p | with_reducible exact n2 p); go_big_quiet_on))); (first | go_big_quiet_skip | (go_big_quiet_want; go_big_quiet_op; first | go_big_quiet_on | (apply Exists.intro; refine ⟨fun p => ?_, ?_⟩; (first | with_reducible exact n1 p | with_reducible exact n2 p); go_big_quiet_on))); (first | go_big_quiet_skip | (go_big_quiet_want; go_big_quiet_op; first | go_big_quiet_on | (apply Exists.intro; refine ⟨fun p => ?_, ?_⟩; (first | with_reducible exact n1 p | with_reducible exact n2 p); go_big_quiet_on))); (first | go_big_quiet_skip | (go_big_quiet_want; go_big_quiet_op; first | go_big_quiet_on | (apply Exists.intro; refine ⟨fun p => ?_, ?_⟩; (first | with_reducible exact n1 p | with_reducible exact n2 p); go_big_quiet_on))); refine wpQuiet_nil ?_; rintro _ ⟨p, rfl⟩)
  obtain ⟨w1, hb1⟩ := p
  have k0 := hb1.rdcell hsz1 R0
  have k1 := hb1.rdcell hsz1 R1
  have f0 := fun k => (hb1.frozen (p := ⟨w.heap.size + 1, k, none⟩) hsz1).trans (F0 k)
  have HB1 := HB.call hb1
  clear a0 a1 a2 a3 a4 b0 b1 n1 n2 R0 R1 F0
  go_wp2
  refine bodyPost_ret (v := .agg #[.int .i64 (driedF Prod.snd (ws.drop from_) from_ cs[i].wl), .int .i64 (driedF Prod.fst (ws.drop from_) from_ cs[i].wh)]) ?_ rfl ⟨rfl, ?_⟩
  · simp [results, Try.results44, go_sem, k0, k1]
  · have hle : w.heap.size ≤ w.heap.size + 1 := by omega
    exact (HB1.st hle _).st hle _
end Go.Proofs.Ytacellaeepngkaa
