/- tenter.newForecast. -/
import Derived.Test.YtacellaeepngkaaE1
namespace Go.Proofs.Ytacellaeepngkaa
set_option linter.unusedVariables false
set_option linter.unusedSimpArgs false
open Go.RowKit Go.Shelf

theorem size_setCell (w : World) (a : Addr) (v : Value) : (w.setCell a v).heap.size = w.heap.size := by simp [World.setCell]
theorem lt_da (W : World) (o : Obj) : W.heap.size < (W.alloc o).drew.heap.size := by simp

theorem cell_ad (W : World) (cs : Array Value) (t : TypeId) (o : Nat) (v : Value) (h : cs[o]? = some v) : ((W.alloc (.cells cs t)).drew).cell? ⟨W.heap.size, o, none⟩ = some v := by
  show (W.alloc (.cells cs t)).cell? ⟨W.heap.size, o, none⟩ = some v
  have hh := World.alloc_heap_new W (.cells cs t)
  simp only [World.cell?, hh]
  exact h
theorem frozen_ad (W : World) (cs : Array Value) (t : TypeId) (o : Nat) : ((W.alloc (.cells cs t)).drew).frozen? ⟨W.heap.size, o, none⟩ = false := by
  show (W.alloc (.cells cs t)).frozen? ⟨W.heap.size, o, none⟩ = false
  have hh := World.alloc_heap_new W (.cells cs t)
  simp only [World.frozen?, hh]
  simp

set_option maxRecDepth 100000 in
set_option maxHeartbeats 2000000 in
theorem tenter_newForecast (cs : List TwC) (fr : List Int) (gap str : Int) (hf : FieldOk cs fr gap str) (ws : List Wx) (hw : SkyOk ws) (hour : Int) (hh : 0 ≤ hour ∧ hour ≤ ws.length) (A A2 A3 : Option Addr) (cap cap2 cap3 : Nat) (w : World)
    (hz : Sl w A 4 encTw cs) (hr : Sl w A2 1 encI fr) (hs : Sl w A3 2 encWx ws) :
    Calls Try.prog 41 #[.agg #[.slice A cs.length cap, .slice A2 fr.length cap2, .int .i64 gap, .int .i64 str], .slice A3 ws.length cap3, .int .i64 hour] w fun e w' =>
      e = .returned (.tuple #[.agg #[.slice A cs.length cap, .slice A2 fr.length cap2, .int .i64 gap, .int .i64 str, .slice A3 ws.length cap3], .int .i64 0]) ∧ Below w.heap.size w w' := by
  have ⟨h1, h2⟩ := hw.few
  go_enter Try.func41, Try.ntmps41
  go_upto_region 1 with fail
  refine name_world (fun W hW => ?_)
  have HB : Below w.heap.size w W := by rw [hW]; exact (by repeat (first | with_reducible exact Below.refl _ _ | with_reducible assumption | with_reducible refine Below.al ?_ _ | with_reducible refine Below.drew ?_ | with_reducible refine Below.st ?_ (by first | (simp; done) | assumption | (simp; omega)) _ | with_reducible refine Below.call ?_ (by with_reducible assumption) | exact Below.refl _ _ | assumption | refine Below.al ?_ _ | refine Below.drew ?_ | refine Below.call ?_ (by assumption) | refine Below.st ?_ (by first | (simp; done) | assumption | (simp; omega)) _))
  have hsz : W.heap.size = w.heap.size + 1 + 1 := by rw [hW]; simp
  have x0 : W.cell? ⟨w.heap.size, 0, none⟩ = some (.slice A cs.length cap) := by rw [hW]; go_simp
  have x1 : W.cell? ⟨w.heap.size, 1, none⟩ = some (.slice A2 fr.length cap2) := by rw [hW]; go_simp
  have x2 : W.cell? ⟨w.heap.size, 2, none⟩ = some (.int .i64 gap) := by rw [hW]; go_simp
  have x3 : W.cell? ⟨w.heap.size, 3, none⟩ = some (.int .i64 str) := by rw [hW]; go_simp
  have z0 : ∃ v, W.cell? ⟨w.heap.size + 1, 0, none⟩ = some v := by rw [hW]; exact ⟨_, by go_simp; rfl⟩
  have z1 : ∃ v, W.cell? ⟨w.heap.size + 1, 1, none⟩ = some v := by rw [hW]; exact ⟨_, by go_simp; rfl⟩
  have z2 : ∃ v, W.cell? ⟨w.heap.size + 1, 2, none⟩ = some v := by rw [hW]; exact ⟨_, by go_simp; rfl⟩
  have z3 : ∃ v, W.cell? ⟨w.heap.size + 1, 3, none⟩ = some v := by rw [hW]; exact ⟨_, by go_simp; rfl⟩
  have z4 : ∃ v, W.cell? ⟨w.heap.size + 1, 4, none⟩ = some v := by rw [hW]; exact ⟨_, by go_simp; rfl⟩
  have y0 : ∀ k, W.frozen? ⟨w.heap.size + 1, k, none⟩ = false := by intro k; rw [hW]; go_simp
  have hl0 : w.heap.size < W.heap.size := by omega
  have hl1' : w.heap.size + 1 < W.heap.size := by omega
  have hne1 : w.heap.size ≠ W.heap.size := by omega
  have hne2 : W.heap.size ≠ w.heap.size := by omega
  clear hW hsz
  go_cut [8, 9] (fun s8 s9 wx => ∃ g : Nat, s8 = .pointer (some ⟨g, 0, none⟩) ∧ s9 = .int .i64 0 ∧ W.heap.size ≤ g ∧ g < wx.heap.size ∧ Below W.heap.size W wx ∧ wx.cell? ⟨g, 0, none⟩ = some (.slice A cs.length cap) ∧ wx.cell? ⟨g, 1, none⟩ = some (.slice A2 fr.length cap2) ∧
    wx.cell? ⟨g, 2, none⟩ = some (.int .i64 gap) ∧ wx.cell? ⟨g, 3, none⟩ = some (.int .i64 str) ∧ wx.cell? ⟨g, 4, none⟩ = some (.slice A3 ws.length cap3))
  case first =>
    go_region_held3 (fun w' => w'.cell? ⟨w.heap.size, 0, none⟩ = some (.slice A cs.length cap) ∧ w'.cell? ⟨w.heap.size, 1, none⟩ = some (.slice A2 fr.length cap2) ∧ w'.cell? ⟨w.heap.size, 2, none⟩ = some (.int .i64 gap) ∧ w'.cell? ⟨w.heap.size, 3, none⟩ = some (.int .i64 str))
      (first | (with_reducible exact ⟨by assumption, by assumption, by assumption, by assumption⟩) | go_keep)
      (first
        | (go_at_call 73; refine (tenter_Check cs fr gap str hf A A2 cap cap2 _ ((hz.below HB).below (by repeat (first | with_reducible exact Below.refl _ _ | with_reducible assumption | with_reducible refine Below.al ?_ _ | with_reducible refine Below.drew ?_ | with_reducible refine Below.st ?_ (by first | (simp; done) | assumption | (simp; omega)) _ | with_reducible refine Below.call ?_ (by with_reducible assumption) | exact Below.refl _ _ | assumption | refine Below.al ?_ _ | refine Below.drew ?_ | refine Below.call ?_ (by assumption) | refine Below.st ?_ (by first | (simp; done) | assumption | (simp; omega)) _))) ((hr.below HB).below (by repeat (first | with_reducible exact Below.refl _ _ | with_reducible assumption | with_reducible refine Below.al ?_ _ | with_reducible refine Below.drew ?_ | with_reducible refine Below.st ?_ (by first | (simp; done) | assumption | (simp; omega)) _ | with_reducible refine Below.call ?_ (by with_reducible assumption) | exact Below.refl _ _ | assumption | refine Below.al ?_ _ | refine Below.drew ?_ | refine Below.call ?_ (by assumption) | refine Below.st ?_ (by first | (simp; done) | assumption | (simp; omega)) _)))).mono ?_; rintro e w2 ⟨rfl, hb2⟩; have HB2 : Below W.heap.size W w2 := (by repeat (first | with_reducible exact Below.refl _ _ | with_reducible assumption | with_reducible refine Below.al ?_ _ | with_reducible refine Below.drew ?_ | with_reducible refine Below.st ?_ (by first | (simp; done) | assumption | (simp; omega)) _ | with_reducible refine Below.call ?_ (by with_reducible assumption) | exact Below.refl _ _ | assumption | refine Below.al ?_ _ | refine Below.drew ?_ | refine Below.call ?_ (by assumption) | refine Below.st ?_ (by first | (simp; done) | assumption | (simp; omega)) _)); have q0 := HB2.rdcell hl0 x0; have q1 := HB2.rdcell hl0 x1; have q2 := HB2.rdcell hl0 x2; have q3 := HB2.rdcell hl0 x3; (first | (have k80 := (hb2.cell (p := ⟨W.heap.size, 0, none⟩) (lt_da W _)).trans (cell_ad W _ _ 0 _ rfl); have k81 := (hb2.cell (p := ⟨W.heap.size, 1, none⟩) (lt_da W _)).trans (cell_ad W _ _ 1 _ rfl); have k82 := (hb2.cell (p := ⟨W.heap.size, 2, none⟩) (lt_da W _)).trans (cell_ad W _ _ 2 _ rfl); have k83 := (hb2.cell (p := ⟨W.heap.size, 3, none⟩) (lt_da W _)).trans (cell_ad W _ _ 3 _ rfl); have k84 := (hb2.cell (p := ⟨W.heap.size, 4, none⟩) (lt_da W _)).trans (cell_ad W _ _ 4 _ rfl); have f8 := fun o => (hb2.frozen (p := ⟨W.heap.size, o, none⟩) (lt_da W _)).trans (frozen_ad W _ _ o)) | skip)))
    all_goals (go_wp2_with fail; go_meet)
    · refine ⟨w2.heap.size, rfl, rfl, HB2.size, by simp, HB2.al _, ?_, ?_, ?_, ?_, ?_⟩
      all_goals go_simp
    · have hl2 : W.heap.size < w2.heap.size := by have := hb2.size; simp at this; omega
      refine ⟨W.heap.size, rfl, rfl, Nat.le_refl _, by simp only [size_setCell]; exact hl2, ((((HB2.st (Nat.le_refl _) _).st (Nat.le_refl _) _).st (Nat.le_refl _) _).st (Nat.le_refl _) _).st (Nat.le_refl _) _, ?_, ?_, ?_, ?_, ?_⟩
      all_goals go_simp
  case rest =>
    obtain ⟨g, rfl, rfl, hg1, hg2, hb, c0, c1, c2, c3, c4⟩ := hcut
    obtain ⟨_, z0⟩ := z0
    obtain ⟨_, z1⟩ := z1
    obtain ⟨_, z2⟩ := z2
    obtain ⟨_, z3⟩ := z3
    obtain ⟨_, z4⟩ := z4
    have hl1 := hl1'
    have HC := HB.call hb
    have hneg1 : g ≠ w.heap.size + 1 := by omega
    have hneg2 : w.heap.size + 1 ≠ g := by omega
    go_wp2_with fail
    refine (tenter_within1 (x := (ws.length : Int)) (by simp) (by go_simp) (by omega)).mono ?_
    rintro e w1 ⟨rfl, hb1⟩
    have c1_0 := fun o => hb1.cell (p := ⟨g, o, none⟩) (by first | omega | (simp; done) | (simp; omega)); have f1_0 := fun o => hb1.frozen (p := ⟨g, o, none⟩) (by first | omega | (simp; done) | (simp; omega)); have z1_0 : g < w1.heap.size := (by have h := hb1.size; first | omega | (simp at h; omega))
    have HC1 : Below w.heap.size w w1 := (by repeat (first | with_reducible exact Below.refl _ _ | with_reducible assumption | with_reducible refine Below.al ?_ _ | with_reducible refine Below.drew ?_ | with_reducible refine Below.st ?_ (by first | (simp; done) | assumption | (simp; omega)) _ | with_reducible refine Below.call ?_ (by with_reducible assumption) | exact Below.refl _ _ | assumption | refine Below.al ?_ _ | refine Below.drew ?_ | refine Below.call ?_ (by assumption) | refine Below.st ?_ (by first | (simp; done) | assumption | (simp; omega)) _))
    have HW1 : Below W.heap.size W w1 := (hb.al _).call hb1
    go_wp2_with fail
    refine (contains_sp_none (α := Wx) (fun c => .int .i64 c.1) (fun c => .int .i64 c.2) 76 _ A3 cap3 ws w1 (enters_of Try.func76 (by kernel_rfl) rfl) ?_ (hs.below HC1) (by omega)).mono ?_
    · intro W x hx hW
      have := hw.hours x hx
      exact tenter_newForecast_1 x this.1 this.2.1 this.2.2 W
    rintro e w2 ⟨rfl, hb2⟩
    have c2_0 := fun o => hb2.cell (p := ⟨g, o, none⟩) (by first | omega | (simp; done) | (simp; omega)); have f2_0 := fun o => hb2.frozen (p := ⟨g, o, none⟩) (by first | omega | (simp; done) | (simp; omega)); have z2_0 : g < w2.heap.size := (by have h := hb2.size; first | omega | (simp at h; omega))
    have HC2 := HC1.call hb2
    have HW2 := HW1.call hb2
    go_wp2_with fail
    refine (tenter_within1 (x := hour) (by simp) (by go_simp) hh).mono ?_
    rintro e w3 ⟨rfl, hb3⟩
    have c3_0 := fun o => hb3.cell (p := ⟨g, o, none⟩) (by first | omega | (simp; done) | (simp; omega)); have f3_0 := fun o => hb3.frozen (p := ⟨g, o, none⟩) (by first | omega | (simp; done) | (simp; omega)); have z3_0 : g < w3.heap.size := (by have h := hb3.size; first | omega | (simp at h; omega))
    have HC3 : Below w.heap.size w w3 := (by repeat (first | with_reducible exact Below.refl _ _ | with_reducible assumption | with_reducible refine Below.al ?_ _ | with_reducible refine Below.drew ?_ | with_reducible refine Below.st ?_ (by first | (simp; done) | assumption | (simp; omega)) _ | with_reducible refine Below.call ?_ (by with_reducible assumption) | exact Below.refl _ _ | assumption | refine Below.al ?_ _ | refine Below.drew ?_ | refine Below.call ?_ (by assumption) | refine Below.st ?_ (by first | (simp; done) | assumption | (simp; omega)) _))
    have HW3 : Below W.heap.size W w3 := (HW2.al _).call hb3
    have d0 : w3.cell? ⟨g, 0, none⟩ = some (.slice A cs.length cap) := by go_simp
    have d1 : w3.cell? ⟨g, 1, none⟩ = some (.slice A2 fr.length cap2) := by go_simp
    have d2 : w3.cell? ⟨g, 2, none⟩ = some (.int .i64 gap) := by go_simp
    have d3 : w3.cell? ⟨g, 3, none⟩ = some (.int .i64 str) := by go_simp
    have d4 : w3.cell? ⟨g, 4, none⟩ = some (.slice A3 ws.length cap3) := by go_simp
    have r0 := HW3.rdcell hl1 z0
    have r1 := HW3.rdcell hl1 z1
    have r2 := HW3.rdcell hl1 z2
    have r3 := HW3.rdcell hl1 z3
    have r4 := HW3.rdcell hl1 z4
    have t0 := fun k => (HW3.frozen (p := ⟨w.heap.size + 1, k, none⟩) hl1).trans (y0 k)
    clear z0 z1 z2 z3 z4 y0 c1_0 c2_0 c3_0 f1_0 f2_0 f3_0 c0 c1 c2 c3 c4 x0 x1 x2 x3
    go_wp2
    refine bodyPost_ret (v := .tuple #[.agg #[.slice A cs.length cap, .slice A2 fr.length cap2, .int .i64 gap, .int .i64 str, .slice A3 ws.length cap3], .int .i64 0]) ?_ rfl ⟨rfl, ?_⟩
    · simp [results, Try.results41, go_sem, r0, r1, r2, r3, r4]
    · have hle : w.heap.size ≤ w.heap.size + 1 := by omega
      exact ((((HC3.st hle _).st hle _).st hle _).st hle _).st hle _
end Go.Proofs.Ytacellaeepngkaa
