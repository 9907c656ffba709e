/- turn.Ends. -/
import Derived.Test.YtacellaeepngkaaTW
namespace Go.Proofs.Ytacellaeepngkaa
set_option linter.unusedVariables false
set_option linter.unusedSimpArgs false
open Go.RowKit Go.Shelf
attribute [local go_sem] Oper.semAt_some

def endF (xs : List Tn) : Int := xs.foldl (fun m t => max m t.done) 0

theorem endF_snoc (xs : List Tn) (x : Tn) : endF (xs ++ [x]) = max (endF xs) x.done := by simp [endF]

/-- The turns in the truth in which all stay until one end. -/
def tnsF (cs : List TC) (rk : List Int) (pick : TC → Int) (s : Nat) : List Tn := turnsF cs pick (List.replicate s 0) (ordF cs rk)

set_option maxRecDepth 100000 in
set_option maxHeartbeats 4000000 in
theorem turn_Ends (cs : List TC) (rk : List Int) (hd : DayOk cs rk) (s : Nat) (hs : 1 ≤ s ∧ s ≤ 5) (A A2 : Option Addr) (cap cap2 : Nat) (hcap : cs.length ≤ cap) (w : World) (hz : Sl w A 4 encTC cs) (hr : Sl w A2 1 encI rk) :
    Calls Try.prog 11 #[.agg #[.slice A cs.length cap, .slice A2 rk.length cap2], .int .i64 s] w fun e w' => e = .returned (.tuple #[.agg #[.int .i64 (endF (tnsF cs rk TC.lo s)), .int .i64 (endF (tnsF cs rk TC.hi s))], .int .i64 0]) ∧ Below w.heap.size w w' := by
  have hf := hd.few
  refine (callsIn_wide (n := 21)).1 ?_
  refine callsIn_of_wp_marks Try.func11 rfl trivial ?_ rfl
  simp only [Try.ntmps11, List.size_toArray, List.length_cons, List.length_nil, Nat.reduceAdd, Nat.reduceSub, Array.replicate_succ, Array.replicate_zero, List.push_toArray, List.append_toArray, List.nil_append, List.cons_append]
  gi_wp2
  refine ⟨trivial, callsIn_wide.2 ((turn_open cs rk hd s 0 (by omega) (by omega) A A2 cap cap2 _ (hz.below (by repeat (first | with_reducible exact Below.refl _ _ | with_reducible assumption | with_reducible refine Below.al ?_ _ | with_reducible refine Below.drew ?_ | with_reducible refine Below.st ?_ (by first | (simp; done) | assumption | (simp; omega)) _ | with_reducible refine Below.call ?_ (by with_reducible assumption) | exact Below.refl _ _ | assumption | refine Below.al ?_ _ | refine Below.drew ?_ | refine Below.call ?_ (by assumption) | refine Below.st ?_ (by first | (simp; done) | assumption | (simp; omega)) _))) (hr.below (by repeat (first | with_reducible exact Below.refl _ _ | with_reducible assumption | with_reducible refine Below.al ?_ _ | with_reducible refine Below.drew ?_ | with_reducible refine Below.st ?_ (by first | (simp; done) | assumption | (simp; omega)) _ | with_reducible refine Below.call ?_ (by with_reducible assumption) | exact Below.refl _ _ | assumption | refine Below.al ?_ _ | refine Below.drew ?_ | refine Below.call ?_ (by assumption) | refine Below.st ?_ (by first | (simp; done) | assumption | (simp; omega)) _)))).mono ?_)⟩
  rintro e w1 ⟨rfl, hb1⟩
  have c1_0 := fun o => hb1.cell (p := ⟨w.heap.size, o, none⟩) (by first | omega | (simp; done) | (simp; omega)); have f1_0 := fun o => hb1.frozen (p := ⟨w.heap.size, o, none⟩) (by first | omega | (simp; done) | (simp; omega)); have z1_0 : w.heap.size < w1.heap.size := (by have h := hb1.size; first | omega | (simp at h; omega)); have c1_1 := fun o => hb1.cell (p := ⟨(w.heap.size+1), o, none⟩) (by first | omega | (simp; done) | (simp; omega)); have f1_1 := fun o => hb1.frozen (p := ⟨(w.heap.size+1), o, none⟩) (by first | omega | (simp; done) | (simp; omega)); have z1_1 : (w.heap.size+1) < w1.heap.size := (by have h := hb1.size; first | omega | (simp at h; omega))
  gi_wp2
  refine wpIn_wide.2 ?_
  refine name_world (fun W hW => ?_)
  have HB : Below w.heap.size w W := by rw [hW]; exact (by repeat (first | with_reducible exact Below.refl _ _ | with_reducible assumption | with_reducible refine Below.al ?_ _ | with_reducible refine Below.drew ?_ | with_reducible refine Below.st ?_ (by first | (simp; done) | assumption | (simp; omega)) _ | with_reducible refine Below.call ?_ (by with_reducible assumption) | exact Below.refl _ _ | assumption | refine Below.al ?_ _ | refine Below.drew ?_ | refine Below.call ?_ (by assumption) | refine Below.st ?_ (by first | (simp; done) | assumption | (simp; omega)) _))
  have hsW : w1.heap.size < W.heap.size := by rw [hW]; simp
  have hsb : w.heap.size + 1 < W.heap.size := by omega
  have d0 : W.cell? ⟨w1.heap.size, 0, none⟩ = some (.slice A cs.length cap) := by rw [hW]; go_simp
  have d1 : W.cell? ⟨w1.heap.size, 1, none⟩ = some (.slice A2 rk.length cap2) := by rw [hW]; go_simp
  have s0 : W.cell? ⟨w.heap.size + 1, 0, none⟩ = some (.int .i64 0) := by rw [hW]; go_simp
  have s1 : W.cell? ⟨w.heap.size + 1, 1, none⟩ = some (.int .i64 0) := by rw [hW]; go_simp
  have g0 : W.frozen? ⟨w.heap.size + 1, 0, none⟩ = false := by rw [hW]; go_simp
  have g1 : W.frozen? ⟨w.heap.size + 1, 1, none⟩ = false := by rw [hW]; go_simp
  clear hW c1_0 c1_1 f1_0 f1_1
  have hord := fun (Wx : World) (hb : Below W.heap.size W Wx) => turn_order cs rk (by omega) A cap hcap A2 cap2 Wx ((hz.below HB).below hb) ((hr.below HB).below hb) hd.ranks.2 hd.rb hd.cloths
  go_region_held3 (fun w' => w'.cell? ⟨w1.heap.size, 0, none⟩ = some (.slice A cs.length cap) ∧ w'.cell? ⟨w1.heap.size, 1, none⟩ = some (.slice A2 rk.length cap2))
    (first
      | exact ⟨by assumption, by assumption⟩
      | go_keep)
    (first
      | (go_at_call 38; refine (hord _ (Below.refl _ _).drew).mono ?_; rintro e w2 ⟨⟨v, rfl, ⟨⟨AO, capo, rfl, hzo⟩, hown⟩⟩, hb2⟩; have HB2 := (Below.refl W.heap.size W).drew.call hb2; have q0 := HB2.rdcell hsW d0; have q1 := HB2.rdcell hsW d1)
      | (go_at_call 37; refine (turn_turns A A2 AO _ _ _ cap cap2 capo s _ w2).mono ?_; rintro e w3 ⟨rfl, hw3⟩; have HB3 : Below W.heap.size W w3 := (by rw [← hw3]; exact (by repeat (first | with_reducible exact Below.refl _ _ | with_reducible assumption | with_reducible refine Below.al ?_ _ | with_reducible refine Below.drew ?_ | with_reducible refine Below.st ?_ (by first | (simp; done) | assumption | (simp; omega)) _ | with_reducible refine Below.call ?_ (by with_reducible assumption) | exact Below.refl _ _ | assumption | refine Below.al ?_ _ | refine Below.drew ?_ | refine Below.call ?_ (by assumption) | refine Below.st ?_ (by first | (simp; done) | assumption | (simp; omega)) _))); have p0 := HB3.rdcell hsW d0; have p1 := HB3.rdcell hsW d1))
  have hlO := ord_length cs rk
  have hS1 : ∀ k, k = w.heap.size + 1 → k < w2.heap.size := by intro k hk; have := HB2.size; omega
  have hcS : 0 < cs.length → ∀ b off, A = some ⟨b, off, none⟩ → ¬ b = w.heap.size + 1 := by
    intro h b off e
    obtain ⟨b', off', e', hb', _⟩ := hz h
    rw [e] at e'; cases e'
    omega
  have hoS : 0 < (ordF cs rk).length → ∀ b off, AO = some ⟨b, off, none⟩ → ¬ b = w.heap.size + 1 := by
    intro h b off e
    obtain ⟨b', cap', e', hb', _⟩ := hown h
    rw [e] at e'; cases e'
    have : W.drew.heap.size = W.heap.size := rfl
    omega
  have hseq := turns_fresh cs TC.lo 39 turn_low (enters_of Try.func39 (by kernel_rfl) rfl) (ordF cs rk) (by omega) s hs (fun c hc => by have := hd.cloths c hc; unfold TC.ok at this; omega) (fun c hc => by have := hd.cloths c hc; unfold TC.ok at this; omega)
    (ord_bound cs rk) (fun k => k = w.heap.size + 1) w2 w3 A A2 AO rk.length cap cap2 capo hw3 ((hz.below HB).below HB2) hzo hS1 hcS hoS
  have s0' := HB3.rdcell hsb s0
  have s1' := HB3.rdcell hsb s1
  have g0' := (HB3.frozen (p := ⟨w.heap.size + 1, 0, none⟩) hsb).trans g0
  have g1' := (HB3.frozen (p := ⟨w.heap.size + 1, 1, none⟩) hsb).trans g1
  have hsb3 := Nat.lt_of_lt_of_le hsb HB3.size
  have hB3s := hsb3
  have HBS := HB.call HB3
  clear hlO hw3 hown hzo q0 q1 d0 d1 s0 s1 g0 g1
  gi_wp2
  refine range_lawT rfl (enters_of Try.func69 (by kernel_rfl) rfl) hseq (Below.refl _ _) (fun _ => rfl) (fun k hk => by rw [hk]; exact hsb3)
    (fun pre Wx => Keep (fun k => k = w.heap.size + 1) w3 Wx ∧ Below w.heap.size w Wx ∧ Wx.cell? ⟨w.heap.size + 1, 0, none⟩ = some (.int .i64 (endF pre)) ∧ Wx.cell? ⟨w.heap.size + 1, 1, none⟩ = some (.int .i64 0) ∧ Wx.frozen? ⟨w.heap.size + 1, 0, none⟩ = false ∧ Wx.frozen? ⟨w.heap.size + 1, 1, none⟩ = false)
    (fun _ _ _ => False)
    (fun _ => (stable_keep (Nat.le_refl _)).and ((stable_below (by have h1 := HB.size; have h2 := HBS.size; omega)).and ((stable_cell hsb3).and ((stable_cell hsb3).and ((stable_free hsb3).and (stable_free hsb3))))))
    (fun _ _ => stable_false)
    ⟨Keep.refl _ _, HBS, s0', s1', g0', g1'⟩
    (fun T x a' Wx => ∃ blk, a' = { tmps := (T.setIfInBounds 24 (.agg #[.int .i64 x.cloth, .int .i64 x.taken, .int .i64 x.done])).setIfInBounds 7 (.pointer (some ⟨blk, 0, none⟩)), defers := [] } ∧ w3.heap.size ≤ blk ∧ Wx.cell? ⟨blk, 0, none⟩ = some (.int .i64 x.cloth) ∧ Wx.cell? ⟨blk, 1, none⟩ = some (.int .i64 x.taken) ∧ Wx.cell? ⟨blk, 2, none⟩ = some (.int .i64 x.done))
    ?hAx ?assign ?body ?done ?stop
  case hAx =>
    rintro T x a' Wx l r o hl ⟨blk, rfl, hb, k0, k1, k2⟩
    have hk : Keep (fun _ => False) Wx (Wx.putObj l o) := Keep.putRec hl rfl
    exact ⟨blk, rfl, hb, hk.cell id k0, hk.cell id k1, hk.cell id k2⟩
  case assign =>
    rintro l pre x rest Wx K hxs ⟨hk, hbw, i0, i1, i2, i3⟩ hsx hK
    simp only [encTn]
    gi_wp2
    have hsbx : w.heap.size + 1 < Wx.heap.size := Nat.lt_of_lt_of_le hsb3 hsx
    refine hK _ _ ((Kept.refl _ Wx).al _) ⟨hk.trans ((Kept.refl _ Wx).al _).keep, hbw.al _, ?_, ?_, ?_, ?_⟩ ⟨Wx.heap.size, rfl, hsx, ?_, ?_, ?_⟩
    all_goals go_simp
  case body =>
    rintro l pre x rest a' Wx hxs ⟨hk, hbw, i0, i1, i2, i3⟩ hsx ⟨blk, rfl, hb, k0, k1, k2⟩
    gi_wp2
    have hst : Kept (fun k => k = w.heap.size + 1) Wx (Wx.setCell ⟨w.heap.size + 1, 0, none⟩ (.int .i64 (max (endF pre) x.done))) := Kept.st (S := fun k => k = w.heap.size + 1) (Kept.refl _ Wx) rfl _
    refine ⟨hst, hk.trans hst.keep, hbw.st (by show w.heap.size ≤ w.heap.size + 1; omega) _, ?_, ?_, ?_, ?_⟩
    · rw [endF_snoc]; exact World.cell?_setCell_same' _ _ _ (by rw [i0]; rfl)
    · rw [set_other (by omega)]; exact i1
    · rw [World.frozen?_setCell]; exact i2
    · rw [World.frozen?_setCell]; exact i3
  case done =>
    rintro D W4 hD hs4 ⟨hk4, hbw4, i0, i1, i2, i3⟩ hD4
    have z0 := hk4.cell (by show ¬ _ = _; omega) p0
    have z1 := hk4.cell (by show ¬ _ = _; omega) p1
    have hzr : Sl w A2 1 encI rk := hr
    have hz4 := (((hz.below (HB.call HB3)).slS hcS).keep hk4).sl
    have hrS : 0 < rk.length → ∀ b off, A2 = some ⟨b, off, none⟩ → ¬ b = w.heap.size + 1 := by
      intro h b off e
      obtain ⟨b', off', e', hb', _⟩ := hr h
      rw [e] at e'; cases e'
      omega
    have hr4 := (((hr.below (HB.call HB3)).slS hrS).keep hk4).sl
    have hsd4 := cell_lt z0
    have hsb4 := cell_lt i0
    clear hord hseq s0' s1' g0' g1' p0 p1 hcS hoS hS1
    have hord := fun (Wx : World) (hb : Below W4.heap.size W4 Wx) => turn_order cs rk (by omega) A cap hcap A2 cap2 Wx (hz4.below hb) (hr4.below hb) hd.ranks.2 hd.rb hd.cloths
    gi_wp2
    refine wpIn_wide.2 ?_
    go_region_held3 (fun w' => w'.cell? ⟨w1.heap.size, 0, none⟩ = some (.slice A cs.length cap) ∧ w'.cell? ⟨w1.heap.size, 1, none⟩ = some (.slice A2 rk.length cap2))
      (first
        | exact ⟨by assumption, by assumption⟩
        | go_keep)
      (first
        | (go_at_call 38; refine (hord _ (Below.refl _ _).drew).mono ?_; rintro e w5 ⟨⟨v, rfl, ⟨⟨AO5, capo5, rfl, hzo⟩, hown⟩⟩, hb5⟩; have HB5 := (Below.refl W4.heap.size W4).drew.call hb5; have q0 := HB5.rdcell hsd4 z0; have q1 := HB5.rdcell hsd4 z1)
        | (go_at_call 37; refine (turn_turns A A2 AO5 _ _ _ cap cap2 capo5 s _ w5).mono ?_; rintro e w6 ⟨rfl, hw6⟩; have HB6 : Below W4.heap.size W4 w6 := (by rw [← hw6]; exact (by repeat (first | with_reducible exact Below.refl _ _ | with_reducible assumption | with_reducible refine Below.al ?_ _ | with_reducible refine Below.drew ?_ | with_reducible refine Below.st ?_ (by first | (simp; done) | assumption | (simp; omega)) _ | with_reducible refine Below.call ?_ (by with_reducible assumption) | exact Below.refl _ _ | assumption | refine Below.al ?_ _ | refine Below.drew ?_ | refine Below.call ?_ (by assumption) | refine Below.st ?_ (by first | (simp; done) | assumption | (simp; omega)) _))); have p0 := HB6.rdcell hsd4 z0; have p1 := HB6.rdcell hsd4 z1))
    have hS1 : ∀ k, k = w.heap.size + 1 → k < w5.heap.size := by intro k hk; have := HB5.size; omega
    have hcS : 0 < cs.length → ∀ b off, A = some ⟨b, off, none⟩ → ¬ b = w.heap.size + 1 := by
      intro h b off e
      obtain ⟨b', off', e', hb', _⟩ := hz h
      rw [e] at e'; cases e'
      omega
    have hoS : 0 < (ordF cs rk).length → ∀ b off, AO5 = some ⟨b, off, none⟩ → ¬ b = w.heap.size + 1 := by
      intro h b off e
      obtain ⟨b', cap', e', hb', _⟩ := hown h
      rw [e] at e'; cases e'
      have : W4.drew.heap.size = W4.heap.size := rfl
      omega
    have hlO := ord_length cs rk
    have hseq := turns_fresh cs TC.hi 40 turn_high (enters_of Try.func40 (by kernel_rfl) rfl) (ordF cs rk) (by omega) s hs (fun c hc => by have := hd.cloths c hc; unfold TC.ok at this; omega) (fun c hc => by have := hd.cloths c hc; unfold TC.ok at this; omega)
      (ord_bound cs rk) (fun k => k = w.heap.size + 1) w5 w6 A A2 AO5 rk.length cap cap2 capo5 hw6 (hz4.below HB5) hzo hS1 hcS hoS
    have s0' := HB6.rdcell hsb4 i0
    have s1' := HB6.rdcell hsb4 i1
    have g0' := (HB6.frozen (p := ⟨w.heap.size + 1, 0, none⟩) hsb4).trans i2
    have g1' := (HB6.frozen (p := ⟨w.heap.size + 1, 1, none⟩) hsb4).trans i3
    have HBS := hbw4.call HB6
    have hsb6 := Nat.lt_of_lt_of_le hsb4 HB6.size
    have hD6 := (HB6.block D (lt_of_get hD4)).trans hD4
    generalize hE1 : endF (turnsF cs TC.lo (List.replicate s 0) (ordF cs rk)) = E1 at *
    have HE1 := Lib.hid hE1
    clear hlO hE1 hw6 hown hzo q0 q1 i0 i1 i2 i3 hcS hoS
    gi_wp2
    refine range_lawT rfl (enters_of Try.func69 (by kernel_rfl) rfl) hseq (Below.refl _ _) (fun _ => rfl) (fun k hk => by rw [hk]; exact hsb6)
      (fun pre Wx => Keep (fun k => k = w.heap.size + 1) w6 Wx ∧ Below w.heap.size w Wx ∧ Wx.cell? ⟨w.heap.size + 1, 0, none⟩ = some (.int .i64 E1) ∧ Wx.cell? ⟨w.heap.size + 1, 1, none⟩ = some (.int .i64 (endF pre)) ∧ Wx.frozen? ⟨w.heap.size + 1, 0, none⟩ = false ∧ Wx.frozen? ⟨w.heap.size + 1, 1, none⟩ = false)
      (fun _ _ _ => False)
      (fun _ => (stable_keep (Nat.le_refl _)).and ((stable_below (by have h1 := HB.size; have h2 := HBS.size; omega)).and ((stable_cell hsb6).and ((stable_cell hsb6).and ((stable_free hsb6).and (stable_free hsb6))))))
      (fun _ _ => stable_false)
      ⟨Keep.refl _ _, HBS, s0', s1', g0', g1'⟩
      (fun T x a' Wx => ∃ blk, a' = { tmps := (T.setIfInBounds 36 (.agg #[.int .i64 x.cloth, .int .i64 x.taken, .int .i64 x.done])).setIfInBounds 8 (.pointer (some ⟨blk, 0, none⟩)), defers := [] } ∧ w6.heap.size ≤ blk ∧ Wx.cell? ⟨blk, 0, none⟩ = some (.int .i64 x.cloth) ∧ Wx.cell? ⟨blk, 1, none⟩ = some (.int .i64 x.taken) ∧ Wx.cell? ⟨blk, 2, none⟩ = some (.int .i64 x.done))
      ?hAx2 ?assign2 ?body2 ?done2 ?stop2
    case hAx2 =>
      rintro T x a' Wx l r o hl ⟨blk, rfl, hb, k0, k1, k2⟩
      have hk : Keep (fun _ => False) Wx (Wx.putObj l o) := Keep.putRec hl rfl
      exact ⟨blk, rfl, hb, hk.cell id k0, hk.cell id k1, hk.cell id k2⟩
    case assign2 =>
      rintro l pre x rest Wx K hxs ⟨hk, hbw, i0, i1, i2, i3⟩ hsx hK
      simp only [encTn]
      gi_wp2
      have hsbx : w.heap.size + 1 < Wx.heap.size := Nat.lt_of_lt_of_le hsb6 hsx
      refine hK _ _ ((Kept.refl _ Wx).al _) ⟨hk.trans ((Kept.refl _ Wx).al _).keep, hbw.al _, ?_, ?_, ?_, ?_⟩ ⟨Wx.heap.size, rfl, hsx, ?_, ?_, ?_⟩
      all_goals go_simp
    case body2 =>
      rintro l pre x rest a' Wx hxs ⟨hk, hbw, i0, i1, i2, i3⟩ hsx ⟨blk, rfl, hb, k0, k1, k2⟩
      gi_wp2
      have hst : Kept (fun k => k = w.heap.size + 1) Wx (Wx.setCell ⟨w.heap.size + 1, 1, none⟩ (.int .i64 (max (endF pre) x.done))) := Kept.st (S := fun k => k = w.heap.size + 1) (Kept.refl _ Wx) rfl _
      refine ⟨hst, hk.trans hst.keep, hbw.st (by show w.heap.size ≤ w.heap.size + 1; omega) _, ?_, ?_, ?_, ?_⟩
      · rw [set_other (by omega)]; exact i0
      · rw [endF_snoc]; exact World.cell?_setCell_same' _ _ _ (by rw [i1]; rfl)
      · rw [World.frozen?_setCell]; exact i2
      · rw [World.frozen?_setCell]; exact i3
    case done2 =>
      rintro D2 W7 hDD hs7 ⟨hk7, hbw7, i0, i1, i2, i3⟩ hD7
      have hD7' : W7.heap[D]? = some (.deferred (some [])) := hk7.same D _ hD6 rfl (by show ¬ _ = _; have := hB3s; omega)
      gi_wp2
      have hDD' : D ≠ D2 := by have := lt_of_get hD6; omega
      refine leaves_2 (other_setCell (other_setCell hD7' (by show D ≠ w.heap.size + 1; omega)) (by show D ≠ w.heap.size + 1; omega)) (other_setCell (other_setCell hD7 (by show D2 ≠ w.heap.size + 1; omega)) (by show D2 ≠ w.heap.size + 1; omega)) hDD' ?_
      obtain ⟨Wf, hWf⟩ : ∃ Wf, (((W7.setCell ⟨w.heap.size + 1, 0, none⟩ (.int .i64 E1)).setCell ⟨w.heap.size + 1, 1, none⟩ (.int .i64 (endF (turnsF cs TC.hi (List.replicate s 0) (ordF cs rk))))).putObj D2 (.deferred none)).putObj D (.deferred none) = Wf := ⟨_, rfl⟩
      have hsz7 : w.heap.size ≤ w.heap.size + 1 := by omega
      have hwD : w.heap.size + 1 < D := by omega
      have hwD2 : w.heap.size + 1 < D2 := by omega
      have hBf : Below w.heap.size w Wf := by
        rw [← hWf]
        exact below_put (below_put ((hbw7.st hsz7 _).st hsz7 _) (by omega) _) (by omega) _
      have u0 : Wf.cell? ⟨w.heap.size + 1, 0, none⟩ = some (.int .i64 E1) := by
        rw [← hWf, cell_put (by omega), cell_put (by omega), set_other (by omega)]
        exact World.cell?_setCell_same' _ _ _ (by rw [i0]; rfl)
      have u1 : Wf.cell? ⟨w.heap.size + 1, 1, none⟩ = some (.int .i64 (endF (turnsF cs TC.hi (List.replicate s 0) (ordF cs rk)))) := by
        rw [← hWf, cell_put (by omega), cell_put (by omega)]
        exact World.cell?_setCell_same' _ _ _ (by rw [set_other (by omega), i1]; rfl)
      rw [hWf]
      refine ⟨.tuple #[.agg #[.int .i64 E1, .int .i64 (endF (turnsF cs TC.hi (List.replicate s 0) (ordF cs rk)))], .int .i64 0], by simp [results, Try.f11, Try.results11, go_sem, u0, u1], ?_⟩
      refine ⟨?_, hBf⟩
      rw [← HE1.out]; rfl
    case stop2 => exact fun _ _ _ _ _ _ _ h => h.elim
  case stop => exact fun _ _ _ _ _ _ _ h => h.elim
end Go.Proofs.Ytacellaeepngkaa
