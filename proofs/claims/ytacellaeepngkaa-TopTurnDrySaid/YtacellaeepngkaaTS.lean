/- turn.Starts. -/
import Derived.Test.YtacellaeepngkaaTE
namespace Go.Proofs.Ytacellaeepngkaa
set_option linter.unusedVariables false
set_option linter.unusedSimpArgs false
open Go.RowKit Go.Shelf
attribute [local go_sem] Oper.semAt_some

/-- When a cloth is taken; 0 where it is not. -/
def startF (xs : List Tn) (i : Nat) : Int := xs.foldl (fun m t => if t.cloth = (i : Int) then t.taken else m) 0

theorem startF_snoc (xs : List Tn) (x : Tn) (i : Nat) : startF (xs ++ [x]) i = if x.cloth = (i : Int) then x.taken else startF xs i := by simp [startF]

/-- The cells of the spans. -/
def gS (lo hi : List Tn) (t : Nat) : Int := if t % 2 = 0 then startF lo (t / 2) else startF hi (t / 2)

theorem turnsF_cloth {cs : List TC} {pick : TC → Int} (l : List Int) : ∀ f, (turnsF cs pick f l).map Tn.cloth = l := by
  induction l with
  | nil => intro f; rfl
  | cons o l ih => intro f; simp [turnsF, ih, tnF]

theorem RowA.set {w : World} {blk off n : Nat} {G : Nat → Int} (h : RowA w blk off n G) {j : Nat} (hj : j < n) {x : Int} : RowA (w.setCell ⟨blk, off + j, none⟩ (.int .i64 x)) blk off n fun t => if t = j then x else G t := by
  refine ⟨fun t ht => ?_, fun t ht => by rw [World.frozen?_setCell]; exact h.free t ht⟩
  by_cases e : t = j
  · subst e
    rw [if_pos rfl]
    exact World.cell?_setCell_same' _ _ _ (by rw [h.cell t hj]; rfl)
  · rw [if_neg e, set_other (by omega), h.cell t ht]

theorem RowA.cong {w : World} {blk off n : Nat} {G G' : Nat → Int} (h : RowA w blk off n G) (e : ∀ t, t < n → G t = G' t) : RowA w blk off n G' :=
  ⟨fun t ht => by rw [← e t ht]; exact h.cell t ht, h.free⟩

theorem stable_row {b n B : Nat} {G : Nat → Int} (h : b < B) : Stable B fun W => RowA W b 0 n G := fun A C hA hs hb =>
  ⟨fun t ht => (hb.cell (p := ⟨b, 0 + t, none⟩) h).trans (hA.cell t ht), fun t ht => (hb.frozen (p := ⟨b, 0 + t, none⟩) h).trans (hA.free t ht)⟩

theorem info_span : (Try.prog.info? 36).map (fun i => (i.zero, i.size, i.bytes)) = some (some (.agg #[.int .i64 0, .int .i64 0]), 2, 16) := by kernel_rfl

theorem make_span (n : Nat) (hn : n ≤ 1000000) (w : World) :
    (Instr.makeSlice 27 (.int .i64 (n : Int)) (.int .i64 (n : Int))).run Try.prog w = .ok (.slice (some ⟨w.heap.size, 0, none⟩) n n) (w.alloc (.cells (madeCells #[.int .i64 0, .int .i64 0] (n * 2)) 36)) := by
  obtain ⟨i0, hi, hz0, hz1, hz2⟩ := info_parts info_span
  have hr := run_make (P := Try.prog) w 27 36 i0 _ (by kernel_rfl) hi hz0 .i64 .i64 n n (by omega) (Int.le_refl _) (by rw [hz2]; omega) (by omega)
  simp only [Int.toNat_natCast, hz1] at hr
  exact hr

set_option maxRecDepth 100000 in
set_option maxHeartbeats 4000000 in
theorem turn_Starts (cs : List TC) (rk : List Int) (hd : DayOk cs rk) (s : Nat) (hs : 1 ≤ s ∧ s ≤ 5) (A A2 : Option Addr) (cap cap2 : Nat) (hcap : cs.length ≤ cap) (w : World) (hz : Sl w A 4 encTC cs) (hr : Sl w A2 1 encI rk) :
    Calls Try.prog 10 #[.agg #[.slice A cs.length cap, .slice A2 rk.length cap2], .int .i64 s] w fun e w' => ∃ b, e = .returned (.tuple #[.slice (some ⟨b, 0, none⟩) cs.length cs.length, .int .i64 0]) ∧
      w.heap.size ≤ b ∧ b < w'.heap.size ∧ RowA w' b 0 (cs.length * 2) (gS (tnsF cs rk TC.lo s) (tnsF cs rk TC.hi s)) ∧ Below w.heap.size w w' := by
  have hf := hd.few
  have hmk := make_span cs.length (by omega)
  refine (callsIn_wide (n := 21)).1 ?_
  refine callsIn_of_wp_marks Try.func10 rfl trivial ?_ rfl
  simp only [Try.ntmps10, List.size_toArray, List.length_cons, List.length_nil, Nat.reduceAdd, Nat.reduceSub, Array.replicate_succ, Array.replicate_zero, List.push_toArray, List.append_toArray, List.nil_append, List.cons_append]
  gi_wp2
  refine ⟨trivial, callsIn_wide.2 ((turn_open cs rk hd s 0 (by omega) (by omega) A A2 cap cap2 _ (hz.below (by repeat (first | with_reducible exact Below.refl _ _ | with_reducible assumption | with_reducible refine Below.al ?_ _ | with_reducible refine Below.drew ?_ | with_reducible refine Below.st ?_ (by first | (simp; done) | assumption | (simp; omega)) _ | with_reducible refine Below.call ?_ (by with_reducible assumption) | exact Below.refl _ _ | assumption | refine Below.al ?_ _ | refine Below.drew ?_ | refine Below.call ?_ (by assumption) | refine Below.st ?_ (by first | (simp; done) | assumption | (simp; omega)) _))) (hr.below (by repeat (first | with_reducible exact Below.refl _ _ | with_reducible assumption | with_reducible refine Below.al ?_ _ | with_reducible refine Below.drew ?_ | with_reducible refine Below.st ?_ (by first | (simp; done) | assumption | (simp; omega)) _ | with_reducible refine Below.call ?_ (by with_reducible assumption) | exact Below.refl _ _ | assumption | refine Below.al ?_ _ | refine Below.drew ?_ | refine Below.call ?_ (by assumption) | refine Below.st ?_ (by first | (simp; done) | assumption | (simp; omega)) _)))).mono ?_)⟩
  rintro e w1 ⟨rfl, hb1⟩
  have c1_0 := fun o => hb1.cell (p := ⟨w.heap.size, o, none⟩) (by first | omega | (simp; done) | (simp; omega)); have f1_0 := fun o => hb1.frozen (p := ⟨w.heap.size, o, none⟩) (by first | omega | (simp; done) | (simp; omega)); have z1_0 : w.heap.size < w1.heap.size := (by have h := hb1.size; first | omega | (simp at h; omega))
  gi_wp2
  refine wpIn_wide.2 ?_
  refine name_world (fun W hW => ?_)
  have HB : Below w.heap.size w W := by rw [hW]; exact (by repeat (first | with_reducible exact Below.refl _ _ | with_reducible assumption | with_reducible refine Below.al ?_ _ | with_reducible refine Below.drew ?_ | with_reducible refine Below.st ?_ (by first | (simp; done) | assumption | (simp; omega)) _ | with_reducible refine Below.call ?_ (by with_reducible assumption) | exact Below.refl _ _ | assumption | refine Below.al ?_ _ | refine Below.drew ?_ | refine Below.call ?_ (by assumption) | refine Below.st ?_ (by first | (simp; done) | assumption | (simp; omega)) _))
  have hsW : w1.heap.size < W.heap.size := by rw [hW]; simp; omega
  have hsb : w1.heap.size + 1 < W.heap.size := by rw [hW]; simp
  have hsl : w1.heap.size + 1 + 1 < W.heap.size := by rw [hW]; simp
  have d0 : W.cell? ⟨w1.heap.size, 0, none⟩ = some (.slice A cs.length cap) := by rw [hW]; go_simp
  have d1 : W.cell? ⟨w1.heap.size, 1, none⟩ = some (.slice A2 rk.length cap2) := by rw [hW]; go_simp
  have l0 : W.cell? ⟨w1.heap.size + 1 + 1, 0, none⟩ = some (.slice (some ⟨w1.heap.size + 1, 0, none⟩) cs.length cs.length) := by rw [hW]; go_simp
  have R0 : RowA W (w1.heap.size + 1) 0 (cs.length * 2) (gS [] []) := by
    have hh : W.heap[w1.heap.size + 1]? = some (.cells (madeCells #[.int .i64 0, .int .i64 0] (cs.length * 2)) 36) := by
      rw [hW, Below.heap_alloc _ _ _ (by simp)]
      have := World.alloc_heap_new (w1.alloc (.cells #[.slice A cs.length cap, .slice A2 rk.length cap2] 108)) (.cells (madeCells #[.int .i64 0, .int .i64 0] (cs.length * 2)) 36)
      rwa [World.size_alloc] at this
    refine ⟨fun t ht => ?_, fun t ht => ?_⟩
    · simp only [World.cell?, Nat.zero_add, hh]
      have : t % 2 = 0 ∨ t % 2 = 1 := by omega
      rcases this with h | h <;> simp [madeCells, ht, gS, startF, h]
    · simp only [World.frozen?, Nat.zero_add, hh]
      simp
  clear hW hmk c1_0 f1_0
  have hord := fun (Wx : World) (hb : Below W.heap.size W Wx) => turn_order cs rk (by omega) A cap hcap A2 cap2 Wx ((hz.below HB).below hb) ((hr.below HB).below hb) hd.ranks.2 hd.rb hd.cloths
  go_region_held3 (fun w' => w'.cell? ⟨w1.heap.size, 0, none⟩ = some (.slice A cs.length cap) ∧ w'.cell? ⟨w1.heap.size, 1, none⟩ = some (.slice A2 rk.length cap2))
    (first
      | exact ⟨by assumption, by assumption⟩
      | go_keep)
    (first
      | (go_at_call 38; refine (hord _ (Below.refl _ _).drew).mono ?_; rintro e w2 ⟨⟨v, rfl, ⟨⟨AO, capo, rfl, hzo⟩, hown⟩⟩, hb2⟩; have HB2 := (Below.refl W.heap.size W).drew.call hb2; have q0 := HB2.rdcell hsW d0; have q1 := HB2.rdcell hsW d1)
      | (go_at_call 37; refine (turn_turns A A2 AO _ _ _ cap cap2 capo s _ w2).mono ?_; rintro e w3 ⟨rfl, hw3⟩; have HB3 : Below W.heap.size W w3 := (by rw [← hw3]; exact (by repeat (first | with_reducible exact Below.refl _ _ | with_reducible assumption | with_reducible refine Below.al ?_ _ | with_reducible refine Below.drew ?_ | with_reducible refine Below.st ?_ (by first | (simp; done) | assumption | (simp; omega)) _ | with_reducible refine Below.call ?_ (by with_reducible assumption) | exact Below.refl _ _ | assumption | refine Below.al ?_ _ | refine Below.drew ?_ | refine Below.call ?_ (by assumption) | refine Below.st ?_ (by first | (simp; done) | assumption | (simp; omega)) _))); have p0 := HB3.rdcell hsW d0; have p1 := HB3.rdcell hsW d1))
  have hlO := ord_length cs rk
  have hS1 : ∀ k, k = w1.heap.size + 1 → k < w2.heap.size := by intro k hk; have := HB2.size; omega
  have hcS : 0 < cs.length → ∀ b off, A = some ⟨b, off, none⟩ → ¬ b = w1.heap.size + 1 := by
    intro h b off e
    obtain ⟨b', off', e', hb', _⟩ := hz h
    rw [e] at e'; cases e'
    omega
  have hoS : 0 < (ordF cs rk).length → ∀ b off, AO = some ⟨b, off, none⟩ → ¬ b = w1.heap.size + 1 := by
    intro h b off e
    obtain ⟨b', cap', e', hb', _⟩ := hown h
    rw [e] at e'; cases e'
    have : W.drew.heap.size = W.heap.size := rfl
    omega
  have hseq := turns_fresh cs TC.lo 39 turn_low (enters_of Try.func39 (by kernel_rfl) rfl) (ordF cs rk) (by omega) s hs (fun c hc => by have := hd.cloths c hc; unfold TC.ok at this; omega) (fun c hc => by have := hd.cloths c hc; unfold TC.ok at this; omega)
    (ord_bound cs rk) (fun k => k = w1.heap.size + 1) w2 w3 A A2 AO rk.length cap cap2 capo hw3 ((hz.below HB).below HB2) hzo hS1 hcS hoS
  have l0' := HB3.rdcell hsl l0
  have R0' := R0.later hsb HB3
  have hsb3 := Nat.lt_of_lt_of_le hsb HB3.size
  have hB3s := hsb3
  have HBS := HB.call HB3
  clear hlO hw3 hown hzo q0 q1 d0 d1 l0 R0
  gi_wp2
  refine range_lawT rfl (enters_of Try.func69 (by kernel_rfl) rfl) hseq (Below.refl _ _) (fun _ => rfl) (fun k hk => by rw [hk]; exact hsb3)
    (fun pre Wx => Keep (fun k => k = w1.heap.size + 1) w3 Wx ∧ Below w.heap.size w Wx ∧ RowA Wx (w1.heap.size + 1) 0 (cs.length * 2) (gS pre []))
    (fun _ _ _ => False)
    (fun _ => (stable_keep (Nat.le_refl _)).and ((stable_below (by have h1 := HB.size; have h2 := HBS.size; omega)).and (stable_row hsb3)))
    (fun _ _ => stable_false)
    ⟨Keep.refl _ _, HBS, R0'⟩
    (fun T x a' Wx => ∃ blk, a' = { tmps := (T.setIfInBounds 30 (.agg #[.int .i64 x.cloth, .int .i64 x.taken, .int .i64 x.done])).setIfInBounds 9 (.pointer (some ⟨blk, 0, none⟩)), defers := [] } ∧ w3.heap.size ≤ blk ∧ Wx.cell? ⟨blk, 0, none⟩ = some (.int .i64 x.cloth) ∧ Wx.cell? ⟨blk, 1, none⟩ = some (.int .i64 x.taken) ∧ Wx.cell? ⟨blk, 2, none⟩ = some (.int .i64 x.done))
    ?hAx ?assign ?body ?done ?stop
  case hAx =>
    rintro T x a' Wx l r o hl ⟨blk, rfl, hb, k0, k1, k2⟩
    have hk : Keep (fun _ => False) Wx (Wx.putObj l o) := Keep.putRec hl rfl
    exact ⟨blk, rfl, hb, hk.cell id k0, hk.cell id k1, hk.cell id k2⟩
  case assign =>
    rintro l pre x rest Wx K hxs ⟨hk, hbw, hR⟩ hsx hK
    simp only [encTn]
    gi_wp2
    have hsbx : w1.heap.size + 1 < Wx.heap.size := Nat.lt_of_lt_of_le hsb3 hsx
    refine hK _ _ ((Kept.refl _ Wx).al _) ⟨hk.trans ((Kept.refl _ Wx).al _).keep, hbw.al _, hR.later (Nat.lt_of_lt_of_le hsb3 hsx) (by repeat (first | with_reducible exact Below.refl _ _ | with_reducible assumption | with_reducible refine Below.al ?_ _ | with_reducible refine Below.drew ?_ | with_reducible refine Below.st ?_ (by first | (simp; done) | assumption | (simp; omega)) _ | with_reducible refine Below.call ?_ (by with_reducible assumption) | exact Below.refl _ _ | assumption | refine Below.al ?_ _ | refine Below.drew ?_ | refine Below.call ?_ (by assumption) | refine Below.st ?_ (by first | (simp; done) | assumption | (simp; omega)) _))⟩ ⟨Wx.heap.size, rfl, hsx, ?_, ?_, ?_⟩
    all_goals go_simp
  case body =>
    rintro l pre x rest a' Wx hxs ⟨hk, hbw, hR⟩ hsx ⟨blk, rfl, hb, k0, k1, k2⟩
    obtain ⟨q, hq, hqn⟩ : ∃ q : Nat, x.cloth = (q : Int) ∧ q < cs.length := by
      have hm : x.cloth ∈ ordF cs rk := by
        rw [← turnsF_cloth (cs := cs) (pick := TC.lo) (ordF cs rk) (List.replicate s 0), hxs]
        simp
      have hb := ord_bound cs rk _ hm
      obtain ⟨q, hq⟩ := Int.eq_ofNat_of_zero_le hb.1
      exact ⟨q, hq, by omega⟩
    have hqz : (q : Int) < (cs.length : Int) := by omega
    have lx := hk.cell (by show ¬ _ = _; omega) l0'
    have y0 := hR.cell (q * 2 + 0) (by omega)
    have y1 := hR.free (q * 2 + 0) (by omega)
    simp only [Nat.zero_add, Nat.add_zero] at y0 y1
    rw [hq] at k0
    have HQ := Lib.hid hq
    clear hq hxs
    gi_wp2
    have hst : Kept (fun k => k = w1.heap.size + 1) Wx (Wx.setCell ⟨w1.heap.size + 1, 0 + (q * 2 + 0), none⟩ (.int .i64 x.taken)) := Kept.st (S := fun k => k = w1.heap.size + 1) (Kept.refl _ Wx) rfl _
    have hRn := (hR.set (j := q * 2 + 0) (x := x.taken) (by omega)).cong (G' := gS (pre ++ [x]) []) (fun t ht => by
      simp only [gS, startF_snoc, HQ.out]
      by_cases e : t = q * 2 + 0
      · subst e
        rw [if_pos rfl, if_pos (by omega), if_pos (by omega)]
      · rw [if_neg e]
        by_cases e2 : t % 2 = 0
        · rw [if_pos e2, if_pos e2]; rw [if_neg (by omega)]
        · rw [if_neg e2, if_neg e2])
    have hbn := hbw.st (p := ⟨w1.heap.size + 1, 0 + (q * 2 + 0), none⟩) (by show w.heap.size ≤ w1.heap.size + 1; omega) (.int .i64 x.taken)
    simp only [Nat.zero_add, Nat.add_zero] at hst hRn hbn
    exact ⟨hst, hk.trans hst.keep, hbn, hRn⟩
  case done =>
    rintro D W4 hD hs4 ⟨hk4, hbw4, R4⟩ hD4
    have z0 := hk4.cell (by show ¬ _ = _; omega) p0
    have z1 := hk4.cell (by show ¬ _ = _; omega) p1
    have hzr : Sl w A2 1 encI rk := hr
    have hz4 := (((hz.below (HB.call HB3)).slS hcS).keep hk4).sl
    have hrS : 0 < rk.length → ∀ b off, A2 = some ⟨b, off, none⟩ → ¬ b = w1.heap.size + 1 := by
      intro h b off e
      obtain ⟨b', off', e', hb', _⟩ := hr h
      rw [e] at e'; cases e'
      omega
    have hr4 := (((hr.below (HB.call HB3)).slS hrS).keep hk4).sl
    have hsd4 := cell_lt z0
    have l4 := hk4.cell (by show ¬ _ = _; omega) l0'
    have hsb4 : w1.heap.size + 1 < W4.heap.size := by omega
    clear hord hseq l0' R0' p0 p1 hcS hoS hS1
    have hord := fun (Wx : World) (hb : Below W4.heap.size W4 Wx) => turn_order cs rk (by omega) A cap hcap A2 cap2 Wx (hz4.below hb) (hr4.below hb) hd.ranks.2 hd.rb hd.cloths
    gi_wp2
    refine wpIn_wide.2 ?_
    go_region_held3 (fun w' => w'.cell? ⟨w1.heap.size, 0, none⟩ = some (.slice A cs.length cap) ∧ w'.cell? ⟨w1.heap.size, 1, none⟩ = some (.slice A2 rk.length cap2))
      (first
        | exact ⟨by assumption, by assumption⟩
        | go_keep)
      (first
        | (go_at_call 38; refine (hord _ (Below.refl _ _).drew).mono ?_; rintro e w5 ⟨⟨v, rfl, ⟨⟨AO5, capo5, rfl, hzo⟩, hown⟩⟩, hb5⟩; have HB5 := (Below.refl W4.heap.size W4).drew.call hb5; have q0 := HB5.rdcell hsd4 z0; have q1 := HB5.rdcell hsd4 z1)
        | (go_at_call 37; refine (turn_turns A A2 AO5 _ _ _ cap cap2 capo5 s _ w5).mono ?_; rintro e w6 ⟨rfl, hw6⟩; have HB6 : Below W4.heap.size W4 w6 := (by rw [← hw6]; exact (by repeat (first | with_reducible exact Below.refl _ _ | with_reducible assumption | with_reducible refine Below.al ?_ _ | with_reducible refine Below.drew ?_ | with_reducible refine Below.st ?_ (by first | (simp; done) | assumption | (simp; omega)) _ | with_reducible refine Below.call ?_ (by with_reducible assumption) | exact Below.refl _ _ | assumption | refine Below.al ?_ _ | refine Below.drew ?_ | refine Below.call ?_ (by assumption) | refine Below.st ?_ (by first | (simp; done) | assumption | (simp; omega)) _))); have p0 := HB6.rdcell hsd4 z0; have p1 := HB6.rdcell hsd4 z1))
    have hS1 : ∀ k, k = w1.heap.size + 1 → k < w5.heap.size := by intro k hk; have := HB5.size; omega
    have hcS : 0 < cs.length → ∀ b off, A = some ⟨b, off, none⟩ → ¬ b = w1.heap.size + 1 := by
      intro h b off e
      obtain ⟨b', off', e', hb', _⟩ := hz h
      rw [e] at e'; cases e'
      omega
    have hoS : 0 < (ordF cs rk).length → ∀ b off, AO5 = some ⟨b, off, none⟩ → ¬ b = w1.heap.size + 1 := by
      intro h b off e
      obtain ⟨b', cap', e', hb', _⟩ := hown h
      rw [e] at e'; cases e'
      have : W4.drew.heap.size = W4.heap.size := rfl
      omega
    have hlO := ord_length cs rk
    have hseq := turns_fresh cs TC.hi 40 turn_high (enters_of Try.func40 (by kernel_rfl) rfl) (ordF cs rk) (by omega) s hs (fun c hc => by have := hd.cloths c hc; unfold TC.ok at this; omega) (fun c hc => by have := hd.cloths c hc; unfold TC.ok at this; omega)
      (ord_bound cs rk) (fun k => k = w1.heap.size + 1) w5 w6 A A2 AO5 rk.length cap cap2 capo5 hw6 (hz4.below HB5) hzo hS1 hcS hoS
    have HBS := hbw4.call HB6
    have l0' := HB6.rdcell (cell_lt l4) l4
    have R0' := R4.later hsb4 HB6
    have hsb6 := Nat.lt_of_lt_of_le hsb4 HB6.size
    have hD6 := (HB6.block D (lt_of_get hD4)).trans hD4
    generalize hE1 : turnsF cs TC.lo (List.replicate s 0) (ordF cs rk) = E1 at *
    have HE1 := Lib.hid hE1
    clear hlO hE1 hw6 hown hzo q0 q1 z0 z1 hcS hoS
    gi_wp2
    refine range_lawT rfl (enters_of Try.func69 (by kernel_rfl) rfl) hseq (Below.refl _ _) (fun _ => rfl) (fun k hk => by rw [hk]; exact hsb6)
      (fun pre Wx => Keep (fun k => k = w1.heap.size + 1) w6 Wx ∧ Below w.heap.size w Wx ∧ RowA Wx (w1.heap.size + 1) 0 (cs.length * 2) (gS E1 pre))
      (fun _ _ _ => False)
      (fun _ => (stable_keep (Nat.le_refl _)).and ((stable_below (by have h1 := HB.size; have h2 := HBS.size; omega)).and (stable_row hsb6)))
      (fun _ _ => stable_false)
      ⟨Keep.refl _ _, HBS, R0'⟩
      (fun T x a' Wx => ∃ blk, a' = { tmps := (T.setIfInBounds 43 (.agg #[.int .i64 x.cloth, .int .i64 x.taken, .int .i64 x.done])).setIfInBounds 10 (.pointer (some ⟨blk, 0, none⟩)), defers := [] } ∧ w6.heap.size ≤ blk ∧ Wx.cell? ⟨blk, 0, none⟩ = some (.int .i64 x.cloth) ∧ Wx.cell? ⟨blk, 1, none⟩ = some (.int .i64 x.taken) ∧ Wx.cell? ⟨blk, 2, none⟩ = some (.int .i64 x.done))
      ?hAx2 ?assign2 ?body2 ?done2 ?stop2
    case hAx2 =>
      rintro T x a' Wx l r o hl ⟨blk, rfl, hb, k0, k1, k2⟩
      have hk : Keep (fun _ => False) Wx (Wx.putObj l o) := Keep.putRec hl rfl
      exact ⟨blk, rfl, hb, hk.cell id k0, hk.cell id k1, hk.cell id k2⟩
    case assign2 =>
      rintro l pre x rest Wx K hxs ⟨hk, hbw, hR⟩ hsx hK
      simp only [encTn]
      gi_wp2
      have hsbx : w1.heap.size + 1 < Wx.heap.size := Nat.lt_of_lt_of_le hsb6 hsx
      refine hK _ _ ((Kept.refl _ Wx).al _) ⟨hk.trans ((Kept.refl _ Wx).al _).keep, hbw.al _, hR.later (Nat.lt_of_lt_of_le hsb6 hsx) (by repeat (first | with_reducible exact Below.refl _ _ | with_reducible assumption | with_reducible refine Below.al ?_ _ | with_reducible refine Below.drew ?_ | with_reducible refine Below.st ?_ (by first | (simp; done) | assumption | (simp; omega)) _ | with_reducible refine Below.call ?_ (by with_reducible assumption) | exact Below.refl _ _ | assumption | refine Below.al ?_ _ | refine Below.drew ?_ | refine Below.call ?_ (by assumption) | refine Below.st ?_ (by first | (simp; done) | assumption | (simp; omega)) _))⟩ ⟨Wx.heap.size, rfl, hsx, ?_, ?_, ?_⟩
      all_goals go_simp
    case body2 =>
      rintro l pre x rest a' Wx hxs ⟨hk, hbw, hR⟩ hsx ⟨blk, rfl, hb, k0, k1, k2⟩
      obtain ⟨q, hq, hqn⟩ : ∃ q : Nat, x.cloth = (q : Int) ∧ q < cs.length := by
        have hm : x.cloth ∈ ordF cs rk := by
          rw [← turnsF_cloth (cs := cs) (pick := TC.hi) (ordF cs rk) (List.replicate s 0), hxs]
          simp
        have hb := ord_bound cs rk _ hm
        obtain ⟨q, hq⟩ := Int.eq_ofNat_of_zero_le hb.1
        exact ⟨q, hq, by omega⟩
      have hqz : (q : Int) < (cs.length : Int) := by omega
      have lx := hk.cell (by show ¬ _ = _; omega) l0'
      have y0 := hR.cell (q * 2 + 1) (by omega)
      have y1 := hR.free (q * 2 + 1) (by omega)
      simp only [Nat.zero_add, Nat.add_zero] at y0 y1
      rw [hq] at k0
      have HQ := Lib.hid hq
      clear hq hxs
      gi_wp2
      have hst : Kept (fun k => k = w1.heap.size + 1) Wx (Wx.setCell ⟨w1.heap.size + 1, 0 + (q * 2 + 1), none⟩ (.int .i64 x.taken)) := Kept.st (S := fun k => k = w1.heap.size + 1) (Kept.refl _ Wx) rfl _
      have hRn := (hR.set (j := q * 2 + 1) (x := x.taken) (by omega)).cong (G' := gS E1 (pre ++ [x])) (fun t ht => by
        simp only [gS, startF_snoc, HQ.out]
        by_cases e : t = q * 2 + 1
        · subst e
          rw [if_pos rfl, if_neg (by omega), if_pos (by omega)]
        · rw [if_neg e]
          by_cases e2 : t % 2 = 0
          · rw [if_pos e2, if_pos e2]
          · rw [if_neg e2, if_neg e2]; rw [if_neg (by omega)])
      have hbn := hbw.st (p := ⟨w1.heap.size + 1, 0 + (q * 2 + 1), none⟩) (by show w.heap.size ≤ w1.heap.size + 1; omega) (.int .i64 x.taken)
      simp only [Nat.zero_add, Nat.add_zero] at hst hRn hbn
      exact ⟨hst, hk.trans hst.keep, hbn, hRn⟩
    case done2 =>
      rintro D2 W7 hDD hs7 ⟨hk7, hbw7, R7⟩ hD7
      have l7 := hk7.cell (by show ¬ _ = _; omega) l0'
      have hD7' : W7.heap[D]? = some (.deferred (some [])) := hk7.same D _ hD6 rfl (by show ¬ _ = _; have := hB3s; omega)
      gi_wp2
      have hDD' : D ≠ D2 := by have := lt_of_get hD6; omega
      have hwD : w1.heap.size + 1 < D := by omega
      have hwD2 : w1.heap.size + 1 < D2 := by omega
      refine leaves_2 hD7' hD7 hDD' ?_
      refine ⟨.tuple #[.slice (some ⟨w1.heap.size + 1, 0, none⟩) cs.length cs.length, .int .i64 0], by simp [results, Try.f10, Try.results10, go_sem], w1.heap.size + 1, rfl, Nat.le_trans (Nat.le_of_lt z1_0) (Nat.le_succ _), ?_, ?_, ?_⟩
      · simp only [World.putObj_size]; have := hk7.size; omega
      · rw [← HE1.out] at R7
        exact ⟨fun t ht => by rw [cell_put (by omega), cell_put (by omega)]; exact R7.cell t ht, fun t ht => by rw [frozen_put (by omega), frozen_put (by omega)]; exact R7.free t ht⟩
      · exact below_put (below_put hbw7 (by omega) _) (by omega) _
    case stop2 => exact fun _ _ _ _ _ _ _ h => h.elim
  case stop => exact fun _ _ _ _ _ _ _ h => h.elim
end Go.Proofs.Ytacellaeepngkaa
