/- (day).order. -/
import Derived.Test.YtacellaeepngkaaT3
import Derived.Test.YtacellaeepngkaaS2
import Derived.Test.YtacellaeepngkaaR1
namespace Go.Proofs.Ytacellaeepngkaa
set_option linter.unusedVariables false
set_option linter.unusedSimpArgs false
open Go.RowKit Go.Shelf

theorem bef_at (cs : List TC) (rk : List Int) (i j : Nat) (hi : i < cs.length) (hj : j < cs.length) :
    befF cs rk i j = orF [cs[i].comes - cs[j].comes, (nthF cs cs[i] i : Int) - nthF cs cs[j] j, rk.getD cs[i].wv.toNat 0 - rk.getD cs[j].wv.toNat 0, (i : Int) - j] := by
  unfold befF
  simp only [Int.toNat_natCast]
  rw [getElem!_pos cs i hi, getElem!_pos cs j hj]

set_option maxRecDepth 100000 in
set_option maxHeartbeats 1000000 in
theorem sortFunc_nil (g : Nat) (fs cb : Array Value) (w0 : World) :
    Calls Try.prog 71 #[.slice none 0 0, .func (.func g) fs cb] w0 fun e w' => e = .returned (.tuple #[]) ∧ w0 = w' := by
  have hl := bits_len 0 (by omega) w0
  have hi : Calls Try.prog 168 #[.slice none 0 0, .int .i64 0, .int .i64 0, .func (.func g) fs cb] w0 fun e w' => e = .returned (.tuple #[]) ∧ w0 = w' := by
    go_enter Try.func168, Try.ntmps168
    go_wp2_with fail
    refine wp_loop_once ?_
    go_wp2
    go_end0
    exact ⟨rfl, rfl⟩
  have hp : ∀ lim, Calls Try.prog 115 #[.slice none 0 0, .int .i64 0, .int .i64 0, .int .i64 lim, .func (.func g) fs cb] w0 fun e w' => e = .returned (.tuple #[]) ∧ w0 = w' := by
    intro lim
    go_enter Try.func115, Try.ntmps115
    go_wp2_with fail
    refine wp_loop_once ?_
    go_wp2_with (go_at_call 168; refine hi.mono ?_; rintro e w' ⟨rfl, rfl⟩)
    refine bodyPost_ret (results_none rfl _ _ _) rfl ?_
    exact ⟨rfl, rfl⟩
  clear hi
  go_enter Try.func71, Try.ntmps71
  go_wp2_with fail
  refine hl.mono ?_
  rintro e w1 ⟨r, rfl, rfl⟩
  go_wp2_with fail
  refine (hp r).mono ?_
  rintro e w' ⟨rfl, rfl⟩
  go_wp2
  go_end0
  exact ⟨rfl, rfl⟩

/-- A list of integers in a slice: as cells that may be written, in a block of the call's own. -/
structure OwnI (base : Nat) (w : World) (v : Value) (xs : List Int) : Prop where
  form : ∃ A cap, v = .slice A xs.length cap ∧ Sl w A 1 encI xs
  own : 0 < xs.length → ∃ b cap, v = .slice (some ⟨b, 0, none⟩) xs.length cap ∧ base ≤ b ∧ b < w.heap.size ∧ RowA w b 0 xs.length fun t => xs.getD t 0

theorem rowA_sl {w : World} {b n : Nat} {G : Nat → Int} {xs : List Int} (h : RowA w b 0 n G) (hl : b < w.heap.size) (hn : n = xs.length) (hG : ∀ t, t < n → G t = xs.getD t 0) : Sl w (some ⟨b, 0, none⟩) 1 encI xs := by
  refine Sl.ints hl fun i x hi => ?_
  obtain ⟨hi', rfl⟩ := List.getElem?_eq_some_iff.1 hi
  have := h.cell i (by omega)
  rw [hG i (by omega)] at this
  rw [this]; simp [List.getD_eq_getElem?_getD, List.getElem?_eq_getElem hi']

set_option maxRecDepth 100000 in
set_option maxHeartbeats 600000 in
theorem turn_order (cs : List TC) (rk : List Int) (hlen : cs.length ≤ 12) (A : Option Addr) (cap : Nat) (hcap : cs.length ≤ cap) (A2 : Option Addr) (cap2 : Nat) (w : World)
    (hz : Sl w A 4 encTC cs) (hr : Sl w A2 1 encI rk) (hrl : rk.length ≤ 6) (hrb : ∀ r ∈ rk, 0 ≤ r ∧ r < 10) (hok : ∀ c ∈ cs, c.ok rk.length) :
    Calls Try.prog 38 #[.agg #[.slice A cs.length cap, .slice A2 rk.length cap2]] w fun e w' => (∃ v, e = .returned v ∧ OwnI w.heap.size w' v (ordF cs rk)) ∧ Below w.heap.size w w' := by
  obtain ⟨i0, hi, hz0, hz1, hz2⟩ := info_parts info_int
  go_enter Try.func38, Try.ntmps38
  go_wp2_with fail
  refine name_world (fun W hW => ?_)
  have HB : Below w.heap.size w W := by rw [hW]; exact (by repeat (first | with_reducible exact Below.refl _ _ | with_reducible assumption | with_reducible refine Below.al ?_ _ | with_reducible refine Below.drew ?_ | with_reducible refine Below.st ?_ (by first | (simp; done) | assumption | (simp; omega)) _ | with_reducible refine Below.call ?_ (by with_reducible assumption) | exact Below.refl _ _ | assumption | refine Below.al ?_ _ | refine Below.drew ?_ | refine Below.call ?_ (by assumption) | refine Below.st ?_ (by first | (simp; done) | assumption | (simp; omega)) _))
  have c0 : W.cell? ⟨w.heap.size, 0, none⟩ = some (.slice A cs.length cap) := by rw [hW]; go_simp
  have c1 : W.cell? ⟨w.heap.size, 1, none⟩ = some (.slice A2 rk.length cap2) := by rw [hW]; go_simp
  have hs : w.heap.size < W.heap.size := by rw [hW]; simp
  clear hW
  go_loopw [2, 3, 8] (fun v _ k wr => ∃ q : Nat, q ≤ cs.length ∧ k = .int .i64 q ∧ wr.ownsRow W.heap.size 3 1 v q ((List.range q).map fun (i : Nat) => Value.int .i64 i) ∧ Below W.heap.size W wr ∧ (v = .slice none 0 0 ↔ q = 0)) (fun _ _ k _ => cs.length - (intOf k).toNat)
  case atStart => exact ⟨0, Nat.zero_le _, rfl, World.ownsRow_nil _ _ _ _, Below.refl _ _, by simp⟩
  case round =>
    obtain ⟨q, hq, rfl, hrow, hb, hnil⟩ := hrel
    by_cases hlt : q < cs.length
    · have hqz : (q : Int) < (cs.length : Int) := by omega
      go_wp2_with (at_builtin; refine wpList_append_own _ rfl _ _ 29 rfl W.heap.size 3 i0 (.int .i64 0) 1 8 Try.underlying29 hi hz0 hz1 hz2 rfl (by decide) _ _ _ rfl (hrow.alloc _) ⟨wr.heap.size, 0, none⟩ 1 1 [.int .i64 q] rfl rfl (cell_one_new _ _ _) (by simp [Value.oneCell']) (by unfold maxLen; omega) (by omega) (by have := hb.size; simp; omega) ?_; intro v' w1 hown' hgrow _)
      go_roundw
      case rel =>
        obtain ⟨g', cap', rfl⟩ := ownsRow_succ hown'
        refine ⟨q + 1, by omega, by go_num, by rw [List.range_succ, List.map_append]; exact hown', ?_, by simp⟩
        exact (hb.al _).grown hgrow (by have := hb.size; simp; omega) (fun k hk => (hrow.lt k hk).1)
      case measure => simp [intOf]; omega
    · obtain rfl : q = cs.length := by omega
      have hqz : ¬ ((cs.length : Nat) : Int) < (cs.length : Int) := by omega
      have z1 : w.heap.size < wr.heap.size := Nat.lt_of_lt_of_le hs hb.size
      have d0 := hb.rdcell hs c0
      have d1 := hb.rdcell hs c1
      have HW : Below w.heap.size w wr := HB.call hb
      have hokI : ∀ t, t < cs.length → (0 : Int) ≤ (((List.range cs.length).map fun (i : Nat) => (i : Int)).toArray)[t]! ∧ (((List.range cs.length).map fun (i : Nat) => (i : Int)).toArray)[t]! < cs.length := by
        intro t ht
        rw [getElem!_pos _ t (by simpa using ht)]
        simp
        omega
      have hcmp : ∀ (blk : Nat), W.heap.size ≤ blk → ∀ Wx x y, (0 ≤ x ∧ x < (cs.length : Int)) → (0 ≤ y ∧ y < (cs.length : Int)) → wr.grownBy Wx (some blk) →
          Calls Try.prog 72 (#[.agg #[.slice A cs.length cap, .slice A2 rk.length cap2]] ++ (#[.int .i64 x, .int .i64 y] ++ #[])) Wx fun e w' => e = .returned (.int .i64 (befF cs rk x y)) ∧ Below Wx.heap.size Wx w' := by
        intro blk hblk Wx x y ⟨hx0, hx1⟩ ⟨hy0, hy1⟩ hg
        obtain ⟨x, rfl⟩ := Int.eq_ofNat_of_zero_le hx0
        obtain ⟨y, rfl⟩ := Int.eq_ofNat_of_zero_le hy0
        rw [bef_at cs rk x y (by omega) (by omega)]
        have keep : Below w.heap.size w Wx := by
          refine HW.grown hg ?_ ?_
          · exact HW.size
          · intro k hk; cases hk; exact Nat.le_trans HB.size hblk
        exact turn_before cs rk x y (by omega) (by omega) (by omega) A cap hcap A2 cap2 Wx (hz.below keep) (hr.below keep) hrl hrb hok
      have hlenO := ord_length cs rk
      rcases Nat.eq_zero_or_pos cs.length with h0 | h0
      · have e1 := hnil.2 h0
        have e2 : ordF cs rk = [] := List.eq_nil_of_length_eq_zero (by omega)
        subst e1
        clear hcmp hokI hrow hnil
        go_wp2_with fail
        refine (sortFunc_nil _ _ _ _).mono ?_
        rintro e w' ⟨rfl, rfl⟩
        go_wp2
        go_ret
        refine ⟨⟨_, rfl, ?_⟩, HW⟩
        rw [e2]
        exact ⟨⟨none, 0, rfl, fun h => absurd h (by simp)⟩, fun h => absurd h (by simp)⟩
      · obtain ⟨g, cap', rfl⟩ : ∃ g cap, u2 = Value.slice (some ⟨g, 0, none⟩) cs.length cap := by
          obtain ⟨q', hq'⟩ : ∃ q', cs.length = q' + 1 := ⟨cs.length - 1, by omega⟩
          rw [hq'] at hrow ⊢; exact ownsRow_succ hrow
        obtain ⟨hbg, hgl⟩ := hrow.lt g rfl
        have hR : RowA wr g 0 cs.length fun t => (((List.range cs.length).map fun (i : Nat) => (i : Int)).toArray)[t]! := by
          refine ⟨fun t ht => ?_, fun t ht => ?_⟩
          · rw [Nat.zero_add, hrow.cellAt t (by omega), getElem!_pos _ t (by simpa using ht)]
            simp [ht]
          · rw [Nat.zero_add]; exact hrow.frozenAt t
        have hsrt := sortFunc (befF cs rk) (fun x => 0 ≤ x ∧ x < (cs.length : Int)) 72 #[.agg #[.slice A cs.length cap, .slice A2 rk.length cap2]] #[] g 0 cap' cs.length (((List.range cs.length).map fun (i : Nat) => (i : Int)).toArray) wr (enters_of Try.func72 (by kernel_rfl) rfl) (hcmp g hbg) (by simp) hlen hokI hgl hR
        have HL := Lib.hid hlenO
        clear hcmp hokI hrow hnil hR hlenO
        go_wp2_with fail
        refine hsrt.mono ?_
        rintro e w' ⟨rfl, hgr, hRr⟩
        have hsz := hgr.size
        clear hsrt
        go_wp2
        go_ret
        have hlenO := HL.out
        have HB2 : Below w.heap.size w w' := HW.grown hgr HW.size (fun k hk => by cases hk; exact Nat.le_trans HB.size hbg)
        refine ⟨⟨_, rfl, ?_⟩, HB2⟩
        have hG : ∀ t, t < cs.length → (Sort.insertionSort (ltI (befF cs rk)) ((List.range cs.length).map fun (i : Nat) => (i : Int)).toArray 0 cs.length)[t]! = (ordF cs rk).getD t 0 := by
          intro t ht
          have hsz2 := (ord_holds cs rk).1.1
          simp only [List.size_toArray, List.length_map, List.length_range] at hsz2
          rw [getElem!_pos _ t (by omega), List.getD_eq_getElem?_getD, List.getElem?_eq_getElem (by omega)]
          simp [ordF]
        exact ⟨⟨_, _, by rw [hlenO]; rfl, rowA_sl hRr (by omega) hlenO.symm hG⟩, fun _ => ⟨g, cap', by rw [hlenO]; rfl, Nat.le_trans HB.size hbg, by omega, ⟨fun t ht => by rw [hRr.cell t (by omega), hG t (by omega)], fun t ht => hRr.free t (by omega)⟩⟩⟩
end Go.Proofs.Ytacellaeepngkaa
