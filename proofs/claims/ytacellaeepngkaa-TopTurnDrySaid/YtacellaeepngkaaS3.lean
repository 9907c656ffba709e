/- slices.insertionSortOrdered[int], slices.Sort at short rows. -/
import Derived.Test.YtacellaeepngkaaS2
namespace Go.Proofs.Ytacellaeepngkaa
set_option linter.unusedVariables false
set_option linter.unusedSimpArgs false
open Go.RowKit Go.Shelf

theorem cmp_nan (x : Int) (w : World) : Calls Try.prog 196 #[.int .i64 x] w fun e w' => e = .returned (.bool false) ∧ w = w' := by
  go_enter Try.func196, Try.ntmps196
  go_wp2
  go_ret
  exact ⟨retB rfl (by simp), rfl⟩

set_option maxHeartbeats 400000 in
theorem cmp_less (x y : Int) (w : World) : Calls Try.prog 163 #[.int .i64 x, .int .i64 y] w fun e w' => e = .returned (.bool (decide (x < y))) ∧ Below w.heap.size w w' := by
  go_enter Try.func163, Try.ntmps163
  go_wp2_with (go_at_call 196; refine (cmp_nan _ _).mono ?_; rintro e w' ⟨rfl, rfl⟩)
  go_ret
  exact ⟨rfl, Below.refl _ _⟩

set_option maxRecDepth 100000 in
set_option maxHeartbeats 2000000 in
theorem insOrd (blk off cap n : Nat) (d : Array Int) (w0 : World)
    (hn : n = d.size) (hsz : n ≤ 1000000) (hblk : blk < w0.heap.size) (hR : RowA w0 blk off n fun t => d[t]!) :
    Calls Try.prog 157 #[.slice (some ⟨blk, off, none⟩) n cap, .int .i64 0, .int .i64 n] w0 fun e w' => e = .returned (.tuple #[]) ∧ w0.grownBy w' (some blk) ∧
      RowA w' blk off n fun t => (Sort.insertionSort ltN d 0 n)[t]! := by
  go_enter Try.func157, Try.ntmps157
  go_wp2
  go_loopw [6, 7] (fun vi _ wr => ∃ (i : Nat) (dk : Array Int), vi = .int .i64 i ∧ 0 < i ∧ i ≤ n + 1 ∧ dk.size = n ∧ w0.grownBy wr (some blk) ∧ RowA wr blk off n (fun t => dk[t]!) ∧ Sort.insOuter ltN 0 n i dk = Sort.insertionSort ltN d 0 n) (fun vi _ _ => n + 1 - (intOf vi).toNat)
  case atStart => exact ⟨1, d, rfl, by omega, by omega, hn.symm, World.grownBy.refl _ _, hR, rfl⟩
  case round =>
    obtain ⟨i, dk, rfl, hi0, hin, hsk, hgk, hRk, hO⟩ := hrel
    have HO := Lib.hid hO
    have HN := Lib.hid hn
    have HS := Lib.hid hsk
    clear hO hn hR hsk
    by_cases hlt : i < n
    · have hltz : (i : Int) < (n : Int) := by omega
      have os : Sort.insOuter ltN 0 n i dk = Sort.insOuter ltN 0 n (i + 1) (Sort.insInner ltN 0 i dk) := by rw [Sort.insOuter, if_pos hlt]
      have OS := Lib.hid os
      clear os
      go_wp2
      go_loopw [7] (fun vj wr => ∃ (j : Nat) (dj : Array Int), vj = .int .i64 j ∧ j ≤ i ∧ dj.size = n ∧ w0.grownBy wr (some blk) ∧ RowA wr blk off n (fun t => dj[t]!) ∧ Sort.insInner ltN 0 j dj = Sort.insInner ltN 0 i dk) (fun vj _ => (intOf vj).toNat)
      case atStart => exact ⟨i, dk, rfl, Nat.le_refl _, HS.out, hgk, hRk, rfl⟩
      case round =>
        obtain ⟨j, dj, rfl, hji, hsj, hgj, hRj, hI⟩ := hrel
        have HI := Lib.hid hI
        have HJ := Lib.hid hsj
        clear hI hsj hgk hRk
        have stop : ((j = 0) ∨ ltN dj[j]! dj[j - 1]! = false) → Sort.insInner ltN 0 j dj = dj := by
          intro h
          cases j with
          | zero => rfl
          | succ q => rcases h with h | h
                      · omega
                      · simp only [Nat.add_sub_cancel] at h; simp [Sort.insInner, h]
        have STOP := Lib.hid stop
        clear stop
        cases j with
        | zero =>
          rw [show ((0 : Nat) : Int) = 0 from rfl]
          go_wp2_with fail
          (refine wp_region_q (by kernel_rfl) (by kernel_rfl) ?_; (first | go_big_quiet_skip | (go_big_quiet_want; go_big_quiet_op; first | go_big_quiet_on | (apply Exists.intro; refine ⟨fun p => ?_, ?_⟩; (fail); go_big_quiet_on))); (first | go_big_quiet_skip | (go_big_quiet_want; go_big_quiet_op; first | go_big_quiet_on | (apply Exists.intro; refine ⟨fun p => ?_, ?_⟩; (fail); go_big_quiet_on))); (first | go_big_quiet_skip | (go_big_quiet_want; go_big_quiet_op; first | go_big_quiet_on | (apply Exists.intro; refine ⟨fun p => ?_, ?_⟩; (fail); go_big_quiet_on))); (first | go_big_quiet_skip | (go_big_quiet_want; go_big_quiet_op; first | go_big_quiet_on | (apply Exists.intro; refine ⟨fun p => ?_, ?_⟩; (fail); go_big_quiet_on))); (first | go_big_quiet_skip | (go_big_quiet_want; go_big_quiet_op; first | go_big_quiet_on | (apply Exists.intro; refine ⟨fun p => ?_, ?_⟩; (fail); go_big_quiet_on))); (first | go_big_quiet_skip | (go_big_quiet_want; go_big_quiet_op; first | go_big_quiet_on | (apply Exists.intro; refine ⟨fun p => ?_, ?_⟩; (fail); go_big_quiet_on))); (first | go_big_quiet_skip | (go_big_quiet_want; go_big_quiet_op; first | go_big_quiet_on | (apply Exists.intro; refine ⟨fun p => ?_, ?_⟩; (fail); go_big_quiet_on))); (first | go_big_quiet_skip | (go_big_quiet_want; go_big_quiet_op; first | go_big_quiet_on | (apply Exists.intro; refine ⟨fun p => ?_, ?_⟩; (fail); go_big_quiet_on))); (first | go_big_quiet_skip | (go_big_quiet_want; go_big_quiet_op; first | go_big_quiet_on | (apply Exists.intro; refine ⟨fun p => ?_, ?_⟩; (fail); go_big_quiet_on))); (first | go_big_quiet_skip | (go_big_quiet_want; go_big_quiet_op; first | go_big_quiet_on | (apply Exists.intro; refine ⟨fun p => ?_, ?_⟩; (fail); go_big_quiet_on))); (first | go_big_quiet_skip | (go_big_quiet_want; go_big_quiet_op; first | go_big_quiet_on | (apply Exists.intro; refine ⟨fun p => ?_, ?_⟩; (fail); go_big_quiet_on))); (first | go_big_quiet_skip | (go_big_quiet_want; go_big_quiet_op; first | go_big_quiet_on | (apply Exists.intro; refine ⟨fun p => ?_, ?_⟩; (fail); go_big_quiet_on))); (first | go_big_quiet_skip | (go_big_quiet_want; go_big_quiet_op; first | go_big_quiet_on | (apply Exists.intro; refine ⟨fun p => ?_, ?_⟩; (fail); go_big_quiet_on))); (first | go_big_quiet_skip | (go_big_quiet_want; go_big_quiet_op; first | go_big_quiet_on | (apply Exists.intro; refine ⟨fun p => ?_, ?_⟩; (fail); go_big_quiet_on))); (first | go_big_quiet_skip | (go_big_quiet_want; go_big_quiet_op; first | go_big_quiet_on | (apply Exists.intro; refine ⟨fun p => ?_, ?_⟩; (fail); go_big_quiet_on))); refine wpQuiet_nil ?_; rintro _ ⟨p, rfl⟩)
          obtain ⟨w1, hb1⟩ := p
          go_wp2
          go_roundw
          case rel =>
            refine ⟨i + 1, dj, by go_num, by omega, by omega, HJ.out, grown_trans hgj (grown_below hb1 _), hRj.later (Nat.lt_of_lt_of_le hblk hgj.size) hb1, ?_⟩
            rw [← HO.out, OS.out, ← HI.out, STOP.out (.inl trivial)]
          case measure => simp [intOf]; omega
        | succ jp =>
          have bl : blk < wr.heap.size := Nat.lt_of_lt_of_le hblk hgj.size
          have c1 := Later.cell (W := wr) bl (hRj.cell (jp + 1) (by omega))
          have c0 := Later.cell (W := wr) bl (hRj.cell jp (by omega))
          obtain ⟨x, hx⟩ : ∃ x, x = dj[jp + 1]! := ⟨_, rfl⟩
          obtain ⟨y, hy⟩ : ∃ y, y = dj[jp]! := ⟨_, rfl⟩
          rw [← hx] at c1
          rw [← hy] at c0
          have n1 := fun p : Later wr => p.call (cmp_less x y p.w)
          have HX := Lib.hid hx
          have HY := Lib.hid hy
          clear hx hy
          have a1 : (((jp + 1 : Nat) : Int)).toNat = jp + 1 := by omega
          have a2 : IntKind.i64.wrap (((jp + 1 : Nat) : Int) - 1) = (jp : Int) := by rw [IntWalk.i64_in _ (by omega)]; omega
          have a3 : decide (((jp + 1 : Nat) : Int) > 0) = true := by simp
          have a4 : ((jp + 1 : Nat) : Int) < (n : Int) := by omega
          have a5 : (jp : Int) < (n : Int) := by omega
          go_wp2_with fail
          (refine wp_region_q (by kernel_rfl) (by kernel_rfl) ?_; (first | go_big_quiet_skip | (go_big_quiet_want; go_big_quiet_op; first | go_big_quiet_on | (apply Exists.intro; refine ⟨fun p => ?_, ?_⟩; (with_reducible exact n1 p); go_big_quiet_on))); (first | go_big_quiet_skip | (go_big_quiet_want; go_big_quiet_op; first | go_big_quiet_on | (apply Exists.intro; refine ⟨fun p => ?_, ?_⟩; (with_reducible exact n1 p); go_big_quiet_on))); (first | go_big_quiet_skip | (go_big_quiet_want; go_big_quiet_op; first | go_big_quiet_on | (apply Exists.intro; refine ⟨fun p => ?_, ?_⟩; (with_reducible exact n1 p); go_big_quiet_on))); (first | go_big_quiet_skip | (go_big_quiet_want; go_big_quiet_op; first | go_big_quiet_on | (apply Exists.intro; refine ⟨fun p => ?_, ?_⟩; (with_reducible exact n1 p); go_big_quiet_on))); (first | go_big_quiet_skip | (go_big_quiet_want; go_big_quiet_op; first | go_big_quiet_on | (apply Exists.intro; refine ⟨fun p => ?_, ?_⟩; (with_reducible exact n1 p); go_big_quiet_on))); (first | go_big_quiet_skip | (go_big_quiet_want; go_big_quiet_op; first | go_big_quiet_on | (apply Exists.intro; refine ⟨fun p => ?_, ?_⟩; (with_reducible exact n1 p); go_big_quiet_on))); (first | go_big_quiet_skip | (go_big_quiet_want; go_big_quiet_op; first | go_big_quiet_on | (apply Exists.intro; refine ⟨fun p => ?_, ?_⟩; (with_reducible exact n1 p); go_big_quiet_on))); (first | go_big_quiet_skip | (go_big_quiet_want; go_big_quiet_op; first | go_big_quiet_on | (apply Exists.intro; refine ⟨fun p => ?_, ?_⟩; (with_reducible exact n1 p); go_big_quiet_on))); (first | go_big_quiet_skip | (go_big_quiet_want; go_big_quiet_op; first | go_big_quiet_on | (apply Exists.intro; refine ⟨fun p => ?_, ?_⟩; (with_reducible exact n1 p); go_big_quiet_on))); (first | go_big_quiet_skip | (go_big_quiet_want; go_big_quiet_op; first | go_big_quiet_on | (apply Exists.intro; refine ⟨fun p => ?_, ?_⟩; (with_reducible exact n1 p); go_big_quiet_on))); (first | go_big_quiet_skip | (go_big_quiet_want; go_big_quiet_op; first | go_big_quiet_on | (apply Exists.intro; refine ⟨fun p => ?_, ?_⟩; (with_reducible exact n1 p); go_big_quiet_on))); (first | go_big_quiet_skip | (go_big_quiet_want; go_big_quiet_op; first | go_big_quiet_on | (apply Exists.intro; refine ⟨fun p => ?_, ?_⟩; (with_reducible exact n1 p); go_big_quiet_on))); (first | go_big_quiet_skip | (go_big_quiet_want; go_big_quiet_op; first | go_big_quiet_on | (apply Exists.intro; refine ⟨fun p => ?_, ?_⟩; (with_reducible exact n1 p); go_big_quiet_on))); (first | go_big_quiet_skip | (go_big_quiet_want; go_big_quiet_op; first | go_big_quiet_on | (apply Exists.intro; refine ⟨fun p => ?_, ?_⟩; (with_reducible exact n1 p); go_big_quiet_on))); (first | go_big_quiet_skip | (go_big_quiet_want; go_big_quiet_op; first | go_big_quiet_on | (apply Exists.intro; refine ⟨fun p => ?_, ?_⟩; (with_reducible exact n1 p); go_big_quiet_on))); refine wpQuiet_nil ?_; rintro _ ⟨p, rfl⟩)
          obtain ⟨w1, hb1⟩ := p
          have hg1 := grown_trans hgj (grown_below hb1 (some blk))
          have hR1 := hRj.later bl hb1
          clear c1 c0 n1 hRj hgj
          cases hlv : decide (x < y) with
          | false =>
            have HL := Lib.hid hlv
            go_wp2
            go_roundw
            case rel =>
              refine ⟨i + 1, dj, by go_num, by omega, by omega, HJ.out, hg1, hR1, ?_⟩
              rw [← HO.out, OS.out, ← HI.out, STOP.out (.inr ?_)]
              simp only [Nat.add_sub_cancel]; rw [ltN, ← HX.out, ← HY.out]; exact HL.out
            case measure => simp [intOf]; omega
          | true =>
            have HL := Lib.hid hlv
            have s1 := hR1.cell (jp + 1) (by omega)
            have s0 := hR1.cell jp (by omega)
            rw [← HX.out] at s1
            rw [← HY.out] at s0
            have t1 := hR1.free (jp + 1) (by omega)
            have t0 := hR1.free jp (by omega)
            have s2 : (w1.setCell ⟨blk, off + (jp + 1), none⟩ (.int .i64 y)).cell? ⟨blk, off + jp, none⟩ = some (.int .i64 y) := by rw [set_other (by omega)]; exact s0
            have hsw := hR1.swap (by rw [HJ.out]; omega) (i := jp + 1) (j := jp) (by omega) (by omega) (by omega)
            rw [← HX.out, ← HY.out] at hsw
            have hg2 := grown_trans hg1 (grown_trans (grown_set w1 blk (off + (jp + 1)) (.int .i64 y)) (grown_set _ blk (off + jp) (.int .i64 x)))
            clear hR1 hlv
            go_wp2_with fail
            go_region
            all_goals go_wp2_with fail
            go_roundw
            case rel =>
              refine ⟨jp, Sort.swp dj (jp + 1) jp, by go_num, by omega, by rw [Sort.size_swp]; exact HJ.out, grown_drew hg2, ⟨fun t ht => ?_, fun t ht => ?_⟩, ?_⟩
              · exact hsw.cell t ht
              · exact hsw.free t ht
              · rw [← HI.out]
                simp only [Sort.insInner]
                rw [if_pos]
                simp only [Bool.and_eq_true, decide_eq_true_eq]
                exact ⟨by omega, by rw [ltN, ← HX.out, ← HY.out]; exact HL.out⟩
            case measure => simp [intOf]
    · have hltz : ¬ (i : Int) < (n : Int) := by omega
      go_wp2
      go_end0
      refine ⟨rfl, hgk, ?_⟩
      have e : dk = Sort.insertionSort ltN d 0 n := by rw [← HO.out, Sort.insOuter, if_neg hlt]
      rw [← e]; exact hRk
end Go.Proofs.Ytacellaeepngkaa
