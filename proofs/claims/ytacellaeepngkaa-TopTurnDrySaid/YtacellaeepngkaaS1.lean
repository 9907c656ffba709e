/- slices.insertionSortCmpFunc[int]. -/
import Derived.Test.YtacellaeepngkaaA1
import Derived.Test.YtacellaeepngkaaQ0
import Derived.IntWalk
import Derived.Test.YtacellaeepngkaaP2
namespace Go.Proofs.Ytacellaeepngkaa
set_option linter.unusedVariables false
set_option linter.unusedSimpArgs false
open Go.RowKit Go.Shelf

/-- The first n cells of a row hold these numbers, and may be written. -/
structure RowA (w : World) (blk off n : Nat) (G : Nat → Int) : Prop where
  cell : ∀ t, t < n → w.cell? ⟨blk, off + t, none⟩ = some (.int .i64 (G t))
  free : ∀ t, t < n → w.frozen? ⟨blk, off + t, none⟩ = false

theorem RowA.later {w w' : World} {blk off n : Nat} {G : Nat → Int} (h : RowA w blk off n G) (hl : blk < w.heap.size) (hb : Below w.heap.size w w') : RowA w' blk off n G :=
  ⟨fun t ht => (hb.cell (p := ⟨blk, off + t, none⟩) hl).trans (h.cell t ht), fun t ht => (hb.frozen (p := ⟨blk, off + t, none⟩) hl).trans (h.free t ht)⟩

theorem set_other {w : World} {b i j : Nat} {v : Value} (h : i ≠ j) : (w.setCell ⟨b, i, none⟩ v).cell? ⟨b, j, none⟩ = w.cell? ⟨b, j, none⟩ :=
  World.cell?_setCell_other _ _ _ _ (by intro e; injection e with _ e2 _; exact h e2)

theorem RowA.swap {w : World} {blk off n : Nat} {d : Array Int} (h : RowA w blk off n fun t => d[t]!) (hn : n ≤ d.size) {i j : Nat} (hi : i < n) (hj : j < n) (hij : i ≠ j) :
    RowA ((w.setCell ⟨blk, off + i, none⟩ (.int .i64 d[j]!)).setCell ⟨blk, off + j, none⟩ (.int .i64 d[i]!)) blk off n fun t => (Sort.swp d i j)[t]! := by
  refine ⟨fun t ht => ?_, fun t ht => by rw [World.frozen?_setCell, World.frozen?_setCell]; exact h.free t ht⟩
  by_cases e2 : t = j
  · subst e2
    rw [Sort.swp_right d i t (by omega)]
    exact World.cell?_setCell_same' _ _ _ (by rw [set_other (by omega), h.cell t ht]; rfl)
  · rw [set_other (by omega)]
    by_cases e1 : t = i
    · subst e1
      rw [Sort.swp_left d t j (by omega) hij]
      exact World.cell?_setCell_same' _ _ _ (by rw [h.cell t ht]; rfl)
    · rw [set_other (by omega), Sort.swp_other d i j t e1 e2]
      exact h.cell t ht

theorem grown_set (W : World) (b o : Nat) (v : Value) : W.grownBy (W.setCell ⟨b, o, none⟩ v) (some b) :=
  ⟨rfl, rfl, rfl, by simp [World.setCell], fun k _ hk => Below.heap_setCell _ _ _ k (fun e => hk (by rw [e]))⟩

theorem grown_trans {a b c : World} {row : Option Nat} (h : a.grownBy b row) (k : b.grownBy c row) : a.grownBy c row :=
  ⟨k.os.trans h.os, k.tape.trans h.tape, k.output.trans h.output, Nat.le_trans h.size k.size, fun i hi hr => (k.block i (Nat.lt_of_lt_of_le hi h.size) hr).trans (h.block i hi hr)⟩

theorem grown_below {a b : World} (h : Below a.heap.size a b) (row : Option Nat) : a.grownBy b row := ⟨h.os, h.tape, h.output, h.size, fun i hi _ => h.block i hi⟩

theorem grown_drew {a b : World} {row : Option Nat} (h : a.grownBy b row) : a.grownBy b.drew row := ⟨h.os, h.tape, h.output, h.size, h.block⟩

set_option maxRecDepth 100000 in
set_option maxHeartbeats 2000000 in
theorem insCmp (cf : Int → Int → Int) (ok : Int → Prop) (g : Nat) (fs cb : Array Value) (blk off cap n : Nat) (d : Array Int) (w0 : World)
    (eg : ∀ args w, (callFunc g args).run Try.prog w = .ok (.enter g args) w)
    (hcmp : ∀ W x y, ok x → ok y → w0.grownBy W (some blk) → Calls Try.prog g (fs ++ (#[.int .i64 x, .int .i64 y] ++ cb)) W fun e w' => e = .returned (.int .i64 (cf x y)) ∧ Below W.heap.size W w')
    (hn : n = d.size) (hsz : n ≤ 1000000) (hok : ∀ t, t < n → ok d[t]!) (hblk : blk < w0.heap.size) (hR : RowA w0 blk off n fun t => d[t]!) :
    Calls Try.prog 168 #[.slice (some ⟨blk, off, none⟩) n cap, .int .i64 0, .int .i64 n, .func (.func g) fs cb] w0 fun e w' => e = .returned (.tuple #[]) ∧ w0.grownBy w' (some blk) ∧
      RowA w' blk off n fun t => (Sort.insertionSort (ltI cf) d 0 n)[t]! := by
  go_enter Try.func168, Try.ntmps168
  go_wp2
  go_loopw [8, 9] (fun vi _ wr => ∃ (i : Nat) (dk : Array Int), vi = .int .i64 i ∧ 0 < i ∧ i ≤ n + 1 ∧ dk.size = n ∧ (∀ t, t < n → ok dk[t]!) ∧ w0.grownBy wr (some blk) ∧ RowA wr blk off n (fun t => dk[t]!) ∧ Sort.insOuter (ltI cf) 0 n i dk = Sort.insertionSort (ltI cf) d 0 n) (fun vi _ _ => n + 1 - (intOf vi).toNat)
  case atStart => exact ⟨1, d, rfl, by omega, by omega, hn.symm, hok, World.grownBy.refl _ _, hR, rfl⟩
  case round =>
    obtain ⟨i, dk, rfl, hi0, hin, hsk, hokk, hgk, hRk, hO⟩ := hrel
    have HO := Lib.hid hO
    have HN := Lib.hid hn
    have HS := Lib.hid hsk
    clear hO hn hR hok hsk
    by_cases hlt : i < n
    · have hltz : (i : Int) < (n : Int) := by omega
      have os : Sort.insOuter (ltI cf) 0 n i dk = Sort.insOuter (ltI cf) 0 n (i + 1) (Sort.insInner (ltI cf) 0 i dk) := by rw [Sort.insOuter, if_pos hlt]
      have OS := Lib.hid os
      clear os
      go_wp2
      go_loopw [9] (fun vj wr => ∃ (j : Nat) (dj : Array Int), vj = .int .i64 j ∧ j ≤ i ∧ dj.size = n ∧ (∀ t, t < n → ok dj[t]!) ∧ w0.grownBy wr (some blk) ∧ RowA wr blk off n (fun t => dj[t]!) ∧ Sort.insInner (ltI cf) 0 j dj = Sort.insInner (ltI cf) 0 i dk) (fun vj _ => (intOf vj).toNat)
      case atStart => exact ⟨i, dk, rfl, Nat.le_refl _, HS.out, hokk, hgk, hRk, rfl⟩
      case round =>
        obtain ⟨j, dj, rfl, hji, hsj, hokj, hgj, hRj, hI⟩ := hrel
        have HI := Lib.hid hI
        have HJ := Lib.hid hsj
        clear hI hsj hgk hRk hokk
        have stop : ((j = 0) ∨ ltI cf dj[j]! dj[j - 1]! = false) → Sort.insInner (ltI cf) 0 j dj = dj := by
          intro h
          cases j with
          | zero => rfl
          | succ q => rcases h with h | h
                      · omega
                      · simp only [Nat.add_sub_cancel] at h; simp [Sort.insInner, h]
        have STOP := Lib.hid stop
        clear stop
        cases j with
        | zero =>
          rw [show ((0 : Nat) : Int) = 0 from rfl]
          go_wp2_with fail
          (refine wp_region_q (by kernel_rfl) (by kernel_rfl) ?_; (first | go_big_quiet_skip | (go_big_quiet_want; go_big_quiet_op; first | go_big_quiet_on | (apply Exists.intro; refine ⟨fun p => ?_, ?_⟩; (fail); go_big_quiet_on))); (first | go_big_quiet_skip | (go_big_quiet_want; go_big_quiet_op; first | go_big_quiet_on | (apply Exists.intro; refine ⟨fun p => ?_, ?_⟩; (fail); go_big_quiet_on))); (first | go_big_quiet_skip | (go_big_quiet_want; go_big_quiet_op; first | go_big_quiet_on | (apply Exists.intro; refine ⟨fun p => ?_, ?_⟩; (fail); go_big_quiet_on))); (first | go_big_quiet_skip | (go_big_quiet_want; go_big_quiet_op; first | go_big_quiet_on | (apply Exists.intro; refine ⟨fun p => ?_, ?_⟩; (fail); go_big_quiet_on))); (first | go_big_quiet_skip | (go_big_quiet_want; go_big_quiet_op; first | go_big_quiet_on | (apply Exists.intro; refine ⟨fun p => ?_, ?_⟩; (fail); go_big_quiet_on))); (first | go_big_quiet_skip | (go_big_quiet_want; go_big_quiet_op; first | go_big_quiet_on | (apply Exists.intro; refine ⟨fun p => ?_, ?_⟩; (fail); go_big_quiet_on))); (first | go_big_quiet_skip | (go_big_quiet_want; go_big_quiet_op; first | go_big_quiet_on | (apply Exists.intro; refine ⟨fun p => ?_, ?_⟩; (fail); go_big_quiet_on))); (first | go_big_quiet_skip | (go_big_quiet_want; go_big_quiet_op; first | go_big_quiet_on | (apply Exists.intro; refine ⟨fun p => ?_, ?_⟩; (fail); go_big_quiet_on))); (first | go_big_quiet_skip | (go_big_quiet_want; go_big_quiet_op; first | go_big_quiet_on | (apply Exists.intro; refine ⟨fun p => ?_, ?_⟩; (fail); go_big_quiet_on))); (first | go_big_quiet_skip | (go_big_quiet_want; go_big_quiet_op; first | go_big_quiet_on | (apply Exists.intro; refine ⟨fun p => ?_, ?_⟩; (fail); go_big_quiet_on))); (first | go_big_quiet_skip | (go_big_quiet_want; go_big_quiet_op; first | go_big_quiet_on | (apply Exists.intro; refine ⟨fun p => ?_, ?_⟩; (fail); go_big_quiet_on))); (first | go_big_quiet_skip | (go_big_quiet_want; go_big_quiet_op; first | go_big_quiet_on | (apply Exists.intro; refine ⟨fun p => ?_, ?_⟩; (fail); go_big_quiet_on))); (first | go_big_quiet_skip | (go_big_quiet_want; go_big_quiet_op; first | go_big_quiet_on | (apply Exists.intro; refine ⟨fun p => ?_, ?_⟩; (fail); go_big_quiet_on))); (first | go_big_quiet_skip | (go_big_quiet_want; go_big_quiet_op; first | go_big_quiet_on | (apply Exists.intro; refine ⟨fun p => ?_, ?_⟩; (fail); go_big_quiet_on))); (first | go_big_quiet_skip | (go_big_quiet_want; go_big_quiet_op; first | go_big_quiet_on | (apply Exists.intro; refine ⟨fun p => ?_, ?_⟩; (fail); go_big_quiet_on))); (first | go_big_quiet_skip | (go_big_quiet_want; go_big_quiet_op; first | go_big_quiet_on | (apply Exists.intro; refine ⟨fun p => ?_, ?_⟩; (fail); go_big_quiet_on))); (first | go_big_quiet_skip | (go_big_quiet_want; go_big_quiet_op; first | go_big_quiet_on | (apply Exists.intro; refine ⟨fun p => ?_, ?_⟩; (fail); go_big_quiet_on))); refine wpQuiet_nil ?_; rintro _ ⟨p, rfl⟩)
          obtain ⟨w1, hb1⟩ := p
          go_wp2
          go_roundw
          case rel =>
            refine ⟨i + 1, dj, by go_num, by omega, by omega, HJ.out, hokj, grown_trans hgj (grown_below hb1 _), hRj.later (Nat.lt_of_lt_of_le hblk hgj.size) hb1, ?_⟩
            rw [← HO.out, OS.out, ← HI.out, STOP.out (.inl trivial)]
          case measure => simp [intOf]; omega
        | succ jp =>
          have bl : blk < wr.heap.size := Nat.lt_of_lt_of_le hblk hgj.size
          have hcall := hcmp
          have c1 := Later.cell (W := wr) bl (hRj.cell (jp + 1) (by omega))
          have c0 := Later.cell (W := wr) bl (hRj.cell jp (by omega))
          obtain ⟨x, hx⟩ : ∃ x, x = dj[jp + 1]! := ⟨_, rfl⟩
          obtain ⟨y, hy⟩ : ∃ y, y = dj[jp]! := ⟨_, rfl⟩
          rw [← hx] at c1
          rw [← hy] at c0
          have okx : ok x := by rw [hx]; exact hokj _ (by omega)
          have oky : ok y := by rw [hy]; exact hokj _ (by omega)
          have n1 := fun p : Later wr => p.call (hcmp p.w x y okx oky (grown_trans hgj (grown_below p.le _)))
          have HX := Lib.hid hx
          have HY := Lib.hid hy
          clear hx hy hcmp hcall
          have a1 : (((jp + 1 : Nat) : Int)).toNat = jp + 1 := by omega
          have a2 : IntKind.i64.wrap (((jp + 1 : Nat) : Int) - 1) = (jp : Int) := by rw [IntWalk.i64_in _ (by omega)]; omega
          have a3 : decide (((jp + 1 : Nat) : Int) > 0) = true := by simp
          have a4 : ((jp + 1 : Nat) : Int) < (n : Int) := by omega
          have a5 : (jp : Int) < (n : Int) := by omega
          go_wp2_with fail
          (refine wp_region_q (by kernel_rfl) (by kernel_rfl) ?_; (first | go_big_quiet_skip | (go_big_quiet_want; go_big_quiet_op; first | go_big_quiet_on | (apply Exists.intro; refine ⟨fun p => ?_, ?_⟩; (with_reducible exact n1 p); go_big_quiet_on))); (first | go_big_quiet_skip | (go_big_quiet_want; go_big_quiet_op; first | go_big_quiet_on | (apply Exists.intro; refine ⟨fun p => ?_, ?_⟩; (with_reducible exact n1 p); go_big_quiet_on))); (first | go_big_quiet_skip | (go_big_quiet_want; go_big_quiet_op; first | go_big_quiet_on | (apply Exists.intro; refine ⟨fun p => ?_, ?_⟩; (with_reducible exact n1 p); go_big_quiet_on))); (first | go_big_quiet_skip | (go_big_quiet_want; go_big_quiet_op; first | go_big_quiet_on | (apply Exists.intro; refine ⟨fun p => ?_, ?_⟩; (with_reducible exact n1 p); go_big_quiet_on))); (first | go_big_quiet_skip | (go_big_quiet_want; go_big_quiet_op; first | go_big_quiet_on | (apply Exists.intro; refine ⟨fun p => ?_, ?_⟩; (with_reducible exact n1 p); go_big_quiet_on))); (first | go_big_quiet_skip | (go_big_quiet_want; go_big_quiet_op; first | go_big_quiet_on | (apply Exists.intro; refine ⟨fun p => ?_, ?_⟩; (with_reducible exact n1 p); go_big_quiet_on))); (first | go_big_quiet_skip | (go_big_quiet_want; go_big_quiet_op; first | go_big_quiet_on | (apply Exists.intro; refine ⟨fun p => ?_, ?_⟩; (with_reducible exact n1 p); go_big_quiet_on))); (first | go_big_quiet_skip | (go_big_quiet_want; go_big_quiet_op; first | go_big_quiet_on | (apply Exists.intro; refine ⟨fun p => ?_, ?_⟩; (with_reducible exact n1 p); go_big_quiet_on))); (first | go_big_quiet_skip | (go_big_quiet_want; go_big_quiet_op; first | go_big_quiet_on | (apply Exists.intro; refine ⟨fun p => ?_, ?_⟩; (with_reducible exact n1 p); go_big_quiet_on))); (first | go_big_quiet_skip | (go_big_quiet_want; go_big_quiet_op; first | go_big_quiet_on | (apply Exists.intro; refine ⟨fun p => ?_, ?_⟩; (with_reducible exact n1 p); go_big_quiet_on))); (first | go_big_quiet_skip | (go_big_quiet_want; go_big_quiet_op; first | go_big_quiet_on | (apply Exists.intro; refine ⟨fun p => ?_, ?_⟩; (with_reducible exact n1 p); go_big_quiet_on))); (first | go_big_quiet_skip | (go_big_quiet_want; go_big_quiet_op; first | go_big_quiet_on | (apply Exists.intro; refine ⟨fun p => ?_, ?_⟩; (with_reducible exact n1 p); go_big_quiet_on))); (first | go_big_quiet_skip | (go_big_quiet_want; go_big_quiet_op; first | go_big_quiet_on | (apply Exists.intro; refine ⟨fun p => ?_, ?_⟩; (with_reducible exact n1 p); go_big_quiet_on))); (first | go_big_quiet_skip | (go_big_quiet_want; go_big_quiet_op; first | go_big_quiet_on | (apply Exists.intro; refine ⟨fun p => ?_, ?_⟩; (with_reducible exact n1 p); go_big_quiet_on))); (first | go_big_quiet_skip | (go_big_quiet_want; go_big_quiet_op; first | go_big_quiet_on | (apply Exists.intro; refine ⟨fun p => ?_, ?_⟩; (with_reducible exact n1 p); go_big_quiet_on))); (first | go_big_quiet_skip | (go_big_quiet_want; go_big_quiet_op; first | go_big_quiet_on | (apply Exists.intro; refine ⟨fun p => ?_, ?_⟩; (with_reducible exact n1 p); go_big_quiet_on))); (first | go_big_quiet_skip | (go_big_quiet_want; go_big_quiet_op; first | go_big_quiet_on | (apply Exists.intro; refine ⟨fun p => ?_, ?_⟩; (with_reducible exact n1 p); go_big_quiet_on))); refine wpQuiet_nil ?_; rintro _ ⟨p, rfl⟩)
          obtain ⟨w1, hb1⟩ := p
          have hg1 := grown_trans hgj (grown_below hb1 (some blk))
          have hR1 := hRj.later bl hb1
          clear c1 c0 n1 hRj hgj
          cases hlv : decide (cf x y < 0) with
          | false =>
            have HL := Lib.hid hlv
            go_wp2
            go_roundw
            case rel =>
              refine ⟨i + 1, dj, by go_num, by omega, by omega, HJ.out, hokj, hg1, hR1, ?_⟩
              rw [← HO.out, OS.out, ← HI.out, STOP.out (.inr ?_)]
              simp only [Nat.add_sub_cancel]; rw [← HX.out, ← HY.out]; exact HL.out
            case measure => simp [intOf]; omega
          | true =>
            have HL := Lib.hid hlv
            have s1 := hR1.cell (jp + 1) (by omega)
            have s0 := hR1.cell jp (by omega)
            rw [← HX.out] at s1
            rw [← HY.out] at s0
            have t1 := hR1.free (jp + 1) (by omega)
            have t0 := hR1.free jp (by omega)
            have s2 : (w1.setCell ⟨blk, off + (jp + 1), none⟩ (.int .i64 y)).cell? ⟨blk, off + jp, none⟩ = some (.int .i64 y) := by rw [set_other (by omega)]; exact s0
            have hsw := hR1.swap (by rw [HJ.out]; omega) (i := jp + 1) (j := jp) (by omega) (by omega) (by omega)
            rw [← HX.out, ← HY.out] at hsw
            have hg2 := grown_trans hg1 (grown_trans (grown_set w1 blk (off + (jp + 1)) (.int .i64 y)) (grown_set _ blk (off + jp) (.int .i64 x)))
            clear hR1 hlv
            go_wp2_with fail
            go_region
            all_goals go_wp2_with fail
            go_roundw
            case rel =>
              refine ⟨jp, Sort.swp dj (jp + 1) jp, by go_num, by omega, by rw [Sort.size_swp]; exact HJ.out, fun t ht => ?_, grown_drew hg2, ⟨fun t ht => ?_, fun t ht => ?_⟩, ?_⟩
              · by_cases e1 : t = jp
                · subst e1; rw [Sort.swp_right dj (t + 1) t (by rw [HJ.out]; omega)]; exact hokj _ (by omega)
                · by_cases e2 : t = jp + 1
                  · subst e2; rw [Sort.swp_left dj (jp + 1) jp (by rw [HJ.out]; omega) (by omega)]; exact hokj _ (by omega)
                  · rw [Sort.swp_other dj _ _ _ e2 e1]; exact hokj _ ht
              · exact hsw.cell t ht
              · exact hsw.free t ht
              · rw [← HI.out]
                simp only [Sort.insInner]
                rw [if_pos]
                simp only [Bool.and_eq_true, decide_eq_true_eq]
                exact ⟨by omega, by rw [ltI, ← HX.out, ← HY.out]; exact HL.out⟩
            case measure => simp [intOf]
    · have hltz : ¬ (i : Int) < (n : Int) := by omega
      go_wp2
      go_end0
      refine ⟨rfl, hgk, ?_⟩
      have e : dk = Sort.insertionSort (ltI cf) d 0 n := by rw [← HO.out, Sort.insOuter, if_neg hlt]
      rw [← e]; exact hRk
end Go.Proofs.Ytacellaeepngkaa
