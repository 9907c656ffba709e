/- slices.Sort, slices.Sorted at short rows of integers. -/
import Derived.Test.YtacellaeepngkaaS3
import Derived.Test.YtacellaeepngkaaO1
namespace Go.Proofs.Ytacellaeepngkaa
set_option linter.unusedVariables false
set_option linter.unusedSimpArgs false
open Go.RowKit Go.Shelf

set_option maxRecDepth 100000 in
set_option maxHeartbeats 1000000 in
theorem sort_int (blk off cap n : Nat) (d : Array Int) (w0 : World) (hn : n = d.size) (hsz : n ≤ 12) (hblk : blk < w0.heap.size) (hR : RowA w0 blk off n fun t => d[t]!) :
    Calls Try.prog 70 #[.slice (some ⟨blk, off, none⟩) n cap] w0 fun e w' => e = .returned (.tuple #[]) ∧ w0.grownBy w' (some blk) ∧ RowA w' blk off n fun t => (Sort.insertionSort ltN d 0 n)[t]! := by
  have h := insOrd blk off cap n d w0 hn (by omega) hblk hR
  have h12 : decide ((n : Int) ≤ 12) = true := by simp; omega
  have hp : ∀ lim, Calls Try.prog 113 #[.slice (some ⟨blk, off, none⟩) n cap, .int .i64 0, .int .i64 n, .int .i64 lim] w0 fun e w' => e = .returned (.tuple #[]) ∧ w0.grownBy w' (some blk) ∧ RowA w' blk off n fun t => (Sort.insertionSort ltN d 0 n)[t]! := by
    intro lim
    clear hn hR
    go_enter Try.func113, Try.ntmps113
    go_wp2_with fail
    refine wp_loop_once ?_
    go_wp2_with (go_at_call 157; refine h.mono ?_; rintro e w' ⟨rfl, hg, hr⟩)
    refine bodyPost_ret (results_none rfl _ _ _) rfl ?_
    exact ⟨rfl, hg, hr⟩
  have hl := bits_len n (by omega) w0
  have hw : IntKind.u64.wrap (n : Int) = n := by simp [IntKind.wrap, IntKind.bits, IntKind.signed]; omega
  clear h hn hR
  go_enter Try.func70, Try.ntmps70
  go_wp2_with fail
  refine hl.mono ?_
  rintro e w1 ⟨r, rfl, rfl⟩
  go_wp2_with fail
  refine (hp r).mono ?_
  rintro e w' ⟨rfl, hg, hr⟩
  go_wp2
  go_end0
  exact ⟨rfl, hg, hr⟩

set_option maxRecDepth 100000 in
set_option maxHeartbeats 1000000 in
theorem sort_nil (w0 : World) : Calls Try.prog 70 #[.slice none 0 0] w0 fun e w' => e = .returned (.tuple #[]) ∧ w0 = w' := by
  have hi : Calls Try.prog 157 #[.slice none 0 0, .int .i64 0, .int .i64 0] w0 fun e w' => e = .returned (.tuple #[]) ∧ w0 = w' := by
    go_enter Try.func157, Try.ntmps157
    go_wp2_with fail
    refine wp_loop_once ?_
    go_wp2
    go_end0
    exact ⟨rfl, rfl⟩
  have hp : ∀ lim, Calls Try.prog 113 #[.slice none 0 0, .int .i64 0, .int .i64 0, .int .i64 lim] w0 fun e w' => e = .returned (.tuple #[]) ∧ w0 = w' := by
    intro lim
    go_enter Try.func113, Try.ntmps113
    go_wp2_with fail
    refine wp_loop_once ?_
    go_wp2_with (go_at_call 157; refine hi.mono ?_; rintro e w' ⟨rfl, rfl⟩)
    refine bodyPost_ret (results_none rfl _ _ _) rfl ?_
    exact ⟨rfl, rfl⟩
  have hl := bits_len 0 (by omega) w0
  clear hi
  go_enter Try.func70, Try.ntmps70
  go_wp2_with fail
  refine hl.mono ?_
  rintro e w1 ⟨r, rfl, rfl⟩
  go_wp2_with fail
  refine (hp r).mono ?_
  rintro e w' ⟨rfl, rfl⟩
  go_wp2
  go_end0
  exact ⟨rfl, rfl⟩

set_option maxHeartbeats 1000000 in
theorem sorted_int (n₀ : Nat) (g : Nat) (lb : Array Value) (eg : ∀ args w, (callFunc g args).run Try.prog w = .ok (.enter g args) w) (xs : List Int) (hlen : xs.length ≤ 12) (w : World) (hn : n₀ ≤ w.heap.size)
    (hit : Iter n₀ g lb (fun x : Int => #[.int .i64 x]) xs w) :
    Calls Try.prog 154 #[.func (.func g) #[] lb] w fun e W' => (∃ v, e = .returned v ∧ OwnI w.heap.size W' v (sortI xs)) ∧ Below w.heap.size w W' := by
  have h := collect_int n₀ g lb eg xs (by omega) w hn hit
  clear hit eg
  go_enter Try.func154, Try.ntmps154
  go_wp2_with fail
  refine h.mono ?_
  rintro e w1 ⟨v, rfl, hr, hnil, hb⟩
  have hlS := sortI_length xs
  clear h
  rcases Nat.eq_zero_or_pos xs.length with h0 | h0
  · have e1 : xs = [] := List.eq_nil_of_length_eq_zero h0
    obtain rfl := hnil.2 e1
    have e2 : sortI xs = [] := List.eq_nil_of_length_eq_zero (by omega)
    have E2 := Lib.hid e2
    clear e1 hnil hr h0 hlS e2
    go_wp2_with fail
    refine (sort_nil _).mono ?_
    rintro e w2 ⟨rfl, rfl⟩
    go_wp2
    go_ret
    refine ⟨⟨_, rfl, ?_⟩, hb⟩
    rw [E2.out]
    exact ⟨⟨none, 0, rfl, fun h => absurd h (by simp)⟩, fun h => absurd h (by simp)⟩
  · obtain ⟨g', cap, rfl⟩ : ∃ g cap, v = Value.slice (some ⟨g, 0, none⟩) xs.length cap := by
      obtain ⟨q', hq'⟩ : ∃ q', xs.length = q' + 1 := ⟨xs.length - 1, by omega⟩
      rw [hq'] at hr ⊢; exact ownsRow_succ hr
    obtain ⟨hbg, hgl⟩ := hr.lt g' rfl
    have hR : RowA w1 g' 0 xs.length fun t => (xs.toArray)[t]! := by
      refine ⟨fun t ht => ?_, fun t ht => ?_⟩
      · rw [Nat.zero_add, hr.cellAt t (by omega), getElem!_pos _ t (by simpa using ht)]
        simp [ht]
      · rw [Nat.zero_add]; exact hr.frozenAt t
    have hs := sort_int g' 0 cap xs.length xs.toArray w1 (by simp) hlen hgl hR
    have HL := Lib.hid hlS
    clear hR hr hnil hlS
    go_wp2_with fail
    refine hs.mono ?_
    rintro e w2 ⟨rfl, hgr, hRr⟩
    have hsz := hgr.size
    clear hs
    go_wp2
    go_ret
    have hlS := HL.out
    refine ⟨⟨_, rfl, ?_⟩, hb.grown hgr hb.size (fun k hk => by cases hk; exact hbg)⟩
    have hG := sortI_at xs
    exact ⟨⟨_, _, by rw [hlS]; rfl, rowA_sl hRr (by omega) hlS.symm hG⟩, fun _ => ⟨g', cap, by rw [hlS]; rfl, hbg, by omega, ⟨fun t ht => by rw [hRr.cell t (by omega), hG t (by omega)], fun t ht => hRr.free t (by omega)⟩⟩⟩
end Go.Proofs.Ytacellaeepngkaa
