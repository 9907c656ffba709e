/- bits.Len, pdqsortCmpFunc and SortFunc at short rows. -/
import Derived.Test.YtacellaeepngkaaS1
namespace Go.Proofs.Ytacellaeepngkaa
set_option linter.unusedVariables false
set_option linter.unusedSimpArgs false
open Go.RowKit Go.Shelf

/-- It hands back some integer. -/
def SomeInt (w : World) (e : Ending) (w' : World) : Prop := ∃ r : Int, e = .returned (.int .i64 r) ∧ w = w'

set_option maxRecDepth 100000 in
set_option maxHeartbeats 1000000 in
theorem bits_len64 (n : Nat) (h : n ≤ 255) (w : World) : Calls Try.prog 167 #[.int .u64 n] w (SomeInt w) := by
  have h0 : (n : Int) < 256 := by omega
  have h1 : ((n : Int) ≥ 4294967296) = False := by simp; omega
  have h2 : ((n : Int) ≥ 65536) = False := by simp; omega
  have h3 : ((n : Int) ≥ 256) = False := by simp; omega
  go_enter Try.func167, Try.ntmps167
  go_wp2
  go_ret
  exact ⟨_, rfl, rfl⟩

theorem bits_len (n : Nat) (h : n ≤ 255) (w : World) : Calls Try.prog 114 #[.int .u64 n] w (SomeInt w) := by
  have hc := bits_len64 n h w
  go_enter Try.func114, Try.ntmps114
  go_wp2_with (go_at_call 167; refine hc.mono ?_; rintro e w' ⟨r, rfl, rfl⟩)
  go_ret
  exact ⟨r, rfl, rfl⟩

set_option maxRecDepth 100000 in
set_option maxHeartbeats 1000000 in
theorem pdqCmp (cf : Int → Int → Int) (ok : Int → Prop) (g : Nat) (fs cb : Array Value) (blk off cap n : Nat) (lim : Int) (d : Array Int) (w0 : World)
    (eg : ∀ args w, (callFunc g args).run Try.prog w = .ok (.enter g args) w)
    (hcmp : ∀ W x y, ok x → ok y → w0.grownBy W (some blk) → Calls Try.prog g (fs ++ (#[.int .i64 x, .int .i64 y] ++ cb)) W fun e w' => e = .returned (.int .i64 (cf x y)) ∧ Below W.heap.size W w')
    (hn : n = d.size) (hsz : n ≤ 12) (hok : ∀ t, t < n → ok d[t]!) (hblk : blk < w0.heap.size) (hR : RowA w0 blk off n fun t => d[t]!) :
    Calls Try.prog 115 #[.slice (some ⟨blk, off, none⟩) n cap, .int .i64 0, .int .i64 n, .int .i64 lim, .func (.func g) fs cb] w0 fun e w' => e = .returned (.tuple #[]) ∧ w0.grownBy w' (some blk) ∧
      RowA w' blk off n fun t => (Sort.insertionSort (ltI cf) d 0 n)[t]! := by
  have h := insCmp cf ok g fs cb blk off cap n d w0 eg hcmp hn (by omega) hok hblk hR
  have h12 : decide ((n : Int) ≤ 12) = true := by simp; omega
  clear hcmp hn hok hR eg
  go_enter Try.func115, Try.ntmps115
  go_wp2_with fail
  refine wp_loop_once ?_
  go_wp2_with (go_at_call 168; refine h.mono ?_; rintro e w' ⟨rfl, hg, hr⟩)
  refine bodyPost_ret (results_none rfl _ _ _) rfl ?_
  exact ⟨rfl, hg, hr⟩

set_option maxHeartbeats 1000000 in
theorem sortFunc (cf : Int → Int → Int) (ok : Int → Prop) (g : Nat) (fs cb : Array Value) (blk off cap n : Nat) (d : Array Int) (w0 : World)
    (eg : ∀ args w, (callFunc g args).run Try.prog w = .ok (.enter g args) w)
    (hcmp : ∀ W x y, ok x → ok y → w0.grownBy W (some blk) → Calls Try.prog g (fs ++ (#[.int .i64 x, .int .i64 y] ++ cb)) W fun e w' => e = .returned (.int .i64 (cf x y)) ∧ Below W.heap.size W w')
    (hn : n = d.size) (hsz : n ≤ 12) (hok : ∀ t, t < n → ok d[t]!) (hblk : blk < w0.heap.size) (hR : RowA w0 blk off n fun t => d[t]!) :
    Calls Try.prog 71 #[.slice (some ⟨blk, off, none⟩) n cap, .func (.func g) fs cb] w0 fun e w' => e = .returned (.tuple #[]) ∧ w0.grownBy w' (some blk) ∧
      RowA w' blk off n fun t => (Sort.insertionSort (ltI cf) d 0 n)[t]! := by
  have h := fun lim => pdqCmp cf ok g fs cb blk off cap n lim d w0 eg hcmp hn hsz hok hblk hR
  have hl := bits_len n (by omega) w0
  have hw : IntKind.u64.wrap (n : Int) = n := by simp [IntKind.wrap, IntKind.bits, IntKind.signed]; omega
  clear hcmp hn hok hR eg
  go_enter Try.func71, Try.ntmps71
  go_wp2_with fail
  refine hl.mono ?_
  rintro e w1 ⟨r, rfl, rfl⟩
  go_wp2_with fail
  refine (h r).mono ?_
  rintro e w' ⟨rfl, hg, hr⟩
  go_wp2
  go_end0
  exact ⟨rfl, hg, hr⟩
end Go.Proofs.Ytacellaeepngkaa
