/- (day).nth, cmp.Or, (day).before. -/
import Derived.Test.YtacellaeepngkaaA1
import Derived.Test.YtacellaeepngkaaP2
import Derived.Test.YtacellaeepngkaaQ0
import Derived.IntWalk
namespace Go.Proofs.Ytacellaeepngkaa
set_option linter.unusedVariables false
set_option linter.unusedSimpArgs false
open Go.RowKit Go.Shelf

set_option maxHeartbeats 1000000 in
theorem turn_nth (cs : List TC) (i : Nat) (hi : i < cs.length) (hlen : cs.length ≤ 1000) (A : Option Addr) (cap : Nat) (hcap : cs.length ≤ cap) (vr : Value) (hvr : vr.cells = #[vr]) (w : World) (hz : Sl w A 4 encTC cs) :
    Calls Try.prog 117 #[.agg #[.slice A cs.length cap, vr], .int .i64 i] w fun e w' => e = .returned (.int .i64 (nthF cs cs[i] i)) ∧ Below w.heap.size w w' := by
  obtain ⟨b, off, rfl, hbl, hc⟩ := hz (by omega)
  have r0 := (hc i cs[i] (List.getElem?_eq_getElem hi)).cell 0 rfl
  have r1 := (hc i cs[i] (List.getElem?_eq_getElem hi)).cell 1 rfl
  have r2 := (hc i cs[i] (List.getElem?_eq_getElem hi)).cell 2 rfl
  have r3 := (hc i cs[i] (List.getElem?_eq_getElem hi)).cell 3 rfl
  simp only [Nat.add_zero] at r0
  have hiz : (i : Int) < (cs.length : Int) := by omega
  go_enter Try.func117, Try.ntmps117
  go_wp2_with fail
  refine name_world (fun W hW => ?_)
  have HB : Below w.heap.size w W := by rw [hW]; exact (by repeat (first | with_reducible exact Below.refl _ _ | with_reducible assumption | with_reducible refine Below.al ?_ _ | with_reducible refine Below.drew ?_ | with_reducible refine Below.st ?_ (by first | (simp; done) | assumption | (simp; omega)) _ | with_reducible refine Below.call ?_ (by with_reducible assumption) | exact Below.refl _ _ | assumption | refine Below.al ?_ _ | refine Below.drew ?_ | refine Below.call ?_ (by assumption) | refine Below.st ?_ (by first | (simp; done) | assumption | (simp; omega)) _))
  have c0 : W.cell? ⟨w.heap.size + 1, 0, none⟩ = some (.int .i64 cs[i].wv) := by rw [hW]; go_simp
  have c1 : W.cell? ⟨w.heap.size + 1, 1, none⟩ = some (.int .i64 cs[i].comes) := by rw [hW]; go_simp
  have hs : w.heap.size + 1 < W.heap.size := by rw [hW]; simp
  clear hW r0 r1 r2 r3 hvr hz hiz
  go_loopw [4, 20] (fun n k wr => ∃ q : Nat, q ≤ i ∧ k = .int .i64 q ∧ n = .int .i64 (nthF cs cs[i] q) ∧ Below W.heap.size W wr) (fun _ k _ => i - (intOf k).toNat)
  case atStart => exact ⟨0, Nat.zero_le _, rfl, by simp [nthF], Below.refl _ _⟩
  case round =>
    obtain ⟨q, hq, rfl, rfl, hb⟩ := hrel
    have d0 := hb.rdcell hs c0
    have d1 := hb.rdcell hs c1
    clear c0 c1
    by_cases hlt : q < i
    · have hqz : (q : Int) < (i : Int) := by omega
      have R := (hc q cs[q] (List.getElem?_eq_getElem (by omega)))
      have r0 := hb.rdcell (Nat.lt_of_lt_of_le hbl HB.size) (HB.rdcell hbl (R.cell 0 rfl))
      have r1 := hb.rdcell (Nat.lt_of_lt_of_le hbl HB.size) (HB.rdcell hbl (R.cell 1 rfl))
      have r2 := hb.rdcell (Nat.lt_of_lt_of_le hbl HB.size) (HB.rdcell hbl (R.cell 2 rfl))
      have r3 := hb.rdcell (Nat.lt_of_lt_of_le hbl HB.size) (HB.rdcell hbl (R.cell 3 rfl))
      simp only [Nat.add_zero] at r0
      have hsz : w.heap.size + 1 < wr.heap.size := Nat.lt_of_lt_of_le hs hb.size
      have hs2 := nthF_succ cs cs[i] q (by omega)
      have hle := nthF_le cs cs[i] q
      have HS := Lib.hid hs2
      clear hs2 hc R
      go_wp2
      · have e : cs[q].same cs[i] = true := by simp [TC.same]; exact ⟨by assumption, beq_iff_eq.1 ‹(_ == _) = true›⟩
        go_roundw
        case rel => exact ⟨q + 1, by omega, by go_num, by rw [HS.out, e]; rfl, hb.al _⟩
        case measure => simp [intOf]; omega
      · have e : cs[q].same cs[i] = false := by simp [TC.same]; exact fun _ => beq_eq_false_iff_ne.1 ‹(_ == _) = false›
        go_roundw
        case rel => exact ⟨q + 1, by omega, by go_num, by rw [HS.out, e]; rfl, hb.al _⟩
        case measure => simp [intOf]; omega
      · have e : cs[q].same cs[i] = false := by simp [TC.same]; exact fun h => absurd h (by assumption)
        go_roundw
        case rel => exact ⟨q + 1, by omega, by go_num, by rw [HS.out, e]; rfl, hb.al _⟩
        case measure => simp [intOf]; omega
    · have hqz : ¬ (q : Int) < (i : Int) := by omega
      obtain rfl : q = i := by omega
      clear hc
      go_wp2
      go_ret
      exact ⟨rfl, HB.trans (hb.mono HB.size)⟩

theorem orF_drop (xs : List Int) (k : Nat) (h : k < xs.length) : orF (xs.drop k) = if xs[k] = 0 then orF (xs.drop (k + 1)) else xs[k] := by
  rw [List.drop_eq_getElem_cons h]; rfl

set_option maxHeartbeats 400000 in
theorem cmp_or (A : Option Addr) (c : Nat) (zs : List Int) (w : World) (hz : Sl w A 1 encI zs) (hm : zs.length ≤ 9223372036854775807) :
    Calls Try.prog 116 #[.slice A zs.length c] w fun e w' => e = .returned (.int .i64 (orF zs)) ∧ w = w' := by
  go_enter Try.func116, Try.ntmps116
  go_wp2
  go_loop [2, 5, 8] (fun _ _ i => ∃ k : Nat, k ≤ zs.length ∧ i = .int .i64 k ∧ orF (zs.drop k) = orF zs) (fun _ _ i => zs.length - (intOf i).toNat)
  case atStart => exact ⟨0, Nat.zero_le _, rfl, rfl⟩
  case round =>
    obtain ⟨k, hk, rfl, hn⟩ := hrel
    have HN := Lib.hid hn
    clear hn
    by_cases hlt : k < zs.length
    · have hl : (k : Int) < (zs.length : Int) := by omega
      obtain ⟨b, off, rfl, hbl, hc⟩ := hz (by omega)
      have hx := (hc k zs[k] (List.getElem?_eq_getElem hlt)).cell 0 rfl
      simp only [Nat.add_zero, Nat.mul_one] at hx
      have HD := Lib.hid (orF_drop zs k hlt)
      clear hc hz
      by_cases h0 : zs[k] = 0
      · have e0 : (zs[k] == 0) = true := by simp [h0]
        have H0 := Lib.hid h0
        clear h0
        go_wp2
        go_round
        case rel => exact ⟨k + 1, by omega, by go_num, by rw [← HN.out, HD.out, if_pos H0.out]⟩
        case measure => simp [intOf]; omega
      · have e0 : (zs[k] == 0) = false := by simp [h0]
        go_wp2
        go_ret
        exact ⟨retI rfl (by rw [← HN.out, HD.out, if_neg h0]), rfl⟩
    · have hl : ¬ (k : Int) < (zs.length : Int) := by omega
      obtain rfl : k = zs.length := by omega
      clear hz
      go_wp2
      go_ret
      exact ⟨retI rfl (by rw [← HN.out]; simp [orF]), rfl⟩
end Go.Proofs.Ytacellaeepngkaa
