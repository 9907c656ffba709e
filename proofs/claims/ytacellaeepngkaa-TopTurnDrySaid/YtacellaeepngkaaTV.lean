/- The iterator of (day).turns. -/
import Derived.Test.YtacellaeepngkaaTU
import Derived.Deep.OwnRows
import Derived.Lib.MinMax
namespace Go.Proofs.Ytacellaeepngkaa
set_option linter.unusedVariables false
set_option linter.unusedSimpArgs false
open Go.RowKit Go.Shelf

theorem cell_lt {w : World} {b o : Nat} {v : Value} (h : w.cell? ⟨b, o, none⟩ = some v) : b < w.heap.size := by
  obtain ⟨ob, hb, _⟩ := get_of_cell h
  exact lt_of_get hb

theorem RowA.other {w : World} {blk off n : Nat} {G : Nat → Int} (h : RowA w blk off n G) {b o : Nat} {v : Value} (hb : b ≠ blk) : RowA (w.setCell ⟨b, o, none⟩ v) blk off n G :=
  ⟨fun t ht => by rw [World.cell?_setCell_other _ _ _ _ (by intro e; injection e with e _ _; exact hb e)]; exact h.cell t ht, fun t ht => by rw [World.frozen?_setCell]; exact h.free t ht⟩

theorem RowA.set0 {w : World} {blk n : Nat} {F : List Int} (h : RowA w blk 0 n fun t => F.getD t 0) (hF : F.length = n) (hn : 0 < n) {x : Int} : RowA (w.setCell ⟨blk, 0, none⟩ (.int .i64 x)) blk 0 n fun t => ((F.set 0 x).toArray)[t]! := by
  refine ⟨fun t ht => ?_, fun t ht => by rw [World.frozen?_setCell]; exact h.free t ht⟩
  rw [getElem!_pos _ t (by simp; omega)]
  simp only [List.getElem_toArray, List.getElem_set]
  by_cases e : 0 = t
  · subst e
    rw [if_pos rfl]
    exact World.cell?_setCell_same' _ _ _ (by have := h.cell 0 hn; simp only [Nat.add_zero] at this; rw [this]; rfl)
  · rw [if_neg e, set_other (by omega), h.cell t ht]
    simp [List.getD_eq_getElem?_getD, List.getElem?_eq_getElem (show t < F.length by omega)]

theorem grown_cell {w w' : World} {b k o : Nat} (h : w.grownBy w' (some b)) (hk : k < w.heap.size) (hne : k ≠ b) : w'.cell? ⟨k, o, none⟩ = w.cell? ⟨k, o, none⟩ :=
  World.cell?_of_block (h.block k hk (fun e => hne (by cases e; rfl)))

theorem size_setCell (w : World) (a : Addr) (v : Value) : (w.setCell a v).heap.size = w.heap.size := by simp [World.setCell]

set_option maxRecDepth 100000 in
set_option maxHeartbeats 2000000 in
theorem turns_1 (cs : List TC) (pick : TC → Int) (g : Nat) (hg : Picks g pick) (eg : ∀ args w, (callFunc g args).run Try.prog w = .ok (.enter g args) w) (order : List Int) (hlo : order.length ≤ 1000) (s : Nat) (hs : 1 ≤ s ∧ s ≤ 5)
    (hcs : ∀ c ∈ cs, 0 ≤ c.comes ∧ c.comes ≤ 200) (hp : ∀ c ∈ cs, 0 ≤ pick c ∧ pick c ≤ 20) (hor : ∀ o ∈ order, 0 ≤ o ∧ o < cs.length) (S : Nat → Prop) (l : Nat) (J Jx : List Tn → World → Prop) (W : World)
    (hJs : ∀ xs, Stable W.heap.size (J xs)) (hS : ∀ k, S k → k < W.heap.size) (bs bo bd bf : Nat) (nbs : ¬ S bs) (nbo : ¬ S bo) (nbd : ¬ S bd) (nbf : ¬ S bf) (A A2 AO : Option Addr) (n2 cap cap2 capo : Nat)
    (hbs : W.cell? ⟨bs, 0, none⟩ = some (.int .i64 s)) (hbo : W.cell? ⟨bo, 0, none⟩ = some (.slice AO order.length capo)) (hbd : W.cell? ⟨bd, 0, none⟩ = some (.slice A cs.length cap)) (hbd2 : W.cell? ⟨bd, 1, none⟩ = some (.slice A2 n2 cap2))
    (hbf : W.cell? ⟨bf, 0, none⟩ = some (.func (.func g) #[] #[])) (hz : SlS S W A 4 encTC cs) (ho : SlS S W AO 1 encI order)
    (hY : ∀ pre x rest W1, turnsF cs pick (List.replicate s 0) order = pre ++ x :: rest → J pre W1 → W.heap.size ≤ W1.heap.size → YieldAt Fence.wide 19 Try.prog l (encTn x) W1 fun e W' =>
      (e = .returned (.bool true) ∧ J (pre ++ [x]) W' ∧ Keep S W1 W') ∨ (e = .returned (.bool false) ∧ Jx (pre ++ [x]) W' ∧ W1.heap.size ≤ W'.heap.size)) (h0 : J [] W) :
    CallsIn Fence.wide 20 Try.prog 69 (#[.func (.yield l) #[] #[]] ++ #[.pointer (some ⟨bs, 0, none⟩), .pointer (some ⟨bo, 0, none⟩), .pointer (some ⟨bd, 0, none⟩), .pointer (some ⟨bf, 0, none⟩)]) W fun e W' =>
      (∃ v, e = .returned v) ∧ W.heap.size ≤ W'.heap.size ∧ (J (turnsF cs pick (List.replicate s 0) order) W' ∨ ∃ pre, pre <+: turnsF cs pick (List.replicate s 0) order ∧ Jx pre W') := by
  have hmk := fun W0 : World => run_make_row' (P := Try.prog) 29 3 (.int .i64 0) 8 (by kernel_rfl) info_int rfl .i64 .i64 s (by omega) (by omega) W0
  have zs := cell_lt hbs
  have zo := cell_lt hbo
  have zd := cell_lt hbd
  have zf := cell_lt hbf
  refine callsIn_of_wp Try.func69 rfl trivial ?_ rfl
  simp only [Try.ntmps69, List.size_toArray, List.length_cons, List.length_nil, Nat.reduceAdd, Nat.reduceSub, Array.replicate_succ, Array.replicate_zero, List.push_toArray, List.append_toArray, List.nil_append, List.cons_append]
  gi_wp2
  gi_loopw [8, 9, 10, 15] (fun _ _ _ i wr => ∃ k : Nat, k ≤ order.length ∧ i = .int .i64 k ∧ J (turnsF cs pick (List.replicate s 0) (order.take k)) wr ∧ Keep S W wr ∧ W.heap.size < wr.heap.size ∧
    RowA wr W.heap.size 0 s fun t => (freeF cs pick (List.replicate s 0) (order.take k)).getD t 0) (fun _ _ _ i _ => order.length - (intOf i).toNat)
  case atStart =>
    refine ⟨0, Nat.zero_le _, rfl, ?_, ?_, ?_, ?_⟩
    · exact hJs [] W _ h0 (Nat.le_refl _) (by repeat (first | with_reducible exact Below.refl _ _ | with_reducible assumption | with_reducible refine Below.al ?_ _ | with_reducible refine Below.drew ?_ | with_reducible refine Below.st ?_ (by first | (simp; done) | assumption | (simp; omega)) _ | with_reducible refine Below.call ?_ (by with_reducible assumption) | exact Below.refl _ _ | assumption | refine Below.al ?_ _ | refine Below.drew ?_ | refine Below.call ?_ (by assumption) | refine Below.st ?_ (by first | (simp; done) | assumption | (simp; omega)) _))
    · exact (Kept.below (by repeat (first | with_reducible exact Below.refl _ _ | with_reducible assumption | with_reducible refine Below.al ?_ _ | with_reducible refine Below.drew ?_ | with_reducible refine Below.st ?_ (by first | (simp; done) | assumption | (simp; omega)) _ | with_reducible refine Below.call ?_ (by with_reducible assumption) | exact Below.refl _ _ | assumption | refine Below.al ?_ _ | refine Below.drew ?_ | refine Below.call ?_ (by assumption) | refine Below.st ?_ (by first | (simp; done) | assumption | (simp; omega)) _))).keep
    · simp
    · refine ⟨fun t ht => ?_, fun t ht => ?_⟩
      · simp only [List.take_zero, freeF]
        have hh := World.alloc_heap_new W (.cells (madeCells #[.int .i64 0] s) 3)
        have hg0 : (List.replicate s (0 : Int)).getD t 0 = 0 := by simp [List.getD_eq_getElem?_getD, ht]
        rw [hg0]
        simp only [World.cell?, Nat.zero_add, hh]
        simp [madeCells, ht, Nat.mod_one]
      · have hh := World.alloc_heap_new W (.cells (madeCells #[.int .i64 0] s) 3)
        simp only [World.frozen?, Nat.zero_add, hh]
        simp
  case round =>
    obtain ⟨k, hk, rfl, hJk, hkp, hlw, hrow⟩ := hrel
    by_cases hlt : k < order.length
    · have hkz : (k : Int) < (order.length : Int) := by omega
      have hcut := turnsF_cut (cs := cs) (pick := pick) (List.replicate s 0) order k hlt
      have htake := turnsF_take (cs := cs) (pick := pick) (List.replicate s 0) order k hlt
      have hfree := freeF_take (cs := cs) (pick := pick) (List.replicate s 0) order k hlt
      have hfl := freeF_length (cs := cs) (pick := pick) (order.take k) (List.replicate s 0)
      rw [List.length_replicate] at hfl
      have hfb := free_bound (pick := pick) hcs hp (order.take k) (fun o ho => hor o (List.mem_of_mem_take ho)) (List.replicate s 0) 0 (by simp; omega) (Int.le_refl _) (fun x hx => by have := List.eq_of_mem_replicate hx; omega)
      obtain ⟨i, hi⟩ : ∃ i : Nat, order[k] = (i : Int) := Int.eq_ofNat_of_zero_le (hor _ (List.getElem_mem hlt)).1
      have hil : i < cs.length := by have := (hor _ (List.getElem_mem hlt)).2; omega
      have hilz : (i : Int) < (cs.length : Int) := by omega
      obtain ⟨b1, off1, rfl, hb1, ns1, hc1⟩ := ho.keep hkp (by omega)
      have hx := (hc1 k order[k] (List.getElem?_eq_getElem hlt)).cell 0 rfl
      simp only [Nat.add_zero, Nat.mul_one, hi] at hx
      obtain ⟨b2, off2, rfl, hb2, ns2, hc2⟩ := hz.keep hkp (by omega)
      have r0 := (hc2 i cs[i] (List.getElem?_eq_getElem hil)).cell 0 rfl
      have r1 := (hc2 i cs[i] (List.getElem?_eq_getElem hil)).cell 1 rfl
      have r2 := (hc2 i cs[i] (List.getElem?_eq_getElem hil)).cell 2 rfl
      have r3 := (hc2 i cs[i] (List.getElem?_eq_getElem hil)).cell 3 rfl
      simp only [Nat.add_zero] at r0
      have hbs' := hkp.cell nbs hbs
      have hbo' := hkp.cell nbo hbo
      have hbd' := hkp.cell nbd hbd
      have hbd2' := hkp.cell nbd hbd2
      have hbf' := hkp.cell nbf hbf
      have zf' := cell_lt hbf'
      have zf2 : bf < wr.heap.size + 1 := by omega
      have zf3 : bf < wr.heap.size + 1 + 1 := by omega
      have zd' := cell_lt hbd'
      have hw2 : W.heap.size < wr.heap.size + 1 := by omega
      have hw3 : W.heap.size < wr.heap.size + 1 + 1 := by omega
      have hci := hcs _ (List.getElem_mem hil)
      have hpi := hp _ (List.getElem_mem hil)
      have e0 := hrow.cell 0 (by omega)
      have g0 := hrow.free 0 (by omega)
      have htn : tnF cs pick (freeF cs pick (List.replicate s 0) (order.take k)) order[k] = ⟨i, max cs[i].comes ((freeF cs pick (List.replicate s 0) (order.take k)).getD 0 0), max cs[i].comes ((freeF cs pick (List.replicate s 0) (order.take k)).getD 0 0) + pick cs[i]⟩ := by
        rw [hi]; unfold tnF; simp only [Int.toNat_natCast]; rw [getElem!_pos cs i hil]
      generalize hF : freeF cs pick (List.replicate s 0) (order.take k) = F at *
      generalize hF0 : F.getD 0 0 = f0 at *
      have hf0 : 0 ≤ f0 ∧ f0 ≤ 25000 := by
        have := hfb f0 (by rw [← hF0, List.getD_eq_getElem?_getD, List.getElem?_eq_getElem (by omega)]; exact List.getElem_mem _)
        have hl := List.length_take_le k order
        omega
      have HI := Lib.hid hi
      have HT := Lib.hid htn
      clear hc1 hc2 hz ho hbs hbo hbd hbd2 hbf hcs hp hor hi htn hF hF0 hfb
      simp only [Nat.add_zero] at e0 g0
      gi_wp2
      gi_region
      gi_wp2
      refine wpIn_wide.2 ?_
      refine name_world (fun W5 hW5 => ?_)
      have HB : Below wr.heap.size wr W5 := by rw [hW5]; exact (by repeat (first | with_reducible exact Below.refl _ _ | with_reducible assumption | with_reducible refine Below.al ?_ _ | with_reducible refine Below.drew ?_ | with_reducible refine Below.st ?_ (by first | (simp; done) | assumption | (simp; omega)) _ | with_reducible refine Below.call ?_ (by with_reducible assumption) | exact Below.refl _ _ | assumption | refine Below.al ?_ _ | refine Below.drew ?_ | refine Below.call ?_ (by assumption) | refine Below.st ?_ (by first | (simp; done) | assumption | (simp; omega)) _))
      have hs5 : wr.heap.size + 1 < W5.heap.size := by rw [hW5]; simp
      have T0 : W5.cell? ⟨wr.heap.size + 1, 0, none⟩ = some (.int .i64 i) := by rw [hW5]; go_simp
      have T1 : W5.cell? ⟨wr.heap.size + 1, 1, none⟩ = some (.int .i64 (max cs[i].comes f0)) := by rw [hW5]; go_simp
      have T2 : W5.cell? ⟨wr.heap.size + 1, 2, none⟩ = some (.int .i64 0) := by rw [hW5]; go_simp
      have T3 : W5.frozen? ⟨wr.heap.size + 1, 2, none⟩ = false := by rw [hW5]; go_simp
      have a1 := Later.cell (b := wr.heap.size + 1) (o := 1) (W := W5) (by omega) T1
      have a2 := Later.cell (b := wr.heap.size) (o := 2) (v := .int .i64 cs[i].lo) (W := W5) (by omega) (by rw [hW5]; go_simp)
      have a3 := Later.cell (b := wr.heap.size) (o := 3) (v := .int .i64 cs[i].hi) (W := W5) (by omega) (by rw [hW5]; go_simp)
      have a4 := Later.cell (W := W5) (Nat.lt_of_lt_of_le zf' HB.size) (HB.rdcell zf' hbf')
      clear hW5
      have n1 := fun p : Later W5 => p.call (hg cs[i] p.w)
      have hwr : IntKind.i64.wrap (max cs[i].comes f0 + pick cs[i]) = max cs[i].comes f0 + pick cs[i] := IntWalk.i64_in _ (by omega)
      (refine wp_region_qt 8 (by kernel_rfl) (by kernel_rfl) ?_; simp only [List.take_succ_cons, List.take_zero, List.drop_succ_cons, List.drop_zero]; (first | go_big_quiet_skip | (go_big_quiet_want; go_big_quiet_op; first | go_big_quiet_on | (apply Exists.intro; refine ⟨fun p => ?_, ?_⟩; (with_reducible exact n1 p); go_big_quiet_on))); (first | go_big_quiet_skip | (go_big_quiet_want; go_big_quiet_op; first | go_big_quiet_on | (apply Exists.intro; refine ⟨fun p => ?_, ?_⟩; (with_reducible exact n1 p); go_big_quiet_on))); (first | go_big_quiet_skip | (go_big_quiet_want; go_big_quiet_op; first | go_big_quiet_on | (apply Exists.intro; refine ⟨fun p => ?_, ?_⟩; (with_reducible exact n1 p); go_big_quiet_on))); (first | go_big_quiet_skip | (go_big_quiet_want; go_big_quiet_op; first | go_big_quiet_on | (apply Exists.intro; refine ⟨fun p => ?_, ?_⟩; (with_reducible exact n1 p); go_big_quiet_on))); (first | go_big_quiet_skip | (go_big_quiet_want; go_big_quiet_op; first | go_big_quiet_on | (apply Exists.intro; refine ⟨fun p => ?_, ?_⟩; (with_reducible exact n1 p); go_big_quiet_on))); (first | go_big_quiet_skip | (go_big_quiet_want; go_big_quiet_op; first | go_big_quiet_on | (apply Exists.intro; refine ⟨fun p => ?_, ?_⟩; (with_reducible exact n1 p); go_big_quiet_on))); (first | go_big_quiet_skip | (go_big_quiet_want; go_big_quiet_op; first | go_big_quiet_on | (apply Exists.intro; refine ⟨fun p => ?_, ?_⟩; (with_reducible exact n1 p); go_big_quiet_on))); (first | go_big_quiet_skip | (go_big_quiet_want; go_big_quiet_op; first | go_big_quiet_on | (apply Exists.intro; refine ⟨fun p => ?_, ?_⟩; (with_reducible exact n1 p); go_big_quiet_on))); refine wpQuiet_nil ?_; rintro _ ⟨p, rfl⟩)
      obtain ⟨w1, hb1⟩ := p
      have t0 := hb1.rdcell hs5 T0
      have t1 := hb1.rdcell hs5 T1
      have t2 := hb1.rdcell hs5 T2
      have t3 := (hb1.frozen (p := ⟨wr.heap.size + 1, 2, none⟩) hs5).trans T3
      have HB1 := HB.call hb1
      have row1 := hrow.later hlw HB1
      have x0 := row1.cell 0 (by omega)
      have y0 := row1.free 0 (by omega)
      simp only [Nat.add_zero] at x0 y0
      have ne1 : W.heap.size ≠ wr.heap.size + 1 := by omega
      have ne2 : wr.heap.size + 1 ≠ W.heap.size := by omega
      clear a1 a2 a3 a4 n1 T0 T1 T2 T3
      go_wp2
      gi_wp2
      have hdn : (nextF cs pick F order[k]) = sortI (F.set 0 (max cs[i].comes f0 + pick cs[i])) := by unfold nextF; rw [HT.out]
      generalize hdone : max cs[i].comes f0 + pick cs[i] = dn at *
      generalize htk : max cs[i].comes f0 = tk at *
      clear hdone htk
      have hl1 := HB1.size
      have hs1 := hb1.size
      have hRow : RowA ((w1.setCell ⟨wr.heap.size + 1, 2, none⟩ (.int .i64 dn)).setCell ⟨W.heap.size, 0, none⟩ (.int .i64 dn)) W.heap.size 0 s fun t => ((F.set 0 dn).toArray)[t]! := (row1.other ne2).set0 hfl (by omega)
      have hS1 := sort_int W.heap.size 0 s s (F.set 0 dn).toArray _ (by simp [hfl]) (by omega) (by rw [size_setCell, size_setCell]; omega) hRow
      refine ⟨trivial, callsIn_wide.2 (hS1.mono ?_)⟩
      rintro e w2 ⟨rfl, hgr, hR2⟩
      have hs2 := hgr.size
      rw [size_setCell, size_setCell] at hs2
      have k0 : w2.cell? ⟨wr.heap.size + 1, 0, none⟩ = some (.int .i64 i) := by
        rw [grown_cell hgr (by rw [size_setCell, size_setCell]; omega) ne2, World.cell?_setCell_other _ _ _ _ (by intro e; injection e with e _ _; exact ne1 e), set_other (by omega)]; exact t0
      have k1 : w2.cell? ⟨wr.heap.size + 1, 1, none⟩ = some (.int .i64 tk) := by
        rw [grown_cell hgr (by rw [size_setCell, size_setCell]; omega) ne2, World.cell?_setCell_other _ _ _ _ (by intro e; injection e with e _ _; exact ne1 e), set_other (by omega)]; exact t1
      have k2 : w2.cell? ⟨wr.heap.size + 1, 2, none⟩ = some (.int .i64 dn) := by
        rw [grown_cell hgr (by rw [size_setCell, size_setCell]; omega) ne2, World.cell?_setCell_other _ _ _ _ (by intro e; injection e with e _ _; exact ne1 e)]
        exact World.cell?_setCell_same' _ _ _ (by rw [t2]; rfl)
      have HB2 : Below W.heap.size wr w2 := by
        refine Below.grown (((HB1.mono hkp.size).setCell ?_ _).setCell ?_ _) hgr ?_ ?_
        · show W.heap.size ≤ wr.heap.size + 1; omega
        · exact Nat.le_refl _
        · rw [size_setCell, size_setCell]; omega
        · intro k hk; cases hk; exact Nat.le_refl _
      have hJ2 := hJs _ wr w2 hJk hkp.size HB2
      have hk2 : Keep S W w2 := ⟨Nat.le_trans hkp.size HB2.size, fun k o ho hc hn => (HB2.block k (lt_of_get ho)).trans (hkp.same k o ho hc hn)⟩
      have hR3 : RowA w2 W.heap.size 0 s fun t => (freeF cs pick (List.replicate s 0) (order.take (k + 1))).getD t 0 := by
        rw [hfree, hdn]
        refine ⟨fun t ht => ?_, hR2.free⟩
        rw [hR2.cell t ht]
        have := sortI_at (F.set 0 dn) t (by simp; omega)
        simp only [List.length_set, hfl] at this
        rw [this]
      rw [HT.out] at hcut htake
      obtain ⟨fn, tmps, assign, body, hy, hRd⟩ := hY _ _ _ w2 hcut hJ2 hk2.size
      rw [← htake] at hRd
      clear hR2 hRow hS1 row1 hrow hdn hfree t0 t1 t2 t3 x0 y0 e0 g0 r0 r1 r2 r3 hx
      have HC := Lib.hid hcut
      have HTk := Lib.hid htake
      clear hcut htake
      simp only [encTn] at hy
      gi_wp2
      refine hRd.mono ?_
      rintro e W3 (⟨rfl, hJ3, hk3⟩ | ⟨rfl, hJx3, hs3⟩)
      · gi_wp2
        go_roundw
        case rel =>
          refine ⟨k + 1, by omega, by go_num, hJ3, hk2.trans hk3, by have := hk3.size; have := HB2.size; omega, ⟨fun t ht => ?_, fun t ht => ?_⟩⟩
          · exact hk3.cell (fun h => absurd (hS _ h) (Nat.lt_irrefl _)) (hR3.cell t ht)
          · exact (hk3.free (fun h => absurd (hS _ h) (Nat.lt_irrefl _)) (hR3.cell t ht)).trans (hR3.free t ht)
        case measure => simp [intOf]; omega
      · gi_wp2
        refine bodyPost_ret (results_none rfl _ _ _) rfl ?_
        refine ⟨⟨_, rfl⟩, Nat.le_trans hk2.size hs3, .inr ⟨_, ?_, hJx3⟩⟩
        rw [HTk.out, HC.out]
        exact ⟨turnsF cs pick (freeF cs pick (List.replicate s 0) (order.take (k + 1))) (order.drop (k + 1)), by simp⟩
    · obtain rfl : k = order.length := by omega
      have hkz : ¬ ((order.length : Nat) : Int) < (order.length : Int) := by omega
      gi_wp2
      go_end0
      rw [List.take_length] at hJk
      exact ⟨⟨_, rfl⟩, hkp.size, .inl hJk⟩
end Go.Proofs.Ytacellaeepngkaa
