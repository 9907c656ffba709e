/- TopTurnDry: the walk. -/
import Derived.Test.YtacellaeepngkaaH6
import Derived.Test.YtacellaeepngkaaSY
import Derived.Test.YtacellaeepngkaaJP
import Derived.Deep.CutBlock
namespace Go.Proofs.Ytacellaeepngkaa
set_option linter.unusedVariables false
set_option linter.unusedSimpArgs false
open Go.RowKit Go.Shelf

abbrev B3 := Int × Int × Int
def encB3 (x : B3) : List Value := [.int .u8 x.1, .int .u8 x.2.1, .int .u8 x.2.2]
def B3.ok (x : B3) : Prop := 0 ≤ x.1 ∧ x.1 ≤ 255 ∧ 0 ≤ x.2.1 ∧ x.2.1 ≤ 255 ∧ 0 ≤ x.2.2 ∧ x.2.2 ≤ 255
def tcOf (x : B3) : TC := ⟨x.1 % 2, x.1 / 2 % 3, 1 + x.2.1 % 4, 1 + x.2.1 % 4 + x.2.1 / 16 % 3⟩
def twOf (x : B3) : TwC := ⟨50, 50, x.2.2 / 8, x.2.2 / 8 + 3⟩

theorem info_tc : (Try.prog.info? 39).map (fun i => (i.zero, i.size, i.bytes)) = some (some (.agg #[.int .i64 0, .int .i64 0, .int .i64 0, .int .i64 0]), 4, 32) := by kernel_rfl

def Rel1 (w1 : World) (D R : Nat) (ys : List B3) (v i : Value) (wr : World) : Prop :=
  ∃ (k : Nat) (S : Value), i = .int .i64 k ∧ k ≤ ys.length ∧ k ≤ 4 ∧ Below w1.heap.size w1 wr ∧ wr.heap[D]? = some (.cells #[S, .slice (some ⟨R, 0, none⟩) 2 2] 32 (0, 0)) ∧ wr.heap[R]? = some (.cells #[.int .i64 1, .int .i64 0] 3 (0, 0)) ∧
    wr.ownsRow w1.heap.size 39 4 S k (((ys.take k).map tcOf).flatMap encTC) ∧ wr.ownsRow w1.heap.size 41 4 v k (((ys.take k).map twOf).flatMap encTw)

theorem rel1_next {w1 w3 : World} {D R k : Nat} {ys : List B3} {S' v' : Value} (hk : k < ys.length) (h4 : k < 4) (hb : Below w1.heap.size w1 w3) (hD : w3.heap[D]? = some (.cells #[S', .slice (some ⟨R, 0, none⟩) 2 2] 32 (0, 0))) (hR : w3.heap[R]? = some (.cells #[.int .i64 1, .int .i64 0] 3 (0, 0)))
    (h1 : w3.ownsRow w1.heap.size 39 4 S' (k + 1) (((ys.take k).map tcOf).flatMap encTC ++ encTC (tcOf ys[k]))) (h2 : w3.ownsRow w1.heap.size 41 4 v' (k + 1) (((ys.take k).map twOf).flatMap encTw ++ encTw (twOf ys[k]))) :
    Rel1 w1 D R ys v' (.int .i64 ((k : Int) + 1)) w3 := by
  refine ⟨k + 1, S', by go_num, by omega, by omega, hb, hD, hR, ?_, ?_⟩
  · rw [List.take_succ_eq_append_getElem hk]; simp only [List.map_append, List.map_cons, List.map_nil, List.flatMap_append, List.flatMap_cons, List.flatMap_nil, List.append_nil]; exact h1
  · rw [List.take_succ_eq_append_getElem hk]; simp only [List.map_append, List.map_cons, List.map_nil, List.flatMap_append, List.flatMap_cons, List.flatMap_nil, List.append_nil]; exact h2

/-- What stands behind the first loop: a day and a field of valid cloths. -/
def Aft1 (w1 : World) (D R : Nat) (v : Value) (wr : World) : Prop :=
  ∃ (cs : List TC) (ct : List TwC) (A3 A4 : Option Addr) (c3 c4 : Nat), v = .slice A4 ct.length c4 ∧ cs.length ≤ 4 ∧ ct.length = cs.length ∧ (∀ c ∈ cs, c.ok 2) ∧ (∀ c ∈ ct, c.ok) ∧ Below w1.heap.size w1 wr ∧ wr.heap[D]? = some (.cells #[.slice A3 cs.length c3, .slice (some ⟨R, 0, none⟩) 2 2] 32 (0, 0)) ∧ wr.heap[R]? = some (.cells #[.int .i64 1, .int .i64 0] 3 (0, 0)) ∧
    wr.ownsRow w1.heap.size 39 4 (.slice A3 cs.length c3) cs.length (cs.flatMap encTC) ∧ wr.ownsRow w1.heap.size 41 4 (.slice A4 ct.length c4) ct.length (ct.flatMap encTw)

theorem tcOf_ok {x : B3} (h : x.ok) : (tcOf x).ok 2 := by
  obtain ⟨h0, h1, h2, h3, _, _⟩ := h
  unfold TC.ok tcOf
  simp only
  omega
theorem twOf_ok {x : B3} (h : x.ok) : (twOf x).ok := by
  obtain ⟨_, _, _, _, h4, h5⟩ := h
  unfold TwC.ok twOf
  simp only
  omega

theorem aft1_of {w1 wr : World} {D R : Nat} {ys : List B3} {v i : Value} (hyok : ∀ y ∈ ys, B3.ok y) (h : Rel1 w1 D R ys v i wr) : Aft1 w1 D R v wr := by
  obtain ⟨k, S, rfl, hk, hk4, rB, rD, rR, rS, rv⟩ := h
  obtain ⟨A3, c3, rfl⟩ := own_slice rS
  obtain ⟨A4, c4, rfl⟩ := own_slice rv
  have e1 : ((ys.take k).map tcOf).length = k := by simp; omega
  have e2 : ((ys.take k).map twOf).length = k := by simp; omega
  refine ⟨(ys.take k).map tcOf, (ys.take k).map twOf, A3, A4, c3, c4, by rw [e2], by omega, by rw [e1, e2], ?_, ?_, rB, by rw [e1]; exact rD, rR, by rw [e1]; exact rS, by rw [e2]; exact rv⟩
  · intro c hc
    obtain ⟨y, hy, rfl⟩ := List.mem_map.1 hc
    exact tcOf_ok (hyok y (List.mem_of_mem_take hy))
  · intro c hc
    obtain ⟨y, hy, rfl⟩ := List.mem_map.1 hc
    exact twOf_ok (hyok y (List.mem_of_mem_take hy))

theorem day_ok {cs : List TC} (h4 : cs.length ≤ 4) (h : ∀ c ∈ cs, c.ok 2) : DayOk cs [1, 0] := by
  refine ⟨by omega, by decide, ?_, h⟩
  show [1, 0].Perm [(0 : Int), 1]
  exact List.Perm.swap _ _ _

theorem field_ok {ct : List TwC} {a b c d : Int} (h4 : ct.length ≤ 4) (h : ∀ c ∈ ct, c.ok) (ha : 0 ≤ a ∧ a ≤ 255) (hb : 0 ≤ b ∧ b ≤ 255) (hc : 0 ≤ c ∧ c ≤ 255) (hd : 0 ≤ d ∧ d ≤ 255) : FieldOk ct (framesF a c d) (a % 20) (b % 120) := by
  refine ⟨by omega, ?_, h, ?_, by omega, by omega⟩
  · unfold framesF; rw [List.length_take]; simp; omega
  · intro x hx
    have := List.mem_of_mem_take hx
    simp only [List.mem_cons, List.not_mem_nil, or_false] at this
    omega

/-- A field whose lists are the call's own. -/
def FieldF (base : Nat) (ct : List TwC) (fr : List Int) (gap str : Int) : Fact := fun u w =>
  ∃ A' c' A2' c2', u = .agg #[.slice A' ct.length c', .slice A2' fr.length c2', .int .i64 gap, .int .i64 str] ∧ w.ownsRow base 41 4 (.slice A' ct.length c') ct.length (ct.flatMap encTw) ∧ w.ownsRow base 3 1 (.slice A2' fr.length c2') fr.length (fr.flatMap encI)

theorem field_last {B wI i base : Nat} {ct : List TwC} {fr : List Int} {gap str : Int} : LastX B (some (wI, 43)) i fun v w => FieldF base ct fr gap str (v i) w :=
  lastX_R (lastR_of fun _ _ _ hs ⟨A', c', A2', c2', h1, h2, h3⟩ => ⟨A', c', A2', c2', h1, own_stp (by decide) hs h2, own_stp (by decide) hs h3⟩)

/-- The field stored in a block. -/
def StoredF (base : Nat) : FactR := fun v w => ∃ g x0 x1 x2 x3, v 15 = .pointer (some ⟨g, 0, none⟩) ∧ v 2 = .agg #[x0, x1, x2, x3] ∧ base ≤ g ∧ w.heap[g]? = some (.cells #[x0, x1, x2, x3] 43 (0, 0))

set_option maxRecDepth 100000 in
set_option maxHeartbeats 8000000 in
theorem top_TurnDry (xs : List B2) (hx : xs.length ≤ 9223372036854775807) (hxok : ∀ x ∈ xs, B2.ok x) (ys : List B3) (hy : ys.length ≤ 9223372036854775807) (hyok : ∀ y ∈ ys, B3.ok y) (a b c d : Int) (ha : 0 ≤ a ∧ a ≤ 255) (hb : 0 ≤ b ∧ b ≤ 255) (hc : 0 ≤ c ∧ c ≤ 255) (hd : 0 ≤ d ∧ d ≤ 255)
    (A A2 : Option Addr) (cap cap2 : Nat) (w : World) (hz : Sl w A 2 encB2 xs) (hz2 : Sl w A2 3 encB3 ys) :
    Calls Try.prog 3 #[.agg #[.slice A xs.length cap], .slice A2 ys.length cap2, .agg #[.int .u8 a, .int .u8 b, .int .u8 c, .int .u8 d]] w fun e w' => e = .returned (.bool true) ∧ Below w.heap.size w w' := by
  obtain ⟨a0, a1⟩ := ha
  obtain ⟨b0, b1⟩ := hb
  obtain ⟨c0, c1⟩ := hc
  obtain ⟨d0, d1⟩ := hd
  go_enter Try.func3, Try.ntmps3
  go_wp2_with fail
  refine (elm_made xs hx hxok A cap _ (hz.below (by repeat (first | with_reducible exact Below.refl _ _ | with_reducible assumption | with_reducible refine Below.al ?_ _ | with_reducible refine Below.drew ?_ | with_reducible refine Below.st ?_ (by first | (simp; done) | assumption | (simp; omega)) _ | with_reducible refine Below.call ?_ (by with_reducible assumption) | exact Below.refl _ _ | assumption | refine Below.al ?_ _ | refine Below.drew ?_ | refine Below.call ?_ (by assumption) | refine Below.st ?_ (by first | (simp; done) | assumption | (simp; omega)) _)))).mono ?_
  rintro e w1 ⟨⟨v1, rfl, ws, hws, hw16, ⟨Aw, cw, rfl⟩, hwow⟩, hb1⟩
  have HW1 : Below w.heap.size w w1 := (by repeat (first | with_reducible exact Below.refl _ _ | with_reducible assumption | with_reducible refine Below.al ?_ _ | with_reducible refine Below.drew ?_ | with_reducible refine Below.st ?_ (by first | (simp; done) | assumption | (simp; omega)) _ | with_reducible refine Below.call ?_ (by with_reducible assumption) | exact Below.refl _ _ | assumption | refine Below.al ?_ _ | refine Below.drew ?_ | refine Below.call ?_ (by assumption) | refine Below.st ?_ (by first | (simp; done) | assumption | (simp; omega)) _))
  have hs1 : w.heap.size + 1 < w1.heap.size := by have := hb1.size; simp at this; omega
  have e0 : w1.heap[w.heap.size + 1]? = some (.cells #[.int .u8 a, .int .u8 b, .int .u8 c, .int .u8 d] 26 (0, 0)) := below_blk hb1 (by have := World.alloc_heap_new (w.alloc (.cells #[.slice A xs.length cap] 24)) (.cells #[.int .u8 a, .int .u8 b, .int .u8 c, .int .u8 d] 26); simpa using this) (by simp)
  have hz1 := hz2.below HW1
  go_upto_block 0 with fail
  refine name_world (fun V hV => ?_)
  have vR : V.heap[w1.heap.size]? = some (.cells #[.int .i64 1, .int .i64 0] 3 (0, 0)) := by
    rw [hV]; exact (heap_alloc_old _ _ (by simp; omega)).trans ((heap_alloc_old _ _ (by simp)).trans (World.alloc_heap_new _ _))
  have vD : V.heap[w1.heap.size + 1 + 1]? = some (.cells #[.slice none 0 0, .slice (some ⟨w1.heap.size, 0, none⟩) 2 2] 32 (0, 0)) := by
    have := World.alloc_heap_new ((w1.alloc (.cells #[.int .i64 1, .int .i64 0] 3)).alloc (.cells #[] 41)) (.cells #[.slice none 0 0, .slice (some ⟨w1.heap.size, 0, none⟩) 2 2] 32)
    rw [hV]; simpa using this
  have vE : V.ownsRow w1.heap.size 41 4 (.slice (some ⟨w1.heap.size + 1, 0, none⟩) 0 0) 0 [] := by
    have := (own_empty (w1.alloc (.cells #[.int .i64 1, .int .i64 0] 3)) w1.heap.size 41 4 (by simp)).alloc (.cells #[.slice none 0 0, .slice (some ⟨w1.heap.size, 0, none⟩) 2 2] 32)
    rw [hV]; simpa using this
  have vB : Below w1.heap.size w1 V := by rw [hV]; exact (by repeat (first | with_reducible exact Below.refl _ _ | with_reducible assumption | with_reducible refine Below.al ?_ _ | with_reducible refine Below.drew ?_ | with_reducible refine Below.st ?_ (by first | (simp; done) | assumption | (simp; omega)) _ | with_reducible refine Below.call ?_ (by with_reducible assumption) | exact Below.refl _ _ | assumption | refine Below.al ?_ _ | refine Below.drew ?_ | refine Below.call ?_ (by assumption) | refine Below.st ?_ (by first | (simp; done) | assumption | (simp; omega)) _))
  clear hV
  have hRl : w1.heap.size < w1.heap.size + 1 + 1 := by omega
  have hDl : w1.heap.size ≤ w1.heap.size + 1 + 1 := by omega
  generalize w1.heap.size + 1 + 1 = D at *
  obtain ⟨i0, hi, hz0, hz1', hz2'⟩ := info_parts info_tc
  obtain ⟨j0, ji, jz0, jz1, jz2⟩ := info_parts info_tw
  go_cut [9] (fun v wx => Aft1 w1 D w1.heap.size v wx)
  case first =>
    go_wp2_with fail
    go_loopw [9, 10] (fun v i wr => Rel1 w1 D w1.heap.size ys v i wr) (fun _ i _ => 5 - (intOf i).toNat)
    case atStart => exact ⟨0, .slice none 0 0, rfl, by omega, by omega, vB, vD, vR, World.ownsRow_nil _ _ _ _, vE⟩
    case round =>
      have hrel0 := hrel
      obtain ⟨k, S, rfl, hk, hk4, rB, rD, rR, rS, rv⟩ := hrel
      obtain ⟨A3, c3, rfl⟩ := own_slice rS
      obtain ⟨A4, c4, rfl⟩ := own_slice rv
      by_cases hlt : k < ys.length ∧ k < 4
      · clear hrel0
        obtain ⟨hlt, h4⟩ := hlt
        have hlz : (k : Int) < (ys.length : Int) := by omega
        have h4z : (k : Int) < 4 := by omega
        obtain ⟨bb, off, rfl, hbl1, hcc⟩ := hz1 (by omega)
        have hbl : bb < wr.heap.size := Nat.lt_of_lt_of_le hbl1 rB.size
        have r0 : wr.cell? ⟨bb, off + k * 3, none⟩ = some (.int .u8 ys[k].1) := by have := (hcc k ys[k] (List.getElem?_eq_getElem hlt)).cell 0 rfl; exact (rB.cell (p := ⟨bb, _, none⟩) hbl1).trans (by simpa using this)
        have r1 : wr.cell? ⟨bb, off + k * 3 + 1, none⟩ = some (.int .u8 ys[k].2.1) := by have := (hcc k ys[k] (List.getElem?_eq_getElem hlt)).cell 1 rfl; exact (rB.cell (p := ⟨bb, _, none⟩) hbl1).trans (by simpa using this)
        have r2 : wr.cell? ⟨bb, off + k * 3 + 2, none⟩ = some (.int .u8 ys[k].2.2) := by have := (hcc k ys[k] (List.getElem?_eq_getElem hlt)).cell 2 rfl; exact (rB.cell (p := ⟨bb, _, none⟩) hbl1).trans (by simpa using this)
        obtain ⟨p0, p1, p2, p3, p4, p5⟩ := hyok ys[k] (List.getElem_mem _)
        have HT1 : Hid (encTC (tcOf ys[k]) = [.int .i64 (ys[k].1 % 2), .int .i64 (ys[k].1 / 2 % 3), .int .i64 (1 + ys[k].2.1 % 4), .int .i64 (1 + ys[k].2.1 % 4 + ys[k].2.1 / 16 % 3)]) := Lib.hid rfl
        have HT2 : Hid (encTw (twOf ys[k]) = [.int .i64 50, .int .i64 50, .int .i64 (ys[k].2.2 / 8), .int .i64 (ys[k].2.2 / 8 + 3)]) := Lib.hid rfl
        generalize hY : ys[k] = y at *
        have HY := Lib.hid hY
        clear hY hcc hz1 hz2
        obtain ⟨y0, y1, y2⟩ := y
        simp only at r0 r1 r2 p0 p1 p2 p3 p4 p5
        have hDw := lt_blk rD
        have d0 : wr.cell? ⟨D, 0, none⟩ = some (.slice A3 k c3) := cell_blk rD rfl
        go_wp2
        refine wp_region_sx none 31 250 [⟨[], [8], []⟩, ⟨[(49, 0)], [], [0]⟩, ⟨[], [1], []⟩, ⟨[], [10], []⟩, ⟨[(51, 2), (52, 3)], [], [2, 3]⟩, ⟨[(53, 4)], [], [4]⟩, ⟨[(54, 5)], [], [5]⟩, ⟨[(55, 6)], [], [6]⟩, ⟨[(56, 7)], [], [7]⟩, ⟨[], [1], []⟩, ⟨[], [10], []⟩, ⟨[(58, 9), (59, 10)], [], [9, 10]⟩, ⟨[(60, 11)], [], [11]⟩, ⟨[(61, 12)], [], [12]⟩, ⟨[(62, 13)], [], [13]⟩, ⟨[(63, 14)], [], [14]⟩, ⟨[(64, 15)], [], [15]⟩, ⟨[], [11], []⟩, ⟨[], [11], []⟩, ⟨[], [1], []⟩, ⟨[], [10], []⟩, ⟨[(68, 19), (69, 20)], [], [19, 20]⟩, ⟨[(70, 21)], [], [21]⟩, ⟨[(71, 22)], [], [22]⟩, ⟨[(72, 23)], [], [23]⟩, ⟨[(73, 24)], [], [24]⟩, ⟨[(74, 25)], [], [25]⟩, ⟨[(67, 18), (75, 26)], [], [18, 26]⟩, ⟨[(66, 17), (76, 27)], [], [17, 27]⟩, ⟨[(57, 8), (65, 16), (77, 28)], [], [8, 16, 28]⟩, ⟨[(78, 29)], [], [29]⟩] (by kernel_rfl) (by kernel_rfl) (by kernel_rfl) (by rfl) ?_; simp only [List.take_succ_cons, List.take_zero, List.drop_succ_cons, List.drop_zero]; intro a' C ha' hC; have m1 := congrArg (fun z : Act => z.tmps.getD 1 undef) ha'; simp only [getD_lit_succ, getD_lit_zero] at m1; have m8 := congrArg (fun z : Act => z.tmps.getD 8 undef) ha'; simp only [getD_lit_succ, getD_lit_zero] at m8; have m10 := congrArg (fun z : Act => z.tmps.getD 10 undef) ha'; simp only [getD_lit_succ, getD_lit_zero] at m10; have m11 := congrArg (fun z : Act => z.tmps.getD 11 undef) ha'; simp only [getD_lit_succ, getD_lit_zero] at m11; clear ha'
        (with_reducible apply sx_val (k' := 1) rfl; focus (intro v wk ρ hb hρ hh hm hf; clear hh; simp only [allMiss] at hm; obtain ⟨e8, -⟩ := hm; replace e8 := e8.trans m8; clear hf; clear hρ; go_simp; first | done | rfl))
        (with_reducible apply sx_val (k' := 2) rfl; focus (intro v wk ρ hb hρ hh hm hf; simp only [allHit] at hh; obtain ⟨e49, -⟩ := hh; clear hm; simp only [allDep, factX, Nat.reduceEqDiff, reduceIte] at hf; obtain ⟨q0, -⟩ := hf; clear hρ; have cc := (hb.cell (p := ⟨D, 0, none⟩) hDw).trans d0; go_simp; first | done | rfl))
        (with_reducible apply sx_val (k' := 3) rfl; focus (intro v wk ρ hb hρ hh hm hf; clear hh; simp only [allMiss] at hm; obtain ⟨e1, -⟩ := hm; replace e1 := e1.trans m1; clear hf; clear hρ; go_simp; first | done | rfl)); (with_reducible apply sx_val (k' := 4) rfl; focus (intro v wk ρ hb hρ hh hm hf; clear hh; simp only [allMiss] at hm; obtain ⟨e10, -⟩ := hm; replace e10 := e10.trans m10; clear hf; clear hρ; go_simp; first | done | rfl)); (with_reducible apply sx_val (k' := 5) rfl; focus (intro v wk ρ hb hρ hh hm hf; simp only [allHit] at hh; obtain ⟨e51, e52, -⟩ := hh; clear hm; simp only [allDep, factX, Nat.reduceEqDiff, reduceIte] at hf; obtain ⟨q2, q3, -⟩ := hf; clear hρ; go_simp; first | done | rfl)); (with_reducible apply sx_val (k' := 6) rfl; focus (intro v wk ρ hb hρ hh hm hf; have hκ := hρ.const; simp only [allHit] at hh; obtain ⟨e53, -⟩ := hh; clear hm; simp only [allDep, factX, Nat.reduceEqDiff, reduceIte] at hf; obtain ⟨q4, -⟩ := hf; clear hρ; go_simp; first | done | rfl))
        (with_reducible apply sx_val (k' := 7) rfl; focus (intro v wk ρ hb hρ hh hm hf; simp only [allHit] at hh; obtain ⟨e54, -⟩ := hh; clear hm; simp only [allDep, factX, Nat.reduceEqDiff, reduceIte] at hf; obtain ⟨q5, -⟩ := hf; clear hρ; have cc := (hb.cell (p := ⟨bb, off + k * 3, none⟩) hbl).trans r0; go_simp; first | done | rfl))
        (with_reducible apply sx_val (k' := 8) rfl; focus (intro v wk ρ hb hρ hh hm hf; simp only [allHit] at hh; obtain ⟨e55, -⟩ := hh; clear hm; simp only [allDep, factX, Nat.reduceEqDiff, reduceIte] at hf; obtain ⟨q6, -⟩ := hf; clear hρ; have wa : IntKind.i64.wrap y0 = y0 := IntWalk.i64_in _ (by omega); have ta : y0.tmod 2 = y0 % 2 := Int.tmod_eq_emod_of_nonneg p0; go_simp; first | done | rfl)); (with_reducible apply sx_val (k' := 9) rfl; focus (intro v wk ρ hb hρ hh hm hf; have hκ := hρ.const; simp only [allHit] at hh; obtain ⟨e56, -⟩ := hh; clear hm; simp only [allDep, factX, Nat.reduceEqDiff, reduceIte] at hf; obtain ⟨q7, -⟩ := hf; clear hρ; have wa : IntKind.i64.wrap y0 = y0 := IntWalk.i64_in _ (by omega); have ta : y0.tmod 2 = y0 % 2 := Int.tmod_eq_emod_of_nonneg p0; go_simp; first | done | rfl))
        (with_reducible apply sx_val (k' := 10) rfl; focus (intro v wk ρ hb hρ hh hm hf; clear hh; simp only [allMiss] at hm; obtain ⟨e1, -⟩ := hm; replace e1 := e1.trans m1; clear hf; clear hρ; go_simp; first | done | rfl)); (with_reducible apply sx_val (k' := 11) rfl; focus (intro v wk ρ hb hρ hh hm hf; clear hh; simp only [allMiss] at hm; obtain ⟨e10, -⟩ := hm; replace e10 := e10.trans m10; clear hf; clear hρ; go_simp; first | done | rfl)); (with_reducible apply sx_val (k' := 12) rfl; focus (intro v wk ρ hb hρ hh hm hf; simp only [allHit] at hh; obtain ⟨e58, e59, -⟩ := hh; clear hm; simp only [allDep, factX, Nat.reduceEqDiff, reduceIte] at hf; obtain ⟨q9, q10, -⟩ := hf; clear hρ; go_simp; first | done | rfl)); (with_reducible apply sx_val (k' := 13) rfl; focus (intro v wk ρ hb hρ hh hm hf; have hκ := hρ.const; simp only [allHit] at hh; obtain ⟨e60, -⟩ := hh; clear hm; simp only [allDep, factX, Nat.reduceEqDiff, reduceIte] at hf; obtain ⟨q11, -⟩ := hf; clear hρ; go_simp; first | done | rfl))
        (with_reducible apply sx_val (k' := 14) rfl; focus (intro v wk ρ hb hρ hh hm hf; simp only [allHit] at hh; obtain ⟨e61, -⟩ := hh; clear hm; simp only [allDep, factX, Nat.reduceEqDiff, reduceIte] at hf; obtain ⟨q12, -⟩ := hf; clear hρ; have cc := (hb.cell (p := ⟨bb, off + k * 3, none⟩) hbl).trans r0; go_simp; first | done | rfl))
        (with_reducible apply sx_val (k' := 15) rfl; focus (intro v wk ρ hb hρ hh hm hf; simp only [allHit] at hh; obtain ⟨e62, -⟩ := hh; clear hm; simp only [allDep, factX, Nat.reduceEqDiff, reduceIte] at hf; obtain ⟨q13, -⟩ := hf; clear hρ; have wa : IntKind.i64.wrap y0 = y0 := IntWalk.i64_in _ (by omega); have ta : y0.tdiv 2 = y0 / 2 := Int.tdiv_eq_ediv_of_nonneg p0; have wb : IntKind.i64.wrap (y0 / 2) = y0 / 2 := IntWalk.i64_in _ (by omega); go_simp; first | done | rfl)); (with_reducible apply sx_val (k' := 16) rfl; focus (intro v wk ρ hb hρ hh hm hf; have hκ := hρ.const; simp only [allHit] at hh; obtain ⟨e63, -⟩ := hh; clear hm; simp only [allDep, factX, Nat.reduceEqDiff, reduceIte] at hf; obtain ⟨q14, -⟩ := hf; clear hρ; have wa : IntKind.i64.wrap y0 = y0 := IntWalk.i64_in _ (by omega); have ta : y0.tdiv 2 = y0 / 2 := Int.tdiv_eq_ediv_of_nonneg p0; have wb : IntKind.i64.wrap (y0 / 2) = y0 / 2 := IntWalk.i64_in _ (by omega); go_simp; first | done | rfl))
        (with_reducible apply sx_val (k' := 17) rfl; focus (intro v wk ρ hb hρ hh hm hf; have hκ := hρ.const; simp only [allHit] at hh; obtain ⟨e64, -⟩ := hh; clear hm; simp only [allDep, factX, Nat.reduceEqDiff, reduceIte] at hf; obtain ⟨q15, -⟩ := hf; clear hρ; have ta : (y0 / 2).tmod 3 = y0 / 2 % 3 := Int.tmod_eq_emod_of_nonneg (by omega); go_simp; first | done | rfl))
        (with_reducible apply sx_val (k' := 18) rfl; focus (intro v wk ρ hb hρ hh hm hf; clear hh; simp only [allMiss] at hm; obtain ⟨e11, -⟩ := hm; replace e11 := e11.trans m11; clear hf; clear hρ; go_simp; first | done | rfl)); (with_reducible apply sx_val (k' := 19) rfl; focus (intro v wk ρ hb hρ hh hm hf; clear hh; simp only [allMiss] at hm; obtain ⟨e11, -⟩ := hm; replace e11 := e11.trans m11; clear hf; clear hρ; go_simp; first | done | rfl)); (with_reducible apply sx_val (k' := 20) rfl; focus (intro v wk ρ hb hρ hh hm hf; clear hh; simp only [allMiss] at hm; obtain ⟨e1, -⟩ := hm; replace e1 := e1.trans m1; clear hf; clear hρ; go_simp; first | done | rfl)); (with_reducible apply sx_val (k' := 21) rfl; focus (intro v wk ρ hb hρ hh hm hf; clear hh; simp only [allMiss] at hm; obtain ⟨e10, -⟩ := hm; replace e10 := e10.trans m10; clear hf; clear hρ; go_simp; first | done | rfl)); (with_reducible apply sx_val (k' := 22) rfl; focus (intro v wk ρ hb hρ hh hm hf; simp only [allHit] at hh; obtain ⟨e68, e69, -⟩ := hh; clear hm; simp only [allDep, factX, Nat.reduceEqDiff, reduceIte] at hf; obtain ⟨q19, q20, -⟩ := hf; clear hρ; go_simp; first | done | rfl)); (with_reducible apply sx_val (k' := 23) rfl; focus (intro v wk ρ hb hρ hh hm hf; have hκ := hρ.const; simp only [allHit] at hh; obtain ⟨e70, -⟩ := hh; clear hm; simp only [allDep, factX, Nat.reduceEqDiff, reduceIte] at hf; obtain ⟨q21, -⟩ := hf; clear hρ; go_simp; first | done | rfl))
        (with_reducible apply sx_val (k' := 24) rfl; focus (intro v wk ρ hb hρ hh hm hf; simp only [allHit] at hh; obtain ⟨e71, -⟩ := hh; clear hm; simp only [allDep, factX, Nat.reduceEqDiff, reduceIte] at hf; obtain ⟨q22, -⟩ := hf; clear hρ; have cc := (hb.cell (p := ⟨bb, off + k * 3 + 1, none⟩) hbl).trans r1; go_simp; first | done | rfl))
        (with_reducible apply sx_val (k' := 25) rfl; focus (intro v wk ρ hb hρ hh hm hf; simp only [allHit] at hh; obtain ⟨e72, -⟩ := hh; clear hm; simp only [allDep, factX, Nat.reduceEqDiff, reduceIte] at hf; obtain ⟨q23, -⟩ := hf; clear hρ; have wa : IntKind.i64.wrap y1 = y1 := IntWalk.i64_in _ (by omega); have ta : y1.tdiv 16 = y1 / 16 := Int.tdiv_eq_ediv_of_nonneg p2; have wb : IntKind.i64.wrap (y1 / 16) = y1 / 16 := IntWalk.i64_in _ (by omega); go_simp; first | done | rfl)); (with_reducible apply sx_val (k' := 26) rfl; focus (intro v wk ρ hb hρ hh hm hf; have hκ := hρ.const; simp only [allHit] at hh; obtain ⟨e73, -⟩ := hh; clear hm; simp only [allDep, factX, Nat.reduceEqDiff, reduceIte] at hf; obtain ⟨q24, -⟩ := hf; clear hρ; have wa : IntKind.i64.wrap y1 = y1 := IntWalk.i64_in _ (by omega); have ta : y1.tdiv 16 = y1 / 16 := Int.tdiv_eq_ediv_of_nonneg p2; have wb : IntKind.i64.wrap (y1 / 16) = y1 / 16 := IntWalk.i64_in _ (by omega); go_simp; first | done | rfl))
        (with_reducible apply sx_val (k' := 27) rfl; focus (intro v wk ρ hb hρ hh hm hf; have hκ := hρ.const; simp only [allHit] at hh; obtain ⟨e74, -⟩ := hh; clear hm; simp only [allDep, factX, Nat.reduceEqDiff, reduceIte] at hf; obtain ⟨q25, -⟩ := hf; clear hρ; have ta : (y1 / 16).tmod 3 = y1 / 16 % 3 := Int.tmod_eq_emod_of_nonneg (by omega); go_simp; first | done | rfl))
        (with_reducible apply sx_val (k' := 28) rfl; focus (intro v wk ρ hb hρ hh hm hf; simp only [allHit] at hh; obtain ⟨e67, e75, -⟩ := hh; clear hm; simp only [allDep, factX, Nat.reduceEqDiff, reduceIte] at hf; obtain ⟨q18, q26, -⟩ := hf; clear hρ; have wa : IntKind.i64.wrap (1 + y1 % 4 + y1 / 16 % 3) = 1 + y1 % 4 + y1 / 16 % 3 := IntWalk.i64_in _ (by omega); go_simp; first | done | rfl))
        with_reducible refine sx_call (k' := 29) (.agg #[.int .i64 (1 + y1 % 4), .int .i64 (1 + y1 % 4 + y1 / 16 % 3)]) rfl ?_ ?_
        · intro v wk ρ hb hρ hh hm hf; have hφ := hρ.func; simp only [allHit] at hh; obtain ⟨e66, e76, -⟩ := hh; clear hm; simp only [allDep, factX, Nat.reduceEqDiff, reduceIte] at hf; obtain ⟨q17, q27, -⟩ := hf; clear hρ
          refine ⟨_, _, ?_, elm_Span (1 + y1 % 4) (1 + y1 % 4 + y1 / 16 % 3) wk⟩
          go_simp
        (with_reducible apply sx_val (k' := 30) rfl; focus (intro v wk ρ hb hρ hh hm hf; simp only [allHit] at hh; obtain ⟨e57, e65, e77, -⟩ := hh; clear hm; simp only [allDep, factX, Nat.reduceEqDiff, reduceIte] at hf; obtain ⟨q8, q16, q28, -⟩ := hf; clear hρ; go_simp; first | done | rfl))
        with_reducible refine sx_fact (k' := 31) (SliceF wr.heap.size 1 #[.int .i64 (y0 % 2), .int .i64 (y0 / 2 % 3), .int .i64 (1 + y1 % 4), .int .i64 (1 + y1 % 4 + y1 / 16 % 3)] 39) (lastX_plain lasting_slice) rfl ?_ ?_
        · intro v wk ρ hb hρ hh hm hf; simp only [allHit] at hh; obtain ⟨e78, -⟩ := hh; clear hm; simp only [allDep, factX, Nat.reduceEqDiff, reduceIte] at hf; obtain ⟨q29, -⟩ := hf; clear hρ
          exact yx_slice (by go_simp) hb.size
        refine hC _ fun v wk hb hf a' ha => ?_; have q0 := hf 0 (by decide); simp only [List.length_cons, List.length_nil, Nat.zero_add, Nat.reduceAdd, factX, Nat.reduceEqDiff, reduceIte] at q0; have q1 := hf 1 (by decide); simp only [List.length_cons, List.length_nil, Nat.zero_add, Nat.reduceAdd, factX, Nat.reduceEqDiff, reduceIte] at q1; have q2 := hf 2 (by decide); simp only [List.length_cons, List.length_nil, Nat.zero_add, Nat.reduceAdd, factX, Nat.reduceEqDiff, reduceIte] at q2; have q3 := hf 3 (by decide); simp only [List.length_cons, List.length_nil, Nat.zero_add, Nat.reduceAdd, factX, Nat.reduceEqDiff, reduceIte] at q3; have q4 := hf 4 (by decide); simp only [List.length_cons, List.length_nil, Nat.zero_add, Nat.reduceAdd, factX, Nat.reduceEqDiff, reduceIte] at q4; have q5 := hf 5 (by decide); simp only [List.length_cons, List.length_nil, Nat.zero_add, Nat.reduceAdd, factX, Nat.reduceEqDiff, reduceIte] at q5; have q6 := hf 6 (by decide); simp only [List.length_cons, List.length_nil, Nat.zero_add, Nat.reduceAdd, factX, Nat.reduceEqDiff, reduceIte] at q6; have q7 := hf 7 (by decide); simp only [List.length_cons, List.length_nil, Nat.zero_add, Nat.reduceAdd, factX, Nat.reduceEqDiff, reduceIte] at q7; have q8 := hf 8 (by decide); simp only [List.length_cons, List.length_nil, Nat.zero_add, Nat.reduceAdd, factX, Nat.reduceEqDiff, reduceIte] at q8; have q9 := hf 9 (by decide); simp only [List.length_cons, List.length_nil, Nat.zero_add, Nat.reduceAdd, factX, Nat.reduceEqDiff, reduceIte] at q9; have q10 := hf 10 (by decide); simp only [List.length_cons, List.length_nil, Nat.zero_add, Nat.reduceAdd, factX, Nat.reduceEqDiff, reduceIte] at q10; have q11 := hf 11 (by decide); simp only [List.length_cons, List.length_nil, Nat.zero_add, Nat.reduceAdd, factX, Nat.reduceEqDiff, reduceIte] at q11; have q12 := hf 12 (by decide); simp only [List.length_cons, List.length_nil, Nat.zero_add, Nat.reduceAdd, factX, Nat.reduceEqDiff, reduceIte] at q12; have q13 := hf 13 (by decide); simp only [List.length_cons, List.length_nil, Nat.zero_add, Nat.reduceAdd, factX, Nat.reduceEqDiff, reduceIte] at q13; have q14 := hf 14 (by decide); simp only [List.length_cons, List.length_nil, Nat.zero_add, Nat.reduceAdd, factX, Nat.reduceEqDiff, reduceIte] at q14; have q15 := hf 15 (by decide); simp only [List.length_cons, List.length_nil, Nat.zero_add, Nat.reduceAdd, factX, Nat.reduceEqDiff, reduceIte] at q15; have q16 := hf 16 (by decide); simp only [List.length_cons, List.length_nil, Nat.zero_add, Nat.reduceAdd, factX, Nat.reduceEqDiff, reduceIte] at q16; have q17 := hf 17 (by decide); simp only [List.length_cons, List.length_nil, Nat.zero_add, Nat.reduceAdd, factX, Nat.reduceEqDiff, reduceIte] at q17; have q18 := hf 18 (by decide); simp only [List.length_cons, List.length_nil, Nat.zero_add, Nat.reduceAdd, factX, Nat.reduceEqDiff, reduceIte] at q18; have q19 := hf 19 (by decide); simp only [List.length_cons, List.length_nil, Nat.zero_add, Nat.reduceAdd, factX, Nat.reduceEqDiff, reduceIte] at q19; have q20 := hf 20 (by decide); simp only [List.length_cons, List.length_nil, Nat.zero_add, Nat.reduceAdd, factX, Nat.reduceEqDiff, reduceIte] at q20; have q21 := hf 21 (by decide); simp only [List.length_cons, List.length_nil, Nat.zero_add, Nat.reduceAdd, factX, Nat.reduceEqDiff, reduceIte] at q21; have q22 := hf 22 (by decide); simp only [List.length_cons, List.length_nil, Nat.zero_add, Nat.reduceAdd, factX, Nat.reduceEqDiff, reduceIte] at q22; have q23 := hf 23 (by decide); simp only [List.length_cons, List.length_nil, Nat.zero_add, Nat.reduceAdd, factX, Nat.reduceEqDiff, reduceIte] at q23; have q24 := hf 24 (by decide); simp only [List.length_cons, List.length_nil, Nat.zero_add, Nat.reduceAdd, factX, Nat.reduceEqDiff, reduceIte] at q24; have q25 := hf 25 (by decide); simp only [List.length_cons, List.length_nil, Nat.zero_add, Nat.reduceAdd, factX, Nat.reduceEqDiff, reduceIte] at q25; have q26 := hf 26 (by decide); simp only [List.length_cons, List.length_nil, Nat.zero_add, Nat.reduceAdd, factX, Nat.reduceEqDiff, reduceIte] at q26; have q27 := hf 27 (by decide); simp only [List.length_cons, List.length_nil, Nat.zero_add, Nat.reduceAdd, factX, Nat.reduceEqDiff, reduceIte] at q27; have q28 := hf 28 (by decide); simp only [List.length_cons, List.length_nil, Nat.zero_add, Nat.reduceAdd, factX, Nat.reduceEqDiff, reduceIte] at q28; have q29 := hf 29 (by decide); simp only [List.length_cons, List.length_nil, Nat.zero_add, Nat.reduceAdd, factX, Nat.reduceEqDiff, reduceIte] at q29; have q30 := hf 30 (by decide); simp only [List.length_cons, List.length_nil, Nat.zero_add, Nat.reduceAdd, factX, Nat.reduceEqDiff, reduceIte] at q30; clear hf hC; simp only [headPut, Act.put, List.setIfInBounds_toArray, List.set_cons_succ, List.set_cons_zero, Nat.zero_add, Nat.reduceAdd] at ha
        obtain ⟨h, e30, hh, hhc⟩ := q30
        simp only [e30, q1] at ha
        subst ha
        clear q0 q1 q2 q3 q4 q5 q6 q7 q8 q9 q10 q11 q12 q13 q14 q15 q16 q17 q18 q19 q20 q21 q22 q23 q24 q25 q26 q27 q28 q29 e30 m1 m8 m10 m11
        have hbk := hb
        clear hb
        have kS := own_below rS hbk
        have kv := own_below rv hbk
        have kD := later_blk hbk rD
        have kR := later_blk hbk rR
        have kz := hbk.size
        have nD := own_type kS kD (by decide)
        have nR := own_type kS kR (by decide)
        have nv := own_ne kv kS (by decide)
        have dD : ∀ j, wk.frozen? ⟨D, j, none⟩ = false := fun j => frozen_blk kD
        have dD0 : wk.cell? ⟨D, 0, none⟩ = some (.slice A3 k c3) := cell_blk kD rfl
        have HBk : Below w1.heap.size w1 wk := rB.trans (hbk.mono rB.size)
        go_wp2_with (at_builtin; refine wpList_append_own _ rfl _ _ 30 rfl w1.heap.size 39 i0 _ 4 32 Try.underlying30 hi hz0 hz1' hz2' rfl (by decide) (.slice A3 k c3) k _ rfl kS ⟨h, 0, none⟩ 1 1 [.int .i64 (y0 % 2), .int .i64 (y0 / 2 % 3), .int .i64 (1 + y1 % 4), .int .i64 (1 + y1 % 4 + y1 / 16 % 3)] rfl rfl (World.news_of_block hhc) (by simp [Value.oneCell']) (by unfold maxLen; omega) (by omega) HBk.size ?_; intro v' w3 hown' hgrow0 _; have hgrow : World.grownBy wk w3 (Value.slice A3 k c3).ownBlock := hgrow0; clear hgrow0; obtain ⟨A5, c5, rfl⟩ := own_slice hown'; have lD := grown_blk hgrow kD nD; have lR := grown_blk hgrow kR nR; have lv := kv.kept hgrow nv; have HB3 := HBk.grown hgrow HBk.size (fun j hj => (kS.lt j hj).1); have fD : ∀ j, w3.frozen? ⟨D, j, none⟩ = false := (fun j => frozen_blk lD); have gD0 : w3.cell? ⟨D, 0, none⟩ = some (.slice A3 k c3) := cell_blk lD rfl; clear kS kv kD kR nD nR nv dD dD0 HBk hgrow)
        refine name_world (fun X hX => ?_)
        have hDR : w1.heap.size ≠ D := by omega
        have xD : X.heap[D]? = some (.cells #[.slice A5 (k + 1) c5, .slice (some ⟨w1.heap.size, 0, none⟩) 2 2] 32 (0, 0)) := by rw [hX]; simpa using heap_setCell_at (k := 0) (v := .slice A5 (k + 1) c5) lD
        have xR : X.heap[w1.heap.size]? = some (.cells #[.int .i64 1, .int .i64 0] 3 (0, 0)) := by rw [hX]; exact setCell_blk lR hDR
        have xS : X.ownsRow w1.heap.size 39 4 (.slice A5 (k + 1) c5) (k + 1) (((ys.take k).map tcOf).flatMap encTC ++ [.int .i64 (y0 % 2), .int .i64 (y0 / 2 % 3), .int .i64 (1 + y1 % 4), .int .i64 (1 + y1 % 4 + y1 / 16 % 3)]) := by rw [hX]; exact ownsRow_setCell_other hown' (own_type hown' lD (by decide)) _
        have xv : X.ownsRow w1.heap.size 41 4 (.slice A4 k c4) k (((ys.take k).map twOf).flatMap encTw) := by rw [hX]; exact ownsRow_setCell_other lv (own_type lv lD (by decide)) _
        have xB : Below w1.heap.size w1 X := by rw [hX]; exact HB3.setCell (by simpa using hDl) _
        have x2 : X.cell? ⟨bb, off + k * 3 + 2, none⟩ = some (.int .u8 y2) := (xB.cell (p := ⟨bb, _, none⟩) hbl1).trans ((rB.cell (p := ⟨bb, _, none⟩) hbl1).symm.trans r2)
        have hbX : bb < X.heap.size := Nat.lt_of_lt_of_le hbl1 xB.size
        clear hX lD lR lv HB3 fD gD0 hown' rD rR rS rv r0 r1 r2 hbl d0 hDw hbk kz hhc hh
        refine wp_region_sx none 20 250 [⟨[], [9], []⟩, ⟨[], [], []⟩, ⟨[], [1], []⟩, ⟨[], [10], []⟩, ⟨[(84, 2), (85, 3)], [], [2, 3]⟩, ⟨[(86, 4)], [], [4]⟩, ⟨[(87, 5)], [], [5]⟩, ⟨[(88, 6)], [], [6]⟩, ⟨[(89, 7)], [], [7]⟩, ⟨[], [1], []⟩, ⟨[], [10], []⟩, ⟨[(91, 9), (92, 10)], [], [9, 10]⟩, ⟨[(93, 11)], [], [11]⟩, ⟨[(94, 12)], [], [12]⟩, ⟨[(95, 13)], [], [13]⟩, ⟨[(96, 14)], [], [14]⟩, ⟨[(97, 15)], [], [15]⟩, ⟨[(90, 8), (98, 16)], [], [8, 16]⟩, ⟨[(83, 1), (99, 17)], [], [1, 17]⟩, ⟨[(100, 18)], [], [18]⟩] (by kernel_rfl) (by kernel_rfl) (by kernel_rfl) (by rfl) ?_; simp only [List.take_succ_cons, List.take_zero, List.drop_succ_cons, List.drop_zero]; intro a' C ha' hC; have m1 := congrArg (fun z : Act => z.tmps.getD 1 undef) ha'; simp only [getD_lit_succ, getD_lit_zero] at m1; have m9 := congrArg (fun z : Act => z.tmps.getD 9 undef) ha'; simp only [getD_lit_succ, getD_lit_zero] at m9; have m10 := congrArg (fun z : Act => z.tmps.getD 10 undef) ha'; simp only [getD_lit_succ, getD_lit_zero] at m10; clear ha'
        (with_reducible apply sx_val (k' := 1) rfl; focus (intro v wk ρ hb hρ hh hm hf; clear hh; simp only [allMiss] at hm; obtain ⟨e9, -⟩ := hm; replace e9 := e9.trans m9; clear hf; clear hρ; go_simp; first | done | rfl))
        with_reducible refine sx_call (k' := 2) (.agg #[.int .i64 50, .int .i64 50]) rfl ?_ ?_
        · intro v wk ρ hb hρ hh hm hf; have hκ := hρ.const; have hφ := hρ.func; clear hh; clear hm; clear hf; clear hρ
          refine ⟨_, _, ?_, elm_Span 50 50 wk⟩
          go_simp
        (with_reducible apply sx_val (k' := 3) rfl; focus (intro v wk ρ hb hρ hh hm hf; clear hh; simp only [allMiss] at hm; obtain ⟨e1, -⟩ := hm; replace e1 := e1.trans m1; clear hf; clear hρ; go_simp; first | done | rfl)); (with_reducible apply sx_val (k' := 4) rfl; focus (intro v wk ρ hb hρ hh hm hf; clear hh; simp only [allMiss] at hm; obtain ⟨e10, -⟩ := hm; replace e10 := e10.trans m10; clear hf; clear hρ; go_simp; first | done | rfl)); (with_reducible apply sx_val (k' := 5) rfl; focus (intro v wk ρ hb hρ hh hm hf; simp only [allHit] at hh; obtain ⟨e84, e85, -⟩ := hh; clear hm; simp only [allDep, factX, Nat.reduceEqDiff, reduceIte] at hf; obtain ⟨q2, q3, -⟩ := hf; clear hρ; go_simp; first | done | rfl)); (with_reducible apply sx_val (k' := 6) rfl; focus (intro v wk ρ hb hρ hh hm hf; have hκ := hρ.const; simp only [allHit] at hh; obtain ⟨e86, -⟩ := hh; clear hm; simp only [allDep, factX, Nat.reduceEqDiff, reduceIte] at hf; obtain ⟨q4, -⟩ := hf; clear hρ; go_simp; first | done | rfl))
        (with_reducible apply sx_val (k' := 7) rfl; focus (intro v wk ρ hb hρ hh hm hf; simp only [allHit] at hh; obtain ⟨e87, -⟩ := hh; clear hm; simp only [allDep, factX, Nat.reduceEqDiff, reduceIte] at hf; obtain ⟨q5, -⟩ := hf; clear hρ; have cc := (hb.cell (p := ⟨bb, off + k * 3 + 2, none⟩) hbX).trans x2; go_simp; first | done | rfl))
        (with_reducible apply sx_val (k' := 8) rfl; focus (intro v wk ρ hb hρ hh hm hf; simp only [allHit] at hh; obtain ⟨e88, -⟩ := hh; clear hm; simp only [allDep, factX, Nat.reduceEqDiff, reduceIte] at hf; obtain ⟨q6, -⟩ := hf; clear hρ; have wa : IntKind.i64.wrap y2 = y2 := IntWalk.i64_in _ (by omega); have ta : y2.tdiv 8 = y2 / 8 := Int.tdiv_eq_ediv_of_nonneg p4; have wb : IntKind.i64.wrap (y2 / 8) = y2 / 8 := IntWalk.i64_in _ (by omega); go_simp; first | done | rfl)); (with_reducible apply sx_val (k' := 9) rfl; focus (intro v wk ρ hb hρ hh hm hf; have hκ := hρ.const; simp only [allHit] at hh; obtain ⟨e89, -⟩ := hh; clear hm; simp only [allDep, factX, Nat.reduceEqDiff, reduceIte] at hf; obtain ⟨q7, -⟩ := hf; clear hρ; have wa : IntKind.i64.wrap y2 = y2 := IntWalk.i64_in _ (by omega); have ta : y2.tdiv 8 = y2 / 8 := Int.tdiv_eq_ediv_of_nonneg p4; have wb : IntKind.i64.wrap (y2 / 8) = y2 / 8 := IntWalk.i64_in _ (by omega); go_simp; first | done | rfl))
        (with_reducible apply sx_val (k' := 10) rfl; focus (intro v wk ρ hb hρ hh hm hf; clear hh; simp only [allMiss] at hm; obtain ⟨e1, -⟩ := hm; replace e1 := e1.trans m1; clear hf; clear hρ; go_simp; first | done | rfl)); (with_reducible apply sx_val (k' := 11) rfl; focus (intro v wk ρ hb hρ hh hm hf; clear hh; simp only [allMiss] at hm; obtain ⟨e10, -⟩ := hm; replace e10 := e10.trans m10; clear hf; clear hρ; go_simp; first | done | rfl)); (with_reducible apply sx_val (k' := 12) rfl; focus (intro v wk ρ hb hρ hh hm hf; simp only [allHit] at hh; obtain ⟨e91, e92, -⟩ := hh; clear hm; simp only [allDep, factX, Nat.reduceEqDiff, reduceIte] at hf; obtain ⟨q9, q10, -⟩ := hf; clear hρ; go_simp; first | done | rfl)); (with_reducible apply sx_val (k' := 13) rfl; focus (intro v wk ρ hb hρ hh hm hf; have hκ := hρ.const; simp only [allHit] at hh; obtain ⟨e93, -⟩ := hh; clear hm; simp only [allDep, factX, Nat.reduceEqDiff, reduceIte] at hf; obtain ⟨q11, -⟩ := hf; clear hρ; go_simp; first | done | rfl))
        (with_reducible apply sx_val (k' := 14) rfl; focus (intro v wk ρ hb hρ hh hm hf; simp only [allHit] at hh; obtain ⟨e94, -⟩ := hh; clear hm; simp only [allDep, factX, Nat.reduceEqDiff, reduceIte] at hf; obtain ⟨q12, -⟩ := hf; clear hρ; have cc := (hb.cell (p := ⟨bb, off + k * 3 + 2, none⟩) hbX).trans x2; go_simp; first | done | rfl))
        (with_reducible apply sx_val (k' := 15) rfl; focus (intro v wk ρ hb hρ hh hm hf; simp only [allHit] at hh; obtain ⟨e95, -⟩ := hh; clear hm; simp only [allDep, factX, Nat.reduceEqDiff, reduceIte] at hf; obtain ⟨q13, -⟩ := hf; clear hρ; have wa : IntKind.i64.wrap y2 = y2 := IntWalk.i64_in _ (by omega); have ta : y2.tdiv 8 = y2 / 8 := Int.tdiv_eq_ediv_of_nonneg p4; have wb : IntKind.i64.wrap (y2 / 8) = y2 / 8 := IntWalk.i64_in _ (by omega); go_simp; first | done | rfl)); (with_reducible apply sx_val (k' := 16) rfl; focus (intro v wk ρ hb hρ hh hm hf; have hκ := hρ.const; simp only [allHit] at hh; obtain ⟨e96, -⟩ := hh; clear hm; simp only [allDep, factX, Nat.reduceEqDiff, reduceIte] at hf; obtain ⟨q14, -⟩ := hf; clear hρ; have wa : IntKind.i64.wrap y2 = y2 := IntWalk.i64_in _ (by omega); have ta : y2.tdiv 8 = y2 / 8 := Int.tdiv_eq_ediv_of_nonneg p4; have wb : IntKind.i64.wrap (y2 / 8) = y2 / 8 := IntWalk.i64_in _ (by omega); go_simp; first | done | rfl))
        (with_reducible apply sx_val (k' := 17) rfl; focus (intro v wk ρ hb hρ hh hm hf; have hκ := hρ.const; simp only [allHit] at hh; obtain ⟨e97, -⟩ := hh; clear hm; simp only [allDep, factX, Nat.reduceEqDiff, reduceIte] at hf; obtain ⟨q15, -⟩ := hf; clear hρ; have wb : IntKind.i64.wrap (y2 / 8 + 3) = y2 / 8 + 3 := IntWalk.i64_in _ (by omega); go_simp; first | done | rfl))
        with_reducible refine sx_call (k' := 18) (.agg #[.int .i64 (y2 / 8), .int .i64 (y2 / 8 + 3)]) rfl ?_ ?_
        · intro v wk ρ hb hρ hh hm hf; have hφ := hρ.func; simp only [allHit] at hh; obtain ⟨e90, e98, -⟩ := hh; clear hm; simp only [allDep, factX, Nat.reduceEqDiff, reduceIte] at hf; obtain ⟨q8, q16, -⟩ := hf; clear hρ
          refine ⟨_, _, ?_, elm_Span (y2 / 8) (y2 / 8 + 3) wk⟩
          go_simp
        (with_reducible apply sx_val (k' := 19) rfl; focus (intro v wk ρ hb hρ hh hm hf; simp only [allHit] at hh; obtain ⟨e83, e99, -⟩ := hh; clear hm; simp only [allDep, factX, Nat.reduceEqDiff, reduceIte] at hf; obtain ⟨q1, q17, -⟩ := hf; clear hρ; go_simp; first | done | rfl))
        with_reducible refine sx_fact (k' := 20) (SliceF X.heap.size 1 #[.int .i64 50, .int .i64 50, .int .i64 (y2 / 8), .int .i64 (y2 / 8 + 3)] 41) (lastX_plain lasting_slice) rfl ?_ ?_
        · intro v wk ρ hb hρ hh hm hf; simp only [allHit] at hh; obtain ⟨e100, -⟩ := hh; clear hm; simp only [allDep, factX, Nat.reduceEqDiff, reduceIte] at hf; obtain ⟨q18, -⟩ := hf; clear hρ
          exact yx_slice (by go_simp) hb.size
        refine hC _ fun v wk hb hf a' ha => ?_; have q0 := hf 0 (by decide); simp only [List.length_cons, List.length_nil, Nat.zero_add, Nat.reduceAdd, factX, Nat.reduceEqDiff, reduceIte] at q0; have q1 := hf 1 (by decide); simp only [List.length_cons, List.length_nil, Nat.zero_add, Nat.reduceAdd, factX, Nat.reduceEqDiff, reduceIte] at q1; have q2 := hf 2 (by decide); simp only [List.length_cons, List.length_nil, Nat.zero_add, Nat.reduceAdd, factX, Nat.reduceEqDiff, reduceIte] at q2; have q3 := hf 3 (by decide); simp only [List.length_cons, List.length_nil, Nat.zero_add, Nat.reduceAdd, factX, Nat.reduceEqDiff, reduceIte] at q3; have q4 := hf 4 (by decide); simp only [List.length_cons, List.length_nil, Nat.zero_add, Nat.reduceAdd, factX, Nat.reduceEqDiff, reduceIte] at q4; have q5 := hf 5 (by decide); simp only [List.length_cons, List.length_nil, Nat.zero_add, Nat.reduceAdd, factX, Nat.reduceEqDiff, reduceIte] at q5; have q6 := hf 6 (by decide); simp only [List.length_cons, List.length_nil, Nat.zero_add, Nat.reduceAdd, factX, Nat.reduceEqDiff, reduceIte] at q6; have q7 := hf 7 (by decide); simp only [List.length_cons, List.length_nil, Nat.zero_add, Nat.reduceAdd, factX, Nat.reduceEqDiff, reduceIte] at q7; have q8 := hf 8 (by decide); simp only [List.length_cons, List.length_nil, Nat.zero_add, Nat.reduceAdd, factX, Nat.reduceEqDiff, reduceIte] at q8; have q9 := hf 9 (by decide); simp only [List.length_cons, List.length_nil, Nat.zero_add, Nat.reduceAdd, factX, Nat.reduceEqDiff, reduceIte] at q9; have q10 := hf 10 (by decide); simp only [List.length_cons, List.length_nil, Nat.zero_add, Nat.reduceAdd, factX, Nat.reduceEqDiff, reduceIte] at q10; have q11 := hf 11 (by decide); simp only [List.length_cons, List.length_nil, Nat.zero_add, Nat.reduceAdd, factX, Nat.reduceEqDiff, reduceIte] at q11; have q12 := hf 12 (by decide); simp only [List.length_cons, List.length_nil, Nat.zero_add, Nat.reduceAdd, factX, Nat.reduceEqDiff, reduceIte] at q12; have q13 := hf 13 (by decide); simp only [List.length_cons, List.length_nil, Nat.zero_add, Nat.reduceAdd, factX, Nat.reduceEqDiff, reduceIte] at q13; have q14 := hf 14 (by decide); simp only [List.length_cons, List.length_nil, Nat.zero_add, Nat.reduceAdd, factX, Nat.reduceEqDiff, reduceIte] at q14; have q15 := hf 15 (by decide); simp only [List.length_cons, List.length_nil, Nat.zero_add, Nat.reduceAdd, factX, Nat.reduceEqDiff, reduceIte] at q15; have q16 := hf 16 (by decide); simp only [List.length_cons, List.length_nil, Nat.zero_add, Nat.reduceAdd, factX, Nat.reduceEqDiff, reduceIte] at q16; have q17 := hf 17 (by decide); simp only [List.length_cons, List.length_nil, Nat.zero_add, Nat.reduceAdd, factX, Nat.reduceEqDiff, reduceIte] at q17; have q18 := hf 18 (by decide); simp only [List.length_cons, List.length_nil, Nat.zero_add, Nat.reduceAdd, factX, Nat.reduceEqDiff, reduceIte] at q18; have q19 := hf 19 (by decide); simp only [List.length_cons, List.length_nil, Nat.zero_add, Nat.reduceAdd, factX, Nat.reduceEqDiff, reduceIte] at q19; clear hf hC; simp only [headPut, Act.put, List.setIfInBounds_toArray, List.set_cons_succ, List.set_cons_zero, Nat.zero_add, Nat.reduceAdd] at ha
        obtain ⟨g, e19, hh, hhc⟩ := q19
        simp only [e19, q0] at ha
        subst ha
        clear q0 q1 q2 q3 q4 q5 q6 q7 q8 q9 q10 q11 q12 q13 q14 q15 q16 q17 q18 e19 m1 m9 m10
        have kS := own_below xS hb
        have kv := own_below xv hb
        have kD := later_blk hb xD
        have kR := later_blk hb xR
        have nD := own_type kv kD (by decide)
        have nR := own_type kv kR (by decide)
        have nS := own_ne kS kv (by decide)
        have HBk : Below w1.heap.size w1 wk := xB.trans (hb.mono xB.size)
        clear hb xS xv xD xR xB x2 hbX
        go_wp2_with (at_builtin; refine wpList_append_own _ rfl _ _ 33 rfl w1.heap.size 41 j0 _ 4 32 Try.underlying33 ji jz0 jz1 jz2 rfl (by decide) (.slice A4 k c4) k _ rfl kv ⟨g, 0, none⟩ 1 1 [.int .i64 50, .int .i64 50, .int .i64 (y2 / 8), .int .i64 (y2 / 8 + 3)] rfl rfl (World.news_of_block hhc) (by simp [Value.oneCell']) (by unfold maxLen; omega) (by omega) HBk.size ?_; intro v' w4 hown' hgrow0 _; have hgrow : World.grownBy wk w4 (Value.slice A4 k c4).ownBlock := hgrow0; clear hgrow0; have lD := grown_blk hgrow kD nD; have lR := grown_blk hgrow kR nR; have lS := kS.kept hgrow nS; have HB4 := HBk.grown hgrow HBk.size (fun j hj => (kv.lt j hj).1); clear kS kv kD kR nD nR nS HBk hgrow)
        refine ⟨rel1_next hlt h4 HB4 lD lR (by rw [HY.out, HT1.out]; exact lS) (by rw [HY.out, HT2.out]; exact hown'), by simp [intOf]; omega⟩
      · have haft := aft1_of hyok hrel0
        have HA := Lib.hid haft
        clear haft hrel0
        have hno : ¬ (k : Int) < (ys.length : Int) ∨ ((k : Int) < (ys.length : Int) ∧ ¬ (k : Int) < 4) := by omega
        rcases hno with hn | ⟨hn, hn2⟩
        all_goals
          go_wp2_with fail
          go_meet
          exact HA.out
  case rest =>
    obtain ⟨cs, ct, A3, A4, c3, c4, rfl, hn4, hct, hcok, htok, rB, rD, rR, rS, rv⟩ := hcut
    have hcl : cs.length ≤ ct.length := by omega
    have ht4 : ct.length ≤ 4 := by omega
    have HCT := Lib.hid hct
    clear hct
    have rv4 : cs.length ≤ c3 := by
      rcases rS.2 with ⟨h, h0⟩ | ⟨g, cap, cur, h, _, _, hn, _⟩
      · omega
      · simp only [Value.slice.injEq] at h; omega
    have hvs : Sl wc A4 4 encTw ct := by
      obtain ⟨B, cp, hB, _, hs, _⟩ := own_form (enc := encTw) (fun _ => rfl) rv
      cases hB; exact hs
    have r5 : wc.heap[w.heap.size + 1]? = some (.cells #[.int .u8 a, .int .u8 b, .int .u8 c, .int .u8 d] 26 (0, 0)) := below_blk rB e0 hs1
    obtain ⟨t0, t1, t2, t3, -⟩ := cells4 r5
    have h5l := lt_blk r5
    go_wp2
    refine wp_region_sx (some (16, 43)) 18 250 [⟨[], [9], []⟩, ⟨[], [5], []⟩, ⟨[(103, 0), (104, 1)], [], [0, 1]⟩, ⟨[], [5], []⟩, ⟨[(106, 3)], [], [3]⟩, ⟨[(107, 4)], [], [4]⟩, ⟨[], [7], []⟩, ⟨[(109, 6)], [], [6]⟩, ⟨[(110, 7)], [], [7]⟩, ⟨[(108, 5), (111, 8)], [], [5, 8]⟩, ⟨[], [5], []⟩, ⟨[(113, 10)], [], [10]⟩, ⟨[(114, 11)], [], [11]⟩, ⟨[(115, 12)], [], [12]⟩, ⟨[(116, 13)], [], [13]⟩, ⟨[], [], []⟩, ⟨[(12, 15), (105, 2)], [], [2, 15]⟩, ⟨[(112, 9)], [], [9]⟩] (by kernel_rfl) (by kernel_rfl) (by kernel_rfl) (by rfl) ?_; simp only [List.take_succ_cons, List.take_zero, List.drop_succ_cons, List.drop_zero]; intro a' C ha' hC; have m5 := congrArg (fun z : Act => z.tmps.getD 5 undef) ha'; simp only [getD_lit_succ, getD_lit_zero] at m5; have m7 := congrArg (fun z : Act => z.tmps.getD 7 undef) ha'; simp only [getD_lit_succ, getD_lit_zero] at m7; have m9 := congrArg (fun z : Act => z.tmps.getD 9 undef) ha'; simp only [getD_lit_succ, getD_lit_zero] at m9; clear ha'
    (with_reducible apply sx_val (k' := 1) rfl; focus (intro v wk ρ hb hρ hh hm hf; clear hh; simp only [allMiss] at hm; obtain ⟨e9, -⟩ := hm; replace e9 := e9.trans m9; clear hf; clear hρ; go_simp; first | done | rfl))
    (with_reducible apply sx_val (k' := 2) rfl; focus (intro v wk ρ hb hρ hh hm hf; clear hh; simp only [allMiss] at hm; obtain ⟨e5, -⟩ := hm; replace e5 := e5.trans m5; clear hf; clear hρ; have cc := fun o => hb.cell (p := ⟨w.heap.size + 1, o, none⟩) h5l; go_simp; first | done | rfl))
    with_reducible refine sx_fact (k' := 3) (FieldF wc.heap.size ct (framesF a c d) (a % 20) (b % 120)) field_last rfl ?_ ?_
    · intro v wk ρ hb hρ hh hm hf; have hφ := hρ.func; simp only [allHit] at hh; obtain ⟨e103, e104, -⟩ := hh; clear hm; simp only [allDep, factX, Nat.reduceEqDiff, reduceIte] at hf; obtain ⟨q0, q1, -⟩ := hf; clear hρ
      refine yx_call (f := 9) (args := #[.slice A4 ct.length c4, .agg #[.int .u8 a, .int .u8 b, .int .u8 c, .int .u8 d]]) (by go_simp) ((elm_Tenter ct (by omega) a b c d ⟨a0, a1⟩ ⟨b0, b1⟩ ⟨c0, c1⟩ ⟨d0, d1⟩ A4 c4 wk (hvs.below hb)).mono ?_)
      rintro e w' ⟨⟨v1, v2, rfl, ho1, ho2⟩, hb2⟩
      obtain ⟨B1, b1', rfl⟩ := own_slice ho1
      obtain ⟨B2, b2', rfl⟩ := own_slice ho2
      exact ⟨⟨_, rfl, B1, b1', B2, b2', rfl, ho1.mono hb.size, ho2.mono hb.size⟩, hb2⟩
    (with_reducible apply sx_val (k' := 4) rfl; focus (intro v wk ρ hb hρ hh hm hf; have hκ := hρ.const; clear hh; simp only [allMiss] at hm; obtain ⟨e5, -⟩ := hm; replace e5 := e5.trans m5; clear hf; clear hρ; go_simp; first | done | rfl))
    (with_reducible apply sx_val (k' := 5) rfl; focus (intro v wk ρ hb hρ hh hm hf; simp only [allHit] at hh; obtain ⟨e106, -⟩ := hh; clear hm; simp only [allDep, factX, Nat.reduceEqDiff, reduceIte] at hf; obtain ⟨q3, -⟩ := hf; clear hρ; have cc := fun o => hb.cell (p := ⟨w.heap.size + 1, o, none⟩) h5l; go_simp; first | done | rfl))
    (with_reducible apply sx_val (k' := 6) rfl; focus (intro v wk ρ hb hρ hh hm hf; simp only [allHit] at hh; obtain ⟨e107, -⟩ := hh; clear hm; simp only [allDep, factX, Nat.reduceEqDiff, reduceIte] at hf; obtain ⟨q4, -⟩ := hf; clear hρ; have wa : IntKind.i64.wrap c = c := IntWalk.i64_in _ (by omega); go_simp; first | done | rfl))
    (with_reducible apply sx_val (k' := 7) rfl; focus (intro v wk ρ hb hρ hh hm hf; clear hh; simp only [allMiss] at hm; obtain ⟨e7, -⟩ := hm; replace e7 := e7.trans m7; clear hf; clear hρ; go_simp; first | done | rfl)); (with_reducible apply sx_val (k' := 8) rfl; focus (intro v wk ρ hb hρ hh hm hf; simp only [allHit] at hh; obtain ⟨e109, -⟩ := hh; clear hm; simp only [allDep, factX, Nat.reduceEqDiff, reduceIte] at hf; obtain ⟨q6, -⟩ := hf; clear hρ; go_simp; first | done | rfl))
    (with_reducible apply sx_val (k' := 9) rfl; focus (intro v wk ρ hb hρ hh hm hf; have hκ := hρ.const; simp only [allHit] at hh; obtain ⟨e110, -⟩ := hh; clear hm; simp only [allDep, factX, Nat.reduceEqDiff, reduceIte] at hf; obtain ⟨q7, -⟩ := hf; clear hρ; have wa : IntKind.i64.wrap ((ws.length : Int) + 1) = (ws.length : Int) + 1 := IntWalk.i64_in _ (by omega); go_simp; first | done | rfl))
    (with_reducible apply sx_val (k' := 10) rfl; focus (intro v wk ρ hb hρ hh hm hf; simp only [allHit] at hh; obtain ⟨e108, e111, -⟩ := hh; clear hm; simp only [allDep, factX, Nat.reduceEqDiff, reduceIte] at hf; obtain ⟨q5, q8, -⟩ := hf; clear hρ; have ta : c.tmod ((ws.length : Int) + 1) = c % ((ws.length : Int) + 1) := Int.tmod_eq_emod_of_nonneg c0; have tb : ¬ ((ws.length : Int) + 1 = 0) := (by omega); have wa : IntKind.i64.wrap (c % ((ws.length : Int) + 1)) = c % ((ws.length : Int) + 1) := IntWalk.i64_in _ (by have := Int.emod_nonneg c (show ((ws.length : Int) + 1) ≠ 0 by omega); have := Int.emod_lt_of_pos c (show 0 < ((ws.length : Int) + 1) by omega); omega); go_simp; first | done | rfl))
    (with_reducible apply sx_val (k' := 11) rfl; focus (intro v wk ρ hb hρ hh hm hf; have hκ := hρ.const; clear hh; simp only [allMiss] at hm; obtain ⟨e5, -⟩ := hm; replace e5 := e5.trans m5; clear hf; clear hρ; go_simp; first | done | rfl))
    (with_reducible apply sx_val (k' := 12) rfl; focus (intro v wk ρ hb hρ hh hm hf; simp only [allHit] at hh; obtain ⟨e113, -⟩ := hh; clear hm; simp only [allDep, factX, Nat.reduceEqDiff, reduceIte] at hf; obtain ⟨q10, -⟩ := hf; clear hρ; have cc := fun o => hb.cell (p := ⟨w.heap.size + 1, o, none⟩) h5l; go_simp; first | done | rfl))
    (with_reducible apply sx_val (k' := 13) rfl; focus (intro v wk ρ hb hρ hh hm hf; simp only [allHit] at hh; obtain ⟨e114, -⟩ := hh; clear hm; simp only [allDep, factX, Nat.reduceEqDiff, reduceIte] at hf; obtain ⟨q11, -⟩ := hf; clear hρ; have wa : IntKind.i64.wrap d = d := IntWalk.i64_in _ (by omega); have ta : d.tmod 2 = d % 2 := Int.tmod_eq_emod_of_nonneg d0; have wb : IntKind.i64.wrap (d % 2) = d % 2 := IntWalk.i64_in _ (by omega); go_simp; first | done | rfl)); (with_reducible apply sx_val (k' := 14) rfl; focus (intro v wk ρ hb hρ hh hm hf; have hκ := hρ.const; simp only [allHit] at hh; obtain ⟨e115, -⟩ := hh; clear hm; simp only [allDep, factX, Nat.reduceEqDiff, reduceIte] at hf; obtain ⟨q12, -⟩ := hf; clear hρ; have wa : IntKind.i64.wrap d = d := IntWalk.i64_in _ (by omega); have ta : d.tmod 2 = d % 2 := Int.tmod_eq_emod_of_nonneg d0; have wb : IntKind.i64.wrap (d % 2) = d % 2 := IntWalk.i64_in _ (by omega); go_simp; first | done | rfl))
    (with_reducible apply sx_val (k' := 15) rfl; focus (intro v wk ρ hb hρ hh hm hf; have hκ := hρ.const; simp only [allHit] at hh; obtain ⟨e116, -⟩ := hh; clear hm; simp only [allDep, factX, Nat.reduceEqDiff, reduceIte] at hf; obtain ⟨q13, -⟩ := hf; clear hρ; have wb : IntKind.i64.wrap (1 + d % 2) = 1 + d % 2 := IntWalk.i64_in _ (by omega); go_simp; first | done | rfl))
    with_reducible refine sx_fact (k' := 16) (PtrF wc.heap.size 4 43) (lastX_R lastR_ptr) rfl ?_ ?_
    · intro v wk ρ hb hρ hh hm hf; clear hh; clear hm; clear hf; clear hρ
      exact yx_ptr (cs := #[.slice none 0 0, .slice none 0 0, .int .i64 0, .int .i64 0]) rfl (by go_simp) hb.size
    with_reducible refine sx_rel (k' := 17) (StoredF wc.heap.size) ?_ ?_ rfl ?_ ?_
    · intro v v' h16 hd w0 ⟨g, x0, x1, x2, x3, h1, h2, h3, h4⟩
      exact ⟨g, x0, x1, x2, x3, (hd 15 (by simp)).symm.trans h1, (hd 2 (by simp)).symm.trans h2, h3, h4⟩
    · exact lastX_R (lastR_writer fun v w0 w2 hb ⟨g, x0, x1, x2, x3, h1, h2, h3, h4⟩ => ⟨g, x0, x1, x2, x3, h1, h2, h3, later_blk hb h4⟩)
    · intro v wk ρ hb hρ hh hm hf; simp only [allHit] at hh; obtain ⟨e12, e105, -⟩ := hh; clear hm; simp only [allDep, factX, Nat.reduceEqDiff, reduceIte] at hf; obtain ⟨q2, q15, -⟩ := hf; clear hρ
      obtain ⟨A', c', A2', c2', e2, -, -⟩ := q2
      obtain ⟨g, gs, e15, hg, hgc, hsz⟩ := q15
      obtain ⟨y0, y1, y2, y3, rfl⟩ := size4 hsz
      obtain ⟨g0, g1, g2, g3, gf⟩ := cells4 hgc
      have hst := store4 (.slice A' ct.length c') (.slice A2' (framesF a c d).length c2') (.int .i64 (a % 20)) (.int .i64 (b % 120)) hg hgc
      refine .inr (.inl ⟨_, ?_, hst.1, ⟨g, _, _, _, _, by simp [upd, e15], by simp [upd, e2], hg, hst.2⟩⟩)
      clear hst hgc hsz hg
      go_simp
    (with_reducible apply sx_val (k' := 18) rfl; focus (intro v wk ρ hb hρ hh hm hf; simp only [allHit] at hh; obtain ⟨e112, -⟩ := hh; clear hm; simp only [allDep, factX, Nat.reduceEqDiff, reduceIte] at hf; obtain ⟨q9, -⟩ := hf; clear hρ; go_simp; first | done | rfl))
    refine hC _ fun v wk hb hf a' ha => ?_; have q0 := hf 0 (by decide); simp only [List.length_cons, List.length_nil, Nat.zero_add, Nat.reduceAdd, factX, Nat.reduceEqDiff, reduceIte] at q0; have q1 := hf 1 (by decide); simp only [List.length_cons, List.length_nil, Nat.zero_add, Nat.reduceAdd, factX, Nat.reduceEqDiff, reduceIte] at q1; have q2 := hf 2 (by decide); simp only [List.length_cons, List.length_nil, Nat.zero_add, Nat.reduceAdd, factX, Nat.reduceEqDiff, reduceIte] at q2; have q3 := hf 3 (by decide); simp only [List.length_cons, List.length_nil, Nat.zero_add, Nat.reduceAdd, factX, Nat.reduceEqDiff, reduceIte] at q3; have q4 := hf 4 (by decide); simp only [List.length_cons, List.length_nil, Nat.zero_add, Nat.reduceAdd, factX, Nat.reduceEqDiff, reduceIte] at q4; have q5 := hf 5 (by decide); simp only [List.length_cons, List.length_nil, Nat.zero_add, Nat.reduceAdd, factX, Nat.reduceEqDiff, reduceIte] at q5; have q6 := hf 6 (by decide); simp only [List.length_cons, List.length_nil, Nat.zero_add, Nat.reduceAdd, factX, Nat.reduceEqDiff, reduceIte] at q6; have q7 := hf 7 (by decide); simp only [List.length_cons, List.length_nil, Nat.zero_add, Nat.reduceAdd, factX, Nat.reduceEqDiff, reduceIte] at q7; have q8 := hf 8 (by decide); simp only [List.length_cons, List.length_nil, Nat.zero_add, Nat.reduceAdd, factX, Nat.reduceEqDiff, reduceIte] at q8; have q9 := hf 9 (by decide); simp only [List.length_cons, List.length_nil, Nat.zero_add, Nat.reduceAdd, factX, Nat.reduceEqDiff, reduceIte] at q9; have q10 := hf 10 (by decide); simp only [List.length_cons, List.length_nil, Nat.zero_add, Nat.reduceAdd, factX, Nat.reduceEqDiff, reduceIte] at q10; have q11 := hf 11 (by decide); simp only [List.length_cons, List.length_nil, Nat.zero_add, Nat.reduceAdd, factX, Nat.reduceEqDiff, reduceIte] at q11; have q12 := hf 12 (by decide); simp only [List.length_cons, List.length_nil, Nat.zero_add, Nat.reduceAdd, factX, Nat.reduceEqDiff, reduceIte] at q12; have q13 := hf 13 (by decide); simp only [List.length_cons, List.length_nil, Nat.zero_add, Nat.reduceAdd, factX, Nat.reduceEqDiff, reduceIte] at q13; have q14 := hf 14 (by decide); simp only [List.length_cons, List.length_nil, Nat.zero_add, Nat.reduceAdd, factX, Nat.reduceEqDiff, reduceIte] at q14; have q15 := hf 15 (by decide); simp only [List.length_cons, List.length_nil, Nat.zero_add, Nat.reduceAdd, factX, Nat.reduceEqDiff, reduceIte] at q15; have q16 := hf 16 (by decide); simp only [List.length_cons, List.length_nil, Nat.zero_add, Nat.reduceAdd, factX, Nat.reduceEqDiff, reduceIte] at q16; have q17 := hf 17 (by decide); simp only [List.length_cons, List.length_nil, Nat.zero_add, Nat.reduceAdd, factX, Nat.reduceEqDiff, reduceIte] at q17; clear hf hC; simp only [headPut, Act.put, List.setIfInBounds_toArray, List.set_cons_succ, List.set_cons_zero, Nat.zero_add, Nat.reduceAdd] at ha
    obtain ⟨rain, hrain, hrl⟩ : ∃ r : Nat, c % ((ws.length : Int) + 1) = (r : Int) ∧ r ≤ ws.length := ⟨(c % ((ws.length : Int) + 1)).toNat, by have := Int.emod_nonneg c (show ((ws.length : Int) + 1) ≠ 0 by omega); omega, by have := Int.emod_lt_of_pos c (show 0 < ((ws.length : Int) + 1) by omega); have := Int.emod_nonneg c (show ((ws.length : Int) + 1) ≠ 0 by omega); omega⟩
    obtain ⟨s, hs, hs1', hs2⟩ : ∃ r : Nat, 1 + d % 2 = (r : Int) ∧ 1 ≤ r ∧ r ≤ 2 := ⟨(1 + d % 2).toNat, by omega, by omega, by omega⟩
    rw [hrain] at q9 q17
    rw [hs] at q14
    obtain ⟨g, x0, x1, x2, x3, e15, e2, hg, hgc⟩ := q16
    obtain ⟨A', c', A2', c2', e2', fo1, fo2⟩ := q2
    rw [e2] at e2'
    simp only [Value.agg.injEq, Array.mk.injEq, List.cons.injEq, and_true] at e2'
    obtain ⟨rfl, rfl, rfl, rfl⟩ := e2'
    simp only [e15, q9, q17, q14] at ha
    subst ha
    clear q0 q1 q3 q4 q5 q6 q7 q8 q9 q10 q11 q12 q13 q14 q15 q17 e15 e2 m5 m7 m9
    have kD := later_blk hb rD
    have kR := later_blk hb rR
    have kS := own_below rS hb
    have HBk : Below w1.heap.size w1 wk := rB.trans (hb.mono rB.size)
    have kW := own_below hwow HBk
    have kg : wc.heap.size ≤ wk.heap.size := hb.size
    have hgl := lt_blk hgc
    have HWk : Below w.heap.size w wk := HW1.trans (HBk.mono HW1.size)
    clear hwow rD rR rS rv hvs t0 t1 t2 t3 r5 h5l hz1 hz2 hrain hs hx hxok hy hyok e0 hb1
    obtain ⟨p0, p1, pf⟩ := cells2 kD
    go_wp2_with fail
    have hDay := day_ok hn4 hcok
    have hFld := field_ok (a := a) (b := b) (c := c) (d := d) (by omega) htok ⟨a0, a1⟩ ⟨b0, b1⟩ ⟨c0, c1⟩ ⟨d0, d1⟩
    have zS : Sl wk A3 4 encTC cs := by
      obtain ⟨B, cp, hB, _, hs, _⟩ := own_form (enc := encTC) (fun _ => rfl) kS
      cases hB; exact hs
    have zR : Sl wk (some ⟨w1.heap.size, 0, none⟩) 1 encI [1, 0] := sl_ints _ _ [1, 0] kR
    have zW : Sl wk Aw 2 encWx ws ∧ ws.length ≤ cw := by
      obtain ⟨B, cp, hB, h1, hs, _⟩ := own_form (enc := encWx) (fun _ => rfl) kW
      cases hB; exact ⟨hs, h1⟩
    have zF1 : Sl wk A' 4 encTw ct := by
      obtain ⟨B, cp, hB, h1, hs, _⟩ := own_form (enc := encTw) (fun _ => rfl) fo1
      cases hB; exact hs
    have zF2 : Sl wk A2' 1 encI (framesF a c d) := by
      obtain ⟨B, cp, hB, h1, hs, _⟩ := own_form (enc := encI) (fun _ => rfl) fo2
      cases hB; exact hs
    have kD2 := lt_blk kD
    clear kS kW fo1 fo2 kR
    refine (turn_Starts cs [1, 0] hDay s (by omega) A3 (some ⟨w1.heap.size, 0, none⟩) c3 2 rv4 wk zS zR).mono ?_
    rintro e w2 ⟨sb, rfl, hsb, hsb2, hrow, hb2⟩
    have p0' := hb2.rdcell kD2 p0
    have p1' := hb2.rdcell kD2 p1
    go_wp2_with fail
    refine (turn_Ends cs [1, 0] hDay s (by omega) A3 (some ⟨w1.heap.size, 0, none⟩) c3 2 rv4 w2 (zS.below hb2) (zR.below hb2)).mono ?_
    rintro e w3 ⟨rfl, hb3⟩
    have HB3 : Below wk.heap.size wk w3 := hb2.call hb3
    have p0'' := HB3.rdcell kD2 p0
    have p1'' := HB3.rdcell kD2 p1
    have hD3 : D < w3.heap.size := Nat.lt_of_lt_of_le kD2 HB3.size
    clear p0' p1'
    go_wp2_with fail
    have HB4 : Below wk.heap.size wk (w3.alloc (.cells #[.int .i64 (endF (tnsF cs [1, 0] TC.lo s)), .int .i64 (endF (tnsF cs [1, 0] TC.hi s))] 36)) := HB3.al _
    have hen : (w3.alloc (.cells #[.int .i64 (endF (tnsF cs [1, 0] TC.lo s)), .int .i64 (endF (tnsF cs [1, 0] TC.hi s))] 36)).heap[w3.heap.size]? = some (.cells #[.int .i64 (endF (tnsF cs [1, 0] TC.lo s)), .int .i64 (endF (tnsF cs [1, 0] TC.hi s))] 36 (0, 0)) := World.alloc_heap_new _ _
    have hrow4 : RowA (w3.alloc (.cells #[.int .i64 (endF (tnsF cs [1, 0] TC.lo s)), .int .i64 (endF (tnsF cs [1, 0] TC.hi s))] 36)) sb 0 (cs.length * 2) (gS (tnsF cs [1, 0] TC.lo s) (tnsF cs [1, 0] TC.hi s)) := hrow.later hsb2 (hb3.al _)
    have hsb4 : sb < (w3.alloc (.cells #[.int .i64 (endF (tnsF cs [1, 0] TC.lo s)), .int .i64 (endF (tnsF cs [1, 0] TC.hi s))] 36)).heap.size := Nat.lt_of_lt_of_le hsb2 (hb3.al _).size
    refine name_world (fun W4 hW4 => ?_)
    rw [← hW4] at HB4 hen hrow4 hsb4
    clear hW4 hrow p0'' p1'' hb2 hb3 HB3 hD3
    have hE := lt_blk hen
    obtain ⟨ebl, ebh⟩ := end_bound hDay s (by omega)
    go_loopw [19, 20] (fun l i wr => ∃ k : Nat, i = .int .i64 k ∧ k ≤ cs.length ∧ Below W4.heap.size W4 wr ∧ l = .int .i64 (lastF cs [1, 0] s k)) (fun _ i _ => 5 - (intOf i).toNat)
    case atStart => exact ⟨0, rfl, by omega, Below.refl _ _, rfl⟩
    case round =>
      obtain ⟨k, rfl, hk, hbr, rfl⟩ := hrel
      have HBr : Below wk.heap.size wk wr := HB4.call hbr
      have hEr := hbr.rdcell hE (cells2 hen).2.1
      by_cases hlt : k < cs.length
      · have hlz : (k : Int) < (cs.length : Int) := by omega
        obtain ⟨b3, off3, rfl, hb3l, hcc⟩ := zS (by omega)
        have hi3 : wr.cell? ⟨b3, off3 + k * 4 + 3, none⟩ = some (.int .i64 cs[k].hi) := by have := (hcc k cs[k] (List.getElem?_eq_getElem hlt)).cell 3 rfl; exact HBr.rdcell hb3l this
        have hst : wr.cell? ⟨sb, k * 2 + 1, none⟩ = some (.int .i64 (startF (tnsF cs [1, 0] TC.hi s) k)) := by
          have := hrow4.cell (k * 2 + 1) (by omega)
          simp only [Nat.zero_add] at this
          have e : gS (tnsF cs [1, 0] TC.lo s) (tnsF cs [1, 0] TC.hi s) (k * 2 + 1) = startF (tnsF cs [1, 0] TC.hi s) k := by unfold gS; rw [if_neg (by omega), show (k * 2 + 1) / 2 = k by omega]
          rw [e] at this
          exact hbr.rdcell hsb4 this
        have hDr : wr.cell? ⟨D, 0, none⟩ = some (.slice (some ⟨b3, off3, none⟩) cs.length c3) := HBr.rdcell kD2 p0
        have hdn := done_bound hDay s (by omega) k hlt
        have hsn := start_bound hDay s (by omega) k hlt
        have hln := last_bound hDay s (by omega) k hk
        have hls := lastF_succ cs [1, 0] s k
        have hdf : doneF cs [1, 0] s k = startF (tnsF cs [1, 0] TC.hi s) k + cs[k].hi := by unfold doneF; simp [List.getD_eq_getElem?_getD, hlt]
        have hkh := hcok cs[k] (List.getElem_mem _)
        obtain ⟨_, _, _, _, hlo1, hlo2, hhi⟩ := hkh
        generalize startF (tnsF cs [1, 0] TC.hi s) k = st at *
        generalize hH : cs[k].hi = hh at *
        generalize hDN : doneF cs [1, 0] s k = dn at *
        subst hdf
        obtain ⟨dn, hdn'⟩ : ∃ dn : Nat, st + hh = (dn : Int) := ⟨(st + hh).toNat, by omega⟩
        have hd1 : 1 ≤ (dn : Int) := by omega
        have hd2 : (dn : Int) ≤ endF (tnsF cs [1, 0] TC.hi s) := by omega
        have HLS : Hid (lastF cs [1, 0] s (k + 1) = max (lastF cs [1, 0] s k) dn) := Lib.hid (by rw [hls, hdn'])
        have HDN := Lib.hid hdn'
        have hsth : 0 ≤ st + hh ∧ st + hh ≤ 200000 := by omega
        clear hls hdn' hdn
        have hDw := lt_blk (later_blk HBr kD)
        have hsbw : sb < wr.heap.size := Nat.lt_of_lt_of_le hsb4 hbr.size
        have hb3w : b3 < wr.heap.size := Nat.lt_of_lt_of_le hb3l HBr.size
        go_wp2
        refine wp_region_sx none 13 250 [⟨[], [15], []⟩, ⟨[], [20], []⟩, ⟨[(150, 0), (151, 1)], [], [0, 1]⟩, ⟨[(152, 2)], [], [2]⟩, ⟨[(153, 3)], [], [3]⟩, ⟨[], [8], []⟩, ⟨[(155, 5)], [], [5]⟩, ⟨[], [20], []⟩, ⟨[(156, 6), (157, 7)], [], [6, 7]⟩, ⟨[(158, 8)], [], [8]⟩, ⟨[(159, 9)], [], [9]⟩, ⟨[(160, 10)], [], [10]⟩, ⟨[(154, 4), (161, 11)], [], [4, 11]⟩] (by kernel_rfl) (by kernel_rfl) (by kernel_rfl) (by rfl) ?_; simp only [List.take_succ_cons, List.take_zero, List.drop_succ_cons, List.drop_zero]; intro a' C ha' hC; have m8 := congrArg (fun z : Act => z.tmps.getD 8 undef) ha'; simp only [getD_lit_succ, getD_lit_zero] at m8; have m15 := congrArg (fun z : Act => z.tmps.getD 15 undef) ha'; simp only [getD_lit_succ, getD_lit_zero] at m15; have m20 := congrArg (fun z : Act => z.tmps.getD 20 undef) ha'; simp only [getD_lit_succ, getD_lit_zero] at m20; clear ha'
        (with_reducible apply sx_val (k' := 1) rfl; focus (intro v wk ρ hb hρ hh hm hf; clear hh; simp only [allMiss] at hm; obtain ⟨e15, -⟩ := hm; replace e15 := e15.trans m15; clear hf; clear hρ; go_simp; first | done | rfl)); (with_reducible apply sx_val (k' := 2) rfl; focus (intro v wk ρ hb hρ hh hm hf; clear hh; simp only [allMiss] at hm; obtain ⟨e20, -⟩ := hm; replace e20 := e20.trans m20; clear hf; clear hρ; go_simp; first | done | rfl)); (with_reducible apply sx_val (k' := 3) rfl; focus (intro v wk ρ hb hρ hh hm hf; simp only [allHit] at hh; obtain ⟨e150, e151, -⟩ := hh; clear hm; simp only [allDep, factX, Nat.reduceEqDiff, reduceIte] at hf; obtain ⟨q0, q1, -⟩ := hf; clear hρ; go_simp; first | done | rfl)); (with_reducible apply sx_val (k' := 4) rfl; focus (intro v wk ρ hb hρ hh hm hf; simp only [allHit] at hh; obtain ⟨e152, -⟩ := hh; clear hm; simp only [allDep, factX, Nat.reduceEqDiff, reduceIte] at hf; obtain ⟨q2, -⟩ := hf; clear hρ; go_simp; first | done | rfl))
        (with_reducible apply sx_val (k' := 5) rfl; focus (intro v wk ρ hb hρ hh hm hf; simp only [allHit] at hh; obtain ⟨e153, -⟩ := hh; clear hm; simp only [allDep, factX, Nat.reduceEqDiff, reduceIte] at hf; obtain ⟨q3, -⟩ := hf; clear hρ; have cc := (hb.cell (p := ⟨sb, k * 2 + 1, none⟩) hsbw).trans hst; go_simp; first | done | rfl))
        (with_reducible apply sx_val (k' := 6) rfl; focus (intro v wk ρ hb hρ hh hm hf; clear hh; simp only [allMiss] at hm; obtain ⟨e8, -⟩ := hm; replace e8 := e8.trans m8; clear hf; clear hρ; go_simp; first | done | rfl))
        (with_reducible apply sx_val (k' := 7) rfl; focus (intro v wk ρ hb hρ hh hm hf; simp only [allHit] at hh; obtain ⟨e155, -⟩ := hh; clear hm; simp only [allDep, factX, Nat.reduceEqDiff, reduceIte] at hf; obtain ⟨q5, -⟩ := hf; clear hρ; have cc := (hb.cell (p := ⟨D, 0, none⟩) hDw).trans hDr; go_simp; first | done | rfl))
        (with_reducible apply sx_val (k' := 8) rfl; focus (intro v wk ρ hb hρ hh hm hf; clear hh; simp only [allMiss] at hm; obtain ⟨e20, -⟩ := hm; replace e20 := e20.trans m20; clear hf; clear hρ; go_simp; first | done | rfl)); (with_reducible apply sx_val (k' := 9) rfl; focus (intro v wk ρ hb hρ hh hm hf; simp only [allHit] at hh; obtain ⟨e156, e157, -⟩ := hh; clear hm; simp only [allDep, factX, Nat.reduceEqDiff, reduceIte] at hf; obtain ⟨q6, q7, -⟩ := hf; clear hρ; go_simp; first | done | rfl)); (with_reducible apply sx_val (k' := 10) rfl; focus (intro v wk ρ hb hρ hh hm hf; simp only [allHit] at hh; obtain ⟨e158, -⟩ := hh; clear hm; simp only [allDep, factX, Nat.reduceEqDiff, reduceIte] at hf; obtain ⟨q8, -⟩ := hf; clear hρ; go_simp; first | done | rfl)); (with_reducible apply sx_val (k' := 11) rfl; focus (intro v wk ρ hb hρ hh hm hf; simp only [allHit] at hh; obtain ⟨e159, -⟩ := hh; clear hm; simp only [allDep, factX, Nat.reduceEqDiff, reduceIte] at hf; obtain ⟨q9, -⟩ := hf; clear hρ; go_simp; first | done | rfl))
        (with_reducible apply sx_val (k' := 12) rfl; focus (intro v wk ρ hb hρ hh hm hf; simp only [allHit] at hh; obtain ⟨e160, -⟩ := hh; clear hm; simp only [allDep, factX, Nat.reduceEqDiff, reduceIte] at hf; obtain ⟨q10, -⟩ := hf; clear hρ; have cc := (hb.cell (p := ⟨b3, off3 + k * 4 + 3, none⟩) hb3w).trans hi3; go_simp; first | done | rfl))
        (with_reducible apply sx_val (k' := 13) rfl; focus (intro v wk ρ hb hρ hh hm hf; simp only [allHit] at hh; obtain ⟨e154, e161, -⟩ := hh; clear hm; simp only [allDep, factX, Nat.reduceEqDiff, reduceIte] at hf; obtain ⟨q4, q11, -⟩ := hf; clear hρ; have wa : IntKind.i64.wrap (st + hh) = st + hh := IntWalk.i64_in _ (by omega); go_simp; first | done | rfl))
        refine hC _ fun v wk hb hf a' ha => ?_; have q0 := hf 0 (by decide); simp only [List.length_cons, List.length_nil, Nat.zero_add, Nat.reduceAdd, factX, Nat.reduceEqDiff, reduceIte] at q0; have q1 := hf 1 (by decide); simp only [List.length_cons, List.length_nil, Nat.zero_add, Nat.reduceAdd, factX, Nat.reduceEqDiff, reduceIte] at q1; have q2 := hf 2 (by decide); simp only [List.length_cons, List.length_nil, Nat.zero_add, Nat.reduceAdd, factX, Nat.reduceEqDiff, reduceIte] at q2; have q3 := hf 3 (by decide); simp only [List.length_cons, List.length_nil, Nat.zero_add, Nat.reduceAdd, factX, Nat.reduceEqDiff, reduceIte] at q3; have q4 := hf 4 (by decide); simp only [List.length_cons, List.length_nil, Nat.zero_add, Nat.reduceAdd, factX, Nat.reduceEqDiff, reduceIte] at q4; have q5 := hf 5 (by decide); simp only [List.length_cons, List.length_nil, Nat.zero_add, Nat.reduceAdd, factX, Nat.reduceEqDiff, reduceIte] at q5; have q6 := hf 6 (by decide); simp only [List.length_cons, List.length_nil, Nat.zero_add, Nat.reduceAdd, factX, Nat.reduceEqDiff, reduceIte] at q6; have q7 := hf 7 (by decide); simp only [List.length_cons, List.length_nil, Nat.zero_add, Nat.reduceAdd, factX, Nat.reduceEqDiff, reduceIte] at q7; have q8 := hf 8 (by decide); simp only [List.length_cons, List.length_nil, Nat.zero_add, Nat.reduceAdd, factX, Nat.reduceEqDiff, reduceIte] at q8; have q9 := hf 9 (by decide); simp only [List.length_cons, List.length_nil, Nat.zero_add, Nat.reduceAdd, factX, Nat.reduceEqDiff, reduceIte] at q9; have q10 := hf 10 (by decide); simp only [List.length_cons, List.length_nil, Nat.zero_add, Nat.reduceAdd, factX, Nat.reduceEqDiff, reduceIte] at q10; have q11 := hf 11 (by decide); simp only [List.length_cons, List.length_nil, Nat.zero_add, Nat.reduceAdd, factX, Nat.reduceEqDiff, reduceIte] at q11; have q12 := hf 12 (by decide); simp only [List.length_cons, List.length_nil, Nat.zero_add, Nat.reduceAdd, factX, Nat.reduceEqDiff, reduceIte] at q12; clear hf hC; simp only [headPut, Act.put, List.setIfInBounds_toArray, List.set_cons_succ, List.set_cons_zero, Nat.zero_add, Nat.reduceAdd] at ha
        rw [HDN.out] at q12
        simp only [q12] at ha
        subst ha
        clear q0 q1 q2 q3 q4 q5 q6 q7 q8 q9 q10 q11 q12 m8 m15 m20 HDN hsth hsn
        have HBk2 := HBr.call hb
        have hgk := later_blk HBk2 hgc
        obtain ⟨f0, f1, f2, f3, -⟩ := cells4 hgk
        have hkz := lt_blk hgk
        have hEz : w3.heap.size < wk.heap.size := Nat.lt_of_lt_of_le (Nat.lt_of_lt_of_le hE hbr.size) hb.size
        have hW4k := hbr.call hb
        clear hst hi3 hDr hDw hsbw hb3w hcc hb3l HBr hbr hb hEr
        go_wp2_with fail
        refine (elm_Own ct (framesF a c d) (a % 20) (b % 120) hFld A' A2' c' c2' wk (zF1.below HBk2) (zF2.below HBk2)).mono ?_
        rintro e w5 ⟨⟨v1, v2, rfl, ho1, ho2⟩, hb5⟩
        obtain ⟨B1, cb1, rfl, hcb1, zo1, -⟩ := own_form (enc := encTw) (fun _ => rfl) ho1
        obtain ⟨B2, cb2, rfl, hcb2, zo2, -⟩ := own_form (enc := encI) (fun _ => rfl) ho2
        have HB5 := HBk2.call hb5
        clear ho1 ho2
        go_wp2_with fail
        refine (elm_Spans Aw cw ws (by omega) w5 (zW.1.below HB5)).mono ?_
        rintro e w6 ⟨⟨v3, rfl, ho3⟩, hb6⟩
        obtain ⟨B3, cb3, rfl, hcb3, zo3, -⟩ := own_form (enc := encWx) (fun _ => rfl) ho3
        have HB6 := HB5.call hb6
        clear ho3
        go_wp2_with fail
        refine (tenter_Late ct (framesF a c d) (a % 20) (b % 120) hFld ws hws k (by omega) rain hrl B1 B2 B3 cb1 cb2 cb3 w6 (zo1.below hb6) (zo2.below hb6) zo3).mono ?_
        rintro e w7 ⟨rfl, hb7⟩
        have HB7 := HB6.call hb7
        have h74 : Below wk.heap.size wk w7 := (hb5.call hb6).call hb7
        obtain ⟨lr0, lr1⟩ := late_range ws rain ct[k].wh
        generalize hLF : lateF ws rain ct[k].wh = lf at *
        have hld : ∀ dn : Nat, dn ≤ rain → (driedF Prod.fst (ws.drop dn) dn ct[k].wh ≤ rain ↔ 0 ≤ lf ∧ (dn : Int) ≤ lf) := fun dn hdn => by rw [← hLF]; exact late_dry hws rain hrl dn hdn ct[k].wh (by have := htok ct[k] (List.getElem_mem _); unfold TwC.ok at this; omega)
        clear hLF
        have hE7 := (hW4k.call h74).rdcell hE (cells2 hen).2.1
        have hEz7 : w3.heap.size < w7.heap.size := Nat.lt_of_lt_of_le hEz h74.size
        have hd3 : ¬ endF (tnsF cs [1, 0] TC.hi s) < (dn : Int) := by omega
        have hd4 : ¬ (dn : Int) < 1 := by omega
        clear zo1 zo2 zo3 hcb1 hcb2 hcb3 hb5 hb6 hb7 HB5 HB6 f0 f1 f2 f3 hgk hkz
        by_cases hlf : 0 ≤ lf
        · rw [if_pos hlf]
          by_cases hdl : dn ≤ ws.length
          · have hdz : ¬ (dn : Int) > (ws.length : Int) := by omega
            have hg7 := later_blk HB7 hgc
            obtain ⟨f0, f1, f2, f3, -⟩ := cells4 hg7
            have kz7 := lt_blk hg7
            go_wp2_with fail
            refine (elm_Own ct (framesF a c d) (a % 20) (b % 120) hFld A' A2' c' c2' w7 (zF1.below HB7) (zF2.below HB7)).mono ?_
            rintro e w8 ⟨⟨v1, v2, rfl, ho1, ho2⟩, hb8⟩
            obtain ⟨B4, cb4, rfl, hcb4, zo4, -⟩ := own_form (enc := encTw) (fun _ => rfl) ho1
            obtain ⟨B5, cb5, rfl, hcb5, zo5, -⟩ := own_form (enc := encI) (fun _ => rfl) ho2
            have HB8 := HB7.call hb8
            clear ho1 ho2
            go_wp2_with fail
            refine (elm_Spans Aw cw ws (by omega) w8 (zW.1.below HB8)).mono ?_
            rintro e w9 ⟨⟨v3, rfl, ho3⟩, hb9⟩
            obtain ⟨B6, cb6, rfl, hcb6, zo6, -⟩ := own_form (enc := encWx) (fun _ => rfl) ho3
            clear ho3
            go_wp2_with fail
            refine (tenter_Dry ct (framesF a c d) (a % 20) (b % 120) hFld ws hws dn hdl B4 B5 B6 cb4 cb5 cb6 hcb6 w9 (zo4.below hb9) (zo5.below hb9) zo6).mono ?_
            rintro e w10 ⟨⟨v4, rfl, ho7, -⟩, hb10⟩
            obtain ⟨B7, cb7, rfl⟩ := own_slice ho7
            have h7a : Below wk.heap.size wk w10 := ((h74.call hb8).call hb9).call hb10
            have HRN := hW4k.call h7a
            rcases ho7.2 with ⟨_, hz0⟩ | ⟨g7, cap7, cur7, hv7, -, hcur7, -, -, -, -⟩
            · omega
            cases hv7
            obtain ⟨df, hDF⟩ : ∃ df, df = driedF Prod.fst (ws.drop dn) dn ct[k].wh := ⟨_, rfl⟩
            have y7 : w10.cell? ⟨g7, k * 2 + 1, none⟩ = some (.int .i64 df) := (ho7.cellAt (k * 2 + 1) (by omega)).trans (by have := (cellsW_get (ct.map fun c => dryF ws c dn) k (by simp; omega)).2; rw [hDF]; simpa [dryF] using this)
            have hld2 := hld dn
            rw [← hDF] at hld2
            clear hDF hld
            have hg10 := lt_blk hcur7
            have hkc : (k : Int) < (ct.length : Int) := by omega
            clear ho7 hcur7 zo4 zo5 zo6 hcb4 hcb5 hcb6 hb8 hb9 hb10 HB8 f0 f1 f2 f3 hg7 kz7 h7a h74 hW4k
            by_cases hrn : dn ≤ rain
            · have hrz : (dn : Int) ≤ (rain : Int) := by omega
              have hdl2 := hld2 hrn
              by_cases hll : (dn : Int) ≤ lf
              · have hdf : df ≤ (rain : Int) := hdl2.2 ⟨hlf, hll⟩
                have hB1 : decide (df ≤ (rain : Int)) = true := by simpa using hdf
                have hB2 : decide ((dn : Int) ≤ lf) = true := by simpa using hll
                clear hdl2 hld2
                go_wp2
                refine ⟨⟨k + 1, by go_num, by omega, HRN, ?_⟩, by first | (simp [intOf]; done) | (simp [intOf]; omega)⟩
                rw [HLS.out]
              · have hdf : ¬ df ≤ (rain : Int) := fun h => by have := (hdl2.1 h).2; omega
                have hB1 : decide (df ≤ (rain : Int)) = false := by simp; omega
                have hB2 : decide ((dn : Int) ≤ lf) = false := by simp; omega
                clear hdl2 hld2
                go_wp2
                refine ⟨⟨k + 1, by go_num, by omega, HRN, ?_⟩, by first | (simp [intOf]; done) | (simp [intOf]; omega)⟩
                rw [HLS.out]
            · have hrz : ¬ (dn : Int) ≤ (rain : Int) := by omega
              clear hld2
              go_wp2
              refine ⟨⟨k + 1, by go_num, by omega, HRN, ?_⟩, by first | (simp [intOf]; done) | (simp [intOf]; omega)⟩
              rw [HLS.out]
          · have hdz : (dn : Int) > (ws.length : Int) := by omega
            have HRN := hW4k.call h74
            clear hld
            go_wp2
            refine ⟨⟨k + 1, by go_num, by omega, HRN, ?_⟩, by first | (simp [intOf]; done) | (simp [intOf]; omega)⟩
            rw [HLS.out]
        · rw [if_neg hlf]
          by_cases hdl : dn ≤ ws.length
          · have hdz : ¬ (dn : Int) > (ws.length : Int) := by omega
            have hg7 := later_blk HB7 hgc
            obtain ⟨f0, f1, f2, f3, -⟩ := cells4 hg7
            have kz7 := lt_blk hg7
            go_wp2_with fail
            refine (elm_Own ct (framesF a c d) (a % 20) (b % 120) hFld A' A2' c' c2' w7 (zF1.below HB7) (zF2.below HB7)).mono ?_
            rintro e w8 ⟨⟨v1, v2, rfl, ho1, ho2⟩, hb8⟩
            obtain ⟨B4, cb4, rfl, hcb4, zo4, -⟩ := own_form (enc := encTw) (fun _ => rfl) ho1
            obtain ⟨B5, cb5, rfl, hcb5, zo5, -⟩ := own_form (enc := encI) (fun _ => rfl) ho2
            have HB8 := HB7.call hb8
            clear ho1 ho2
            go_wp2_with fail
            refine (elm_Spans Aw cw ws (by omega) w8 (zW.1.below HB8)).mono ?_
            rintro e w9 ⟨⟨v3, rfl, ho3⟩, hb9⟩
            obtain ⟨B6, cb6, rfl, hcb6, zo6, -⟩ := own_form (enc := encWx) (fun _ => rfl) ho3
            clear ho3
            go_wp2_with fail
            refine (tenter_Dry ct (framesF a c d) (a % 20) (b % 120) hFld ws hws dn hdl B4 B5 B6 cb4 cb5 cb6 hcb6 w9 (zo4.below hb9) (zo5.below hb9) zo6).mono ?_
            rintro e w10 ⟨⟨v4, rfl, ho7, -⟩, hb10⟩
            obtain ⟨B7, cb7, rfl⟩ := own_slice ho7
            have h7a : Below wk.heap.size wk w10 := ((h74.call hb8).call hb9).call hb10
            have HRN := hW4k.call h7a
            rcases ho7.2 with ⟨_, hz0⟩ | ⟨g7, cap7, cur7, hv7, -, hcur7, -, -, -, -⟩
            · omega
            cases hv7
            obtain ⟨df, hDF⟩ : ∃ df, df = driedF Prod.fst (ws.drop dn) dn ct[k].wh := ⟨_, rfl⟩
            have y7 : w10.cell? ⟨g7, k * 2 + 1, none⟩ = some (.int .i64 df) := (ho7.cellAt (k * 2 + 1) (by omega)).trans (by have := (cellsW_get (ct.map fun c => dryF ws c dn) k (by simp; omega)).2; rw [hDF]; simpa [dryF] using this)
            have hld2 := hld dn
            rw [← hDF] at hld2
            clear hDF hld
            have hg10 := lt_blk hcur7
            have hkc : (k : Int) < (ct.length : Int) := by omega
            clear ho7 hcur7 zo4 zo5 zo6 hcb4 hcb5 hcb6 hb8 hb9 hb10 HB8 f0 f1 f2 f3 hg7 kz7 h7a h74 hW4k
            by_cases hrn : dn ≤ rain
            · have hrz : (dn : Int) ≤ (rain : Int) := by omega
              have hdl2 := hld2 hrn
              have hdf : ¬ df ≤ (rain : Int) := fun h => by have := (hdl2.1 h).1; omega
              have hB1 : decide (df ≤ (rain : Int)) = false := by simp; omega
              clear hdl2 hld2
              go_wp2
              refine ⟨⟨k + 1, by go_num, by omega, HRN, ?_⟩, by first | (simp [intOf]; done) | (simp [intOf]; omega)⟩
              rw [HLS.out]
            · have hrz : ¬ (dn : Int) ≤ (rain : Int) := by omega
              clear hld2
              go_wp2
              refine ⟨⟨k + 1, by go_num, by omega, HRN, ?_⟩, by first | (simp [intOf]; done) | (simp [intOf]; omega)⟩
              rw [HLS.out]
          · have hdz : (dn : Int) > (ws.length : Int) := by omega
            have HRN := hW4k.call h74
            clear hld
            go_wp2
            refine ⟨⟨k + 1, by go_num, by omega, HRN, ?_⟩, by first | (simp [intOf]; done) | (simp [intOf]; omega)⟩
            rw [HLS.out]
      · obtain rfl : k = cs.length := by omega
        have hlz : ¬ ((cs.length : Nat) : Int) < (cs.length : Int) := by omega
        have hq : (lastF cs [1, 0] s cs.length == endF (tnsF cs [1, 0] TC.hi s)) = true := by rw [last_end hDay s (by omega)]; simp
        have hEz : w3.heap.size < wr.heap.size := Nat.lt_of_lt_of_le hE hbr.size
        have HF : Below w.heap.size w wr := HWk.trans (HBr.mono HWk.size)
        go_wp2_with fail
        refine (elm_Turns wr).mono ?_
        rintro e w11 ⟨rfl, hb11⟩
        go_wp2_with fail
        refine (elm_Field w11).mono ?_
        rintro e w12 ⟨rfl, hb12⟩
        go_wp2
        go_ret
        exact ⟨rfl, (HF.call hb11).call hb12⟩
end Go.Proofs.Ytacellaeepngkaa
