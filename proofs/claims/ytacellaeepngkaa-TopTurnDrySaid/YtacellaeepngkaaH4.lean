/- (ElmSky).made: valid weather. -/
import Derived.Test.YtacellaeepngkaaH3
namespace Go.Proofs.Ytacellaeepngkaa
set_option linter.unusedVariables false
set_option linter.unusedSimpArgs false
open Go.RowKit Go.Shelf

abbrev B2 := Int × Int
def encB2 (x : B2) : List Value := [.int .u8 x.1, .int .u8 x.2]
def B2.ok (x : B2) : Prop := 0 ≤ x.1 ∧ x.1 ≤ 255 ∧ 0 ≤ x.2 ∧ x.2 ≤ 255

def SkyMade (B : Nat) (v : Value) (w : World) : Prop := ∃ ws : List Wx, SkyOk ws ∧ ws.length ≤ 16 ∧ (∃ A c, v = .slice A ws.length c) ∧ w.ownsRow B 36 2 v ws.length (ws.flatMap encWx)

def SkyPart (B k : Nat) (v : Value) (w : World) : Prop := ∃ ws : List Wx, ws.length = k ∧ (∀ x ∈ ws, 0 ≤ x.1 ∧ x.1 ≤ x.2 ∧ x.2 ≤ 100) ∧ w.ownsRow B 36 2 v k (ws.flatMap encWx)

theorem made_step {B k : Nat} {W wr w1 w3 : World} {v v' : Value} {ws : List Wx} {x y : Int} {a b : Obj} (hb : Below B W wr) (hb1 : Below (wr.alloc a).heap.size (wr.alloc a) w1) (hwok : ∀ x ∈ ws, 0 ≤ x.1 ∧ x.1 ≤ x.2 ∧ x.2 ≤ 100) (hws : ws.length = k)
    (hrow : w1.ownsRow B 36 2 v k (ws.flatMap encWx)) (hxy : 0 ≤ x ∧ x ≤ y ∧ y ≤ 100) (hown : w3.ownsRow B 36 2 v' (k + 1) (ws.flatMap encWx ++ [.int .i64 x, .int .i64 y])) (hg : (w1.alloc b).grownBy w3 v.ownBlock) {i : Value} (hi : i = .int .i64 ((k : Int) + 1)) (hk : k < 16) (hB : B ≤ wr.heap.size) :
    ∃ k : Nat, i = .int .i64 k ∧ k ≤ 16 ∧ Below B W w3 ∧ SkyPart B k v' w3 := by
  refine ⟨k + 1, by rw [hi]; go_num, by omega, ?_, ws ++ [(x, y)], by simp [hws], ?_, ?_⟩
  · have h1 := hb1.size
    simp at h1
    refine ((((hb.alloc hB a).trans (hb1.mono (by simp; omega))).alloc (by omega) b).grown hg (by simp; omega) (fun k hk => (hrow.lt k hk).1))
  · intro z hz
    rcases List.mem_append.1 hz with h | h
    · exact hwok z h
    · simp at h; subst h; exact hxy
  · rw [List.flatMap_append]; exact hown

set_option maxRecDepth 100000 in
set_option maxHeartbeats 4000000 in
theorem elm_made (xs : List B2) (hx : xs.length ≤ 9223372036854775807) (hok : ∀ x ∈ xs, B2.ok x) (A : Option Addr) (cap : Nat) (w : World) (hz : Sl w A 2 encB2 xs) :
    Calls Try.prog 7 #[.agg #[.slice A xs.length cap]] w fun e w' => (∃ v, e = .returned v ∧ SkyMade w.heap.size v w') ∧ Below w.heap.size w w' := by
  obtain ⟨i0, hi, hz0, hz1, hz2⟩ := info_parts info_span
  go_enter Try.func7, Try.ntmps7
  go_wp2
  refine name_world (fun W hW => ?_)
  have HB : Below w.heap.size w W := by rw [hW]; exact (by repeat (first | with_reducible exact Below.refl _ _ | with_reducible assumption | with_reducible refine Below.al ?_ _ | with_reducible refine Below.drew ?_ | with_reducible refine Below.st ?_ (by first | (simp; done) | assumption | (simp; omega)) _ | with_reducible refine Below.call ?_ (by with_reducible assumption) | exact Below.refl _ _ | assumption | refine Below.al ?_ _ | refine Below.drew ?_ | refine Below.call ?_ (by assumption) | refine Below.st ?_ (by first | (simp; done) | assumption | (simp; omega)) _))
  have hl0 : w.heap.size < W.heap.size := by rw [hW]; simp; omega
  have x0 : W.cell? ⟨w.heap.size, 0, none⟩ = some (.slice A xs.length cap) := by rw [hW]; go_simp
  have hown : W.ownsRow (w.heap.size + 1) 36 2 (.slice (some ⟨w.heap.size + 1, 0, none⟩) 0 0) 0 [] := by rw [hW]; simpa using own_empty (w.alloc (.cells #[.slice A xs.length cap] 24)) (w.heap.size + 1) 36 2 (by simp)
  clear hW
  go_loopw [3, 4] (fun v i wr => ∃ k : Nat, i = .int .i64 k ∧ k ≤ 16 ∧ Below (w.heap.size + 1) W wr ∧ SkyPart (w.heap.size + 1) k v wr) (fun _ i _ => 17 - (intOf i).toNat)
  case atStart => exact ⟨0, rfl, by omega, Below.refl _ _, [], rfl, by simp, hown⟩
  case round =>
    obtain ⟨k, rfl, hk, hb, ws, hws, hwok, hrow⟩ := hrel
    have y0 := (hb.cell (p := ⟨w.heap.size, 0, none⟩) (by simp)).trans x0
    have hzr := hz.below (HB.trans (hb.mono (by omega)))
    have hwl : w.heap.size < wr.heap.size := by have := hb.size; omega
    by_cases hlt : k < xs.length ∧ k < 16
    · obtain ⟨hlt, h16⟩ := hlt
      have hlz : (k : Int) < (xs.length : Int) := by omega
      have h16z : (k : Int) < 16 := by omega
      obtain ⟨b, off, rfl, hbl, hc⟩ := hzr (by omega)
      have r0 : wr.cell? ⟨b, off + k * 2, none⟩ = some (.int .u8 xs[k].1) := by have := (hc k xs[k] (List.getElem?_eq_getElem hlt)).cell 0 rfl; simpa using this
      have r1 : wr.cell? ⟨b, off + k * 2 + 1, none⟩ = some (.int .u8 xs[k].2) := by have := (hc k xs[k] (List.getElem?_eq_getElem hlt)).cell 1 rfl; simpa using this
      obtain ⟨p0, p1, p2, p3⟩ := hok xs[k] (List.getElem_mem _)
      clear hc hzr hz
      generalize xs[k] = y at *
      have HP : Hid (ws.length = k) := hws
      by_cases hk0 : ((k : Int) == 0) = true
      · go_wp2_with fail
        refine (elm_Span _ _ _).mono ?_
        rintro e w1 ⟨rfl, hb1⟩
        have hrow1 := own_below (hrow.alloc _) hb1
        have hz1w : wr.heap.size < w1.heap.size := by have := hb1.size; simp at this; omega
        go_wp2_with (at_builtin; refine wpList_append_own _ rfl _ _ 27 rfl (w.heap.size + 1) 36 i0 _ 2 16 Try.underlying27 hi hz0 hz1 hz2 rfl (by decide) _ _ _ rfl (hrow1.alloc _) ⟨w1.heap.size, 0, none⟩ 1 1 [.int .i64 (y.1 % 40), .int .i64 (y.1 % 40 + y.2 % 30)] rfl rfl (World.news_of_block (cs := #[.int .i64 (y.1 % 40), .int .i64 (y.1 % 40 + y.2 % 30)]) (t := 36) (fr := (0, 0)) (World.alloc_heap_new _ _)) (by simp [Value.oneCell']) (by unfold maxLen; omega) (by omega) (by simp; omega) ?_; intro v' w3 hown' hgrow _)
        go_roundw
        case rel => exact made_step hb hb1 hwok hws hrow1 ⟨by omega, by omega, by omega⟩ hown' hgrow rfl (by omega) (by omega)
        case measure => simp [intOf]; omega
      · have hk1 : ((k : Int) == 0) = false := by simpa using hk0
        clear hk0
        go_wp2_with fail
        refine (elm_Span _ _ _).mono ?_
        rintro e w1 ⟨rfl, hb1⟩
        have hrow1 := own_below (hrow.alloc _) hb1
        have hz1w : wr.heap.size < w1.heap.size := by have := hb1.size; simp at this; omega
        go_wp2_with (at_builtin; refine wpList_append_own _ rfl _ _ 27 rfl (w.heap.size + 1) 36 i0 _ 2 16 Try.underlying27 hi hz0 hz1 hz2 rfl (by decide) _ _ _ rfl (hrow1.alloc _) ⟨w1.heap.size, 0, none⟩ 1 1 [.int .i64 (y.1 % 40), .int .i64 (y.1 % 40 + y.2 % 30)] rfl rfl (World.news_of_block (cs := #[.int .i64 (y.1 % 40), .int .i64 (y.1 % 40 + y.2 % 30)]) (t := 36) (fr := (0, 0)) (World.alloc_heap_new _ _)) (by simp [Value.oneCell']) (by unfold maxLen; omega) (by omega) (by simp; omega) ?_; intro v' w3 hown' hgrow _)
        go_roundw
        case rel => exact made_step hb hb1 hwok hws hrow1 ⟨by omega, by omega, by omega⟩ hown' hgrow rfl (by omega) (by omega)
        case measure => simp [intOf]; omega
    · by_cases hk0 : k = 0
      · have hk1 : ((k : Int) == 0) = true := by simp; omega
        have hn : ¬ (k : Int) < (xs.length : Int) := by omega
        have HP : Hid (ws.length = k) := hws
        have h16 : k < 16 := by omega
        clear hzr hz hok hlt hk0
        go_wp2_with fail
        refine (elm_Span _ _ _).mono ?_
        rintro e w1 ⟨rfl, hb1⟩
        have hrow1 := own_below (hrow.alloc _) hb1
        have hz1w : wr.heap.size < w1.heap.size := by have := hb1.size; simp at this; omega
        go_wp2_with (at_builtin; refine wpList_append_own _ rfl _ _ 27 rfl (w.heap.size + 1) 36 i0 _ 2 16 Try.underlying27 hi hz0 hz1 hz2 rfl (by decide) _ _ _ rfl (hrow1.alloc _) ⟨w1.heap.size, 0, none⟩ 1 1 [.int .i64 15, .int .i64 20] rfl rfl (World.news_of_block (cs := #[.int .i64 15, .int .i64 20]) (t := 36) (fr := (0, 0)) (World.alloc_heap_new _ _)) (by simp [Value.oneCell']) (by unfold maxLen; omega) (by omega) (by simp; omega) ?_; intro v' w3 hown' hgrow _)
        go_roundw
        case rel => exact made_step hb hb1 hwok hws hrow1 ⟨by omega, by omega, by omega⟩ hown' hgrow rfl (by omega) (by omega)
        case measure => simp [intOf]; omega
      · have hk1 : ((k : Int) == 0) = false := by simp; omega
        have hno : ¬ (k : Int) < (xs.length : Int) ∨ ((k : Int) < (xs.length : Int) ∧ ¬ (k : Int) < 16) := by omega
        rcases hno with hn | ⟨hn, hn2⟩
        all_goals
          clear hzr hz hok hlt
          obtain ⟨A3, c3, rfl⟩ := own_slice hrow
          go_wp2
          go_ret
          exact ⟨⟨.slice A3 k c3, rfl, ws, ⟨by omega, hwok⟩, by omega, ⟨A3, c3, by rw [hws]⟩, by rw [hws]; exact hrow.mono (by omega)⟩, HB.trans (hb.mono (by omega))⟩
end Go.Proofs.Ytacellaeepngkaa
