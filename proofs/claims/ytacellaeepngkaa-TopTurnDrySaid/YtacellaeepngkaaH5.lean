/- turn.Order; elmTurns. -/
import Derived.Test.YtacellaeepngkaaH4
namespace Go.Proofs.Ytacellaeepngkaa
set_option linter.unusedVariables false
set_option linter.unusedSimpArgs false
open Go.RowKit Go.Shelf

set_option maxHeartbeats 1000000 in
theorem turn_Order (cs : List TC) (rk : List Int) (hd : DayOk cs rk) (A A2 : Option Addr) (cap cap2 : Nat) (hcap : cs.length ≤ cap) (w : World) (hz : Sl w A 4 encTC cs) (hr : Sl w A2 1 encI rk) :
    Calls Try.prog 30 #[.agg #[.slice A cs.length cap, .slice A2 rk.length cap2]] w fun e w' => (∃ v, e = .returned (.tuple #[v, .int .i64 0]) ∧ OwnI w.heap.size w' v (ordF cs rk)) ∧ Below w.heap.size w w' := by
  have hf := hd.few
  go_enter Try.func30, Try.ntmps30
  go_wp2_with fail
  refine (turn_open cs rk hd 1 0 (by omega) (by omega) A A2 cap cap2 _ (hz.below (by repeat (first | with_reducible exact Below.refl _ _ | with_reducible assumption | with_reducible refine Below.al ?_ _ | with_reducible refine Below.drew ?_ | with_reducible refine Below.st ?_ (by first | (simp; done) | assumption | (simp; omega)) _ | with_reducible refine Below.call ?_ (by with_reducible assumption) | exact Below.refl _ _ | assumption | refine Below.al ?_ _ | refine Below.drew ?_ | refine Below.call ?_ (by assumption) | refine Below.st ?_ (by first | (simp; done) | assumption | (simp; omega)) _))) (hr.below (by repeat (first | with_reducible exact Below.refl _ _ | with_reducible assumption | with_reducible refine Below.al ?_ _ | with_reducible refine Below.drew ?_ | with_reducible refine Below.st ?_ (by first | (simp; done) | assumption | (simp; omega)) _ | with_reducible refine Below.call ?_ (by with_reducible assumption) | exact Below.refl _ _ | assumption | refine Below.al ?_ _ | refine Below.drew ?_ | refine Below.call ?_ (by assumption) | refine Below.st ?_ (by first | (simp; done) | assumption | (simp; omega)) _)))).mono ?_
  rintro e w1 ⟨rfl, hb1⟩
  have c1_0 := fun o => hb1.cell (p := ⟨w.heap.size, o, none⟩) (by first | omega | (simp; done) | (simp; omega)); have f1_0 := fun o => hb1.frozen (p := ⟨w.heap.size, o, none⟩) (by first | omega | (simp; done) | (simp; omega)); have z1_0 : w.heap.size < w1.heap.size := (by have h := hb1.size; first | omega | (simp at h; omega))
  go_wp2_with fail
  refine (turn_order cs rk (by omega) A cap hcap A2 cap2 _ (hz.below (by repeat (first | with_reducible exact Below.refl _ _ | with_reducible assumption | with_reducible refine Below.al ?_ _ | with_reducible refine Below.drew ?_ | with_reducible refine Below.st ?_ (by first | (simp; done) | assumption | (simp; omega)) _ | with_reducible refine Below.call ?_ (by with_reducible assumption) | exact Below.refl _ _ | assumption | refine Below.al ?_ _ | refine Below.drew ?_ | refine Below.call ?_ (by assumption) | refine Below.st ?_ (by first | (simp; done) | assumption | (simp; omega)) _))) (hr.below (by repeat (first | with_reducible exact Below.refl _ _ | with_reducible assumption | with_reducible refine Below.al ?_ _ | with_reducible refine Below.drew ?_ | with_reducible refine Below.st ?_ (by first | (simp; done) | assumption | (simp; omega)) _ | with_reducible refine Below.call ?_ (by with_reducible assumption) | exact Below.refl _ _ | assumption | refine Below.al ?_ _ | refine Below.drew ?_ | refine Below.call ?_ (by assumption) | refine Below.st ?_ (by first | (simp; done) | assumption | (simp; omega)) _))) hd.ranks.2 hd.rb hd.cloths).mono ?_
  rintro e w2 ⟨⟨v, rfl, ⟨⟨AO, capo, rfl, hzo⟩, hown⟩⟩, hb2⟩
  go_wp2
  exact bodyPost_ret (v := .tuple #[.slice AO (ordF cs rk).length capo, .int .i64 0]) (by simp [results, Try.results30, go_sem]) rfl ⟨⟨_, rfl, ⟨⟨AO, capo, rfl, hzo⟩, fun h => by obtain ⟨b, c, h1, h2, h3⟩ := hown h; exact ⟨b, c, h1, by simp at h2; omega, h3⟩⟩⟩, (by repeat (first | with_reducible exact Below.refl _ _ | with_reducible assumption | with_reducible refine Below.al ?_ _ | with_reducible refine Below.drew ?_ | with_reducible refine Below.st ?_ (by first | (simp; done) | assumption | (simp; omega)) _ | with_reducible refine Below.call ?_ (by with_reducible assumption) | exact Below.refl _ _ | assumption | refine Below.al ?_ _ | refine Below.drew ?_ | refine Below.call ?_ (by assumption) | refine Below.st ?_ (by first | (simp; done) | assumption | (simp; omega)) _))⟩

def tCs : List TC := [⟨0, 0, 4, 6⟩, ⟨0, 0, 3, 3⟩, ⟨1, 0, 5, 8⟩, ⟨1, 2, 2, 4⟩]
theorem tCs_ord : ordF tCs [1, 0] = [2, 0, 1, 3] := by decide +kernel
theorem tCs_ok : DayOk tCs [1, 0] := by
  refine ⟨by decide, by decide, ?_, ?_⟩
  · show [1, 0].Perm [(0 : Int), 1]
    exact List.Perm.swap _ _ _
  · intro c hc
    simp only [tCs, List.mem_cons, List.not_mem_nil, or_false] at hc
    rcases hc with rfl | rfl | rfl | rfl <;> (unfold TC.ok; decide)

theorem sl_tc (w : World) (b : Nat) (h : w.heap[b]? = some (.cells #[.int .i64 0, .int .i64 0, .int .i64 4, .int .i64 6, .int .i64 0, .int .i64 0, .int .i64 3, .int .i64 3, .int .i64 1, .int .i64 0, .int .i64 5, .int .i64 8, .int .i64 1, .int .i64 2, .int .i64 2, .int .i64 4] 39 (0, 0))) : Sl w (some ⟨b, 0, none⟩) 4 encTC tCs := by
  intro _
  refine ⟨b, 0, rfl, lt_blk h, fun i x hx j v hv => ?_⟩
  refine cell_blk h ?_
  match i, hx with
  | 0, hx => cases hx; match j, hv with | 0, hv => cases hv; rfl | 1, hv => cases hv; rfl | 2, hv => cases hv; rfl | 3, hv => cases hv; rfl
  | 1, hx => cases hx; match j, hv with | 0, hv => cases hv; rfl | 1, hv => cases hv; rfl | 2, hv => cases hv; rfl | 3, hv => cases hv; rfl
  | 2, hx => cases hx; match j, hv with | 0, hv => cases hv; rfl | 1, hv => cases hv; rfl | 2, hv => cases hv; rfl | 3, hv => cases hv; rfl
  | 3, hx => cases hx; match j, hv with | 0, hv => cases hv; rfl | 1, hv => cases hv; rfl | 2, hv => cases hv; rfl | 3, hv => cases hv; rfl

theorem sl_ints (w : World) (b : Nat) (l : List Int) (h : w.heap[b]? = some (.cells (l.map fun x => Value.int .i64 x).toArray 3 (0, 0))) : Sl w (some ⟨b, 0, none⟩) 1 encI l := by
  refine Sl.ints (lt_blk h) fun i x hi => ?_
  refine cell_blk h ?_
  simp [hi]

set_option maxRecDepth 100000 in
set_option maxHeartbeats 1000000 in
theorem elm_Turns (w : World) : Calls Try.prog 16 #[] w fun e w' => e = .returned (.bool true) ∧ Below w.heap.size w w' := by
  go_enter Try.func16, Try.ntmps16
  go_wp2_with ((go_at_call 8; refine (elm_Span _ _ _).mono ?_; rintro e w1 ⟨rfl, hb1⟩))
  have H0 : Below (w.alloc (.cells #[.int .i64 1, .int .i64 0] 3)).heap.size (w.alloc (.cells #[.int .i64 1, .int .i64 0] 3)) w1 := (by repeat (first | with_reducible exact Below.refl _ _ | with_reducible assumption | with_reducible refine Below.al ?_ _ | with_reducible refine Below.drew ?_ | with_reducible refine Below.st ?_ (by first | (simp; done) | assumption | (simp; omega)) _ | with_reducible refine Below.call ?_ (by with_reducible assumption) | exact Below.refl _ _ | assumption | refine Below.al ?_ _ | refine Below.drew ?_ | refine Below.call ?_ (by assumption) | refine Below.st ?_ (by first | (simp; done) | assumption | (simp; omega)) _))
  have b0 : w1.heap[w.heap.size]? = some (.cells #[.int .i64 1, .int .i64 0] 3 (0, 0)) := (H0.block _ (by simp)).trans (World.alloc_heap_new _ _)
  have hsw : w.heap.size < w1.heap.size := lt_blk b0
  have HW : Below w.heap.size w w1 := ((Below.refl _ w).al _).call H0
  refine (turn_Order tCs [1, 0] tCs_ok (some ⟨w1.heap.size, 0, none⟩) (some ⟨w.heap.size, 0, none⟩) 4 2 (by decide) _ (sl_tc _ _ (World.alloc_heap_new _ _)) (sl_ints _ _ [1, 0] ((heap_alloc_old w1 _ hsw).trans b0))).mono ?_
  rintro e w2 ⟨⟨v, rfl, ⟨A3, c3, rfl, hz⟩, -⟩, hb2⟩
  rw [tCs_ord] at hz ⊢
  have HW2 : Below w.heap.size w w2 := (HW.al _).call hb2
  clear H0 b0 hsw
  go_wp2_with fail
  refine (elm_Ints A3 (some ⟨w2.heap.size, 0, none⟩) c3 4 [2, 0, 1, 3] [2, 0, 1, 3] (by decide) _ (hz.below (by repeat (first | with_reducible exact Below.refl _ _ | with_reducible assumption | with_reducible refine Below.al ?_ _ | with_reducible refine Below.drew ?_ | with_reducible refine Below.st ?_ (by first | (simp; done) | assumption | (simp; omega)) _ | with_reducible refine Below.call ?_ (by with_reducible assumption) | exact Below.refl _ _ | assumption | refine Below.al ?_ _ | refine Below.drew ?_ | refine Below.call ?_ (by assumption) | refine Below.st ?_ (by first | (simp; done) | assumption | (simp; omega)) _))) (sl_ints _ _ [2, 0, 1, 3] (World.alloc_heap_new _ _)) rfl).mono ?_
  rintro e w3 ⟨rfl, hb3⟩
  go_wp2
  go_ret
  exact ⟨rfl, (HW2.al _).call hb3⟩
end Go.Proofs.Ytacellaeepngkaa
