/- Facts for the soft law with a writer; blocks that are known whole. -/
import Derived.Test.YtacellaeepngkaaSFR
namespace Go.Proofs.Ytacellaeepngkaa
set_option linter.unusedVariables false
set_option linter.unusedSimpArgs false
open Go.RowKit Go.Shelf

theorem own_stp {w w' : World} {B base : Nat} {t e : TypeId} {size : Nat} {v : Value} {n : Nat} {xs : List Value} (hne : e ≠ t) (hs : Stp B t w w') (h : w.ownsRow base e size v n xs) : w'.ownsRow base e size v n xs := by
  refine ⟨h.1, ?_⟩
  rcases h.2 with h0 | ⟨g, cap, cur, rfl, hg, hcur, hnc, hcap, hcs, htk⟩
  · exact .inl h0
  · refine .inr ⟨g, cap, cur, rfl, hg, ?_, hnc, hcap, hcs, htk⟩
    rcases hs.block g (lt_blk hcur) with h | ⟨_, cs, cs', h1, _⟩
    · exact h.trans hcur
    · rw [hcur] at h1
      cases h1
      exact absurd rfl hne

theorem lastR_own {B wI i base : Nat} {t e : TypeId} {size n : Nat} {ys : List Value} (hne : e ≠ t) : LastR B wI t i fun v w => OwnF base e size n ys (v i) w :=
  lastR_of fun v w w' hs h => ⟨h.1, own_stp hne hs h.2⟩

/-- The value points to a new block of n cells. -/
def PtrF (base n : Nat) (t : TypeId) : Fact := fun v w => ∃ g cs, v = .pointer (some ⟨g, 0, none⟩) ∧ base ≤ g ∧ w.heap[g]? = some (.cells cs t (0, 0)) ∧ cs.size = n

theorem lastR_ptr {B wI i base n : Nat} {t t' : TypeId} : LastR B wI t i fun v w => PtrF base n t' (v i) w :=
  lastR_of fun v w w' hs ⟨g, cs, h1, h2, h3, h4⟩ => by
    rcases hs.block g (lt_blk h3) with h | ⟨_, cs1, cs2, e1, e2, e3⟩
    · exact ⟨g, cs, h1, h2, h.trans h3, h4⟩
    · rw [h3] at e1
      cases e1
      exact ⟨g, cs2, h1, h2, e2, e3.trans h4⟩

theorem heap_setCell_at {w : World} {g k : Nat} {cs : Array Value} {t : TypeId} {v : Value} (h : w.heap[g]? = some (.cells cs t (0, 0))) : (w.setCell ⟨g, k, none⟩ v).heap[g]? = some (.cells (cs.setIfInBounds k v) t (0, 0)) := by
  obtain ⟨hlt, hv⟩ := Array.getElem?_eq_some_iff.1 h
  simp [World.setCell, hlt, Array.getElem_modify, hv]

theorem stp_setCell {B g k n : Nat} {t : TypeId} {w w1 : World} {cs : Array Value} {v : Value} (hB : B ≤ g) (hs : Stp B t w w1) (hg : g < w.heap.size) (h0 : ∃ cs, w.heap[g]? = some (.cells cs t (0, 0)) ∧ cs.size = n) (h : w1.heap[g]? = some (.cells cs t (0, 0))) (hn : cs.size = n) : Stp B t w (w1.setCell ⟨g, k, none⟩ v) := by
  refine ⟨hs.os, hs.tape, hs.output, by simp [World.setCell]; exact hs.size, fun j hj => ?_⟩
  by_cases e : j = g
  · subst e
    obtain ⟨cs0, h1, h2⟩ := h0
    exact .inr ⟨hB, cs0, _, h1, heap_setCell_at h, by simp [hn, h2]⟩
  · rcases hs.block j hj with h | ⟨hb, c1, c2, e1, e2, e3⟩
    · exact .inl ((Below.heap_setCell _ _ _ j e).trans h)
    · exact .inr ⟨hb, c1, c2, e1, (Below.heap_setCell _ _ _ j e).trans e2, e3⟩

/-- Two rows of different element types lie in different blocks. -/
theorem own_ne {w : World} {b1 b2 : Nat} {e1 e2 : TypeId} {s1 s2 : Nat} {v1 v2 : Value} {n1 n2 : Nat} {xs ys : List Value} (h1 : w.ownsRow b1 e1 s1 v1 n1 xs) (h2 : w.ownsRow b2 e2 s2 v2 n2 ys) (hne : e1 ≠ e2) : v1.ownBlock = none ∨ v1.ownBlock ≠ v2.ownBlock := by
  rcases h1.2 with ⟨rfl, _⟩ | ⟨g, cap, cur, rfl, hg, hcur, _⟩
  · exact .inl rfl
  · right
    rcases h2.2 with ⟨rfl, _⟩ | ⟨g', cap', cur', rfl, hg', hcur', _⟩
    · simp [Value.ownBlock]
    · simp only [Value.ownBlock, ne_eq, Option.some.injEq]
      rintro rfl
      rw [hcur] at hcur'
      cases hcur'
      exact hne rfl

theorem grown_blk {w w' : World} {row : Option Nat} {g : Nat} {o : Obj} (hg : w.grownBy w' row) (h : w.heap[g]? = some o) (hne : row ≠ some g) : w'.heap[g]? = some o :=
  (hg.block g (lt_blk h) (fun e => hne e.symm)).trans h
theorem below_blk {B : Nat} {w w' : World} {g : Nat} {o : Obj} (hb : Below B w w') (h : w.heap[g]? = some o) (hg : g < B) : w'.heap[g]? = some o := (hb.block g hg).trans h
theorem later_blk {w w' : World} {g : Nat} {o : Obj} (hb : Below w.heap.size w w') (h : w.heap[g]? = some o) : w'.heap[g]? = some o := (hb.block g (lt_blk h)).trans h
theorem setCell_blk {w : World} {g b k : Nat} {o : Obj} {v : Value} (h : w.heap[g]? = some o) (hne : g ≠ b) : (w.setCell ⟨b, k, none⟩ v).heap[g]? = some o := (Below.heap_setCell _ _ _ g hne).trans h
end Go.Proofs.Ytacellaeepngkaa
