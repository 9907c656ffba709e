/- Yields of operations that make memory, for SX's law. -/
import Derived.Test.YtacellaeepngkaaSX
namespace Go.Proofs.Ytacellaeepngkaa
set_option linter.unusedVariables false
set_option linter.unusedSimpArgs false
open Go.RowKit Go.Shelf

section
variable {P : Program} {B k : Nat} {wr : Option (Nat × TypeId)} {o : Oper} {ρ : Operand → Value} {w : World} {base : Nat}

theorem yx_slice {n : Nat} {cs : Array Value} {t : TypeId} (hr : (execOp ρ o).run P w = .ok (.value (.slice (some ⟨w.heap.size, 0, none⟩) n n)) (w.alloc (.cells cs t))) (hb : base ≤ w.heap.size) : yieldX B wr k P o ρ w (SliceF base n cs t) :=
  yx_val hr ((Below.refl _ _).al _) ⟨_, rfl, hb, World.alloc_heap_new _ _⟩
theorem yx_alloc {cs : Array Value} {t : TypeId} (hr : (execOp ρ o).run P w = .ok (.value (.pointer (some ⟨w.heap.size, 0, none⟩))) (w.alloc (.cells cs t))) (hb : base ≤ w.heap.size) : yieldX B wr k P o ρ w (CellsF base cs t) :=
  yx_val hr ((Below.refl _ _).al _) ⟨_, rfl, hb, World.alloc_heap_new _ _⟩
theorem yx_ptr {cs : Array Value} {n : Nat} {t : TypeId} (hn : cs.size = n) (hr : (execOp ρ o).run P w = .ok (.value (.pointer (some ⟨w.heap.size, 0, none⟩))) (w.alloc (.cells cs t))) (hb : base ≤ w.heap.size) : yieldX B wr k P o ρ w (PtrF base n t) :=
  yx_val hr ((Below.refl _ _).al _) ⟨_, cs, rfl, hb, World.alloc_heap_new _ _, hn⟩
theorem yx_new {e : TypeId} (hr : (execOp ρ o).run P w = .ok (.value (.slice (some ⟨w.heap.size, 0, none⟩) 0 0)) (w.alloc (.cells #[] e))) (hb : base ≤ w.heap.size) : yieldX B wr k P o ρ w (EmptyF base e) :=
  yx_val hr ((Below.refl _ _).al _) ⟨_, rfl, hb, World.alloc_heap_new _ _⟩
theorem yx_app {α : Type} (s x : Operand) (t : TypeId)
    (ho : o.op = .call { callee := .builtin .append, args := #[s, x], argTypes := #[t, t] })
    (e : TypeId) (i : TypeInfo) (z : Value) (size bytes : Nat) (ht : P.underlying t = some (.slice e)) (hi : P.info? e = some i) (hz : i.zero = some z)
    (hsize : i.size = size) (hby : i.bytes = bytes) (hzs : z.cells.size = size) (hsz : 0 < size)
    (A : Option Addr) (c : Nat) (enc : α → List Value) (xs : List α) (he : ∀ x, (enc x).length = size) (h1 : ∀ x, ∀ u ∈ enc x, u.oneCell' = true) (h63 : xs.length ≤ maxLen) (hbytes : xs.length * bytes ≤ 140737488355328)
    {v0 : Value} (h0 : EmptyF base e v0 w) (hs : ρ s = v0) (hx : ρ x = .slice A xs.length c)
    (hsl : Sl w A size enc xs) (hbase : base ≤ w.heap.size) : yieldX B wr k P o ρ w (OwnF base e size xs.length (xs.flatMap enc)) := by
  obtain ⟨v', w', hr, h2, h3⟩ := run_append_new base t o.type e i z size bytes ht hi hz hsize hby hzs hsz h0 A c enc xs he h1 hsl h63 hbytes hbase
  refine yx_val (v := v') (w' := w') ?_ h3 h2
  unfold execOp
  simp only [ho, resolve, invoke, builtin, Sem.run_bind, Sem.run_pure, Result.andThen_ok, List.map_toArray, List.map_cons, List.map_nil, hs, hx, hr]
end

theorem cells4 {w : World} {g : Nat} {t : TypeId} {x0 x1 x2 x3 : Value} (h : w.heap[g]? = some (.cells #[x0, x1, x2, x3] t (0, 0))) :
    w.cell? ⟨g, 0, none⟩ = some x0 ∧ w.cell? ⟨g, 1, none⟩ = some x1 ∧ w.cell? ⟨g, 2, none⟩ = some x2 ∧ w.cell? ⟨g, 3, none⟩ = some x3 ∧ ∀ k, w.frozen? ⟨g, k, none⟩ = false :=
  ⟨cell_blk h rfl, cell_blk h rfl, cell_blk h rfl, cell_blk h rfl, fun _ => frozen_blk h⟩

theorem cells2 {w : World} {g : Nat} {t : TypeId} {x0 x1 : Value} (h : w.heap[g]? = some (.cells #[x0, x1] t (0, 0))) :
    w.cell? ⟨g, 0, none⟩ = some x0 ∧ w.cell? ⟨g, 1, none⟩ = some x1 ∧ ∀ k, w.frozen? ⟨g, k, none⟩ = false :=
  ⟨cell_blk h rfl, cell_blk h rfl, fun _ => frozen_blk h⟩

theorem size4 {cs : Array Value} (h : cs.size = 4) : ∃ y0 y1 y2 y3, cs = #[y0, y1, y2, y3] := by
  obtain ⟨l⟩ := cs
  match l, h with
  | [y0, y1, y2, y3], _ => exact ⟨y0, y1, y2, y3, rfl⟩

/-- A store of four cells into a new block of the writer's type. -/
theorem store4 {B g : Nat} {t : TypeId} {w : World} {y0 y1 y2 y3 : Value} (x0 x1 x2 x3 : Value) (hB : B ≤ g) (h : w.heap[g]? = some (.cells #[y0, y1, y2, y3] t (0, 0))) :
    Stp B t w ((((w.setCell ⟨g, 0, none⟩ x0).setCell ⟨g, 1, none⟩ x1).setCell ⟨g, 2, none⟩ x2).setCell ⟨g, 3, none⟩ x3) ∧
      ((((w.setCell ⟨g, 0, none⟩ x0).setCell ⟨g, 1, none⟩ x1).setCell ⟨g, 2, none⟩ x2).setCell ⟨g, 3, none⟩ x3).heap[g]? = some (.cells #[x0, x1, x2, x3] t (0, 0)) := by
  have hg := lt_blk h
  have h0 := heap_setCell_at (k := 0) (v := x0) h
  have h1 := heap_setCell_at (k := 1) (v := x1) h0
  have h2 := heap_setCell_at (k := 2) (v := x2) h1
  have h3 := heap_setCell_at (k := 3) (v := x3) h2
  have hz : ∃ cs, w.heap[g]? = some (.cells cs t (0, 0)) ∧ cs.size = 4 := ⟨_, h, rfl⟩
  have s0 := stp_setCell (n := 4) (k := 0) (v := x0) hB (stp_below (Below.refl _ w)) hg hz h rfl
  have s1 := stp_setCell (n := 4) (k := 1) (v := x1) hB s0 hg hz h0 (by simp)
  have s2 := stp_setCell (n := 4) (k := 2) (v := x2) hB s1 hg hz h1 (by simp)
  have s3 := stp_setCell (n := 4) (k := 3) (v := x3) hB s2 hg hz h2 (by simp)
  exact ⟨s3, by simpa using h3⟩
end Go.Proofs.Ytacellaeepngkaa
