/- Appends to a new slice in a drawn region. -/
import Derived.Test.YtacellaeepngkaaH1
import Derived.Test.YtacellaeepngkaaSF
namespace Go.Proofs.Ytacellaeepngkaa
set_option linter.unusedVariables false
set_option linter.unusedSimpArgs false
open Go.RowKit Go.Shelf

/-- The value is a slice of the call's own with these cells. -/
def OwnF (base : Nat) (e : TypeId) (size n : Nat) (ys : List Value) : Fact := fun v w => (∃ A c, v = .slice A n c) ∧ w.ownsRow base e size v n ys

theorem lasting_own {base : Nat} {e : TypeId} {size n : Nat} {ys : List Value} : Lasting (OwnF base e size n ys) := fun _ _ _ hb h => ⟨h.1, own_below h.2 hb⟩

/-- The value is a new empty slice. -/
def EmptyF (base : Nat) (e : TypeId) : Fact := fun v w => ∃ g, v = .slice (some ⟨g, 0, none⟩) 0 0 ∧ base ≤ g ∧ w.heap[g]? = some (.cells #[] e (0, 0))

theorem lasting_empty {base : Nat} {e : TypeId} : Lasting (EmptyF base e) := fun _ _ _ hb ⟨g, h1, h2, h3⟩ =>
  ⟨g, h1, h2, (hb.block g (Array.getElem?_eq_some_iff.1 h3).1).trans h3⟩

/-- The value points to a new block with these cells. -/
def CellsF (base : Nat) (cs : Array Value) (t : TypeId) : Fact := fun v w => ∃ g, v = .pointer (some ⟨g, 0, none⟩) ∧ base ≤ g ∧ w.heap[g]? = some (.cells cs t (0, 0))

theorem lasting_cells {base : Nat} {cs : Array Value} {t : TypeId} : Lasting (CellsF base cs t) := fun _ _ _ hb ⟨g, h1, h2, h3⟩ =>
  ⟨g, h1, h2, (hb.block g (Array.getElem?_eq_some_iff.1 h3).1).trans h3⟩

/-- The value is a new slice of n elements with these cells. -/
def SliceF (base n : Nat) (cs : Array Value) (t : TypeId) : Fact := fun v w => ∃ g, v = .slice (some ⟨g, 0, none⟩) n n ∧ base ≤ g ∧ w.heap[g]? = some (.cells cs t (0, 0))

theorem lasting_slice {base n : Nat} {cs : Array Value} {t : TypeId} : Lasting (SliceF base n cs t) := fun _ _ _ hb ⟨g, h1, h2, h3⟩ =>
  ⟨g, h1, h2, (hb.block g (Array.getElem?_eq_some_iff.1 h3).1).trans h3⟩

theorem softOp_slice {P : Program} {w : World} {o : Oper} {a : Act} {base n : Nat} {cs : Array Value} {t : TypeId} (hr : (execOp a.eval o).run P w = .ok (.value (.slice (some ⟨w.heap.size, 0, none⟩) n n)) (w.alloc (.cells cs t))) (hb : base ≤ w.heap.size) :
    softOp P o a w (SliceF base n cs t) :=
  softOp_val hr ((Below.refl _ _).al _) ⟨_, rfl, hb, World.alloc_heap_new _ _⟩

theorem grown_refl (w : World) (row : Option Nat) : w.grownBy w row := ⟨rfl, rfl, rfl, Nat.le_refl _, fun _ _ _ => rfl⟩

/-- A round that makes memory, appends to a row of its own and stores into block g. -/
theorem grown_step {V wr wk w3 : World} {g : Nat} {row : Option Nat} (h1 : V.grownBy wr (some g)) (h2 : Below wr.heap.size wr wk) (h3 : wk.grownBy w3 row) (hr : ∀ k, row = some k → V.heap.size ≤ k) (o : Nat) (u : Value) :
    V.grownBy (w3.setCell ⟨g, o, none⟩ u) (some g) := by
  have z1 := h1.size
  have z2 := h2.size
  have z3 := h3.size
  refine ⟨h3.os.trans (h2.os.trans h1.os), h3.tape.trans (h2.tape.trans h1.tape), h3.output.trans (h2.output.trans h1.output), by simp [World.setCell]; omega, fun k hk hne => ?_⟩
  have hkg : k ≠ g := fun e => hne (by rw [e])
  exact (Below.heap_setCell _ _ _ k hkg).trans ((h3.block k (by omega) (fun e => by have := hr k e.symm; omega)).trans ((h2.block k (by omega)).trans (h1.block k hk hne)))

theorem cell_blk {w : World} {g k : Nat} {cs : Array Value} {t : TypeId} {v : Value} (h : w.heap[g]? = some (.cells cs t (0, 0))) (hk : cs[k]? = some v) : w.cell? ⟨g, k, none⟩ = some v := by simp [World.cell?, h, hk]
theorem frozen_blk {w : World} {g k : Nat} {cs : Array Value} {t : TypeId} (h : w.heap[g]? = some (.cells cs t (0, 0))) : w.frozen? ⟨g, k, none⟩ = false := by simp [World.frozen?, h]
theorem lt_blk {w : World} {g : Nat} {o : Obj} (h : w.heap[g]? = some o) : g < w.heap.size := (Array.getElem?_eq_some_iff.1 h).1

theorem own_type {w : World} {base : Nat} {e : TypeId} {size : Nat} {v : Value} {n : Nat} {xs : List Value} (h : w.ownsRow base e size v n xs) {g : Nat} {cs : Array Value} {t : TypeId} (hg : w.heap[g]? = some (.cells cs t (0, 0))) (hne : e ≠ t) : v.ownBlock ≠ some g := by
  rcases h.2 with ⟨rfl, _⟩ | ⟨g', cap, cur, rfl, _, hgg, _⟩
  · simp [Value.ownBlock]
  · simp only [Value.ownBlock, ne_eq, Option.some.injEq]
    rintro rfl
    rw [hgg] at hg
    cases hg
    exact hne rfl

section
variable {P : Program} {w : World}

theorem softOp_alloc {o : Oper} {a : Act} {base : Nat} {cs : Array Value} {t : TypeId} (hr : (execOp a.eval o).run P w = .ok (.value (.pointer (some ⟨w.heap.size, 0, none⟩))) (w.alloc (.cells cs t))) (hb : base ≤ w.heap.size) :
    softOp P o a w (CellsF base cs t) :=
  softOp_val hr ((Below.refl _ _).al _) ⟨_, rfl, hb, World.alloc_heap_new _ _⟩

theorem softOp_new {o : Oper} {a : Act} {base : Nat} {e : TypeId} (hr : (execOp a.eval o).run P w = .ok (.value (.slice (some ⟨w.heap.size, 0, none⟩) 0 0)) (w.alloc (.cells #[] e))) (hb : base ≤ w.heap.size) :
    softOp P o a w (EmptyF base e) :=
  softOp_val hr ((Below.refl _ _).al _) ⟨_, rfl, hb, World.alloc_heap_new _ _⟩

theorem below_setRow (w : World) (g : Nat) (cur : Array Value) (t : TypeId) (fr : Nat × Nat) (hg : w.heap[g]? = some (.cells cur t fr)) : Below w.heap.size w (w.setRow g cur) :=
  ⟨rfl, rfl, rfl, by simp [World.setRow], fun k _ => by
    by_cases h : k = g
    · subst h; rw [setRow_heap w k cur cur t fr hg, hg]
    · exact setRow_other w g k cur h⟩

theorem run_append_new {α : Type} (base : Nat) (t ty e : TypeId) (i : TypeInfo) (z : Value) (size bytes : Nat) (ht : P.underlying t = some (.slice e)) (hi : P.info? e = some i) (hz : i.zero = some z)
    (hsize : i.size = size) (hby : i.bytes = bytes) (hzs : z.cells.size = size) (hsz : 0 < size)
    {v0 : Value} (h0 : EmptyF base e v0 w) (A : Option Addr) (c : Nat) (enc : α → List Value) (xs : List α) (he : ∀ x, (enc x).length = size) (h1 : ∀ x, ∀ u ∈ enc x, u.oneCell' = true)
    (hsl : Sl w A size enc xs) (h63 : xs.length ≤ maxLen) (hbytes : xs.length * bytes ≤ 140737488355328) (hbase : base ≤ w.heap.size) :
    ∃ v' w', (Builtin.append_ #[t, t] ty #[v0, .slice A xs.length c]).run P w = .ok v' w' ∧ OwnF base e size xs.length (xs.flatMap enc) v' w' ∧ Below w.heap.size w w' := by
  obtain ⟨g, rfl, hbg, hg⟩ := h0
  have hone : ∀ u ∈ xs.flatMap enc, u.oneCell' = true := by
    intro u hu
    obtain ⟨x, _, hx⟩ := List.mem_flatMap.1 hu
    exact h1 x u hx
  have hown : w.ownsRow base e size (.slice (some ⟨g, 0, none⟩) 0 0) 0 [] := ⟨by simp, .inr ⟨g, 0, #[], rfl, hbg, hg, Nat.le_refl _, by unfold maxLen; omega, by simp, by simp⟩⟩
  by_cases hx : 0 < xs.length
  · obtain ⟨b, off, rfl, hl, hc⟩ := hsl hx
    have hnews : ∀ j u, (xs.flatMap enc)[j]? = some u → w.cell? ((⟨b, off, none⟩ : Addr).add j) = some u := fun j u hu => by
      obtain ⟨k, x, r, hk, hr, rfl⟩ := flat_get he xs j u hu
      have := hc k x hk r u hr
      have hadd : (⟨b, off, none⟩ : Addr).add (k * size + r) = ⟨b, off + k * size + r, none⟩ := by unfold Addr.add; split <;> simp_all <;> omega
      rw [hadd]; exact this
    subst hsize
    subst hby
    have hr := run_append_grow (P := P) w t ty e i z ht hi hz ⟨g, 0, none⟩ 0 0 [] (by simp) (by simp) ⟨b, off, none⟩ xs.length c (xs.flatMap enc) (flat_len he xs) hnews (by omega) (by simp only [maxLen] at h63; omega) (growslice_fits (by omega) (by simpa using hbytes))
    simp only [Nat.zero_add, Array.empty_append] at hr
    refine ⟨_, _, hr, ⟨⟨_, _, rfl⟩, flat_len he xs, .inr ⟨w.heap.size, _, _, rfl, hbase, heap_alloc_new w.drew _, grownCap_ge _ _ _ _, grownCap_le_maxLen _ _ _ _ h63, ?_, ?_⟩⟩, (Below.refl _ _).drew.alloc (Nat.le_refl _) _⟩
    · have hge := grownCap_ge w xs.length 0 e
      simp only [Array.size_append, List.size_toArray, size_zeroCells, hzs, flat_len he, ← Nat.add_mul]
      congr 1
      omega
    · rw [← flat_len he xs]
      simp
  · have e0 : xs = [] := List.eq_nil_of_length_eq_zero (by omega)
    subst e0
    cases A with
    | none => exact ⟨_, _, run_append_none' base t ty e i size ht hi _ 0 [] hown c, ⟨⟨_, _, rfl⟩, by simpa using hown⟩, Below.refl _ _⟩
    | some ad =>
      subst hsize
      have hr := run_append_room (P := P) w t ty e i ht hi g 0 0 #[] hg ad 0 c [] (by simp) (by simp) (by simp) (by simp) (by simp)
      refine ⟨_, _, hr, ⟨⟨_, _, rfl⟩, ?_⟩, ?_⟩
      · exact ⟨by simp, .inr ⟨g, 0, #[], rfl, hbg, by simpa using setRow_heap w g #[] #[] e (0, 0) hg, Nat.le_refl _, by unfold maxLen; omega, by simp, by simp⟩⟩
      · simpa using below_setRow w g #[] e (0, 0) hg

theorem softOp_app {α : Type} {o : Oper} {a : Act} (s x : Operand) (t : TypeId)
    (ho : o.op = .call { callee := .builtin .append, args := #[s, x], argTypes := #[t, t] })
    (base : Nat) (e : TypeId) (i : TypeInfo) (z : Value) (size bytes : Nat) (ht : P.underlying t = some (.slice e)) (hi : P.info? e = some i) (hz : i.zero = some z)
    (hsize : i.size = size) (hby : i.bytes = bytes) (hzs : z.cells.size = size) (hsz : 0 < size)
    (A : Option Addr) (c : Nat) (enc : α → List Value) (xs : List α) (he : ∀ x, (enc x).length = size) (h1 : ∀ x, ∀ u ∈ enc x, u.oneCell' = true) (h63 : xs.length ≤ maxLen) (hbytes : xs.length * bytes ≤ 140737488355328)
    {v0 : Value} (h0 : EmptyF base e v0 w) (hs : a.eval s = v0) (hx : a.eval x = .slice A xs.length c)
    (hsl : Sl w A size enc xs) (hbase : base ≤ w.heap.size) : softOp P o a w (OwnF base e size xs.length (xs.flatMap enc)) := by
  obtain ⟨v', w', hr, h2, h3⟩ := run_append_new base t o.type e i z size bytes ht hi hz hsize hby hzs hsz h0 A c enc xs he h1 hsl h63 hbytes hbase
  refine softOp_val (v := v') (w' := w') ?_ h3 h2
  unfold execOp
  simp only [ho, resolve, invoke, builtin, Sem.run_bind, Sem.run_pure, Result.andThen_ok, List.map_toArray, List.map_cons, List.map_nil, hs, hx, hr]
end
end Go.Proofs.Ytacellaeepngkaa
