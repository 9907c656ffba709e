/- A range over a function: the iterator may keep memory of its own; the loop's body writes only to some blocks that lay before the loop. -/
import Derived.Test.YtacellaeepngkaaA0
import Derived.RangeFuncBox
namespace Go.Proofs.Ytacellaeepngkaa
set_option linter.unusedVariables false
set_option linter.unusedSimpArgs false
open Go.RowKit Go.Shelf

/-- All but the blocks S lies as it lay. -/
structure Kept (S : Nat → Prop) (A B : World) : Prop where
  size : A.heap.size ≤ B.heap.size
  same : ∀ k o, A.heap[k]? = some o → ¬ S k → B.heap[k]? = some o

/-- Not the record of a loop over an iterator. -/
def notLoop : Obj → Bool
  | .loop _ => false
  | _ => true

/-- All but the blocks S and the records of loops lies as it lay. -/
structure Keep (S : Nat → Prop) (A B : World) : Prop where
  size : A.heap.size ≤ B.heap.size
  same : ∀ k o, A.heap[k]? = some o → notLoop o = true → ¬ S k → B.heap[k]? = some o

theorem Kept.keep {S : Nat → Prop} {A B : World} (h : Kept S A B) : Keep S A B := ⟨h.size, fun k o hk _ hs => h.same k o hk hs⟩
theorem Kept.refl (S : Nat → Prop) (A : World) : Kept S A A := ⟨Nat.le_refl _, fun _ _ h _ => h⟩
theorem Kept.trans {S : Nat → Prop} {A B C : World} (h : Kept S A B) (k : Kept S B C) : Kept S A C := ⟨Nat.le_trans h.size k.size, fun i o hi hs => k.same i o (h.same i o hi hs) hs⟩
theorem Keep.refl (S : Nat → Prop) (A : World) : Keep S A A := (Kept.refl S A).keep
theorem Keep.trans {S : Nat → Prop} {A B C : World} (h : Keep S A B) (k : Keep S B C) : Keep S A C := ⟨Nat.le_trans h.size k.size, fun i o hi hc hs => k.same i o (h.same i o hi hc hs) hc hs⟩
theorem lt_of_get {A : World} {k : Nat} {o : Obj} (h : A.heap[k]? = some o) : k < A.heap.size := (Array.getElem?_eq_some_iff.1 h).1
theorem Kept.below {S : Nat → Prop} {A B : World} (h : Below A.heap.size A B) : Kept S A B := ⟨h.size, fun k o hk _ => (h.block k (lt_of_get hk)).trans hk⟩
theorem Kept.al {S : Nat → Prop} {A B : World} (h : Kept S A B) (o : Obj) : Kept S A (B.alloc o) := h.trans (Kept.below ((Below.refl _ _).alloc (Nat.le_refl _) _))
theorem Kept.call {S : Nat → Prop} {A B C : World} (h : Kept S A B) (hb : Below B.heap.size B C) : Kept S A C := h.trans (Kept.below hb)
theorem Kept.st {S : Nat → Prop} {A B : World} (h : Kept S A B) {b o : Nat} (hs : S b) (v : Value) : Kept S A (B.setCell ⟨b, o, none⟩ v) :=
  h.trans ⟨by simp [World.setCell], fun k ob hk hn => by rw [Below.heap_setCell _ _ _ k (fun e => hn (by rw [e]; exact hs))]; exact hk⟩
theorem Kept.dr {S : Nat → Prop} {A B : World} (h : Kept S A B) : Kept S A B.drew := ⟨h.size, h.same⟩
theorem Kept.grown {S : Nat → Prop} {A B C : World} (h : Kept S A B) {row : Option Nat} (hg : B.grownBy C row) (hr : ∀ k, row = some k → S k) : Kept S A C :=
  h.trans ⟨hg.size, fun k o hk hn => (hg.block k (lt_of_get hk) (fun e => hn (hr k e.symm))).trans hk⟩
theorem Keep.putRec {S : Nat → Prop} {A : World} {l : Nat} {o o' : Obj} (h : A.heap[l]? = some o) (hc : notLoop o = false) : Keep S A (A.putObj l o') :=
  ⟨by simp, fun k u hk hu _ => by
    have : k ≠ l := fun e => by subst e; rw [h] at hk; cases hk; rw [hc] at hu; cases hu
    rw [World.putObj_heap_other this]; exact hk⟩
theorem get_of_cell {A : World} {b o : Nat} {v : Value} (h : A.cell? ⟨b, o, none⟩ = some v) : ∃ ob, A.heap[b]? = some ob ∧ notLoop ob = true := by
  unfold World.cell? at h
  simp only at h
  split at h
  · rename_i ob hb
    exact ⟨_, hb, rfl⟩
  · cases h
theorem Keep.cell {S : Nat → Prop} {A B : World} (h : Keep S A B) {b o : Nat} {v : Value} (hs : ¬ S b) (hc : A.cell? ⟨b, o, none⟩ = some v) : B.cell? ⟨b, o, none⟩ = some v := by
  obtain ⟨ob, hb, hcl⟩ := get_of_cell hc
  rw [← hc]
  exact World.cell?_of_block (by rw [hb]; exact h.same b ob hb hcl hs)
theorem Keep.free {S : Nat → Prop} {A B : World} (h : Keep S A B) {b o : Nat} {v : Value} (hs : ¬ S b) (hc : A.cell? ⟨b, o, none⟩ = some v) : B.frozen? ⟨b, o, none⟩ = A.frozen? ⟨b, o, none⟩ := by
  obtain ⟨ob, hb, hcl⟩ := get_of_cell hc
  exact World.frozen?_of_block (by rw [hb]; exact h.same b ob hb hcl hs)

/-- It speaks of what lies below B alone. -/
def Stable (B : Nat) (J : World → Prop) : Prop := ∀ A C, J A → B ≤ A.heap.size → Below B A C → J C

section
variable {P : Program}
/-- An iterator that hands xs to yield; the loop's body may write the blocks S. -/
def Seq {α : Type} (P : Program) (g : Nat) (lb : Array Value) (encs : α → Array Value) (S : Nat → Prop) (xs : List α) (w : World) : Prop :=
  ∀ (l : Nat) (J Jx : List α → World → Prop) (W : World), Below w.heap.size w W → (∀ s, Stable W.heap.size (J s)) → (∀ s, Stable W.heap.size (Jx s)) → (∀ k, S k → k < W.heap.size) →
    (∀ pre x rest W1, xs = pre ++ x :: rest → J pre W1 → W.heap.size ≤ W1.heap.size → YieldAt Fence.wide 19 P l (encs x) W1 fun e W' =>
      (e = .returned (.bool true) ∧ J (pre ++ [x]) W' ∧ Keep S W1 W') ∨ (e = .returned (.bool false) ∧ Jx (pre ++ [x]) W' ∧ W1.heap.size ≤ W'.heap.size)) →
    J [] W →
    CallsIn Fence.wide 20 P g (#[.func (.yield l) #[] #[]] ++ lb) W fun e W' => (∃ v, e = .returned v) ∧ W.heap.size ≤ W'.heap.size ∧ (J xs W' ∨ ∃ pre, pre <+: xs ∧ Jx pre W')

/-- How a round's body may be left. -/
def bodyPostK {α : Type} (S : Nat → Prop) (I : List α → World → Prop) (Ix : Code → List α → World → Prop) (xs : List α) (W : World) : Exit → Act → World → Prop
  | .normal, _, W' => Kept S W W' ∧ I xs W'
  | .ret, _, W' => Kept S W W' ∧ Ix .ret xs W'
  | .exit id, _, W' => Kept S W W' ∧ Ix (.exit id) xs W'
  | .goto t, _, W' => Kept S W W' ∧ Ix (.goto t) xs W'
  | .panic _, _, _ => False
  | .outgrown, _, _ => False

theorem Stable.put {B : Nat} {J : World → Prop} (h : Stable B J) {A : World} (hJ : J A) (hB : B ≤ A.heap.size) {l : Nat} (hl : B ≤ l) (o : Obj) : J (A.putObj l o) :=
  h A _ hJ hB ⟨rfl, rfl, rfl, by simp, fun k hk => World.putObj_heap_other (by omega)⟩

theorem range_law {α : Type} {g : Operand} {ps : Array Tmp} {assign body : Code} {Q : Exit → Act → World → Prop} {a : Act} {w : World} {gf : Nat} {lb : Array Value} (hg : a.eval g = .func (.func gf) #[] lb)
    (eg : ∀ args w, (callFunc gf args).run P w = .ok (.enter gf args) w) {encs : α → Array Value} {S : Nat → Prop} {xs : List α} {w0 : World} (hseq : Seq P gf lb encs S xs w0) (hb0 : Below w0.heap.size w0 w)
    (hps : ∀ x, (encs x).size = ps.size) (hS : ∀ k, S k → k < w.heap.size) (I : List α → World → Prop) (Ix : Code → List α → World → Prop) (hI : ∀ s, Stable w.heap.size (I s)) (hIx : ∀ c s, Stable w.heap.size (Ix c s)) (h0 : I [] w)
    (Ax : α → Act → World → Prop) (hAx : ∀ x a' W l r o, W.heap[l]? = some (.loop r) → Ax x a' W → Ax x a' (W.putObj l o))
    (hassign : ∀ (l : Nat) pre x rest (W : World) (K : Act → World → Prop), xs = pre ++ x :: rest → I pre W → w.heap.size ≤ W.heap.size → (∀ a' W', Kept S W W' → I pre W' → Ax x a' W' → K a' W') →
      assign.wpIn (Fence.wide.inRound l) 19 P (Exit.then K (fun _ _ _ => False)) { tmps := (ps.zip (encs x)).foldl (fun t (p, v) => t.setIfInBounds p v) a.tmps, defers := [] } W)
    (hbody : ∀ (l : Nat) pre x rest (a' : Act) (W : World), xs = pre ++ x :: rest → I pre W → w.heap.size ≤ W.heap.size → Ax x a' W → body.wpIn (Fence.wide.inRound l) 19 P (bodyPostK S I Ix (pre ++ [x]) W) a' W)
    (hdone : ∀ (D : Nat) (W : World), w.heap.size ≤ D → w.heap.size ≤ W.heap.size → I xs W → W.heap[D]? = some (.deferred (some [])) → Q .normal { a with defers := { target := .collected D, args := #[] } :: a.defers } W)
    (hstop : ∀ (D : Nat) (c : Code) (pre : List α) (W : World), w.heap.size ≤ D → w.heap.size ≤ W.heap.size → pre <+: xs → Ix c pre W → W.heap[D]? = some (.deferred (some [])) → c.wpIn Fence.wide 21 P Q { a with defers := { target := .collected D, args := #[] } :: a.defers } W) :
    (Code.rangeFunc g ps assign body).wpIn Fence.wide 21 P Q a w := by
  refine wpIn_rangeFunc (fun fn hfn => ?_)
  obtain ⟨rec, hrec⟩ : ∃ rec : LoopState → Option Code → Loop, rec = fun st pe => { state := st, pending := pe, fn, tmps := a.tmps, params := ps, assign, body, defers := w.heap.size } := ⟨_, rfl⟩
  obtain ⟨W1, hW1⟩ : ∃ W1, (w.alloc (.deferred (some []))).alloc (.loop (rec .ready none)) = W1 := ⟨_, rfl⟩
  have hbW : Below w.heap.size w W1 := by rw [← hW1]; exact ((Below.refl _ w).al _).al _
  have hsz : W1.heap.size = w.heap.size + 2 := by rw [← hW1]; simp
  have hL1 : W1.heap[w.heap.size + 1]? = some (.loop (rec .ready none)) := by
    rw [← hW1]; have := World.alloc_heap_new (w.alloc (.deferred (some []))) (.loop (rec .ready none)); rwa [World.size_alloc] at this
  have hK1 : W1.heap[w.heap.size]? = some (.deferred (some [])) := by
    rw [← hW1]; exact (Below.heap_alloc _ _ _ (by simp)).trans (World.alloc_heap_new w _)
  refine ⟨w.heap.size + 1, [{ target := .collected w.heap.size, args := #[] }], W1, { target := .fn (.func gf) lb, args := #[.func (.yield (w.heap.size + 1)) #[] #[]] }, W1, gf,
    #[.func (.yield (w.heap.size + 1)) #[] #[]] ++ lb, W1, ?_, ?_, fun _ _ => trivial, ?_, fun h => (by simp [Fence.wide] at h), ?_⟩
  · rw [← hW1, hrec]; exact run_enterLoop_outer _ _ _ _ _
  · simp only [resolve, hg]; simp [go_sem]
  · simp [invoke, go_sem, eg]
  have stJ : ∀ (F : World → Prop) (o : Obj), Stable w.heap.size F → Stable W1.heap.size (fun W => F W ∧ W.heap[w.heap.size + 1]? = some o ∧ W.heap[w.heap.size]? = some (.deferred (some []))) := by
    intro F o hF A C hA hsA hb
    rw [hsz] at hsA hb
    exact ⟨hF A C hA.1 (by omega) (hb.mono (by omega)), (hb.block _ (by omega)).trans hA.2.1, (hb.block _ (by omega)).trans hA.2.2⟩
  refine (hseq (w.heap.size + 1)
    (fun pre W => I pre W ∧ W.heap[w.heap.size + 1]? = some (.loop (rec .ready none)) ∧ W.heap[w.heap.size]? = some (.deferred (some [])))
    (fun pre W => ∃ c, Ix c pre W ∧ W.heap[w.heap.size + 1]? = some (.loop (rec .done (some c))) ∧ W.heap[w.heap.size]? = some (.deferred (some [])))
    W1 (hb0.trans (hbW.mono hb0.size)) (fun s => stJ _ _ (hI s)) (fun s A C hA hsA hb => ?_) (fun k hk => by have := hS k hk; omega) ?_ ⟨(hI []) w W1 h0 (Nat.le_refl _) hbW, hL1, hK1⟩).mono ?_
  · obtain ⟨c, hc⟩ := hA
    exact ⟨c, stJ _ _ (hIx c s) A C hc hsA hb⟩
  · rintro pre x rest W hxs ⟨hi, hl, hk⟩ hsW
    have hy := run_yield (P := P) (args := encs x) hl (by rw [hrec]; exact hps x)
    rw [hrec] at hy
    refine ⟨fn, _, assign, body, hy, roundIn_of_wpIn hfn (hassign _ pre x rest W _ hxs hi (by omega) (fun a' W' hkp hi' hax => ?_))⟩
    have nS : ∀ k, w.heap.size ≤ k → ¬ S k := fun k hk hs => by have := hS k hs; omega
    have hl' := hkp.same _ _ hl (nS _ (by omega))
    have hk' := hkp.same _ _ hk (nS _ (by omega))
    have hs' := hkp.size
    refine ⟨_, run_beginRound hl' (by rw [hrec]), ?_⟩
    have hl2 : (W'.putObj (w.heap.size + 1) (.loop { rec .ready none with state := .busy })).heap[w.heap.size + 1]? = some (.loop { rec .ready none with state := .busy }) := World.putObj_heap_same (lt_of_get hl')
    have hk2 : (W'.putObj (w.heap.size + 1) (.loop { rec .ready none with state := .busy })).heap[w.heap.size]? = some (.deferred (some [])) := (World.putObj_heap_other (by omega)).trans hk'
    refine wpIn_mono (hbody _ pre x rest a' _ hxs ((hI pre).put hi' (by omega) (by omega) _) (by simp; omega) (hAx x a' W' _ _ _ hl' hax)) ?_
    have fin : ∀ (jump : Option Code) (W3 : World), Kept S (W'.putObj (w.heap.size + 1) (.loop { rec .ready none with state := .busy })) W3 →
        (Instr.endRound (w.heap.size + 1) jump).run P W3 = .ok (.bool jump.isNone) (W3.putObj (w.heap.size + 1) (.loop (rec (if jump.isNone then .ready else .done) jump))) ∧
        (W3.putObj (w.heap.size + 1) (.loop (rec (if jump.isNone then .ready else .done) jump))).heap[w.heap.size + 1]? = some (.loop (rec (if jump.isNone then .ready else .done) jump)) ∧
        (W3.putObj (w.heap.size + 1) (.loop (rec (if jump.isNone then .ready else .done) jump))).heap[w.heap.size]? = some (.deferred (some [])) ∧
        Keep S W (W3.putObj (w.heap.size + 1) (.loop (rec (if jump.isNone then .ready else .done) jump))) ∧ W.heap.size ≤ W3.heap.size := fun jump W3 hk3 => by
      have hl3 := hk3.same _ _ hl2 (nS _ (by omega))
      have hr := run_endRound (P := P) jump hl3
      have hsz3 := hk3.size
      simp only [World.putObj_size] at hsz3
      refine ⟨by rw [hrec] at hr ⊢; exact hr, World.putObj_heap_same (lt_of_get hl3), (World.putObj_heap_other (by omega)).trans (hk3.same _ _ hk2 (nS _ (by omega))), ?_, by omega⟩
      exact ((hkp.keep.trans (Keep.putRec hl' rfl)).trans hk3.keep).trans (Keep.putRec hl3 rfl)
    rintro e a3 W3 hp
    cases e with
    | normal =>
      obtain ⟨hk3, hi3⟩ := hp
      obtain ⟨hr, hl4, hk4, hkeep, hs4⟩ := fin none W3 hk3
      exact ⟨_, _, hr, .inl ⟨rfl, ⟨(hI _).put hi3 (by omega) (by omega) _, hl4, hk4⟩, hkeep⟩⟩
    | ret =>
      obtain ⟨hk3, hi3⟩ := hp
      obtain ⟨hr, hl4, hk4, hkeep, hs4⟩ := fin (some .ret) W3 hk3
      exact ⟨_, _, hr, .inr ⟨rfl, ⟨.ret, (hIx _ _).put hi3 (by omega) (by omega) _, hl4, hk4⟩, hkeep.size⟩⟩
    | exit id =>
      obtain ⟨hk3, hi3⟩ := hp
      obtain ⟨hr, hl4, hk4, hkeep, hs4⟩ := fin (some (.exit id)) W3 hk3
      exact ⟨_, _, hr, .inr ⟨rfl, ⟨.exit id, (hIx _ _).put hi3 (by omega) (by omega) _, hl4, hk4⟩, hkeep.size⟩⟩
    | goto t =>
      obtain ⟨hk3, hi3⟩ := hp
      obtain ⟨hr, hl4, hk4, hkeep, hs4⟩ := fin (some (.goto t)) W3 hk3
      exact ⟨_, _, hr, .inr ⟨rfl, ⟨.goto t, (hIx _ _).put hi3 (by omega) (by omega) _, hl4, hk4⟩, hkeep.size⟩⟩
    | panic ch => exact hp.elim
    | outgrown => exact hp.elim
  · rintro e W2 ⟨⟨v, rfl⟩, hs2, (⟨hi, hl, hk⟩ | ⟨pre, hpre, c, hi, hl, hk⟩)⟩
    · exact ⟨none, _, by have := run_endLoop (P := P) hl (by rw [hrec]; simp); rw [hrec] at this; exact this, hdone _ _ (Nat.le_refl _) (by simp; omega) ((hI _).put hi (by omega) (by omega) _) ((World.putObj_heap_other (by omega)).trans hk)⟩
    · exact ⟨some c, _, by have := run_endLoop (P := P) hl (by rw [hrec]; simp); rw [hrec] at this; exact this, hstop _ c pre _ (Nat.le_refl _) (by simp; omega) hpre ((hIx c _).put hi (by omega) (by omega) _) ((World.putObj_heap_other (by omega)).trans hk)⟩
end
end Go.Proofs.Ytacellaeepngkaa
