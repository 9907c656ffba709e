/- A region that draws its order: its first operations read, make memory, or call what leaves all that lay as it lay; the rest stand in one order. What an operation yields is said by a predicate of the value and the world: one obligation for each operation serves every order. -/
import Derived.Test.YtacellaeepngkaaQ0
namespace Go.Proofs.Ytacellaeepngkaa
set_option linter.unusedVariables false
set_option linter.unusedSimpArgs false
open Go Go.RowKit

abbrev Fact := Value → World → Prop
def factAt (F : List Fact) (i : Nat) : Fact := (F[i]?).getD fun _ _ => True
def Lasting (Φ : Fact) : Prop := ∀ v w w', Below w.heap.size w w' → Φ v w → Φ v w'

theorem lasting_eq (c : Value) : Lasting fun v _ => v = c := fun _ _ _ _ h => h

def headPut : List Oper → (Nat → Value) → Nat → Act → Act
  | [], _, _, a => a
  | o :: l, v, k, a => headPut l v (k + 1) (a.put o.dst (v k))

def softOp (P : Program) (o : Oper) (a : Act) (w : World) (Φ : Fact) : Prop :=
  ∀ (K : Act → World → Prop) (Q : Exit → Act → World → Prop), (∀ v w', Below w.heap.size w w' → Φ v w' → K (a.put o.dst v) w') → o.wp P a w K Q

def directOf (md : Region.Mode) (ops : Array Oper) (k : Nat) : List Nat :=
  match ops[k]? with
  | some o => ((o.after.filter fun e => Region.binds md e).map (·.on)).toList
  | none => []
def ancsOf (md : Region.Mode) (ops : Array Oper) : Nat → Nat → List Nat
  | 0, _ => []
  | f + 1, k => (directOf md ops k ++ (directOf md ops k).flatMap (ancsOf md ops f)).eraseDups

def softB (ops : Array Oper) (n : Nat) : Bool :=
  decide (n ≤ ops.size) && (decide (n = ops.size) || (Region.sinkB .any ops n && Region.chainB .any ops n)) &&
  Region.seqB .any ops (ops.size - n) n ((List.replicate n true ++ List.replicate (ops.size - n) false).toArray) &&
  ((List.range n).all fun k => match ops[k]? with
    | some o => o.guard.isNone && (o.after.all fun e => !Region.binds .any e || decide (e.on < k)) &&
        ((List.range n).all fun j => decide (j ≤ k) || match ops[j]? with | some p => (match o.dst with | some d => p.dst != some d | none => true) | none => true)
    | none => false)

section
variable {P : Program} {ops : Array Oper} {Q : Exit → Act → World → Prop} {W : World}

/-- The walk of the first operations, one after another; l: those that are left, k: the number of the next, F: what is known of those before. -/
def wpSoft (P : Program) (ops : Array Oper) (Q : Exit → Act → World → Prop) (W : World) (hd tl : List Oper) (a : Act) : List Oper → Nat → List Fact → Prop
  | [], _, F => ∀ v w, Below W.heap.size W w → (∀ i, i < F.length → factAt F i (v i) w) → wpList P ops Q tl (headPut hd v 0 a) w
  | o :: l, k, F => ∃ Φ, Lasting Φ ∧ (∀ v w, Below W.heap.size W w → (∀ i, (ancsOf .any ops k k).contains i = true → factAt F i (v i) w) → softOp P o (headPut hd v 0 a) w Φ) ∧ wpSoft P ops Q W hd tl a l (k + 1) (F ++ [Φ])

theorem factAt_app {F : List Fact} {Φ : Fact} {i : Nat} (h : i < F.length) : factAt (F ++ [Φ]) i = factAt F i := by
  unfold factAt; rw [List.getElem?_append_left h]

theorem wpSoft_spec {hd tl : List Oper} {a : Act} : ∀ (l : List Oper) (k : Nat) (F : List Fact), F.length = k → (∀ Φ ∈ F, Lasting Φ) →
    (∀ j, j < k → ∀ o, hd[j]? = some o → ∀ v w, Below W.heap.size W w → (∀ i ∈ ancsOf .any ops j j, factAt F i (v i) w) → softOp P o (headPut hd v 0 a) w (factAt F j)) →
    (∀ j, l[j]? = hd[k + j]?) → wpSoft P ops Q W hd tl a l k F →
    ∃ F' : List Fact, F'.length = k + l.length ∧ (∀ Φ ∈ F', Lasting Φ) ∧
      (∀ j, j < k + l.length → ∀ o, hd[j]? = some o → ∀ v w, Below W.heap.size W w → (∀ i ∈ ancsOf .any ops j j, factAt F' i (v i) w) → softOp P o (headPut hd v 0 a) w (factAt F' j)) ∧
      ∀ v w, Below W.heap.size W w → (∀ i, i < F'.length → factAt F' i (v i) w) → wpList P ops Q tl (headPut hd v 0 a) w := by
  intro l
  induction l with
  | nil =>
    intro k F hk hF hob _ h
    exact ⟨F, by simp [hk], hF, by simpa using hob, h⟩
  | cons o l ih =>
    intro k F hk hF hob hl h
    obtain ⟨Φ, h1, h2, h3⟩ := h
    obtain ⟨F', h4, h5, h6, h7⟩ := ih (k + 1) (F ++ [Φ]) (by simp [hk]) (fun Ψ hΨ => by
      rcases List.mem_append.1 hΨ with h | h
      · exact hF _ h
      · simp at h; subst h; exact h1) (fun j hj o' ho' v w hw hf => by
        have hf' : ∀ i ∈ ancsOf .any ops j j, factAt F i (v i) w := fun i hi => by
          by_cases hlt : i < F.length
          · have := hf i hi; rwa [factAt_app hlt] at this
          · unfold factAt; rw [List.getElem?_eq_none (by omega)]; trivial
        by_cases hjk : j < k
        · rw [factAt_app (by omega)]; exact hob j hjk o' ho' v w hw hf'
        · have ej : j = k := by omega
          subst ej
          have h0 := hl 0
          simp only [List.getElem?_cons_zero, Nat.add_zero] at h0
          rw [ho'] at h0
          cases h0
          have e : factAt (F ++ [Φ]) j = Φ := by unfold factAt; rw [List.getElem?_append_right (by omega), hk]; simp
          rw [e]
          exact h2 v w hw fun i hi => hf' i (by simpa using hi)) (fun j => by have := hl (j + 1); simpa [Nat.add_assoc, Nat.add_comm 1 j] using this) h3
    exact ⟨F', by simp [h4]; omega, h5, fun j hj => h6 j (by simp at hj ⊢; omega), h7⟩

theorem softOp_val {o : Oper} {a : Act} {w w' : World} {Φ : Fact} {v : Value} (hr : (execOp a.eval o).run P w = .ok (.value v) w') (hb : Below w.heap.size w w') (hΦ : Φ v w') : softOp P o a w Φ := by
  intro K Q h
  unfold Oper.wp
  rw [hr]
  exact h _ _ hb hΦ
theorem wpSoft_eq {hd tl l : List Oper} {o : Oper} {a : Act} {k : Nat} {F : List Fact} {c : Value}
    (h : ∀ v w, Below W.heap.size W w → (∀ i, (ancsOf .any ops k k).contains i = true → factAt F i (v i) w) → (execOp (headPut hd v 0 a).eval o).run P w = .ok (.value c) w)
    (h2 : wpSoft P ops Q W hd tl a l (k + 1) (F ++ [fun u _ => u = c])) : wpSoft P ops Q W hd tl a (o :: l) k F := ⟨_, lasting_eq _, fun v w hb hf => softOp_val (h v w hb hf) (Below.refl _ _) rfl, h2⟩
theorem wpSoft_fact {hd tl l : List Oper} {o : Oper} {a : Act} {k : Nat} {F : List Fact} (Φ : Fact) (hl : Lasting Φ)
    (h : ∀ v w, Below W.heap.size W w → (∀ i, (ancsOf .any ops k k).contains i = true → factAt F i (v i) w) → softOp P o (headPut hd v 0 a) w Φ)
    (h2 : wpSoft P ops Q W hd tl a l (k + 1) (F ++ [Φ])) : wpSoft P ops Q W hd tl a (o :: l) k F := ⟨_, hl, h, h2⟩
theorem wpSoft_end {hd tl : List Oper} {a : Act} {k : Nat} {F : List Fact} (h : ∀ v w, Below W.heap.size W w → (∀ i, i < F.length → factAt F i (v i) w) → ∀ a', headPut hd v 0 a = a' → wpList P ops Q tl a' w) : wpSoft P ops Q W hd tl a [] k F :=
  fun v w hw hf => h v w hw hf _ rfl
theorem softOp_call {o : Oper} {a : Act} {w : World} {Φ : Fact} {f : FuncId} {args : Array Value} (hr : (execOp a.eval o).run P w = .ok (.enter f args) w)
    (hc : Calls P f args w fun e w' => (∃ v, e = .returned v ∧ Φ v w') ∧ Below w.heap.size w w') : softOp P o a w Φ := by
  intro K Q h
  unfold Oper.wp
  rw [hr]
  exact hc.mono fun e w' ⟨⟨v, he, hΦ⟩, hb⟩ => by subst he; exact h _ _ hb hΦ
theorem wpSoft_call {hd tl l : List Oper} {o : Oper} {a : Act} {k : Nat} {F : List Fact} {c : Value}
    (h : ∀ v w, Below W.heap.size W w → (∀ i, (ancsOf .any ops k k).contains i = true → factAt F i (v i) w) → ∃ f args, (execOp (headPut hd v 0 a).eval o).run P w = .ok (.enter f args) w ∧ Calls P f args w fun e w' => e = .returned c ∧ Below w.heap.size w w')
    (h2 : wpSoft P ops Q W hd tl a l (k + 1) (F ++ [fun u _ => u = c])) : wpSoft P ops Q W hd tl a (o :: l) k F :=
  ⟨_, lasting_eq _, fun v w hb hf => by
    obtain ⟨f, args, hr, hc⟩ := h v w hb hf
    exact softOp_call hr (hc.mono fun e w' ⟨he, hb⟩ => ⟨⟨_, he, rfl⟩, hb⟩), h2⟩

theorem headPut_put : ∀ (l : List Oper) (v : Nat → Value) (k : Nat) (a : Act) (x : Option Tmp) (u : Value), (∀ (j : Nat) (o : Oper), l[j]? = some o → ∀ d, x = some d → o.dst ≠ some d) →
    headPut l v k (a.put x u) = (headPut l v k a).put x u := by
  intro l
  induction l with
  | nil => intros; rfl
  | cons o l ih =>
    intro v k a x u h
    have h0 := h 0 o (by simp)
    unfold headPut
    rw [Act.put_comm a u (v k) h0]
    exact ih v (k + 1) _ x u fun j o' hj => h (j + 1) o' (by simpa using hj)

theorem put_put (a : Act) (x : Option Tmp) (u u' : Value) : (a.put x u).put x u' = a.put x u' := by
  cases x with
  | none => rfl
  | some d => simp [Act.put]

def upd (v : Nat → Value) (j : Nat) (u : Value) : Nat → Value := fun i => if i = j then u else v i

theorem headPut_congr : ∀ (l : List Oper) (v v' : Nat → Value) (k : Nat) (a : Act), (∀ j, k ≤ j → v j = v' j) → headPut l v k a = headPut l v' k a := by
  intro l
  induction l with
  | nil => intros; rfl
  | cons o l ih =>
    intro v v' k a h
    unfold headPut
    rw [h k (Nat.le_refl _)]
    exact ih v v' (k + 1) _ fun j hj => h j (by omega)

theorem headPut_upd : ∀ (l : List Oper) (v : Nat → Value) (k j : Nat) (a : Act) (o : Oper) (u : Value), l[j]? = some o →
    (∀ (i : Nat) (p : Oper), l[i]? = some p → j < i → ∀ d, o.dst = some d → p.dst ≠ some d) →
    headPut l (upd v (k + j) u) k a = (headPut l v k a).put o.dst u := by
  intro l
  induction l with
  | nil => intro v k j a o u h; simp at h
  | cons p l ih =>
    intro v k j a o u h hd
    cases j with
    | zero =>
      simp only [List.getElem?_cons_zero, Option.some.injEq] at h
      subst h
      unfold headPut
      rw [← headPut_put l v (k + 1) _ p.dst u fun i q hq => hd (i + 1) q (by simpa using hq) (by omega), put_put]
      have : upd v (k + 0) u k = u := by simp [upd]
      rw [this]
      exact headPut_congr _ _ _ _ _ fun i hi => by simp [upd]; omega
    | succ j =>
      unfold headPut
      have e : upd v (k + (j + 1)) u k = v k := by simp [upd]
      rw [e, show k + (j + 1) = k + 1 + j by omega]
      exact ih v (k + 1) j _ o u (by simpa using h) fun i q hq hij => hd (i + 1) q (by simpa using hq) (by omega)

theorem put_self (a : Act) (x : Option Tmp) : a.put x ((x.map fun d => a.tmps.getD d undef).getD undef) = a := by
  cases x with
  | none => rfl
  | some d =>
    simp only [Option.map_some, Option.getD_some, Act.put]
    cases a with | mk t df =>
    congr 1
    apply Array.ext
    · simp
    · intro i h1 h2
      rw [Array.getElem_setIfInBounds]
      split
      · rename_i h; subst h; simp [Array.getD, h2]
      · rfl

theorem headPut_self : ∀ (l : List Oper) (k : Nat) (a : Act), ∃ v, headPut l v k a = a := by
  intro l
  induction l with
  | nil => intro k a; exact ⟨fun _ => undef, rfl⟩
  | cons o l ih =>
    intro k a
    obtain ⟨v, hv⟩ := ih (k + 1) a
    refine ⟨upd v k ((o.dst.map fun d => a.tmps.getD d undef).getD undef), ?_⟩
    unfold headPut
    have e : upd v k ((o.dst.map fun d => a.tmps.getD d undef).getD undef) k = (o.dst.map fun d => a.tmps.getD d undef).getD undef := by simp [upd]
    rw [e, put_self, headPut_congr l _ v (k + 1) a fun j hj => by simp [upd]; omega]
    exact hv

theorem anc_listed {md : Region.Mode} {n : Nat} {s : Array Bool} (inv : HeadInv md ops n s) : ∀ (f k : Nat), (∀ i ∈ directOf md ops k, s.getD i false = true) → ∀ i ∈ ancsOf md ops f k, s.getD i false = true := by
  intro f
  induction f with
  | zero => intro k _ i hi; simp [ancsOf] at hi
  | succ f ih =>
    intro k hk i hi
    simp only [ancsOf, List.mem_eraseDups, List.mem_append, List.mem_flatMap] at hi
    rcases hi with hi | ⟨j, hj, hi⟩
    · exact hk i hi
    · refine ih j (fun i' hi' => ?_) i hi
      unfold directOf at hi'
      split at hi'
      · rename_i o ho
        simp only [Array.mem_toList_iff, Array.mem_map, Array.mem_filter] at hi'
        obtain ⟨e, ⟨he, hb⟩, rfl⟩ := hi'
        exact inv.closed j o ho (hk j hj) e he hb
      · simp at hi'

theorem unl_lt {s : Array Bool} {n j : Nat} (hj : j < n) (hs : j < s.size) (hu : s.getD j true = false) :
    ((List.range n).filter fun i => !(s.setIfInBounds j true).getD i false).length < ((List.range n).filter fun i => !s.getD i false).length := by
  have key : ∀ l : List Nat, (l.filter fun i => !(s.setIfInBounds j true).getD i false).length ≤ (l.filter fun i => !s.getD i false).length ∧
      (j ∈ l → (l.filter fun i => !(s.setIfInBounds j true).getD i false).length < (l.filter fun i => !s.getD i false).length) := by
    intro l
    induction l with
    | nil => simp
    | cons x l ih =>
      simp only [List.filter_cons, List.mem_cons]
      by_cases hx : x = j
      · subst hx
        have e1 : (s.setIfInBounds x true).getD x false = true := by simp [hs]
        have e2 : s.getD x false = false := getD_both hu
        simp only [e1, e2, Bool.not_true, Bool.not_false, Bool.false_eq_true, if_false, if_true, List.length_cons]
        exact ⟨by omega, fun _ => by omega⟩
      · have e1 : (s.setIfInBounds j true).getD x false = s.getD x false := getD_set_ne false (Ne.symm hx)
        rw [e1]
        split
        · simp only [List.length_cons]
          refine ⟨by omega, fun h => ?_⟩
          have := ih.2 (h.resolve_left (Ne.symm hx)); omega
        · refine ⟨ih.1, fun h => ih.2 (h.resolve_left (Ne.symm hx))⟩
  exact (key _).2 (List.mem_range.2 hj)

theorem least_unlisted {s : Array Bool} {n : Nat} (h : ((List.range n).filter fun i => !s.getD i false).length ≠ 0) : ∃ k, k < n ∧ s.getD k false = false ∧ ∀ i, i < k → s.getD i false = true := by
  have hex : ∃ k, k < n ∧ s.getD k false = false := by
    obtain ⟨k, hk⟩ := List.exists_mem_of_length_pos (Nat.pos_of_ne_zero h)
    rw [List.mem_filter, List.mem_range] at hk
    exact ⟨k, hk.1, by simpa using hk.2⟩
  obtain ⟨k, hk⟩ := hex
  induction k using Nat.strongRecOn with
  | _ k ih =>
    by_cases hall : ∀ i, i < k → s.getD i false = true
    · exact ⟨k, hk.1, hk.2, hall⟩
    · simp only [Classical.not_forall] at hall
      obtain ⟨i, hi, hs⟩ := hall
      exact ih i hi ⟨by omega, by simpa using hs⟩

theorem soft_any {n : Nat} {a : Act} (hB : softB ops n = true) (F : List Fact) (hF : F.length = n) (hlast : ∀ Φ ∈ F, Lasting Φ)
    (hob : ∀ j, j < n → ∀ o, ops[j]? = some o → ∀ v w, Below W.heap.size W w → (∀ i ∈ ancsOf .any ops j j, factAt F i (v i) w) → softOp P o (headPut (ops.toList.take n) v 0 a) w (factAt F j))
    (htl : ∀ v w, Below W.heap.size W w → (∀ i, i < F.length → factAt F i (v i) w) → wpList P ops Q (ops.toList.drop n) (headPut (ops.toList.take n) v 0 a) w) :
    ∀ (f : Nat) (s : Array Bool) (v : Nat → Value) (w : World), HeadInv .any ops n s → Below W.heap.size W w → (∀ i, i < n → s.getD i false = true → factAt F i (v i) w) →
      ((List.range n).filter fun i => !s.getD i false).length = f → wpAny P .any ops Q (f + (ops.size - n)) s (headPut (ops.toList.take n) v 0 a) w := by
  simp only [softB, Bool.and_eq_true, decide_eq_true_eq, Bool.or_eq_true, List.all_eq_true, List.mem_range] at hB
  obtain ⟨⟨⟨hn, hsc⟩, hseq⟩, hops⟩ := hB
  have hone : ∀ k, k < n → ∃ o, ops[k]? = some o ∧ o.guard = none ∧ (∀ e ∈ o.after, Region.binds .any e = true → e.on < k) ∧ ∀ j p, ops[j]? = some p → k < j → j < n → ∀ d, o.dst = some d → p.dst ≠ some d := by
    intro k hk
    have h := hops k hk
    cases ho : ops[k]? with
    | none => rw [ho] at h; cases h
    | some o =>
      rw [ho] at h
      simp only [Bool.and_eq_true, List.all_eq_true, List.mem_range, Array.all_eq_true_iff_forall_mem, Bool.or_eq_true, decide_eq_true_eq, Bool.not_eq_true', Option.isNone_iff_eq_none] at h
      refine ⟨o, rfl, h.1.1, fun e he hb => ?_, fun j p hp hkj hjn d hd => ?_⟩
      · rcases h.1.2 e he with h' | h'
        · rw [hb] at h'; cases h'
        · exact h'
      · have := h.2 j hjn
        rw [hp, hd] at this
        rcases this with h' | h'
        · omega
        · simpa using h'
  intro f
  induction f using Nat.strongRecOn with
  | _ f ih =>
    intro s v w inv hw hfs hcnt
    cases f with
    | zero =>
      have hall : ∀ i, i < n → s.getD i false = true := by
        intro i hi
        by_cases hs : s.getD i false = true
        · exact hs
        · have : i ∈ (List.range n).filter fun i => !s.getD i false := List.mem_filter.2 ⟨List.mem_range.2 hi, by simpa using hs⟩
          rw [List.eq_nil_of_length_eq_zero hcnt] at this; cases this
      have hs : s = (List.replicate n true ++ List.replicate (ops.size - n) false).toArray := by
        apply Array.ext
        · simp [inv.size]; omega
        · intro i h1 h2
          simp only [List.getElem_toArray]
          by_cases hi : i < n
          · rw [List.getElem_append_left (by simpa using hi), List.getElem_replicate]
            have := hall i hi
            simpa [h1] using this
          · rw [List.getElem_append_right (by simpa using hi), List.getElem_replicate]
            have := inv.tail i (by omega) (by rw [← inv.size]; exact h1)
            simpa [h1] using this
      rw [Nat.zero_add]
      have hdl : (ops.toList.drop n).length = ops.size - n := by simp
      have := wpAny_of_seq (md := .any) (Q' := Q) (ops.toList.drop n) n s (headPut (ops.toList.take n) v 0 a) w (fun j => by simp [List.getElem?_drop]) (by rw [hdl, hs]; exact hseq) (htl v w hw fun i hi => hfs i (by omega) (hall i (by omega)))
      rwa [hdl] at this
    | succ f =>
      obtain ⟨k, hkn, hku, hkl⟩ := least_unlisted (s := s) (n := n) (by omega)
      have hks : k < s.size := by rw [inv.size]; omega
      have hku' := getD_in hks hku
      have hready : Region.ready .any ops s ≠ [] := by
        obtain ⟨o, ho, _, hdn, _⟩ := hone k hkn
        have : k ∈ Region.ready .any ops s := mem_ready.2 ⟨hku', o, ho, fun e he hb => hkl _ (hdn e he hb)⟩
        intro h; rw [h] at this; cases this
      rw [show f + 1 + (ops.size - n) = (f + (ops.size - n)) + 1 by omega]
      refine ⟨fun h => absurd h hready, fun j hj => ?_⟩
      obtain ⟨hjun, oj, hoj, hall⟩ := mem_ready.1 hj
      have hjsz : j < ops.size := (Array.getElem?_eq_some_iff.1 hoj).1
      have hjn : j < n := by
        rcases hsc with h | ⟨h1, h2⟩
        · omega
        · rcases Nat.lt_or_ge j n with h | h
          · exact h
          · by_cases hns : n < ops.size
            · exact absurd hj (tail_waits h1 h2 hns inv _ k rfl hkn hku' j h)
            · omega
      obtain ⟨o, ho, hg, hdn, hdist⟩ := hone j hjn
      have eo : oj = o := Option.some.inj (hoj.symm.trans ho)
      subst eo
      have hdir : ∀ i ∈ directOf .any ops j, s.getD i false = true := by
        intro i hi
        unfold directOf at hi
        rw [ho] at hi
        simp only [Array.mem_toList_iff, Array.mem_map, Array.mem_filter] at hi
        obtain ⟨e, ⟨he, hb⟩, rfl⟩ := hi
        exact hall e he hb
      have hsoft := hob j hjn oj ho v w hw fun i hi => by
        have hli := anc_listed inv j j hdir i hi
        by_cases hin : i < n
        · exact hfs i hin hli
        · unfold factAt; rw [List.getElem?_eq_none (by omega)]; trivial
      unfold wpOp
      simp only [ho]
      rw [if_pos (by simp [Region.wanted, hg])]
      refine .inl (hsoft _ _ fun u w' hb hΦ => ?_)
      have hjs : j < s.size := by rw [inv.size]; exact hjsz
      have hlt := unl_lt (s := s) hjn hjs hjun
      have hupd := headPut_upd (ops.toList.take n) v 0 j a oj u (by rw [List.getElem?_take]; simp [hjn, ho]) (fun i p hp hij => by
        have hin : i < n := by
          rcases Nat.lt_or_ge i n with h | h
          · exact h
          · rw [List.getElem?_eq_none (by simp; omega)] at hp; cases hp
        exact hdist i p (by simpa [List.getElem?_take, hin] using hp) hij hin)
      rw [Nat.zero_add] at hupd
      rw [← hupd]
      obtain ⟨m, hm⟩ : ∃ m, ((List.range n).filter fun i => !(s.setIfInBounds j true).getD i false).length = m := ⟨_, rfl⟩
      have hmf : m = f := by
        have hle : ∀ l : List Nat, l.Nodup → (l.filter fun i => !s.getD i false).length ≤ (l.filter fun i => !(s.setIfInBounds j true).getD i false).length + 1 := by
          intro l
          induction l with
          | nil => simp
          | cons x l ih =>
            intro hnd
            rw [List.nodup_cons] at hnd
            by_cases hx : x = j
            · subst hx
              have e : (l.filter fun i => !(s.setIfInBounds x true).getD i false) = l.filter fun i => !s.getD i false := by
                apply List.filter_congr
                intro y hy
                rw [getD_set_ne false (fun h => hnd.1 (by rw [h]; exact hy))]
              rw [List.filter_cons, List.filter_cons, e]
              generalize (l.filter fun i => !s.getD i false) = q
              generalize (!(s.setIfInBounds x true).getD x false) = b1
              generalize (!s.getD x false) = b2
              cases b1 <;> cases b2 <;> simp <;> omega
            · have e1 : (s.setIfInBounds j true).getD x false = s.getD x false := getD_set_ne false (Ne.symm hx)
              have := ih hnd.2
              rw [List.filter_cons, List.filter_cons, e1]
              split <;> (try simp only [List.length_cons]) <;> omega
        have := hle (List.range n) List.nodup_range
        omega
      rw [hmf] at hm
      refine ih f (by omega) (s.setIfInBounds j true) (upd v j u) w' (inv.set hj hjn) (hw.trans (hb.mono hw.size)) (fun i hi hl => ?_) hm
      by_cases hij : i = j
      · subst hij
        simpa [upd] using hΦ
      · rw [getD_set_ne false (Ne.symm hij)] at hl
        have h1 := hfs i hi hl
        have e : upd v j u i = v i := by simp [upd, hij]
        rw [e]
        have hm' : factAt F i ∈ F := by unfold factAt; rw [List.getElem?_eq_getElem (by omega)]; simp
        exact hlast _ hm' _ _ _ hb h1

/-- **The law.** -/
theorem wp_region_soft {id : Nat} {a : Act} {w : World} {l : List Oper} (n : Nat) (hm : P.follows .mixedOrders = true) (hB : softB l.toArray n = true)
    (h : wpSoft P l.toArray Q w (l.take n) (l.drop n) a (l.take n) 0 []) : (Code.region id l.toArray true).wp P Q a w := by
  obtain ⟨F, h1, h2, h3, h4⟩ := wpSoft_spec (l.take n) 0 [] rfl (by simp) (fun j hj => by omega) (fun j => by simp) h
  have hB' := hB
  simp only [softB, Bool.and_eq_true, decide_eq_true_eq] at hB'
  have hn : n ≤ l.length := by simpa using hB'.1.1.1
  have htl : (l.take n).length = n := by simp; omega
  rw [Nat.zero_add, htl] at h1 h3
  obtain ⟨v, hv⟩ := headPut_self (l.take n) 0 a
  refine wp_region_any hm ?_
  have hcnt : ((List.range n).filter fun i => !(Array.replicate l.toArray.size false).getD i false).length = n := by
    rw [List.filter_eq_self.2 (fun i _ => by rw [getD_replicate_false]; rfl)]; simp
  have K := soft_any (W := w) hB F h1 h2 (a := a) (by simpa using fun j hj o ho => h3 j hj o (by simpa [List.getElem?_take, hj] using ho)) (by simpa using h4) n (Array.replicate l.toArray.size false) v w.drew
    ⟨by simp, fun j oj _ hl => (by rw [getD_replicate_false] at hl; cases hl), fun t _ ht => getD_in (by simpa using ht) (getD_replicate_false _ _)⟩ (Below.refl _ _).drew (fun i _ hl => by rw [getD_replicate_false] at hl; cases hl) hcnt
  have e : n + (l.toArray.size - n) = l.toArray.size := by simp; omega
  rw [e] at K
  simp only [] at K
  rw [show (headPut (l.toArray.toList.take n) v 0 a) = a by simpa using hv] at K
  exact K
end
end Go.Proofs.Ytacellaeepngkaa
