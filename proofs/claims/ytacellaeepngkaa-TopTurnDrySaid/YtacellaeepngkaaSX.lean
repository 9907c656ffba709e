/- The soft law, third form: for regions of functions with many variables. What an operation looks at is a function of operands; a plan tells what is known of it. One operation may write into new blocks of one type. -/
import Derived.Test.YtacellaeepngkaaSR
namespace Go.Proofs.Ytacellaeepngkaa
set_option linter.unusedVariables false
set_option linter.unusedSimpArgs false
open Go Go.RowKit

/-- What operation k reads: temporaries of the region's own with the operation that fills them, others, and of which operations the facts are used. -/
structure Plan where
  hits : List (Nat × Nat)
  miss : List Nat
  deps : List Nat

def hitB (hd : List Oper) (N d i : Nat) : Bool :=
  decide (d < N) && (match hd[i]? with | some o => o.dst == some d | none => false) && (List.range hd.length).all fun j => j == i || (match hd[j]? with | some o => o.dst != some d | none => true)
def missB (hd : List Oper) (d : Nat) : Bool := hd.all fun o => o.dst != some d
def planB (ops : Array Oper) (n N : Nat) (ps : List Plan) : Bool :=
  decide (ps.length = n) && (List.range n).all fun k => match ps[k]? with
    | some p => (p.hits.all fun x => hitB (ops.toList.take n) N x.1 x.2) && (p.miss.all fun d => missB (ops.toList.take n) d) && p.deps.all fun i => (ancsOf .any ops k k).contains i
    | none => false

def RW (B : Nat) (wr : Option (Nat × TypeId)) (k : Nat) (w w' : World) : Prop :=
  match wr with
  | some (wI, t) => RR B wI t k w w'
  | none => Below w.heap.size w w'

theorem rw_below {B : Nat} {wr : Option (Nat × TypeId)} {k : Nat} {w w' : World} (h : Below w.heap.size w w') : RW B wr k w w' := by
  unfold RW; split; exact rr_below h; exact h
theorem rw_class {W : World} {wr : Option (Nat × TypeId)} {k : Nat} {w w' : World} (hw : Below W.heap.size W w) (h : RW W.heap.size wr k w w') : Below W.heap.size W w' := by
  unfold RW at h; split at h; exact rr_class hw h; exact hw.trans (h.mono hw.size)

def factX : Nat → List FactR → Nat → FactR
  | k + 1, Φ :: F, i => if i = k then Φ else factX k F i
  | _, _, _ => fun _ _ => True

def IndepX (k : Nat) (deps : List Nat) (Φ : FactR) : Prop := ∀ v v' : Nat → Value, v k = v' k → (∀ i ∈ deps, v i = v' i) → ∀ w, Φ v w → Φ v' w
theorem indepX_one {k : Nat} {deps : List Nat} (Φ : Fact) : IndepX k deps fun v w => Φ (v k) w := fun v v' h _ w hΦ => by
  show Φ (v' k) w
  rw [← h]; exact hΦ

def LastX (B : Nat) (wr : Option (Nat × TypeId)) (i : Nat) (Φ : FactR) : Prop := ∀ k, k ≠ i → ∀ v w w', RW B wr k w w' → Φ v w → Φ v w'
theorem lastX_eq {B : Nat} {wr : Option (Nat × TypeId)} {i : Nat} (c : Value) : LastX B wr i fun v _ => v i = c := fun _ _ _ _ _ _ h => h
theorem lastX_plain {B i : Nat} {Φ : Fact} (h : Lasting Φ) : LastX B none i fun v w => Φ (v i) w := fun _ _ v w w' hb hΦ => h _ _ _ hb hΦ
theorem lastX_R {B wI i : Nat} {t : TypeId} {Φ : FactR} (h : LastR B wI t i Φ) : LastX B (some (wI, t)) i Φ := fun k hk v w w' hb hΦ => h k hk v w w' hb hΦ

/-- What an operation yields. -/
def yieldX (B : Nat) (wr : Option (Nat × TypeId)) (k : Nat) (P : Program) (o : Oper) (ρ : Operand → Value) (w : World) (Φ : Fact) : Prop :=
  (∃ v w', (execOp ρ o).run P w = .ok (.value v) w' ∧ RW B wr k w w' ∧ Φ v w') ∨ (∃ w', (execOp ρ o).run P w = .ok .skip w' ∧ RW B wr k w w' ∧ Φ undef w') ∨
  ∃ f args, (execOp ρ o).run P w = .ok (.enter f args) w ∧ Calls P f args w fun e w' => (∃ v, e = .returned v ∧ Φ v w') ∧ RW B wr k w w'

structure Rho (ρ : Operand → Value) : Prop where
  const : ∀ x, ρ (.const x) = x
  func : ∀ f, ρ (.func f) = .func (.func f) #[] #[]
  global : ∀ g, ρ (.global g) = .pointer (some ⟨g, 0, none⟩)

def allHit (ρ : Operand → Value) (v : Nat → Value) : List (Nat × Nat) → Prop
  | [] => True
  | x :: l => ρ (.tmp x.1) = v x.2 ∧ allHit ρ v l
def allMiss (ρ : Operand → Value) (a : Act) : List Nat → Prop
  | [] => True
  | d :: l => ρ (.tmp d) = a.tmps.getD d undef ∧ allMiss ρ a l
def allDep (k : Nat) (F : List FactR) (v : Nat → Value) (w : World) : List Nat → Prop
  | [] => True
  | i :: l => factX k F i v w ∧ allDep k F v w l

theorem getD_lit_succ (x : Value) (l : List Value) (n : Nat) (d : Value) : (x :: l).toArray.getD (n + 1) d = l.toArray.getD n d := by simp
theorem getD_lit_zero (x : Value) (l : List Value) (d : Value) : (x :: l).toArray.getD 0 d = x := by simp

section
variable {P : Program} {ops : Array Oper} {Q : Exit → Act → World → Prop} {W : World} {wr : Option (Nat × TypeId)} {a : Act} {C : List FactR → Prop}

def softX (P : Program) (W : World) (wr : Option (Nat × TypeId)) (a : Act) (C : List FactR → Prop) : List Oper → List Plan → Nat → List FactR → Prop
  | o :: l, p :: ps, k, F => ∃ Φ, IndepX k p.deps Φ ∧ LastX W.heap.size wr k Φ ∧
      (∀ v w ρ, Below W.heap.size W w → Rho ρ → allHit ρ v p.hits → allMiss ρ a p.miss → allDep k F v w p.deps → yieldX W.heap.size wr k P o ρ w fun u => Φ (upd v k u)) ∧ softX P W wr a C l ps (k + 1) (Φ :: F)
  | _, _, _, F => C F

theorem sx_val {o : Oper} {l : List Oper} {p : Plan} {ps : List Plan} {k k' : Nat} {F : List FactR} {c : Value} (hk : k + 1 = k')
    (h : ∀ v w ρ, Below W.heap.size W w → Rho ρ → allHit ρ v p.hits → allMiss ρ a p.miss → allDep k F v w p.deps → (execOp ρ o).run P w = .ok (.value c) w)
    (h2 : softX P W wr a C l ps k' ((fun v _ => v k = c) :: F)) : softX P W wr a C (o :: l) (p :: ps) k F :=
  ⟨_, indepX_one fun u _ => u = c, lastX_eq _, fun v w ρ h3 h4 h5 h6 h7 => .inl ⟨c, w, h v w ρ h3 h4 h5 h6 h7, rw_below (Below.refl _ _), by simp [upd]⟩, by rw [hk]; exact h2⟩

theorem sx_call {o : Oper} {l : List Oper} {p : Plan} {ps : List Plan} {k k' : Nat} {F : List FactR} (c : Value) (hk : k + 1 = k')
    (h : ∀ v w ρ, Below W.heap.size W w → Rho ρ → allHit ρ v p.hits → allMiss ρ a p.miss → allDep k F v w p.deps → ∃ f args, (execOp ρ o).run P w = .ok (.enter f args) w ∧ Calls P f args w fun e w' => e = .returned c ∧ Below w.heap.size w w')
    (h2 : softX P W wr a C l ps k' ((fun v _ => v k = c) :: F)) : softX P W wr a C (o :: l) (p :: ps) k F :=
  ⟨_, indepX_one fun u _ => u = c, lastX_eq _, fun v w ρ h3 h4 h5 h6 h7 => by
    obtain ⟨f, args, hr, hc⟩ := h v w ρ h3 h4 h5 h6 h7
    exact .inr (.inr ⟨f, args, hr, hc.mono fun e w' ⟨he, hb⟩ => ⟨⟨_, he, by simp [upd]⟩, rw_below hb⟩⟩), by rw [hk]; exact h2⟩

/-- A fact of the value and the world alone. -/
theorem sx_fact {o : Oper} {l : List Oper} {p : Plan} {ps : List Plan} {k k' : Nat} {F : List FactR} (Φ : Fact) (hl : LastX W.heap.size wr k fun v w => Φ (v k) w) (hk : k + 1 = k')
    (h : ∀ v w ρ, Below W.heap.size W w → Rho ρ → allHit ρ v p.hits → allMiss ρ a p.miss → allDep k F v w p.deps → yieldX W.heap.size wr k P o ρ w Φ)
    (h2 : softX P W wr a C l ps k' ((fun v w => Φ (v k) w) :: F)) : softX P W wr a C (o :: l) (p :: ps) k F :=
  ⟨_, indepX_one Φ, hl, fun v w ρ h3 h4 h5 h6 h7 => by
    have := h v w ρ h3 h4 h5 h6 h7
    have e : (fun u => Φ (upd v k u k)) = Φ := by funext u; simp [upd]
    rw [e]; exact this, by rw [hk]; exact h2⟩

/-- A fact that also speaks of earlier values. -/
theorem sx_rel {o : Oper} {l : List Oper} {p : Plan} {ps : List Plan} {k k' : Nat} {F : List FactR} (Φ : FactR) (hi : IndepX k p.deps Φ) (hl : LastX W.heap.size wr k Φ) (hk : k + 1 = k')
    (h : ∀ v w ρ, Below W.heap.size W w → Rho ρ → allHit ρ v p.hits → allMiss ρ a p.miss → allDep k F v w p.deps → yieldX W.heap.size wr k P o ρ w fun u => Φ (upd v k u))
    (h2 : softX P W wr a C l ps k' (Φ :: F)) : softX P W wr a C (o :: l) (p :: ps) k F := ⟨Φ, hi, hl, h, by rw [hk]; exact h2⟩

theorem yx_val {B k : Nat} {o : Oper} {ρ : Operand → Value} {w w' : World} {Φ : Fact} {v : Value} (hr : (execOp ρ o).run P w = .ok (.value v) w') (hb : Below w.heap.size w w') (hΦ : Φ v w') : yieldX B wr k P o ρ w Φ := .inl ⟨v, w', hr, rw_below hb, hΦ⟩
theorem yx_call {B k : Nat} {o : Oper} {ρ : Operand → Value} {w : World} {Φ : Fact} {f : FuncId} {args : Array Value} (hr : (execOp ρ o).run P w = .ok (.enter f args) w)
    (hc : Calls P f args w fun e w' => (∃ v, e = .returned v ∧ Φ v w') ∧ Below w.heap.size w w') : yieldX B wr k P o ρ w Φ := .inr (.inr ⟨f, args, hr, hc.mono fun _ _ ⟨h, hb⟩ => ⟨h, rw_below hb⟩⟩)

theorem headPut_miss : ∀ (hd : List Oper) (v : Nat → Value) (k : Nat) (a : Act) (d : Nat), missB hd d = true → (headPut hd v k a).tmps.getD d undef = a.tmps.getD d undef := by
  intro hd
  induction hd with
  | nil => intros; rfl
  | cons o l ih =>
    intro v k a d h
    simp only [missB, List.all_cons, Bool.and_eq_true] at h
    unfold headPut
    rw [ih v (k + 1) _ d h.2]
    cases hd : o.dst with
    | none => rfl
    | some e =>
      have hne : e ≠ d := fun he => by rw [hd, he] at h; simp at h
      simp [Act.put, Array.getElem?_setIfInBounds_ne hne]

theorem headPut_size : ∀ (hd : List Oper) (v : Nat → Value) (k : Nat) (a : Act), (headPut hd v k a).tmps.size = a.tmps.size := by
  intro hd
  induction hd with
  | nil => intros; rfl
  | cons o l ih =>
    intro v k a
    unfold headPut
    rw [ih]
    cases o.dst <;> simp [Act.put]

theorem headPut_hit : ∀ (hd : List Oper) (v : Nat → Value) (k i : Nat) (a : Act) (d : Nat) (o : Oper), hd[i]? = some o → o.dst = some d → d < a.tmps.size → (∀ j p, hd[j]? = some p → j ≠ i → p.dst ≠ some d) → (headPut hd v k a).tmps.getD d undef = v (k + i) := by
  intro hd
  induction hd with
  | nil => intro v k i a d o h; simp at h
  | cons q l ih =>
    intro v k i a d o h ho hd hne
    unfold headPut
    cases i with
    | zero =>
      simp only [List.getElem?_cons_zero, Option.some.injEq] at h
      subst h
      rw [headPut_miss]
      · simp [Act.put, ho, hd]
      · simp only [missB, List.all_eq_true, bne_iff_ne]
        intro p hp
        obtain ⟨j, hj⟩ := List.mem_iff_getElem?.1 hp
        exact hne (j + 1) p (by simpa using hj) (by omega)
    | succ i =>
      have := ih v (k + 1) i (a.put q.dst (v k)) d o (by simpa using h) ho (by cases q.dst <;> simp [Act.put, hd]) fun j p hj hji => hne (j + 1) p (by simpa using hj) (by omega)
      rw [this, show k + 1 + i = k + (i + 1) by omega]

theorem rho_eval (a : Act) : Rho a.eval := ⟨fun _ => rfl, fun _ => rfl, fun _ => rfl⟩

theorem allHit_of {hd : List Oper} {v : Nat → Value} {a : Act} : ∀ (l : List (Nat × Nat)), (l.all fun x => hitB hd a.tmps.size x.1 x.2) = true → allHit (headPut hd v 0 a).eval v l := by
  intro l
  induction l with
  | nil => intro _; trivial
  | cons x l ih =>
    intro h
    simp only [List.all_cons, Bool.and_eq_true] at h
    refine ⟨?_, ih h.2⟩
    obtain ⟨⟨h1, h2⟩, h3⟩ := (by simpa only [hitB, Bool.and_eq_true, decide_eq_true_eq, List.all_eq_true, List.mem_range, Bool.or_eq_true, beq_iff_eq] using h.1 : (x.1 < a.tmps.size ∧ _ = true) ∧ ∀ j, j < hd.length → j = x.2 ∨ _ = true)
    cases ho : hd[x.2]? with
    | none => rw [ho] at h2; cases h2
    | some o =>
      rw [ho] at h2
      have := headPut_hit hd v 0 x.2 a x.1 o ho (by simpa using h2) h1 fun j p hj hji => by
        rcases h3 j (List.getElem?_eq_some_iff.1 hj).1 with h | h
        · exact absurd h hji
        · rw [hj] at h; simpa using h
      rw [Nat.zero_add] at this
      exact this

theorem allMiss_of {hd : List Oper} {v : Nat → Value} {a : Act} : ∀ (l : List Nat), (l.all fun d => missB hd d) = true → allMiss (headPut hd v 0 a).eval a l := by
  intro l
  induction l with
  | nil => intro _; trivial
  | cons d l ih =>
    intro h
    simp only [List.all_cons, Bool.and_eq_true] at h
    exact ⟨headPut_miss _ _ _ _ _ h.1, ih h.2⟩

theorem factX_get : ∀ (F : List FactR) (k i : Nat), F.length = k → factX k F i = (F.reverse[i]?).getD fun _ _ => True := by
  intro F
  induction F with
  | nil => intro k i h; subst h; simp [factX]
  | cons Φ F ih =>
    intro k i h
    subst h
    simp only [List.length_cons, factX, List.reverse_cons]
    split
    · rename_i e; subst e
      rw [List.getElem?_append_right (by simp)]; simp
    · rename_i e
      rw [ih _ i rfl]
      by_cases hlt : i < F.length
      · rw [List.getElem?_append_left (by simpa using hlt)]
      · rw [List.getElem?_eq_none (by simp; omega), List.getElem?_eq_none (by simp; omega)]

theorem allDep_of {k : Nat} {F : List FactR} {v : Nat → Value} {w : World} : ∀ (l : List Nat), (∀ i ∈ l, factX k F i v w) → allDep k F v w l := by
  intro l
  induction l with
  | nil => intro _; trivial
  | cons i l ih => intro h; exact ⟨h i (by simp), ih fun j hj => h j (by simp [hj])⟩

/-- What the walk shows: facts and obligations, all told. -/
theorem softX_spec {N : Nat} (hN : a.tmps.size = N) {hd : List Oper} {pall : List Plan} : ∀ (l : List Oper) (ps : List Plan) (k : Nat) (F : List FactR), F.length = k → l.length = ps.length →
    (∀ j, l[j]? = hd[k + j]?) → (∀ j, ps[j]? = pall[k + j]?) →
    (∀ j p, j < k → pall[j]? = some p → IndepX j p.deps (factX k F j) ∧ LastX W.heap.size wr j (factX k F j) ∧ ∀ o, hd[j]? = some o → ∀ v w ρ, Below W.heap.size W w → Rho ρ → allHit ρ v p.hits → allMiss ρ a p.miss → (∀ i ∈ p.deps, i < j → factX k F i v w) → yieldX W.heap.size wr j P o ρ w fun u => factX k F j (upd v j u)) →
    softX P W wr a C l ps k F →
    ∃ F' : List FactR, F'.length = k + l.length ∧ C F' ∧
      ∀ j p, j < k + l.length → pall[j]? = some p → IndepX j p.deps (factX F'.length F' j) ∧ LastX W.heap.size wr j (factX F'.length F' j) ∧ ∀ o, hd[j]? = some o → ∀ v w ρ, Below W.heap.size W w → Rho ρ → allHit ρ v p.hits → allMiss ρ a p.miss → (∀ i ∈ p.deps, i < j → factX F'.length F' i v w) → yieldX W.heap.size wr j P o ρ w fun u => factX F'.length F' j (upd v j u) := by
  intro l
  induction l with
  | nil =>
    intro ps k F hk hl _ _ hob h
    cases ps with
    | cons p ps => simp at hl
    | nil => subst hk; exact ⟨F, by simp, h, fun j p hj hp => hob j p (by simpa using hj) hp⟩
  | cons o l ih =>
    intro ps k F hk hl ho hp hob h
    cases ps with
    | nil => simp at hl
    | cons p ps =>
      obtain ⟨Φ, h0, h1, h2, h3⟩ := h
      have hsame : ∀ i, i < k → factX (k + 1) (Φ :: F) i = factX k F i := fun i hi => by simp only [factX]; rw [if_neg (by omega)]
      have hself : factX (k + 1) (Φ :: F) k = Φ := by simp [factX]
      obtain ⟨F', g1, g2, g3⟩ := ih ps (k + 1) (Φ :: F) (by simp [hk]) (by simpa using hl) (fun j => by have := ho (j + 1); simpa [Nat.add_assoc, Nat.add_comm 1 j] using this) (fun j => by have := hp (j + 1); simpa [Nat.add_assoc, Nat.add_comm 1 j] using this)
        (fun j q hj hq => by
          by_cases hjk : j < k
          · rw [hsame j hjk]
            obtain ⟨u1, u2, u3⟩ := hob j q hjk hq
            exact ⟨u1, u2, fun o' ho' v w ρ a1 a2 a3 a4 a5 => u3 o' ho' v w ρ a1 a2 a3 a4 fun i hi hij => by have := a5 i hi hij; rwa [hsame i (by omega)] at this⟩
          · obtain rfl : j = k := by omega
            have hp0 := hp 0
            simp only [List.getElem?_cons_zero, Nat.add_zero] at hp0
            rw [hq] at hp0
            cases hp0
            rw [hself]
            refine ⟨h0, h1, fun o' ho' v w ρ a1 a2 a3 a4 a5 => ?_⟩
            have ho0 := ho 0
            simp only [List.getElem?_cons_zero, Nat.add_zero] at ho0
            rw [ho'] at ho0
            cases ho0
            refine h2 v w ρ a1 a2 a3 a4 (allDep_of _ fun i hi => ?_)
            by_cases hij : i < j
            · have := a5 i hi hij; rwa [hsame i hij] at this
            · rw [factX_get F j i hk, List.getElem?_eq_none (by simp; omega)]; trivial) h3
      exact ⟨F', by simp [g1]; omega, g2, fun j q hj => g3 j q (by simp at hj ⊢; omega)⟩
theorem sx_any {n N : Nat} {a : Act} (hB : softB ops n = true) (hN : a.tmps.size = N) (ps : List Plan) (hP : planB ops n N ps = true) (G : Nat → FactR)
    (hob : ∀ j p, j < n → ps[j]? = some p → IndepX j p.deps (G j) ∧ LastX W.heap.size wr j (G j) ∧ ∀ o, ops[j]? = some o → ∀ v w ρ, Below W.heap.size W w → Rho ρ → allHit ρ v p.hits → allMiss ρ a p.miss → (∀ i ∈ p.deps, i < j → G i v w) → yieldX W.heap.size wr j P o ρ w fun u => G j (upd v j u))
    (htl : ∀ v w, Below W.heap.size W w → (∀ i, i < n → G i v w) → wpList P ops Q (ops.toList.drop n) (headPut (ops.toList.take n) v 0 a) w) :
    ∀ (f : Nat) (s : Array Bool) (v : Nat → Value) (w : World), HeadInv .any ops n s → Below W.heap.size W w → (∀ i, i < n → s.getD i false = true → G i v w) →
      ((List.range n).filter fun i => !s.getD i false).length = f → wpAny P .any ops Q (f + (ops.size - n)) s (headPut (ops.toList.take n) v 0 a) w := by
  simp only [softB, Bool.and_eq_true, decide_eq_true_eq, Bool.or_eq_true, List.all_eq_true, List.mem_range] at hB
  obtain ⟨⟨⟨hn, hsc⟩, hseq⟩, hops⟩ := hB
  have hone : ∀ k, k < n → ∃ o, ops[k]? = some o ∧ o.guard = none ∧ (∀ e ∈ o.after, Region.binds .any e = true → e.on < k) ∧ ∀ j p, ops[j]? = some p → k < j → j < n → ∀ d, o.dst = some d → p.dst ≠ some d := by
    intro k hk
    have h := hops k hk
    cases ho : ops[k]? with
    | none => rw [ho] at h; cases h
    | some o =>
      rw [ho] at h
      simp only [Bool.and_eq_true, List.all_eq_true, List.mem_range, Array.all_eq_true_iff_forall_mem, Bool.or_eq_true, decide_eq_true_eq, Bool.not_eq_true', Option.isNone_iff_eq_none] at h
      refine ⟨o, rfl, h.1.1, fun e he hb => ?_, fun j p hp hkj hjn d hd => ?_⟩
      · rcases h.1.2 e he with h' | h'
        · rw [hb] at h'; cases h'
        · exact h'
      · have := h.2 j hjn
        rw [hp, hd] at this
        rcases this with h' | h'
        · omega
        · simpa using h'
  simp only [planB, Bool.and_eq_true, decide_eq_true_eq, List.all_eq_true, List.mem_range] at hP
  have hpl : ∀ k, k < n → ∃ p, ps[k]? = some p ∧ (p.hits.all fun x => hitB (ops.toList.take n) N x.1 x.2) = true ∧ (p.miss.all fun d => missB (ops.toList.take n) d) = true ∧ ∀ i ∈ p.deps, i ∈ ancsOf .any ops k k := by
    intro k hk
    have h := hP.2 k hk
    cases hp : ps[k]? with
    | none => rw [hp] at h; cases h
    | some p =>
      rw [hp] at h
      simp only [Bool.and_eq_true] at h
      exact ⟨p, rfl, h.1.1, h.1.2, fun i hi => by have := List.all_eq_true.1 h.2 i hi; simpa using this⟩
  intro f
  induction f using Nat.strongRecOn with
  | _ f ih =>
    intro s v w inv hw hfs hcnt
    cases f with
    | zero =>
      have hall : ∀ i, i < n → s.getD i false = true := by
        intro i hi
        by_cases hs : s.getD i false = true
        · exact hs
        · have : i ∈ (List.range n).filter fun i => !s.getD i false := List.mem_filter.2 ⟨List.mem_range.2 hi, by simpa using hs⟩
          rw [List.eq_nil_of_length_eq_zero hcnt] at this; cases this
      have hs : s = (List.replicate n true ++ List.replicate (ops.size - n) false).toArray := by
        apply Array.ext
        · simp [inv.size]; omega
        · intro i h1 h2
          simp only [List.getElem_toArray]
          by_cases hi : i < n
          · rw [List.getElem_append_left (by simpa using hi), List.getElem_replicate]
            have := hall i hi
            simpa [h1] using this
          · rw [List.getElem_append_right (by simpa using hi), List.getElem_replicate]
            have := inv.tail i (by omega) (by rw [← inv.size]; exact h1)
            simpa [h1] using this
      rw [Nat.zero_add]
      have hdl : (ops.toList.drop n).length = ops.size - n := by simp
      have := wpAny_of_seq (md := .any) (Q' := Q) (ops.toList.drop n) n s (headPut (ops.toList.take n) v 0 a) w (fun j => by simp [List.getElem?_drop]) (by rw [hdl, hs]; exact hseq) (htl v w hw fun i hi => hfs i hi (hall i hi))
      rwa [hdl] at this
    | succ f =>
      obtain ⟨k, hkn, hku, hkl⟩ := least_unlisted (s := s) (n := n) (by omega)
      have hks : k < s.size := by rw [inv.size]; omega
      have hku' := getD_in hks hku
      have hready : Region.ready .any ops s ≠ [] := by
        obtain ⟨o, ho, _, hdn, _⟩ := hone k hkn
        have : k ∈ Region.ready .any ops s := mem_ready.2 ⟨hku', o, ho, fun e he hb => hkl _ (hdn e he hb)⟩
        intro h; rw [h] at this; cases this
      rw [show f + 1 + (ops.size - n) = (f + (ops.size - n)) + 1 by omega]
      refine ⟨fun h => absurd h hready, fun j hj => ?_⟩
      obtain ⟨hjun, oj, hoj, hall⟩ := mem_ready.1 hj
      have hjsz : j < ops.size := (Array.getElem?_eq_some_iff.1 hoj).1
      have hjn : j < n := by
        rcases hsc with h | ⟨h1, h2⟩
        · omega
        · rcases Nat.lt_or_ge j n with h | h
          · exact h
          · by_cases hns : n < ops.size
            · exact absurd hj (tail_waits h1 h2 hns inv _ k rfl hkn hku' j h)
            · omega
      obtain ⟨o, ho, hg, hdn, hdist⟩ := hone j hjn
      have eo : oj = o := Option.some.inj (hoj.symm.trans ho)
      subst eo
      have hdir : ∀ i ∈ directOf .any ops j, s.getD i false = true := by
        intro i hi
        unfold directOf at hi
        rw [ho] at hi
        simp only [Array.mem_toList_iff, Array.mem_map, Array.mem_filter] at hi
        obtain ⟨e, ⟨he, hb⟩, rfl⟩ := hi
        exact hall e he hb
      obtain ⟨p, hp, hph, hpm, hpd⟩ := hpl j hjn
      obtain ⟨hind, hlst, hobj⟩ := hob j p hjn hp
      have hde : ∀ i ∈ p.deps, s.getD i false = true := fun i hi => anc_listed inv j j hdir i (hpd i hi)
      have hyield := hobj oj ho v w (headPut (ops.toList.take n) v 0 a).eval hw (rho_eval _) (allHit_of _ (by rw [hN]; exact hph)) (allMiss_of _ hpm) fun i hi hij => hfs i (by omega) (hde i hi)
      unfold wpOp
      simp only [ho]
      rw [if_pos (by simp [Region.wanted, hg])]
      refine .inl ?_
      have hgo : ∀ u w', RW W.heap.size wr j w w' → G j (upd v j u) w' → wpAny P .any ops Q (f + (ops.size - n)) (s.setIfInBounds j true) ((headPut (ops.toList.take n) v 0 a).put oj.dst u) w' := ?_
      · unfold Oper.wp
        rcases hyield with ⟨u, w', hr, hb, hΦ⟩ | ⟨w', hr, hb, hΦ⟩ | ⟨fn, args, hr, hc⟩
        · rw [hr]; exact hgo u w' hb hΦ
        · rw [hr]; exact hgo undef w' hb hΦ
        · rw [hr]; exact hc.mono fun e w' ⟨⟨u, he, hΦ⟩, hb⟩ => by subst he; exact hgo u w' hb hΦ
      intro u w' hb hΦ
      have hjs : j < s.size := by rw [inv.size]; exact hjsz
      have hlt := unl_lt (s := s) hjn hjs hjun
      have hupd := headPut_upd (ops.toList.take n) v 0 j a oj u (by rw [List.getElem?_take]; simp [hjn, ho]) (fun i p hp hij => by
        have hin : i < n := by
          rcases Nat.lt_or_ge i n with h | h
          · exact h
          · rw [List.getElem?_eq_none (by simp; omega)] at hp; cases hp
        exact hdist i p (by simpa [List.getElem?_take, hin] using hp) hij hin)
      rw [Nat.zero_add] at hupd
      rw [← hupd]
      obtain ⟨m, hm⟩ : ∃ m, ((List.range n).filter fun i => !(s.setIfInBounds j true).getD i false).length = m := ⟨_, rfl⟩
      have hmf : m = f := by
        have hle : ∀ l : List Nat, l.Nodup → (l.filter fun i => !s.getD i false).length ≤ (l.filter fun i => !(s.setIfInBounds j true).getD i false).length + 1 := by
          intro l
          induction l with
          | nil => simp
          | cons x l ih =>
            intro hnd
            rw [List.nodup_cons] at hnd
            by_cases hx : x = j
            · subst hx
              have e : (l.filter fun i => !(s.setIfInBounds x true).getD i false) = l.filter fun i => !s.getD i false := by
                apply List.filter_congr
                intro y hy
                rw [getD_set_ne false (fun h => hnd.1 (by rw [h]; exact hy))]
              rw [List.filter_cons, List.filter_cons, e]
              generalize (l.filter fun i => !s.getD i false) = q
              generalize (!(s.setIfInBounds x true).getD x false) = b1
              generalize (!s.getD x false) = b2
              cases b1 <;> cases b2 <;> simp <;> omega
            · have e1 : (s.setIfInBounds j true).getD x false = s.getD x false := getD_set_ne false (Ne.symm hx)
              have := ih hnd.2
              rw [List.filter_cons, List.filter_cons, e1]
              split <;> (try simp only [List.length_cons]) <;> omega
        have := hle (List.range n) List.nodup_range
        omega
      rw [hmf] at hm
      refine ih f (by omega) (s.setIfInBounds j true) (upd v j u) w' (inv.set hj hjn) (rw_class hw hb) (fun i hi hl => ?_) hm
      by_cases hij : i = j
      · subst hij
        exact hΦ
      · rw [getD_set_ne false (Ne.symm hij)] at hl
        have h1 := hfs i hi hl
        have hli : s.getD i false = true := hl
        obtain ⟨pi, hpi, _, _, hpdi⟩ := hpl i hi
        obtain ⟨hindi, hlsti, _⟩ := hob i pi hi hpi
        refine hlsti j (Ne.symm hij) _ _ _ hb (hindi v (upd v j u) (by simp [upd, hij]) (fun x hx => ?_) w h1)
        have hxj : x ≠ j := by
          rintro rfl
          have hxl := anc_listed inv i i (fun y hy => by
            unfold directOf at hy
            split at hy
            · rename_i o' ho'
              simp only [Array.mem_toList_iff, Array.mem_map, Array.mem_filter] at hy
              obtain ⟨e, ⟨he, hbb⟩, rfl⟩ := hy
              exact inv.closed i o' ho' hli e he hbb
            · simp at hy) x (hpdi x hx)
          rw [getD_both hjun] at hxl
          cases hxl
        simp [upd, hxj]

/-- **The law.** -/
theorem wp_region_sx (wr : Option (Nat × TypeId)) {id : Nat} {a : Act} {w : World} {l : List Oper} (n N : Nat) (ps : List Plan) (hm : P.follows .mixedOrders = true) (hB : softB l.toArray n = true) (hP : planB l.toArray n N ps = true) (hN : a.tmps.size = N)
    (h : ∀ (a' : Act) (C : List FactR → Prop), a' = a → (∀ F : List FactR, (∀ v w', Below w.heap.size w w' → (∀ i, i < n → factX F.length F i v w') → ∀ b, headPut (l.take n) v 0 a = b → wpList P l.toArray Q (l.drop n) b w') → C F) → softX P w wr a' C (l.take n) ps 0 []) : (Code.region id l.toArray true).wp P Q a w := by
  have hB' := hB
  simp only [softB, Bool.and_eq_true, decide_eq_true_eq] at hB'
  have hn : n ≤ l.length := by simpa using hB'.1.1.1
  have hP' := hP
  simp only [planB, Bool.and_eq_true, decide_eq_true_eq] at hP'
  have htl : (l.take n).length = n := by simp; omega
  obtain ⟨F, h1, h2, h3⟩ := softX_spec (W := w) (wr := wr) hN (hd := l.take n) (pall := ps) (l.take n) ps 0 [] rfl (by rw [htl, hP'.1]) (fun j => by simp) (fun j => by simp) (fun j p hj => by omega) (h a _ rfl fun F hF => hF)
  rw [Nat.zero_add, htl] at h1
  rw [h1] at h3
  obtain ⟨v, hv⟩ := headPut_self (l.take n) 0 a
  refine wp_region_any hm ?_
  have hcnt : ((List.range n).filter fun i => !(Array.replicate l.toArray.size false).getD i false).length = n := by
    rw [List.filter_eq_self.2 (fun i _ => by rw [getD_replicate_false]; rfl)]; simp
  have K := sx_any (W := w) (wr := wr) (Q := Q) hB hN ps hP (fun i => factX n F i) (by
      intro j p hj hp
      obtain ⟨u1, u2, u3⟩ := h3 j p (by omega) hp
      exact ⟨u1, u2, fun o ho => u3 o (by simpa [List.getElem?_take, hj] using ho)⟩) (by
      intro v w' hb hf
      have := h2 v w' hb (by rw [h1]; exact hf) _ rfl
      simpa using this) n (Array.replicate l.toArray.size false) v w.drew
    ⟨by simp, fun j oj _ hl => (by rw [getD_replicate_false] at hl; cases hl), fun t _ ht => getD_in (by simpa using ht) (getD_replicate_false _ _)⟩ (Below.refl _ _).drew (fun i _ hl => by rw [getD_replicate_false] at hl; cases hl) hcnt
  have e : n + (l.toArray.size - n) = l.toArray.size := by simp; omega
  rw [e] at K
  simp only [] at K
  rw [show (headPut (l.toArray.toList.take n) v 0 a) = a by simpa using hv] at K
  exact K
end
end Go.Proofs.Ytacellaeepngkaa
