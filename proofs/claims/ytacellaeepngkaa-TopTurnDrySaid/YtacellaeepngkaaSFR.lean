/- The soft law once more: one of the operations may write into new blocks of one type (a store that Go may carry out before other operands are read). -/
import Derived.Test.YtacellaeepngkaaSG
namespace Go.Proofs.Ytacellaeepngkaa
set_option linter.unusedVariables false
set_option linter.unusedSimpArgs false
open Go Go.RowKit

/-- New blocks, and writes into blocks of one type from B on. -/
structure Stp (B : Nat) (t : TypeId) (w w' : World) : Prop where
  os : w'.os = w.os
  tape : w'.tape = w.tape
  output : w'.output = w.output
  size : w.heap.size ≤ w'.heap.size
  block : ∀ k, k < w.heap.size → w'.heap[k]? = w.heap[k]? ∨ (B ≤ k ∧ ∃ cs cs', w.heap[k]? = some (.cells cs t (0, 0)) ∧ w'.heap[k]? = some (.cells cs' t (0, 0)) ∧ cs'.size = cs.size)

theorem stp_below {B : Nat} {t : TypeId} {w w' : World} (h : Below w.heap.size w w') : Stp B t w w' := ⟨h.os, h.tape, h.output, h.size, fun k hk => .inl (h.block k hk)⟩

def RR (B wI : Nat) (t : TypeId) (k : Nat) (w w' : World) : Prop := if k = wI then Stp B t w w' else Below w.heap.size w w'

theorem rr_below {B wI : Nat} {t : TypeId} {k : Nat} {w w' : World} (h : Below w.heap.size w w') : RR B wI t k w w' := by unfold RR; split; exact stp_below h; exact h

theorem rr_stp {B wI : Nat} {t : TypeId} {k : Nat} {w w' : World} (h : RR B wI t k w w') : Stp B t w w' := by unfold RR at h; split at h; exact h; exact stp_below h

theorem rr_class {W : World} {wI : Nat} {t : TypeId} {k : Nat} {w w' : World} (hw : Below W.heap.size W w) (h : RR W.heap.size wI t k w w') : Below W.heap.size W w' := by
  have s := rr_stp h
  refine ⟨s.os.trans hw.os, s.tape.trans hw.tape, s.output.trans hw.output, Nat.le_trans hw.size s.size, fun j hj => ?_⟩
  rcases s.block j (Nat.lt_of_lt_of_le hj hw.size) with h | ⟨h, _⟩
  · exact h.trans (hw.block j hj)
  · omega

/-- What is said of the values and a world. -/
abbrev FactR := (Nat → Value) → World → Prop
def factR (F : List FactR) (i : Nat) : FactR := (F[i]?).getD fun _ _ => True

/-- It speaks of the value of operation k and of those that k waits for. -/
def Indep (ops : Array Oper) (k : Nat) (Φ : FactR) : Prop := ∀ v v' : Nat → Value, (∀ i, i = k ∨ (ancsOf .any ops k k).contains i = true → v i = v' i) → ∀ w, Φ v w → Φ v' w

theorem indep_one {ops : Array Oper} {k : Nat} (Φ : Fact) : Indep ops k fun v w => Φ (v k) w := fun v v' h w hΦ => by
  have := h k (.inl rfl)
  show Φ (v' k) w
  rw [← this]; exact hΦ

def LastR (B wI : Nat) (t : TypeId) (i : Nat) (Φ : FactR) : Prop := ∀ k, k ≠ i → ∀ v w w', RR B wI t k w w' → Φ v w → Φ v w'

theorem lastR_eq {B wI : Nat} {t : TypeId} {i : Nat} (c : Value) : LastR B wI t i fun v _ => v i = c := fun _ _ _ _ _ _ h => h
theorem lastR_writer {B wI : Nat} {t : TypeId} {Φ : FactR} (h : ∀ v w w', Below w.heap.size w w' → Φ v w → Φ v w') : LastR B wI t wI Φ := fun k hk v w w' hr hΦ => by
  unfold RR at hr; rw [if_neg hk] at hr; exact h _ _ _ hr hΦ
theorem lastR_of {B wI : Nat} {t : TypeId} {i : Nat} {Φ : FactR} (h : ∀ v w w', Stp B t w w' → Φ v w → Φ v w') : LastR B wI t i Φ := fun k _ v w w' hr hΦ => h v w w' (rr_stp hr) hΦ

def softOpR (B wI : Nat) (ty : TypeId) (k : Nat) (P : Program) (o : Oper) (a : Act) (w : World) (Φ : Fact) : Prop :=
  ∀ (K : Act → World → Prop) (Q : Exit → Act → World → Prop), (∀ v w', RR B wI ty k w w' → Φ v w' → K (a.put o.dst v) w') → o.wp P a w K Q

theorem softOpR_of {B wI : Nat} {ty : TypeId} {k : Nat} {P : Program} {o : Oper} {a : Act} {w : World} {Φ : Fact} (h : softOp P o a w Φ) : softOpR B wI ty k P o a w Φ :=
  fun K Q hK => h K Q fun v w' hb hΦ => hK v w' (rr_below hb) hΦ

section
variable {P : Program} {ops : Array Oper} {Q : Exit → Act → World → Prop} {W : World} {wI : Nat} {ty : TypeId}

/-- The walk of the first operations, one after another; l: those that are left, k: the number of the next, F: what is known of those before. -/
def wpSoftR (wI : Nat) (ty : TypeId) (P : Program) (ops : Array Oper) (Q : Exit → Act → World → Prop) (W : World) (hd tl : List Oper) (a : Act) : List Oper → Nat → List FactR → Prop
  | [], _, F => ∀ v w, Below W.heap.size W w → (∀ i, i < F.length → factR F i v w) → wpList P ops Q tl (headPut hd v 0 a) w
  | o :: l, k, F => ∃ Φ, Indep ops k Φ ∧ LastR W.heap.size wI ty k Φ ∧ (∀ v w, Below W.heap.size W w → (∀ i, (ancsOf .any ops k k).contains i = true → factR F i v w) → softOpR W.heap.size wI ty k P o (headPut hd v 0 a) w fun u => Φ (upd v k u)) ∧ wpSoftR wI ty P ops Q W hd tl a l (k + 1) (F ++ [Φ])

theorem factR_app {F : List FactR} {Φ : FactR} {i : Nat} (h : i < F.length) : factR (F ++ [Φ]) i = factR F i := by
  unfold factR; rw [List.getElem?_append_left h]

theorem wpSoftR_spec {hd tl : List Oper} {a : Act} : ∀ (l : List Oper) (k : Nat) (F : List FactR), F.length = k → (∀ j, j < k → Indep ops j (factR F j) ∧ LastR W.heap.size wI ty j (factR F j)) →
    (∀ j, j < k → ∀ o, hd[j]? = some o → ∀ v w, Below W.heap.size W w → (∀ i ∈ ancsOf .any ops j j, factR F i v w) → softOpR W.heap.size wI ty j P o (headPut hd v 0 a) w fun u => factR F j (upd v j u)) →
    (∀ j, l[j]? = hd[k + j]?) → wpSoftR wI ty P ops Q W hd tl a l k F →
    ∃ F' : List FactR, F'.length = k + l.length ∧ (∀ j, j < k + l.length → Indep ops j (factR F' j) ∧ LastR W.heap.size wI ty j (factR F' j)) ∧
      (∀ j, j < k + l.length → ∀ o, hd[j]? = some o → ∀ v w, Below W.heap.size W w → (∀ i ∈ ancsOf .any ops j j, factR F' i v w) → softOpR W.heap.size wI ty j P o (headPut hd v 0 a) w fun u => factR F' j (upd v j u)) ∧
      ∀ v w, Below W.heap.size W w → (∀ i, i < F'.length → factR F' i v w) → wpList P ops Q tl (headPut hd v 0 a) w := by
  intro l
  induction l with
  | nil =>
    intro k F hk hF hob _ h
    exact ⟨F, by simp [hk], by simpa using hF, by simpa using hob, h⟩
  | cons o l ih =>
    intro k F hk hF hob hl h
    obtain ⟨Φ, h0, h1, h2, h3⟩ := h
    obtain ⟨F', h4, h5, h6, h7⟩ := ih (k + 1) (F ++ [Φ]) (by simp [hk]) (fun j hj => by
      by_cases hjk : j < k
      · rw [factR_app (by omega)]; exact hF j hjk
      · have ej : j = k := by omega
        subst ej
        have e : factR (F ++ [Φ]) j = Φ := by unfold factR; rw [List.getElem?_append_right (by omega), hk]; simp
        rw [e]; exact ⟨h0, h1⟩) (fun j hj o' ho' v w hw hf => by
        have hf' : ∀ i ∈ ancsOf .any ops j j, factR F i v w := fun i hi => by
          by_cases hlt : i < F.length
          · have := hf i hi; rwa [factR_app hlt] at this
          · unfold factR; rw [List.getElem?_eq_none (by omega)]; trivial
        by_cases hjk : j < k
        · rw [factR_app (by omega)]; exact hob j hjk o' ho' v w hw hf'
        · have ej : j = k := by omega
          subst ej
          have hl0 := hl 0
          simp only [List.getElem?_cons_zero, Nat.add_zero] at hl0
          rw [ho'] at hl0
          cases hl0
          have e : factR (F ++ [Φ]) j = Φ := by unfold factR; rw [List.getElem?_append_right (by omega), hk]; simp
          rw [e]
          exact h2 v w hw fun i hi => hf' i (by simpa using hi)) (fun j => by have := hl (j + 1); simpa [Nat.add_assoc, Nat.add_comm 1 j] using this) h3
    exact ⟨F', by simp [h4]; omega, fun j hj => h5 j (by simp at hj ⊢; omega), fun j hj => h6 j (by simp at hj ⊢; omega), h7⟩

theorem wpSoftR_eq {hd tl l : List Oper} {o : Oper} {a : Act} {k : Nat} {F : List FactR} {c : Value}
    (h : ∀ v w, Below W.heap.size W w → (∀ i, (ancsOf .any ops k k).contains i = true → factR F i v w) → (execOp (headPut hd v 0 a).eval o).run P w = .ok (.value c) w)
    (h2 : wpSoftR wI ty P ops Q W hd tl a l (k + 1) (F ++ [fun v _ => v k = c])) : wpSoftR wI ty P ops Q W hd tl a (o :: l) k F := ⟨_, indep_one fun u _ => u = c, lastR_eq _, fun v w hb hf => softOpR_of (softOp_val (h v w hb hf) (Below.refl _ _) (by simp [upd])), h2⟩
theorem wpSoftR_fact {hd tl l : List Oper} {o : Oper} {a : Act} {k : Nat} {F : List FactR} (Φ : FactR) (hi : Indep ops k Φ) (hl : LastR W.heap.size wI ty k Φ)
    (h : ∀ v w, Below W.heap.size W w → (∀ i, (ancsOf .any ops k k).contains i = true → factR F i v w) → softOpR W.heap.size wI ty k P o (headPut hd v 0 a) w fun u => Φ (upd v k u))
    (h2 : wpSoftR wI ty P ops Q W hd tl a l (k + 1) (F ++ [Φ])) : wpSoftR wI ty P ops Q W hd tl a (o :: l) k F := ⟨_, hi, hl, h, h2⟩
theorem wpSoftR_end {hd tl : List Oper} {a : Act} {k : Nat} {F : List FactR} (h : ∀ v w, Below W.heap.size W w → (∀ i, i < F.length → factR F i v w) → ∀ a', headPut hd v 0 a = a' → wpList P ops Q tl a' w) : wpSoftR wI ty P ops Q W hd tl a [] k F :=
  fun v w hw hf => h v w hw hf _ rfl
theorem wpSoftR_call {hd tl l : List Oper} {o : Oper} {a : Act} {k : Nat} {F : List FactR} {c : Value}
    (h : ∀ v w, Below W.heap.size W w → (∀ i, (ancsOf .any ops k k).contains i = true → factR F i v w) → ∃ f args, (execOp (headPut hd v 0 a).eval o).run P w = .ok (.enter f args) w ∧ Calls P f args w fun e w' => e = .returned c ∧ Below w.heap.size w w')
    (h2 : wpSoftR wI ty P ops Q W hd tl a l (k + 1) (F ++ [fun v _ => v k = c])) : wpSoftR wI ty P ops Q W hd tl a (o :: l) k F :=
  ⟨_, indep_one fun u _ => u = c, lastR_eq _, fun v w hb hf => by
    obtain ⟨f, args, hr, hc⟩ := h v w hb hf
    exact softOpR_of (softOp_call hr (hc.mono fun e w' ⟨he, hb⟩ => ⟨⟨_, he, by simp [upd]⟩, hb⟩)), h2⟩

theorem softR_any {n : Nat} {a : Act} (hB : softB ops n = true) (F : List FactR) (hF : F.length = n) (hlast : ∀ j, j < n → Indep ops j (factR F j) ∧ LastR W.heap.size wI ty j (factR F j))
    (hob : ∀ j, j < n → ∀ o, ops[j]? = some o → ∀ v w, Below W.heap.size W w → (∀ i ∈ ancsOf .any ops j j, factR F i v w) → softOpR W.heap.size wI ty j P o (headPut (ops.toList.take n) v 0 a) w fun u => factR F j (upd v j u))
    (htl : ∀ v w, Below W.heap.size W w → (∀ i, i < F.length → factR F i v w) → wpList P ops Q (ops.toList.drop n) (headPut (ops.toList.take n) v 0 a) w) :
    ∀ (f : Nat) (s : Array Bool) (v : Nat → Value) (w : World), HeadInv .any ops n s → Below W.heap.size W w → (∀ i, i < n → s.getD i false = true → factR F i v w) →
      ((List.range n).filter fun i => !s.getD i false).length = f → wpAny P .any ops Q (f + (ops.size - n)) s (headPut (ops.toList.take n) v 0 a) w := by
  simp only [softB, Bool.and_eq_true, decide_eq_true_eq, Bool.or_eq_true, List.all_eq_true, List.mem_range] at hB
  obtain ⟨⟨⟨hn, hsc⟩, hseq⟩, hops⟩ := hB
  have hone : ∀ k, k < n → ∃ o, ops[k]? = some o ∧ o.guard = none ∧ (∀ e ∈ o.after, Region.binds .any e = true → e.on < k) ∧ ∀ j p, ops[j]? = some p → k < j → j < n → ∀ d, o.dst = some d → p.dst ≠ some d := by
    intro k hk
    have h := hops k hk
    cases ho : ops[k]? with
    | none => rw [ho] at h; cases h
    | some o =>
      rw [ho] at h
      simp only [Bool.and_eq_true, List.all_eq_true, List.mem_range, Array.all_eq_true_iff_forall_mem, Bool.or_eq_true, decide_eq_true_eq, Bool.not_eq_true', Option.isNone_iff_eq_none] at h
      refine ⟨o, rfl, h.1.1, fun e he hb => ?_, fun j p hp hkj hjn d hd => ?_⟩
      · rcases h.1.2 e he with h' | h'
        · rw [hb] at h'; cases h'
        · exact h'
      · have := h.2 j hjn
        rw [hp, hd] at this
        rcases this with h' | h'
        · omega
        · simpa using h'
  intro f
  induction f using Nat.strongRecOn with
  | _ f ih =>
    intro s v w inv hw hfs hcnt
    cases f with
    | zero =>
      have hall : ∀ i, i < n → s.getD i false = true := by
        intro i hi
        by_cases hs : s.getD i false = true
        · exact hs
        · have : i ∈ (List.range n).filter fun i => !s.getD i false := List.mem_filter.2 ⟨List.mem_range.2 hi, by simpa using hs⟩
          rw [List.eq_nil_of_length_eq_zero hcnt] at this; cases this
      have hs : s = (List.replicate n true ++ List.replicate (ops.size - n) false).toArray := by
        apply Array.ext
        · simp [inv.size]; omega
        · intro i h1 h2
          simp only [List.getElem_toArray]
          by_cases hi : i < n
          · rw [List.getElem_append_left (by simpa using hi), List.getElem_replicate]
            have := hall i hi
            simpa [h1] using this
          · rw [List.getElem_append_right (by simpa using hi), List.getElem_replicate]
            have := inv.tail i (by omega) (by rw [← inv.size]; exact h1)
            simpa [h1] using this
      rw [Nat.zero_add]
      have hdl : (ops.toList.drop n).length = ops.size - n := by simp
      have := wpAny_of_seq (md := .any) (Q' := Q) (ops.toList.drop n) n s (headPut (ops.toList.take n) v 0 a) w (fun j => by simp [List.getElem?_drop]) (by rw [hdl, hs]; exact hseq) (htl v w hw fun i hi => hfs i (by omega) (hall i (by omega)))
      rwa [hdl] at this
    | succ f =>
      obtain ⟨k, hkn, hku, hkl⟩ := least_unlisted (s := s) (n := n) (by omega)
      have hks : k < s.size := by rw [inv.size]; omega
      have hku' := getD_in hks hku
      have hready : Region.ready .any ops s ≠ [] := by
        obtain ⟨o, ho, _, hdn, _⟩ := hone k hkn
        have : k ∈ Region.ready .any ops s := mem_ready.2 ⟨hku', o, ho, fun e he hb => hkl _ (hdn e he hb)⟩
        intro h; rw [h] at this; cases this
      rw [show f + 1 + (ops.size - n) = (f + (ops.size - n)) + 1 by omega]
      refine ⟨fun h => absurd h hready, fun j hj => ?_⟩
      obtain ⟨hjun, oj, hoj, hall⟩ := mem_ready.1 hj
      have hjsz : j < ops.size := (Array.getElem?_eq_some_iff.1 hoj).1
      have hjn : j < n := by
        rcases hsc with h | ⟨h1, h2⟩
        · omega
        · rcases Nat.lt_or_ge j n with h | h
          · exact h
          · by_cases hns : n < ops.size
            · exact absurd hj (tail_waits h1 h2 hns inv _ k rfl hkn hku' j h)
            · omega
      obtain ⟨o, ho, hg, hdn, hdist⟩ := hone j hjn
      have eo : oj = o := Option.some.inj (hoj.symm.trans ho)
      subst eo
      have hdir : ∀ i ∈ directOf .any ops j, s.getD i false = true := by
        intro i hi
        unfold directOf at hi
        rw [ho] at hi
        simp only [Array.mem_toList_iff, Array.mem_map, Array.mem_filter] at hi
        obtain ⟨e, ⟨he, hb⟩, rfl⟩ := hi
        exact hall e he hb
      have hsoft := hob j hjn oj ho v w hw fun i hi => by
        have hli := anc_listed inv j j hdir i hi
        by_cases hin : i < n
        · exact hfs i hin hli
        · unfold factR; rw [List.getElem?_eq_none (by omega)]; trivial
      unfold wpOp
      simp only [ho]
      rw [if_pos (by simp [Region.wanted, hg])]
      refine .inl (hsoft _ _ fun u w' hb hΦ => ?_)
      have hjs : j < s.size := by rw [inv.size]; exact hjsz
      have hlt := unl_lt (s := s) hjn hjs hjun
      have hupd := headPut_upd (ops.toList.take n) v 0 j a oj u (by rw [List.getElem?_take]; simp [hjn, ho]) (fun i p hp hij => by
        have hin : i < n := by
          rcases Nat.lt_or_ge i n with h | h
          · exact h
          · rw [List.getElem?_eq_none (by simp; omega)] at hp; cases hp
        exact hdist i p (by simpa [List.getElem?_take, hin] using hp) hij hin)
      rw [Nat.zero_add] at hupd
      rw [← hupd]
      obtain ⟨m, hm⟩ : ∃ m, ((List.range n).filter fun i => !(s.setIfInBounds j true).getD i false).length = m := ⟨_, rfl⟩
      have hmf : m = f := by
        have hle : ∀ l : List Nat, l.Nodup → (l.filter fun i => !s.getD i false).length ≤ (l.filter fun i => !(s.setIfInBounds j true).getD i false).length + 1 := by
          intro l
          induction l with
          | nil => simp
          | cons x l ih =>
            intro hnd
            rw [List.nodup_cons] at hnd
            by_cases hx : x = j
            · subst hx
              have e : (l.filter fun i => !(s.setIfInBounds x true).getD i false) = l.filter fun i => !s.getD i false := by
                apply List.filter_congr
                intro y hy
                rw [getD_set_ne false (fun h => hnd.1 (by rw [h]; exact hy))]
              rw [List.filter_cons, List.filter_cons, e]
              generalize (l.filter fun i => !s.getD i false) = q
              generalize (!(s.setIfInBounds x true).getD x false) = b1
              generalize (!s.getD x false) = b2
              cases b1 <;> cases b2 <;> simp <;> omega
            · have e1 : (s.setIfInBounds j true).getD x false = s.getD x false := getD_set_ne false (Ne.symm hx)
              have := ih hnd.2
              rw [List.filter_cons, List.filter_cons, e1]
              split <;> (try simp only [List.length_cons]) <;> omega
        have := hle (List.range n) List.nodup_range
        omega
      rw [hmf] at hm
      refine ih f (by omega) (s.setIfInBounds j true) (upd v j u) w' (inv.set hj hjn) (rr_class hw hb) (fun i hi hl => ?_) hm
      by_cases hij : i = j
      · subst hij
        exact hΦ
      · rw [getD_set_ne false (Ne.symm hij)] at hl
        have h1 := hfs i hi hl
        have hli : s.getD i false = true := hl
        refine (hlast i hi).2 j (Ne.symm hij) _ _ _ hb ((hlast i hi).1 v (upd v j u) (fun x hx => ?_) w h1)
        have hxj : x ≠ j := by
          rintro rfl
          rcases hx with hx | hx
          · exact hij hx.symm
          · have hxl := anc_listed inv i i (fun y hy => by
              unfold directOf at hy
              split at hy
              · rename_i o' ho'
                simp only [Array.mem_toList_iff, Array.mem_map, Array.mem_filter] at hy
                obtain ⟨e, ⟨he, hbb⟩, rfl⟩ := hy
                exact inv.closed i o' ho' hli e he hbb
              · simp at hy) x (by simpa using hx)
            rw [getD_both hjun] at hxl
            cases hxl
        simp [upd, hxj]

/-- **The law.** -/
theorem wp_region_softR (wI : Nat) (ty : TypeId) {id : Nat} {a : Act} {w : World} {l : List Oper} (n : Nat) (hm : P.follows .mixedOrders = true) (hB : softB l.toArray n = true)
    (h : wpSoftR wI ty P l.toArray Q w (l.take n) (l.drop n) a (l.take n) 0 []) : (Code.region id l.toArray true).wp P Q a w := by
  obtain ⟨F, h1, h2, h3, h4⟩ := wpSoftR_spec (l.take n) 0 [] rfl (fun j hj => by omega) (fun j hj => by omega) (fun j => by simp) h
  have hB' := hB
  simp only [softB, Bool.and_eq_true, decide_eq_true_eq] at hB'
  have hn : n ≤ l.length := by simpa using hB'.1.1.1
  have htl : (l.take n).length = n := by simp; omega
  rw [Nat.zero_add, htl] at h1 h2 h3
  obtain ⟨v, hv⟩ := headPut_self (l.take n) 0 a
  refine wp_region_any hm ?_
  have hcnt : ((List.range n).filter fun i => !(Array.replicate l.toArray.size false).getD i false).length = n := by
    rw [List.filter_eq_self.2 (fun i _ => by rw [getD_replicate_false]; rfl)]; simp
  have K := softR_any (W := w) (wI := wI) (ty := ty) hB F h1 h2 (a := a) (by simpa using fun j hj o ho => h3 j hj o (by simpa [List.getElem?_take, hj] using ho)) (by simpa using h4) n (Array.replicate l.toArray.size false) v w.drew
    ⟨by simp, fun j oj _ hl => (by rw [getD_replicate_false] at hl; cases hl), fun t _ ht => getD_in (by simpa using ht) (getD_replicate_false _ _)⟩ (Below.refl _ _).drew (fun i _ hl => by rw [getD_replicate_false] at hl; cases hl) hcnt
  have e : n + (l.toArray.size - n) = l.toArray.size := by simp; omega
  rw [e] at K
  simp only [] at K
  rw [show (headPut (l.toArray.toList.take n) v 0 a) = a by simpa using hv] at K
  exact K
end
end Go.Proofs.Ytacellaeepngkaa
