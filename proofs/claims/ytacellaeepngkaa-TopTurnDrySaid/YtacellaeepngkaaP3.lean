/- The turns of cloths, as plain numbers. -/
import Derived.Test.YtacellaeepngkaaP2
namespace Go.Proofs.Ytacellaeepngkaa
set_option linter.unusedVariables false
set_option linter.unusedSimpArgs false

/-- A turn: which cloth, when it is taken, when it is done. -/
structure Tn where
  cloth : Int
  taken : Int
  done : Int
  deriving Inhabited, DecidableEq

def tnF (cs : List TC) (pick : TC → Int) (free : List Int) (o : Int) : Tn :=
  ⟨o, max cs[o.toNat]!.comes (free.getD 0 0), max cs[o.toNat]!.comes (free.getD 0 0) + pick cs[o.toNat]!⟩

def nextF (cs : List TC) (pick : TC → Int) (free : List Int) (o : Int) : List Int := sortI (free.set 0 (tnF cs pick free o).done)

def turnsF (cs : List TC) (pick : TC → Int) : List Int → List Int → List Tn
  | _, [] => []
  | f, o :: l => tnF cs pick f o :: turnsF cs pick (nextF cs pick f o) l

def freeF (cs : List TC) (pick : TC → Int) : List Int → List Int → List Int
  | f, [] => f
  | f, o :: l => freeF cs pick (nextF cs pick f o) l

variable {cs : List TC} {pick : TC → Int}

theorem turnsF_append (l1 l2 : List Int) : ∀ f, turnsF cs pick f (l1 ++ l2) = turnsF cs pick f l1 ++ turnsF cs pick (freeF cs pick f l1) l2 := by
  induction l1 with
  | nil => intro f; rfl
  | cons o l ih => intro f; simp [turnsF, freeF, ih]

theorem freeF_append (l1 l2 : List Int) : ∀ f, freeF cs pick f (l1 ++ l2) = freeF cs pick (freeF cs pick f l1) l2 := by
  induction l1 with
  | nil => intro f; rfl
  | cons o l ih => intro f; simp [freeF, ih]

theorem turnsF_length (l : List Int) : ∀ f, (turnsF cs pick f l).length = l.length := by
  induction l with
  | nil => intro f; rfl
  | cons o l ih => intro f; simp [turnsF, ih]

theorem nextF_length (f : List Int) (o : Int) : (nextF cs pick f o).length = f.length := by simp [nextF, sortI_length]

theorem freeF_length (l : List Int) : ∀ f, (freeF cs pick f l).length = f.length := by
  induction l with
  | nil => intro f; rfl
  | cons o l ih => intro f; simp [freeF, ih, nextF_length]

theorem turnsF_cut (f l : List Int) (k : Nat) (hk : k < l.length) :
    turnsF cs pick f l = turnsF cs pick f (l.take k) ++ tnF cs pick (freeF cs pick f (l.take k)) l[k] :: turnsF cs pick (freeF cs pick f (l.take (k + 1))) (l.drop (k + 1)) := by
  have e : l = l.take k ++ l[k] :: l.drop (k + 1) := by simp
  conv => lhs; rw [e]
  rw [turnsF_append, List.take_succ_eq_append_getElem hk, freeF_append]
  rfl

theorem turnsF_take (f l : List Int) (k : Nat) (hk : k < l.length) :
    turnsF cs pick f (l.take (k + 1)) = turnsF cs pick f (l.take k) ++ [tnF cs pick (freeF cs pick f (l.take k)) l[k]] := by
  rw [List.take_succ_eq_append_getElem hk, turnsF_append]; rfl

theorem freeF_take (f l : List Int) (k : Nat) (hk : k < l.length) :
    freeF cs pick f (l.take (k + 1)) = nextF cs pick (freeF cs pick f (l.take k)) l[k] := by
  rw [List.take_succ_eq_append_getElem hk, freeF_append]; rfl

/-- The hours of a free stock are between 0 and what all cloths before need at most. -/
theorem free_bound (hc : ∀ c ∈ cs, 0 ≤ c.comes ∧ c.comes ≤ 200) (hp : ∀ c ∈ cs, 0 ≤ pick c ∧ pick c ≤ 20) (l : List Int) (hl : ∀ o ∈ l, 0 ≤ o ∧ o < cs.length) :
    ∀ (f : List Int) (m : Int), 0 < f.length → 0 ≤ m → (∀ x ∈ f, 0 ≤ x ∧ x ≤ 200 + m) → ∀ x ∈ freeF cs pick f l, 0 ≤ x ∧ x ≤ 200 + m + 20 * l.length := by
  induction l with
  | nil => intro f m hf hm h x hx; have := h x hx; simpa using this
  | cons o l ih =>
    intro f m hf hm h x hx
    have ho := hl o (by simp)
    have hget : cs[o.toNat]! ∈ cs := by
      rw [getElem!_pos cs o.toNat (by omega)]; exact List.getElem_mem _
    have := ih (fun o ho => hl o (by simp [ho])) (nextF cs pick f o) (m + 20) (by rw [nextF_length]; exact hf) (by omega) (fun y hy => by
      have hy2 := (sortI_perm _).mem_iff.1 hy
      rcases List.mem_or_eq_of_mem_set hy2 with hy3 | hy3
      · have := h y hy3; omega
      · subst hy3
        have h0 := h (f.getD 0 0) (by rw [List.getD_eq_getElem?_getD, List.getElem?_eq_getElem hf]; exact List.getElem_mem _)
        have h1 := hc _ hget
        have h2 := hp _ hget
        simp only [tnF]
        omega) x hx
    simp only [List.length_cons] at *
    omega
end Go.Proofs.Ytacellaeepngkaa
