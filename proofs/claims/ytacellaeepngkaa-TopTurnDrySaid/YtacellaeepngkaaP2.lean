/- The custom's order, as plain numbers. -/
import Derived.Test.YtacellaeepngkaaP1
import Derived.Sort.LotA
namespace Go.Proofs.Ytacellaeepngkaa
set_option linter.unusedVariables false
set_option linter.unusedSimpArgs false

/-- The first number of a list that is not 0. -/
def orF : List Int → Int
  | [] => 0
  | x :: xs => if x = 0 then orF xs else x

def ltI (cf : Int → Int → Int) (x y : Int) : Bool := decide (cf x y < 0)

/-- How the custom compares two cloths. -/
def befF (cs : List TC) (rk : List Int) (x y : Int) : Int :=
  orF [cs[x.toNat]!.comes - cs[y.toNat]!.comes, (nthF cs cs[x.toNat]! x.toNat : Int) - nthF cs cs[y.toNat]! y.toNat, rk.getD cs[x.toNat]!.wv.toNat 0 - rk.getD cs[y.toNat]!.wv.toNat 0, x - y]

/-- The custom's order. -/
def ordF (cs : List TC) (rk : List Int) : List Int := (Sort.insertionSort (ltI (befF cs rk)) ((List.range cs.length).map fun (i : Nat) => (i : Int)).toArray 0 cs.length).toList

theorem orF4 (p q r s : Int) : orF [p, q, r, s] < 0 ↔ p < 0 ∨ p = 0 ∧ (q < 0 ∨ q = 0 ∧ (r < 0 ∨ r = 0 ∧ s < 0)) := by
  simp only [orF]
  by_cases hp : p = 0
  · rw [if_pos hp]
    by_cases hq : q = 0
    · rw [if_pos hq]
      by_cases hr : r = 0
      · rw [if_pos hr]
        by_cases hs : s = 0
        · rw [if_pos hs]; omega
        · rw [if_neg hs]; omega
      · rw [if_neg hr]; omega
    · rw [if_neg hq]; omega
  · rw [if_neg hp]; omega

theorem lex_swo (a b c d : Int → Int) : Sort.SWO (ltI fun x y => orF [a x - a y, b x - b y, c x - c y, d x - d y]) := by
  have key : ∀ x y, ltI (fun x y => orF [a x - a y, b x - b y, c x - c y, d x - d y]) x y = true ↔
      (a x < a y ∨ a x = a y ∧ (b x < b y ∨ b x = b y ∧ (c x < c y ∨ c x = c y ∧ d x < d y))) := by
    intro x y
    rw [ltI, decide_eq_true_eq, orF4]
    omega
  have key2 : ∀ x y, ltI (fun x y => orF [a x - a y, b x - b y, c x - c y, d x - d y]) x y = false ↔
      ¬ (a x < a y ∨ a x = a y ∧ (b x < b y ∨ b x = b y ∧ (c x < c y ∨ c x = c y ∧ d x < d y))) := by
    intro x y
    rw [← key, Bool.not_eq_true]
  refine ⟨fun x => ?_, fun x y z h1 h2 => ?_, fun x y z h1 h2 => ?_⟩
  · rw [key2]; omega
  · rw [key] at *; omega
  · rw [key2] at *; omega

theorem bef_swo (cs : List TC) (rk : List Int) : Sort.SWO (ltI (befF cs rk)) :=
  lex_swo (fun x => cs[x.toNat]!.comes) (fun x => (nthF cs cs[x.toNat]! x.toNat : Int)) (fun x => rk.getD cs[x.toNat]!.wv.toNat 0) (fun x => x)

theorem ord_holds (cs : List TC) (rk : List Int) :
    Sort.PermIn 0 cs.length ((List.range cs.length).map fun (i : Nat) => (i : Int)).toArray (Sort.insertionSort (ltI (befF cs rk)) ((List.range cs.length).map fun (i : Nat) => (i : Int)).toArray 0 cs.length) ∧
    Sort.SortedIn (ltI (befF cs rk)) 0 cs.length (Sort.insertionSort (ltI (befF cs rk)) ((List.range cs.length).map fun (i : Nat) => (i : Int)).toArray 0 cs.length) :=
  Sort.insertionSort_holds (bef_swo cs rk) _ 0 cs.length (Nat.zero_le _) (by simp)

theorem ord_length (cs : List TC) (rk : List Int) : (ordF cs rk).length = cs.length := by
  have h := (ord_holds cs rk).1.1
  simpa [ordF] using h

theorem ord_perm (cs : List TC) (rk : List Int) : (ordF cs rk).Perm ((List.range cs.length).map fun (i : Nat) => (i : Int)) := by
  have h := (ord_holds cs rk).1
  have h3 := h.2.2
  have hs := h.1
  simp only [List.size_toArray, List.length_map, List.length_range] at hs
  have ex : ∀ (X : Array Int), X.size = cs.length → (X.extract 0 cs.length).toList = X.toList := fun X hX => by
    rw [← hX]; simp
  rw [ex _ hs, ex _ (by simp)] at h3
  exact h3

theorem ord_bound (cs : List TC) (rk : List Int) : ∀ x ∈ ordF cs rk, 0 ≤ x ∧ x < cs.length := by
  intro x hx
  have := (ord_perm cs rk).mem_iff.1 hx
  simp only [List.mem_map, List.mem_range] at this
  obtain ⟨i, hi, rfl⟩ := this
  omega

def ltN (x y : Int) : Bool := decide (x < y)

theorem ltN_swo : Sort.SWO ltN :=
  ⟨fun x => by simp [ltN], fun x y z h1 h2 => by simp [ltN] at *; omega, fun x y z h1 h2 => by simp [ltN] at *; omega⟩

/-- A list of integers, sorted. -/
def sortI (xs : List Int) : List Int := (Sort.insertionSort ltN xs.toArray 0 xs.length).toList

theorem sortI_holds (xs : List Int) : Sort.PermIn 0 xs.length xs.toArray (Sort.insertionSort ltN xs.toArray 0 xs.length) ∧ Sort.SortedIn ltN 0 xs.length (Sort.insertionSort ltN xs.toArray 0 xs.length) :=
  Sort.insertionSort_holds ltN_swo _ 0 xs.length (Nat.zero_le _) (by simp)

theorem sortI_size (xs : List Int) : (Sort.insertionSort ltN xs.toArray 0 xs.length).size = xs.length := by
  simpa using (sortI_holds xs).1.1

theorem sortI_length (xs : List Int) : (sortI xs).length = xs.length := by simpa [sortI] using sortI_size xs

theorem sortI_perm (xs : List Int) : (sortI xs).Perm xs := by
  have h3 := (sortI_holds xs).1.2.2
  have ex : ∀ (X : Array Int), X.size = xs.length → (X.extract 0 xs.length).toList = X.toList := fun X hX => by
    rw [← hX]; simp
  rw [ex _ (sortI_size xs), ex _ (by simp)] at h3
  exact h3

theorem sortI_sorted (xs : List Int) : (sortI xs).Pairwise (· ≤ ·) := by
  rw [List.pairwise_iff_getElem]
  intro i j hi hj hij
  have hl := sortI_length xs
  have h := (sortI_holds xs).2 i j (Nat.zero_le _) hij (by omega)
  have hs := sortI_size xs
  rw [getElem!_pos _ i (by omega), getElem!_pos _ j (by omega)] at h
  simp only [ltN, decide_eq_false_iff_not] at h
  simp only [sortI, Array.getElem_toList]
  omega

theorem sortI_range (xs : List Int) (h : xs.Perm ((List.range xs.length).map fun (i : Nat) => (i : Int))) : sortI xs = (List.range xs.length).map fun (i : Nat) => (i : Int) := by
  refine List.Perm.eq_of_pairwise (le := fun a b : Int => decide (a ≤ b) = true) ?_ ?_ ?_ ((sortI_perm xs).trans h)
  · intro a b _ _ h1 h2; simp at h1 h2; omega
  · exact (sortI_sorted xs).imp fun h => by simpa using h
  · rw [List.pairwise_iff_getElem]
    intro i j hi hj hij
    simp; omega

theorem sortI_at (xs : List Int) (t : Nat) (ht : t < xs.length) : (Sort.insertionSort ltN xs.toArray 0 xs.length)[t]! = (sortI xs).getD t 0 := by
  have hs := sortI_size xs
  rw [getElem!_pos _ t (by omega), List.getD_eq_getElem?_getD, List.getElem?_eq_getElem (by rw [sortI_length]; exact ht)]
  simp [sortI]

end Go.Proofs.Ytacellaeepngkaa
