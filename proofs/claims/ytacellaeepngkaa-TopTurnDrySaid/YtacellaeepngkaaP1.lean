/- The plain data of a day of turns. -/
import Derived.WalkKit
namespace Go.Proofs.Ytacellaeepngkaa
set_option linter.unusedVariables false
set_option linter.unusedSimpArgs false

/-- A cloth that waits: its weaver, when it comes, how long it stays at least and at most. -/
structure TC where
  wv : Int
  comes : Int
  lo : Int
  hi : Int
  deriving Inhabited, DecidableEq

/-- A valid cloth of a day with so many weavers. -/
def TC.ok (nr : Nat) (c : TC) : Prop := 0 ≤ c.wv ∧ c.wv < nr ∧ 0 ≤ c.comes ∧ c.comes ≤ 200 ∧ 1 ≤ c.lo ∧ c.lo ≤ c.hi ∧ c.hi ≤ 20

def encTC (c : TC) : List Value := [.int .i64 c.wv, .int .i64 c.comes, .int .i64 c.lo, .int .i64 c.hi]

/-- Two cloths of one weaver that come at one hour. -/
def TC.same (a b : TC) : Bool := decide (a.wv = b.wv) && decide (a.comes = b.comes)

/-- How many cloths like c stand before number i. -/
def nthF (cs : List TC) (c : TC) (i : Nat) : Nat := ((cs.take i).filter fun x => x.same c).length

theorem nthF_succ (cs : List TC) (c : TC) (k : Nat) (h : k < cs.length) : nthF cs c (k + 1) = nthF cs c k + if cs[k].same c then 1 else 0 := by
  unfold nthF
  rw [List.take_succ_eq_append_getElem h, List.filter_append, List.length_append]
  congr 1
  by_cases e : cs[k].same c = true <;> simp [e]

theorem nthF_le (cs : List TC) (c : TC) (i : Nat) : nthF cs c i ≤ i := by
  unfold nthF
  exact Nat.le_trans (List.length_filter_le _ _) (List.length_take_le _ _)

end Go.Proofs.Ytacellaeepngkaa
