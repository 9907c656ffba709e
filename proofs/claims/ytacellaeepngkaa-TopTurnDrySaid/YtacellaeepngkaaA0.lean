/- Words for the walks: slices that read as lists; small facts on worlds. -/
import Derived.Test.YtacellaeepngkaaRows
import Derived.WalkKit
import Derived.WalkSpells
import Derived.WalkLawsBesides
import Derived.Lib.Hide
import Derived.RangeFuncNested
import Derived.RangeFuncBound
import Derived.RangeFuncCalls
import Derived.RangeFuncLeaves
import Derived.Shelf.Abstract
import Derived.Shelf.RegionOpen
import Derived.OwnWalkIn
import Derived.TacticsInMore
import Derived.LoopNIn
import Derived.LoopIn
import Derived.BigQuiet
import Derived.Deep.QuietTactic
import Derived.Deep.DeepCutAuto
import Derived.Deep.RegionHeld3
import Derived.Deep.DeepFit
import Derived.Handy
import Derived.PlainAid
import Derived.Maps.AppendAt
import Derived.StillTailTactics
import Derived.BigRegion
import Derived.Laws.NewBlocks
namespace Go.Proofs.Ytacellaeepngkaa
set_option linter.unusedVariables false
set_option linter.unusedSimpArgs false
open Go.RowKit Go.Shelf

/-- The cells of one element lie at b, off. -/
def Row (w : World) (b off : Nat) (vs : List Value) : Prop := ∀ j v, vs[j]? = some v → w.cell? ⟨b, off + j, none⟩ = some v

/-- A slice value reads as the list xs; each element has k cells. -/
def Sl {α : Type} (w : World) (A : Option Addr) (k : Nat) (enc : α → List Value) (xs : List α) : Prop :=
  0 < xs.length → ∃ b off, A = some ⟨b, off, none⟩ ∧ b < w.heap.size ∧ ∀ i x, xs[i]? = some x → Row w b (off + i * k) (enc x)

theorem Row.below {w w' : World} {b off : Nat} {vs : List Value} (h : Row w b off vs) (hl : b < w.heap.size) (hb : Below w.heap.size w w') : Row w' b off vs :=
  fun j v hj => (hb.cell (p := ⟨b, off + j, none⟩) hl).trans (h j v hj)

theorem Sl.below {α : Type} {w w' : World} {A : Option Addr} {k : Nat} {enc : α → List Value} {xs : List α} (h : Sl w A k enc xs) (hb : Below w.heap.size w w') : Sl w' A k enc xs := by
  intro hx
  obtain ⟨b, off, rfl, hl, hc⟩ := h hx
  exact ⟨b, off, rfl, Nat.lt_of_lt_of_le hl hb.size, fun i x hi => (hc i x hi).below hl hb⟩

theorem bcell {W w1 : World} (hb : Below W.heap.size W w1) : (∀ b o, b < W.heap.size → w1.cell? ⟨b, o, none⟩ = W.cell? ⟨b, o, none⟩) ∧ (∀ b o, b < W.heap.size → w1.frozen? ⟨b, o, none⟩ = W.frozen? ⟨b, o, none⟩) :=
  ⟨fun b o h => hb.cell (p := ⟨b, o, none⟩) h, fun b o h => hb.frozen (p := ⟨b, o, none⟩) h⟩

def encI (n : Int) : List Value := [.int .i64 n]

theorem retB {v : Value} {a b : Bool} (h : v = .bool a) (e : a = b) : Ending.returned v = .returned (.bool b) := by rw [h, e]
theorem retI {v : Value} {k : IntKind} {a b : Int} (h : v = .int k a) (e : a = b) : Ending.returned v = .returned (.int k b) := by rw [h, e]
theorem ret_v {a b : Value} (h : a = b) : Ending.returned a = .returned b := by rw [h]

/-- A call that hands back a value of which R holds in the world behind it; all that lay before lies as it lay. -/
def Fn (f : Nat) (args : Array Value) (w : World) (R : Value → World → Prop) : Prop :=
  Calls Try.prog f args w fun e w' => (∃ v, e = .returned v ∧ R v w') ∧ Below w.heap.size w w'

/-- A predicate as a function value. -/
def Pred {α : Type} (g : Nat) (lb : Array Value) (arg : α → Value) (p : α → Bool) (w : World) : Prop :=
  ∀ W x, Below w.heap.size w W → Calls Try.prog g (#[arg x] ++ lb) W fun e w' => e = .returned (.bool (p x)) ∧ Below W.heap.size W w'

def fidx {α : Type} (p : α → Bool) (xs : List α) : Int := match xs.findIdx? p with | some i => i | none => -1

theorem _root_.Go.RowKit.Below.al {w W : World} (h : Below w.heap.size w W) (o : Obj) : Below w.heap.size w (W.alloc o) := h.alloc h.size o
theorem _root_.Go.RowKit.Below.call {w W w1 : World} (h : Below w.heap.size w W) (hb : Below W.heap.size W w1) : Below w.heap.size w w1 := h.trans (hb.mono h.size)
theorem _root_.Go.RowKit.Below.st {w W : World} (h : Below w.heap.size w W) {p : Addr} (hp : w.heap.size ≤ p.block) (u : Value) : Below w.heap.size w (W.setCell p u) := h.setCell hp u
theorem _root_.Go.RowKit.Below.drN {B : Nat} {w W : World} (h : Below B w W) (n : Nat) : Below B w (W.drewN n) := ⟨h.os, h.tape, h.output, h.size, h.block⟩
theorem _root_.Go.RowKit.Below.rdcell {w W : World} (h : Below w.heap.size w W) {b o : Nat} (hb : b < w.heap.size) {v : Value} (hc : w.cell? ⟨b, o, none⟩ = some v) : W.cell? ⟨b, o, none⟩ = some v := (h.cell (p := ⟨b, o, none⟩) hb).trans hc

theorem Sl.one {w : World} {b : Nat} {x : Int} (hl : b < w.heap.size) (h : w.cell? ⟨b, 0, none⟩ = some (.int .i64 x)) : Sl w (some ⟨b, 0, none⟩) 1 encI [x] := by
  intro _
  refine ⟨b, 0, rfl, hl, fun i y hi j v hj => ?_⟩
  match i, hi with
  | 0, hi =>
    cases hi
    match j, hj with
    | 0, hj => cases hj; simpa using h

theorem Sl.ints {w : World} {b off : Nat} {zs : List Int} (hl : b < w.heap.size) (h : ∀ i x, zs[i]? = some x → w.cell? ⟨b, off + i, none⟩ = some (.int .i64 x)) : Sl w (some ⟨b, off, none⟩) 1 encI zs := by
  intro _
  refine ⟨b, off, rfl, hl, fun i y hi j v hj => ?_⟩
  match j, hj with
  | 0, hj => cases hj; simpa using h i y hi

/-- The world at hand gets a name. -/
theorem name_world {P : Program} {c : Code} {Q : Exit → Act → World → Prop} {a : Act} {w : World} (h : ∀ W, W = w → c.wp P Q a W) : c.wp P Q a w := h w rfl

theorem Row.cell {w : World} {b off : Nat} {vs : List Value} (h : Row w b off vs) (j : Nat) {v : Value} (hj : vs[j]? = some v) : w.cell? ⟨b, off + j, none⟩ = some v := h j v hj

end Go.Proofs.Ytacellaeepngkaa
