/- (day).turns, its iterator. -/
import Derived.Test.YtacellaeepngkaaRF
import Derived.Test.YtacellaeepngkaaP3
import Derived.Test.YtacellaeepngkaaS4
namespace Go.Proofs.Ytacellaeepngkaa
set_option linter.unusedVariables false
set_option linter.unusedSimpArgs false
open Go.RowKit Go.Shelf

/-- A slice that reads as xs and lies outside the blocks S. -/
def SlS {α : Type} (S : Nat → Prop) (w : World) (A : Option Addr) (k : Nat) (enc : α → List Value) (xs : List α) : Prop :=
  0 < xs.length → ∃ b off, A = some ⟨b, off, none⟩ ∧ b < w.heap.size ∧ ¬ S b ∧ ∀ i x, xs[i]? = some x → Row w b (off + i * k) (enc x)

theorem Sl.slS {α : Type} {S : Nat → Prop} {w : World} {A : Option Addr} {k : Nat} {enc : α → List Value} {xs : List α} (h : Sl w A k enc xs) (hS : 0 < xs.length → ∀ b off, A = some ⟨b, off, none⟩ → ¬ S b) : SlS S w A k enc xs := by
  intro hx
  obtain ⟨b, off, e, hl, hc⟩ := h hx
  exact ⟨b, off, e, hl, hS hx b off e, hc⟩

theorem SlS.keep {α : Type} {S : Nat → Prop} {w w' : World} {A : Option Addr} {k : Nat} {enc : α → List Value} {xs : List α} (h : SlS S w A k enc xs) (hk : Keep S w w') : SlS S w' A k enc xs := by
  intro hx
  obtain ⟨b, off, rfl, hl, hS, hc⟩ := h hx
  exact ⟨b, off, rfl, Nat.lt_of_lt_of_le hl hk.size, hS, fun i x hi j v hj => hk.cell hS (hc i x hi j v hj)⟩

theorem SlS.below {α : Type} {S : Nat → Prop} {w w' : World} {A : Option Addr} {k : Nat} {enc : α → List Value} {xs : List α} (h : SlS S w A k enc xs) (hb : Below w.heap.size w w') : SlS S w' A k enc xs :=
  h.keep (Kept.below hb).keep

theorem name_worldIn {F : Fence} {n : Nat} {P : Program} {c : Code} {Q : Exit → Act → World → Prop} {a : Act} {w : World} (h : ∀ W, W = w → c.wpIn F n P Q a W) : c.wpIn F n P Q a w := h w rfl

def encTn (t : Tn) : Array Value := #[.agg #[.int .i64 t.cloth, .int .i64 t.taken, .int .i64 t.done]]

/-- A chooser of a span's end. -/
def Picks (g : Nat) (pick : TC → Int) : Prop := ∀ c W, Calls Try.prog g #[.agg #[.int .i64 c.lo, .int .i64 c.hi]] W fun e w' => e = .returned (.int .i64 (pick c)) ∧ Below W.heap.size W w'

theorem turn_low : Picks 39 TC.lo := by
  intro c W
  go_enter Try.func39, Try.ntmps39
  go_wp2
  go_ret
  exact ⟨rfl, (by repeat (first | with_reducible exact Below.refl _ _ | with_reducible assumption | with_reducible refine Below.al ?_ _ | with_reducible refine Below.drew ?_ | with_reducible refine Below.st ?_ (by first | (simp; done) | assumption | (simp; omega)) _ | with_reducible refine Below.call ?_ (by with_reducible assumption) | exact Below.refl _ _ | assumption | refine Below.al ?_ _ | refine Below.drew ?_ | refine Below.call ?_ (by assumption) | refine Below.st ?_ (by first | (simp; done) | assumption | (simp; omega)) _))⟩

theorem turn_high : Picks 40 TC.hi := by
  intro c W
  go_enter Try.func40, Try.ntmps40
  go_wp2
  go_ret
  exact ⟨rfl, (by repeat (first | with_reducible exact Below.refl _ _ | with_reducible assumption | with_reducible refine Below.al ?_ _ | with_reducible refine Below.drew ?_ | with_reducible refine Below.st ?_ (by first | (simp; done) | assumption | (simp; omega)) _ | with_reducible refine Below.call ?_ (by with_reducible assumption) | exact Below.refl _ _ | assumption | refine Below.al ?_ _ | refine Below.drew ?_ | refine Below.call ?_ (by assumption) | refine Below.st ?_ (by first | (simp; done) | assumption | (simp; omega)) _))⟩

set_option maxHeartbeats 1000000 in
theorem turn_turns (A A2 AO : Option Addr) (n n2 no cap cap2 capo : Nat) (s : Int) (g : Nat) (w : World) :
    Calls Try.prog 37 #[.agg #[.slice A n cap, .slice A2 n2 cap2], .slice AO no capo, .int .i64 s, .func (.func g) #[] #[]] w fun e w' => e = .returned (.func (.func 69) #[] #[.pointer (some ⟨w.heap.size + 1 + 1, 0, none⟩), .pointer (some ⟨w.heap.size + 1, 0, none⟩), .pointer (some ⟨w.heap.size, 0, none⟩), .pointer (some ⟨w.heap.size + 1 + 1 + 1, 0, none⟩)]) ∧
      ((((w.alloc (.cells #[.slice A n cap, .slice A2 n2 cap2] 108)).alloc (.cells #[.slice AO no capo] 29)).alloc (.cells #[.int .i64 s] 3)).alloc (.cells #[.func (.func g) #[] #[]] 160)) = w' := by
  go_enter Try.func37, Try.ntmps37
  go_wp2
  go_ret
  exact ⟨rfl, rfl⟩
end Go.Proofs.Ytacellaeepngkaa
