/- tenter.isSpan, tenter.Check. -/
import Derived.Test.YtacellaeepngkaaWtenter
import Derived.Test.YtacellaeepngkaaCtw
import Derived.Test.YtacellaeepngkaaCsp
import Derived.Test.YtacellaeepngkaaQ0
namespace Go.Proofs.Ytacellaeepngkaa
set_option linter.unusedVariables false
set_option linter.unusedSimpArgs false
open Go.RowKit Go.Shelf

/-- A cloth on a tenter: how long it is, how much water it has, at least and at most. -/
structure TwC where
  ll : Int
  lh : Int
  wl : Int
  wh : Int
  deriving Inhabited, DecidableEq

def TwC.ok (c : TwC) : Prop := 1 ≤ c.ll ∧ c.ll ≤ c.lh ∧ c.lh ≤ 2000 ∧ 0 ≤ c.wl ∧ c.wl ≤ c.wh ∧ c.wh ≤ 500
def encTw (c : TwC) : List Value := [.int .i64 c.ll, .int .i64 c.lh, .int .i64 c.wl, .int .i64 c.wh]

/-- A valid field. -/
structure FieldOk (cs : List TwC) (fr : List Int) (gap str : Int) : Prop where
  few : cs.length ≤ 7
  frames : 1 ≤ fr.length ∧ fr.length ≤ 3
  cloths : ∀ c ∈ cs, c.ok
  longs : ∀ x ∈ fr, 1 ≤ x ∧ x ≤ 2000
  gap0 : 0 ≤ gap ∧ gap ≤ 50
  str0 : 0 ≤ str ∧ str ≤ 200

set_option maxHeartbeats 1000000 in
theorem tenter_isSpan (lo hi a b : Int) (h1 : a ≤ lo) (h2 : lo ≤ hi) (h3 : hi ≤ b) (w : World) :
    Calls Try.prog 77 #[.agg #[.int .i64 lo, .int .i64 hi], .int .i64 a, .int .i64 b] w fun e w' => e = .returned (.bool true) ∧ Below w.heap.size w w' := by
  go_enter Try.func77, Try.ntmps77
  go_wp2_with fail
  refine (tenter_within2 (x := lo) (y := hi) (by simp) (by go_simp) (by go_simp) (by omega) (by omega)).mono ?_
  rintro e w1 ⟨rfl, hb1⟩
  have k0 : w1.cell? ⟨w.heap.size, 0, none⟩ = some (.int .i64 lo) := by rw [hb1.cell (by simp; omega)]; go_simp
  have k1 : w1.cell? ⟨w.heap.size, 1, none⟩ = some (.int .i64 hi) := by rw [hb1.cell (by simp; omega)]; go_simp
  go_wp2
  go_ret
  exact ⟨retB rfl (by first | rfl | (simp; done) | (simp; omega)), (by repeat (first | with_reducible exact Below.refl _ _ | with_reducible assumption | with_reducible refine Below.al ?_ _ | with_reducible refine Below.drew ?_ | with_reducible refine Below.st ?_ (by first | (simp; done) | assumption | (simp; omega)) _ | with_reducible refine Below.call ?_ (by with_reducible assumption) | exact Below.refl _ _ | assumption | refine Below.al ?_ _ | refine Below.drew ?_ | refine Below.call ?_ (by assumption) | refine Below.st ?_ (by first | (simp; done) | assumption | (simp; omega)) _))⟩

set_option maxHeartbeats 1000000 in
theorem tenter_Check_1 (c : TwC) (hc : c.ok) (w : World) :
    Calls Try.prog 118 #[.agg #[.int .i64 c.ll, .int .i64 c.lh, .int .i64 c.wl, .int .i64 c.wh]] w fun e w' => e = .returned (.bool false) ∧ Below w.heap.size w w' := by
  obtain ⟨h1, h2, h3, h4, h5, h6⟩ := hc
  go_enter Try.func118, Try.ntmps118
  go_wp2_with fail
  refine (tenter_isSpan c.ll c.lh 1 2000 h1 h2 h3 _).mono ?_
  rintro e w1 ⟨rfl, hb1⟩
  have k0 : w1.cell? ⟨w.heap.size, 2, none⟩ = some (.int .i64 c.wl) := by rw [hb1.cell (by simp)]; go_simp
  have k1 : w1.cell? ⟨w.heap.size, 3, none⟩ = some (.int .i64 c.wh) := by rw [hb1.cell (by simp)]; go_simp
  go_wp2_with fail
  refine (tenter_isSpan c.wl c.wh 0 500 h4 h5 h6 _).mono ?_
  rintro e w2 ⟨rfl, hb2⟩
  go_wp2
  go_ret
  exact ⟨retB rfl rfl, (by repeat (first | with_reducible exact Below.refl _ _ | with_reducible assumption | with_reducible refine Below.al ?_ _ | with_reducible refine Below.drew ?_ | with_reducible refine Below.st ?_ (by first | (simp; done) | assumption | (simp; omega)) _ | with_reducible refine Below.call ?_ (by with_reducible assumption) | exact Below.refl _ _ | assumption | refine Below.al ?_ _ | refine Below.drew ?_ | refine Below.call ?_ (by assumption) | refine Below.st ?_ (by first | (simp; done) | assumption | (simp; omega)) _))⟩

set_option maxHeartbeats 1000000 in
theorem tenter_Check (cs : List TwC) (fr : List Int) (gap str : Int) (hf : FieldOk cs fr gap str) (A A2 : Option Addr) (cap cap2 : Nat) (w : World) (hz : Sl w A 4 encTw cs) (hr : Sl w A2 1 encI fr) :
    Calls Try.prog 73 #[.agg #[.slice A cs.length cap, .slice A2 fr.length cap2, .int .i64 gap, .int .i64 str]] w fun e w' => e = .returned (.int .i64 0) ∧ Below w.heap.size w w' := by
  have h7 := hf.few
  have ⟨h1, h2⟩ := hf.frames
  have hs7 : decide ((cs.length : Int) > 7) = false := by simp; omega
  go_enter Try.func73, Try.ntmps73
  go_wp2_with fail
  refine (tenter_within1 (x := (fr.length : Int)) (by simp) (by go_simp) (by omega)).mono ?_
  rintro e w1 ⟨rfl, hb1⟩
  have c1_0 := fun o => hb1.cell (p := ⟨w.heap.size, o, none⟩) (by first | omega | (simp; done) | (simp; omega)); have f1_0 := fun o => hb1.frozen (p := ⟨w.heap.size, o, none⟩) (by first | omega | (simp; done) | (simp; omega)); have z1_0 : w.heap.size < w1.heap.size := (by have h := hb1.size; first | omega | (simp at h; omega))
  go_wp2_with fail
  have HB1 : Below w.heap.size w w1 := (by repeat (first | with_reducible exact Below.refl _ _ | with_reducible assumption | with_reducible refine Below.al ?_ _ | with_reducible refine Below.drew ?_ | with_reducible refine Below.st ?_ (by first | (simp; done) | assumption | (simp; omega)) _ | with_reducible refine Below.call ?_ (by with_reducible assumption) | exact Below.refl _ _ | assumption | refine Below.al ?_ _ | refine Below.drew ?_ | refine Below.call ?_ (by assumption) | refine Below.st ?_ (by first | (simp; done) | assumption | (simp; omega)) _))
  refine (contains_tw_none (α := TwC) (fun c => .int .i64 c.ll) (fun c => .int .i64 c.lh) (fun c => .int .i64 c.wl) (fun c => .int .i64 c.wh) 118 _ A cap cs w1 (enters_of Try.func118 (by kernel_rfl) rfl) ?_ (hz.below HB1) (by omega)).mono ?_
  · intro W x hx hW
    exact tenter_Check_1 x (hf.cloths x hx) W
  rintro e w2 ⟨rfl, hb2⟩
  have c2_0 := fun o => hb2.cell (p := ⟨w.heap.size, o, none⟩) (by first | omega | (simp; done) | (simp; omega)); have f2_0 := fun o => hb2.frozen (p := ⟨w.heap.size, o, none⟩) (by first | omega | (simp; done) | (simp; omega)); have z2_0 : w.heap.size < w2.heap.size := (by have h := hb2.size; first | omega | (simp at h; omega))
  go_wp2_with fail
  refine (tenter_within 1 2000 A2 cap2 fr w2 (hr.below (by repeat (first | with_reducible exact Below.refl _ _ | with_reducible assumption | with_reducible refine Below.al ?_ _ | with_reducible refine Below.drew ?_ | with_reducible refine Below.st ?_ (by first | (simp; done) | assumption | (simp; omega)) _ | with_reducible refine Below.call ?_ (by with_reducible assumption) | exact Below.refl _ _ | assumption | refine Below.al ?_ _ | refine Below.drew ?_ | refine Below.call ?_ (by assumption) | refine Below.st ?_ (by first | (simp; done) | assumption | (simp; omega)) _))) (by omega)).mono ?_
  rintro e w3 ⟨rfl, hb3⟩
  have hin : inB 1 2000 fr = true := by simp only [inB, List.all_eq_true]; intro x hx; have := hf.longs x hx; simp [this]
  have c3_0 := fun o => hb3.cell (p := ⟨w.heap.size, o, none⟩) (by first | omega | (simp; done) | (simp; omega)); have f3_0 := fun o => hb3.frozen (p := ⟨w.heap.size, o, none⟩) (by first | omega | (simp; done) | (simp; omega)); have z3_0 : w.heap.size < w3.heap.size := (by have h := hb3.size; first | omega | (simp at h; omega))
  go_wp2_with fail
  refine (tenter_within1 (x := gap) (by simp) (by go_simp) hf.gap0).mono ?_
  rintro e w4 ⟨rfl, hb4⟩
  have c4_0 := fun o => hb4.cell (p := ⟨w.heap.size, o, none⟩) (by first | omega | (simp; done) | (simp; omega)); have f4_0 := fun o => hb4.frozen (p := ⟨w.heap.size, o, none⟩) (by first | omega | (simp; done) | (simp; omega)); have z4_0 : w.heap.size < w4.heap.size := (by have h := hb4.size; first | omega | (simp at h; omega))
  go_wp2_with fail
  refine (tenter_within1 (x := str) (by simp) (by go_simp) hf.str0).mono ?_
  rintro e w5 ⟨rfl, hb5⟩
  go_wp2
  go_ret
  exact ⟨rfl, (by repeat (first | with_reducible exact Below.refl _ _ | with_reducible assumption | with_reducible refine Below.al ?_ _ | with_reducible refine Below.drew ?_ | with_reducible refine Below.st ?_ (by first | (simp; done) | assumption | (simp; omega)) _ | with_reducible refine Below.call ?_ (by with_reducible assumption) | exact Below.refl _ _ | assumption | refine Below.al ?_ _ | refine Below.drew ?_ | refine Below.call ?_ (by assumption) | refine Below.st ?_ (by first | (simp; done) | assumption | (simp; omega)) _))⟩

/-- An hour's weather: how much water dries, at least and at most. -/
abbrev Wx := Int × Int
def encWx (x : Wx) : List Value := [.int .i64 x.1, .int .i64 x.2]
structure SkyOk (ws : List Wx) : Prop where
  few : 1 ≤ ws.length ∧ ws.length ≤ 24
  hours : ∀ x ∈ ws, 0 ≤ x.1 ∧ x.1 ≤ x.2 ∧ x.2 ≤ 100

set_option maxHeartbeats 1000000 in
theorem tenter_newForecast_1 (x : Wx) (h0 : 0 ≤ x.1) (h1 : x.1 ≤ x.2) (h2 : x.2 ≤ 100) (w : World) :
    Calls Try.prog 76 #[.agg #[.int .i64 x.1, .int .i64 x.2]] w fun e w' => e = .returned (.bool false) ∧ Below w.heap.size w w' := by
  go_enter Try.func76, Try.ntmps76
  go_wp2_with fail
  refine (tenter_isSpan x.1 x.2 0 100 h0 h1 h2 _).mono ?_
  rintro e w1 ⟨rfl, hb1⟩
  go_wp2
  go_ret
  exact ⟨retB rfl rfl, (by repeat (first | with_reducible exact Below.refl _ _ | with_reducible assumption | with_reducible refine Below.al ?_ _ | with_reducible refine Below.drew ?_ | with_reducible refine Below.st ?_ (by first | (simp; done) | assumption | (simp; omega)) _ | with_reducible refine Below.call ?_ (by with_reducible assumption) | exact Below.refl _ _ | assumption | refine Below.al ?_ _ | refine Below.drew ?_ | refine Below.call ?_ (by assumption) | refine Below.st ?_ (by first | (simp; done) | assumption | (simp; omega)) _))⟩

set_option maxHeartbeats 1000000 in
theorem tenter_isCloth (n : Nat) (i : Nat) (hi : i < n) (hn : n ≤ 7) (A : Option Addr) (cap : Nat) (v : Value) (A2 : Option Addr) (m cap2 : Nat) (hv : v = .slice A2 m cap2) (gap str : Int) (w : World) :
    Calls Try.prog 42 #[.agg #[.slice A n cap, v, .int .i64 gap, .int .i64 str], .int .i64 i] w fun e w' => e = .returned (.bool true) ∧ Below w.heap.size w w' := by
  subst hv
  have hw : IntKind.i64.wrap ((n : Int) - 1) = (n : Int) - 1 := IntWalk.i64_in _ (by omega)
  go_enter Try.func42, Try.ntmps42
  go_wp2_with fail
  refine (tenter_within1 (lo := 0) (hi := (n : Int) - 1) (x := (i : Int)) (by simp) (by go_simp) (by omega)).mono ?_
  rintro e w1 ⟨rfl, hb1⟩
  go_wp2
  go_ret
  exact ⟨rfl, (by repeat (first | with_reducible exact Below.refl _ _ | with_reducible assumption | with_reducible refine Below.al ?_ _ | with_reducible refine Below.drew ?_ | with_reducible refine Below.st ?_ (by first | (simp; done) | assumption | (simp; omega)) _ | with_reducible refine Below.call ?_ (by with_reducible assumption) | exact Below.refl _ _ | assumption | refine Below.al ?_ _ | refine Below.drew ?_ | refine Below.call ?_ (by assumption) | refine Below.st ?_ (by first | (simp; done) | assumption | (simp; omega)) _))⟩
end Go.Proofs.Ytacellaeepngkaa
