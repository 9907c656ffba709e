/- elmSpan, elmSpans, elmInts. -/
import Derived.Test.YtacellaeepngkaaE6
import Derived.Test.YtacellaeepngkaaAP
namespace Go.Proofs.Ytacellaeepngkaa
set_option linter.unusedVariables false
set_option linter.unusedSimpArgs false
open Go.RowKit Go.Shelf

theorem own_form {α : Type} {w : World} {base : Nat} {e : TypeId} {k : Nat} {v : Value} {enc : α → List Value} {xs : List α} (hk : ∀ x, (enc x).length = k) (h : w.ownsRow base e k v xs.length (xs.flatMap enc)) :
    ∃ A cap, v = .slice A xs.length cap ∧ xs.length ≤ cap ∧ Sl w A k enc xs ∧ ∀ b off, A = some ⟨b, off, none⟩ → base ≤ b := by
  have hlt := h.lt
  rcases h.2 with ⟨rfl, h0⟩ | ⟨g, cap, cur, rfl, hg, hcur, hnc, h5⟩
  · refine ⟨none, 0, by rw [h0], by omega, fun hx => by omega, fun _ _ hA => by cases hA⟩
  · refine ⟨some ⟨g, 0, none⟩, cap, rfl, hnc, fun hx => ⟨g, 0, rfl, (hlt g rfl).2, fun i x hi j u hj => ?_⟩, fun b off hA => by cases hA; exact hg⟩
    have hjk : j < k := by rw [← hk x]; exact (List.getElem?_eq_some_iff.1 hj).1
    obtain ⟨hi', hxi⟩ := List.getElem?_eq_some_iff.1 hi
    have hlt2 : i * k + j < xs.length * k := by
      have : (i + 1) * k ≤ xs.length * k := Nat.mul_le_mul_right k hi'
      rw [Nat.add_mul] at this; omega
    have hc := h.cellAt (i * k + j) hlt2
    rw [Nat.zero_add, hc]
    have key : ∀ (ys : List α) (i : Nat), ys[i]? = some x → (ys.flatMap enc)[i * k + j]? = some u := by
      intro ys
      induction ys with
      | nil => intro i hi; simp at hi
      | cons y l ih =>
        intro i hi
        rw [List.flatMap_cons]
        cases i with
        | zero =>
          simp only [List.getElem?_cons_zero, Option.some.injEq] at hi
          subst hi
          rw [Nat.zero_mul, Nat.zero_add, List.getElem?_append_left (by rw [hk]; exact hjk)]; exact hj
        | succ i =>
          rw [List.getElem?_append_right (by rw [hk, Nat.add_mul]; omega), hk]
          have : (i + 1) * k + j - k = i * k + j := by rw [Nat.add_mul]; omega
          rw [this]
          exact ih i (by simpa using hi)
    exact key xs i hi

theorem own_empty (w : World) (base : Nat) (e : TypeId) (size : Nat) (hb : base ≤ w.heap.size) : (w.alloc (.cells #[] e)).ownsRow base e size (.slice (some ⟨w.heap.size, 0, none⟩) 0 0) 0 [] :=
  World.ownsRow_lit w #[] 0 hb (by unfold maxLen; omega) (by simp)

theorem below_of_grown {w w' : World} {base : Nat} {row : Option Nat} (h : w.grownBy w' row) (hb : base ≤ w.heap.size) (hr : ∀ k, row = some k → base ≤ k) : Below base w w' :=
  (Below.refl base w).grown h hb hr

set_option maxHeartbeats 1000000 in
theorem elm_Span (a b : Int) (w : World) : Calls Try.prog 8 #[.int .i64 a, .int .i64 b] w fun e w' => e = .returned (.agg #[.int .i64 a, .int .i64 b]) ∧ Below w.heap.size w w' := by
  go_enter Try.func8, Try.ntmps8
  go_wp2
  refine bodyPost_ret (v := .agg #[.int .i64 a, .int .i64 b]) (by simp [results, Try.results8, go_sem]) rfl ⟨rfl, (by repeat (first | with_reducible exact Below.refl _ _ | with_reducible assumption | with_reducible refine Below.al ?_ _ | with_reducible refine Below.drew ?_ | with_reducible refine Below.st ?_ (by first | (simp; done) | assumption | (simp; omega)) _ | with_reducible refine Below.call ?_ (by with_reducible assumption) | exact Below.refl _ _ | assumption | refine Below.al ?_ _ | refine Below.drew ?_ | refine Below.call ?_ (by assumption) | refine Below.st ?_ (by first | (simp; done) | assumption | (simp; omega)) _))⟩

set_option maxHeartbeats 1000000 in
theorem elm_Spans (A : Option Addr) (cap : Nat) (xs : List Wx) (hx : xs.length ≤ 1000) (w : World) (hs : Sl w A 2 encWx xs) :
    Calls Try.prog 14 #[.slice A xs.length cap] w fun e w' => (∃ v, e = .returned v ∧ w'.ownsRow w.heap.size 36 2 v xs.length (xs.flatMap encWx)) ∧ Below w.heap.size w w' := by
  obtain ⟨i0, hi, hz0, hz1, hz2⟩ := info_parts info_span
  go_enter Try.func14, Try.ntmps14
  go_wp2_with (at_builtin; refine wpList_append_sl rfl _ _ 27 rfl w.heap.size 36 i0 _ 2 16 Try.underlying27 hi hz0 hz1 hz2 rfl (by decide) _ 0 [] rfl (own_empty w w.heap.size _ 2 (Nat.le_refl _)) A cap encWx xs rfl (fun _ => rfl) (fun x u hu => by simp only [encWx, List.mem_cons, List.not_mem_nil, or_false] at hu; rcases hu with rfl | rfl <;> rfl) (hs.below (by repeat (first | with_reducible exact Below.refl _ _ | with_reducible assumption | with_reducible refine Below.al ?_ _ | with_reducible refine Below.drew ?_ | with_reducible refine Below.st ?_ (by first | (simp; done) | assumption | (simp; omega)) _ | with_reducible refine Below.call ?_ (by with_reducible assumption) | exact Below.refl _ _ | assumption | refine Below.al ?_ _ | refine Below.drew ?_ | refine Below.call ?_ (by assumption) | refine Below.st ?_ (by first | (simp; done) | assumption | (simp; omega)) _))) (by unfold maxLen; omega) (by omega) (by simp) ?_; intro v' w1 hown hgrow _)
  go_ret
  exact ⟨⟨v', rfl, by simpa using hown⟩, ((Below.refl _ w).al _).trans (below_of_grown hgrow (by simp) (fun k hk => by cases hk; exact Nat.le_refl _))⟩

set_option maxRecDepth 100000 in
set_option maxHeartbeats 1000000 in
theorem elm_Ints (A B : Option Addr) (ca cb : Nat) (xs ys : List Int) (hx : xs.length ≤ 1000) (w : World) (ha : Sl w A 1 encI xs) (hb : Sl w B 1 encI ys) (he : xs = ys) :
    Calls Try.prog 45 #[.slice A xs.length ca, .slice B ys.length cb] w fun e w' => e = .returned (.bool true) ∧ Below w.heap.size w w' := by
  subst he
  go_enter Try.func45, Try.ntmps45
  go_wp2
  go_loopw [5] (fun v wr => ∃ q : Nat, q ≤ xs.length ∧ v = .int .i64 q ∧ Below w.heap.size w wr) (fun v _ => xs.length - (intOf v).toNat)
  case atStart => exact ⟨0, Nat.zero_le _, rfl, Below.refl _ _⟩
  case round =>
    obtain ⟨q, hq, rfl, hbw⟩ := hrel
    by_cases hlt : q < xs.length
    · have hqz : (q : Int) < (xs.length : Int) := by omega
      obtain ⟨b1, o1, rfl, hb1, hc1⟩ := ha (by omega)
      obtain ⟨b2, o2, rfl, hb2, hc2⟩ := hb (by omega)
      have x1 := hbw.rdcell hb1 ((hc1 q xs[q] (List.getElem?_eq_getElem hlt)).cell 0 rfl)
      have x2 := hbw.rdcell hb2 ((hc2 q xs[q] (List.getElem?_eq_getElem hlt)).cell 0 rfl)
      simp only [Nat.add_zero, Nat.mul_one] at x1 x2
      clear hc1 hc2 ha hb
      go_wp2
      go_region
      go_wp2
      go_roundw
      case rel => exact ⟨q + 1, by omega, by go_num, hbw.drew⟩
      case measure => simp [intOf]; omega
    · have hqz : ¬ (q : Int) < (xs.length : Int) := by omega
      clear ha hb
      go_wp2
      go_ret
      exact ⟨rfl, hbw⟩
end Go.Proofs.Ytacellaeepngkaa
