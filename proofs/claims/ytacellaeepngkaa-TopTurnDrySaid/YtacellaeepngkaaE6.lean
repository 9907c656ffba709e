/- tenter.Dry. -/
import Derived.Test.YtacellaeepngkaaE5
import Derived.Test.YtacellaeepngkaaTS
import Derived.Deep.AppendLies
import Derived.Deep.Onto
namespace Go.Proofs.Ytacellaeepngkaa
set_option linter.unusedVariables false
set_option linter.unusedSimpArgs false
open Go.RowKit Go.Shelf

theorem own_below {w w' : World} {base : Nat} {e : TypeId} {size : Nat} {v : Value} {n : Nat} {xs : List Value} (h : w.ownsRow base e size v n xs) (hb : Below w.heap.size w w') : w'.ownsRow base e size v n xs :=
  h.kept (row := none) ⟨hb.os, hb.tape, hb.output, hb.size, fun k hk _ => hb.block k hk⟩ (Classical.em _)

def cellsW (xs : List Wx) : List Value := xs.flatMap encWx

theorem cellsW_length (xs : List Wx) : (cellsW xs).length = xs.length * 2 := by
  induction xs with
  | nil => rfl
  | cons x l ih => simp only [cellsW, List.flatMap_cons, List.length_append] at *; rw [ih]; simp [encWx]; omega

theorem cellsW_get (xs : List Wx) (i : Nat) (hi : i < xs.length) : (cellsW xs)[i * 2]? = some (.int .i64 xs[i].1) ∧ (cellsW xs)[i * 2 + 1]? = some (.int .i64 xs[i].2) := by
  induction xs generalizing i with
  | nil => simp at hi
  | cons x l ih =>
    cases i with
    | zero => simp [cellsW, encWx]
    | succ i =>
      have := ih i (by simpa using hi)
      have e1 : (i + 1) * 2 = i * 2 + 1 + 1 := by omega
      simp only [cellsW, List.flatMap_cons, encWx, List.cons_append, List.nil_append, e1, List.getElem?_cons_succ, List.getElem_cons_succ] at *
      exact this

set_option maxRecDepth 100000 in
set_option maxHeartbeats 2000000 in
theorem tenter_Dry (cs : List TwC) (fr : List Int) (gap str : Int) (hf : FieldOk cs fr gap str) (ws : List Wx) (hw : SkyOk ws) (from_ : Nat) (hr : from_ ≤ ws.length) (A A2 A3 : Option Addr) (cap cap2 cap3 : Nat) (hc3 : ws.length ≤ cap3) (w : World)
    (hz : Sl w A 4 encTw cs) (hfr : Sl w A2 1 encI fr) (hs : Sl w A3 2 encWx ws) :
    Calls Try.prog 15 #[.agg #[.slice A cs.length cap, .slice A2 fr.length cap2, .int .i64 gap, .int .i64 str], .slice A3 ws.length cap3, .int .i64 from_] w fun e w' =>
      (∃ v, e = .returned (.tuple #[v, .int .i64 0]) ∧ w'.ownsRow w.heap.size 36 2 v cs.length (cellsW (cs.map fun c => dryF ws c from_)) ∧ (v = .slice none 0 0 ↔ cs.length = 0)) ∧ Below w.heap.size w w' := by
  obtain ⟨i0, hi, hz0, hz1, hz2⟩ := info_parts info_span
  have h7 := hf.few
  go_enter Try.func15, Try.ntmps15
  go_wp2_with fail
  refine (tenter_newForecast cs fr gap str hf ws hw from_ (by omega) A A2 A3 cap cap2 cap3 _ (hz.below (by repeat (first | with_reducible exact Below.refl _ _ | with_reducible assumption | with_reducible refine Below.al ?_ _ | with_reducible refine Below.drew ?_ | with_reducible refine Below.st ?_ (by first | (simp; done) | assumption | (simp; omega)) _ | with_reducible refine Below.call ?_ (by with_reducible assumption) | exact Below.refl _ _ | assumption | refine Below.al ?_ _ | refine Below.drew ?_ | refine Below.call ?_ (by assumption) | refine Below.st ?_ (by first | (simp; done) | assumption | (simp; omega)) _))) (hfr.below (by repeat (first | with_reducible exact Below.refl _ _ | with_reducible assumption | with_reducible refine Below.al ?_ _ | with_reducible refine Below.drew ?_ | with_reducible refine Below.st ?_ (by first | (simp; done) | assumption | (simp; omega)) _ | with_reducible refine Below.call ?_ (by with_reducible assumption) | exact Below.refl _ _ | assumption | refine Below.al ?_ _ | refine Below.drew ?_ | refine Below.call ?_ (by assumption) | refine Below.st ?_ (by first | (simp; done) | assumption | (simp; omega)) _))) (hs.below (by repeat (first | with_reducible exact Below.refl _ _ | with_reducible assumption | with_reducible refine Below.al ?_ _ | with_reducible refine Below.drew ?_ | with_reducible refine Below.st ?_ (by first | (simp; done) | assumption | (simp; omega)) _ | with_reducible refine Below.call ?_ (by with_reducible assumption) | exact Below.refl _ _ | assumption | refine Below.al ?_ _ | refine Below.drew ?_ | refine Below.call ?_ (by assumption) | refine Below.st ?_ (by first | (simp; done) | assumption | (simp; omega)) _)))).mono ?_
  rintro e w1 ⟨rfl, hb1⟩
  have c1_0 := fun o => hb1.cell (p := ⟨w.heap.size, o, none⟩) (by first | omega | (simp; done) | (simp; omega)); have f1_0 := fun o => hb1.frozen (p := ⟨w.heap.size, o, none⟩) (by first | omega | (simp; done) | (simp; omega)); have z1_0 : w.heap.size < w1.heap.size := (by have h := hb1.size; first | omega | (simp at h; omega))
  go_wp2_with fail
  refine name_world (fun W hW => ?_)
  have HB : Below w.heap.size w W := by rw [hW]; exact (by repeat (first | with_reducible exact Below.refl _ _ | with_reducible assumption | with_reducible refine Below.al ?_ _ | with_reducible refine Below.drew ?_ | with_reducible refine Below.st ?_ (by first | (simp; done) | assumption | (simp; omega)) _ | with_reducible refine Below.call ?_ (by with_reducible assumption) | exact Below.refl _ _ | assumption | refine Below.al ?_ _ | refine Below.drew ?_ | refine Below.call ?_ (by assumption) | refine Below.st ?_ (by first | (simp; done) | assumption | (simp; omega)) _))
  have hs1 : w1.heap.size < W.heap.size := by rw [hW]; simp
  have a0 : W.cell? ⟨w1.heap.size, 0, none⟩ = some (.slice A cs.length cap) := by rw [hW]; go_simp
  have a1 : W.cell? ⟨w1.heap.size, 1, none⟩ = some (.slice A2 fr.length cap2) := by rw [hW]; go_simp
  have a2 : W.cell? ⟨w1.heap.size, 2, none⟩ = some (.int .i64 gap) := by rw [hW]; go_simp
  have a3 : W.cell? ⟨w1.heap.size, 3, none⟩ = some (.int .i64 str) := by rw [hW]; go_simp
  have a4 : W.cell? ⟨w1.heap.size, 4, none⟩ = some (.slice A3 ws.length cap3) := by rw [hW]; go_simp
  clear hW c1_0 f1_0
  go_loopw [6, 9, 23] (fun v _ k wr => ∃ q : Nat, q ≤ cs.length ∧ k = .int .i64 q ∧ wr.ownsRow W.heap.size 36 2 v q (cellsW ((cs.take q).map fun c => dryF ws c from_)) ∧ Below W.heap.size W wr ∧ (v = .slice none 0 0 ↔ q = 0)) (fun _ _ k _ => cs.length - (intOf k).toNat)
  case atStart => exact ⟨0, Nat.zero_le _, rfl, World.ownsRow_nil _ _ _ _, Below.refl _ _, by simp⟩
  case round =>
    obtain ⟨q, hq, rfl, hrow, hb, hnil⟩ := hrel
    by_cases hlt : q < cs.length
    · have hqz : (q : Int) < (cs.length : Int) := by omega
      have d0 := hb.rdcell hs1 a0
      have d1 := hb.rdcell hs1 a1
      have d2 := hb.rdcell hs1 a2
      have d3 := hb.rdcell hs1 a3
      have d4 := hb.rdcell hs1 a4
      have hdry := tenter_dry cs fr gap str hf ws hw q hlt from_ hr A A2 A3 cap cap2 cap3 hc3 wr (hz.below (HB.call hb)) (hs.below (HB.call hb))
      generalize hD : dryF ws cs[q] from_ = D at *
      have HD := Lib.hid hD
      clear hD hnil
      go_wp2_with fail
      refine hdry.mono ?_
      rintro e w2 ⟨rfl, hb2⟩
      have hrow2 : w2.ownsRow W.heap.size 36 2 u6 q (cellsW ((cs.take q).map fun c => dryF ws c from_)) := own_below hrow hb2
      clear hdry
      go_wp2_with (at_builtin; refine wpList_append_own _ rfl _ _ 27 rfl W.heap.size 36 i0 _ 2 16 Try.underlying27 hi hz0 hz1 hz2 rfl (by decide) _ _ _ rfl (hrow2.alloc _) ⟨w2.heap.size, 0, none⟩ 1 1 [.int .i64 D.1, .int .i64 D.2] rfl rfl (World.news_of_block (cs := #[.int .i64 D.1, .int .i64 D.2]) (t := 36) (fr := (0, 0)) (World.alloc_heap_new _ _)) (by simp [Value.oneCell']) (by unfold maxLen; omega) (by omega) (by have := hb.size; have := hb2.size; simp; omega) ?_; intro v' w3 hown' hgrow _)
      go_roundw
      case rel =>
        obtain ⟨g', cap', rfl⟩ := ownsRow_succ hown'
        refine ⟨q + 1, by omega, by go_num, ?_, ?_, by simp⟩
        · rw [List.take_succ_eq_append_getElem hlt, List.map_append]
          simp only [cellsW, List.flatMap_append, List.map_cons, List.map_nil, List.flatMap_cons, List.flatMap_nil, HD.out] at hown' ⊢
          exact hown'
        · exact ((hb.call hb2).al _).grown hgrow (by have := hb.size; have := hb2.size; simp; omega) (fun k hk => (hrow2.lt k hk).1)
      case measure => simp [intOf]; omega
    · obtain rfl : q = cs.length := by omega
      have hqz : ¬ ((cs.length : Nat) : Int) < (cs.length : Int) := by omega
      have HN := Lib.hid hnil
      clear hnil
      rw [List.take_length] at hrow
      go_wp2
      exact bodyPost_ret (v := .tuple #[u6, .int .i64 0]) (by simp [results, Try.results15, go_sem]) rfl ⟨⟨u6, rfl, hrow.mono HB.size, by simpa using HN.out⟩, HB.call hb⟩
end Go.Proofs.Ytacellaeepngkaa
