/- What (day).turns hands back is an iterator; standing facts for loops over it. -/
import Derived.Test.YtacellaeepngkaaTV
import Derived.Test.YtacellaeepngkaaD2
namespace Go.Proofs.Ytacellaeepngkaa
set_option linter.unusedVariables false
set_option linter.unusedSimpArgs false
open Go.RowKit Go.Shelf

theorem turns_seq (cs : List TC) (pick : TC → Int) (g : Nat) (hg : Picks g pick) (eg : ∀ args w, (callFunc g args).run Try.prog w = .ok (.enter g args) w) (order : List Int) (hlo : order.length ≤ 1000) (s : Nat) (hs : 1 ≤ s ∧ s ≤ 5)
    (hcs : ∀ c ∈ cs, 0 ≤ c.comes ∧ c.comes ≤ 200) (hp : ∀ c ∈ cs, 0 ≤ pick c ∧ pick c ≤ 20) (hor : ∀ o ∈ order, 0 ≤ o ∧ o < cs.length) (S : Nat → Prop) (w : World)
    (bs bo bd bf : Nat) (nbs : ¬ S bs) (nbo : ¬ S bo) (nbd : ¬ S bd) (nbf : ¬ S bf) (A A2 AO : Option Addr) (n2 cap cap2 capo : Nat)
    (hbs : w.cell? ⟨bs, 0, none⟩ = some (.int .i64 s)) (hbo : w.cell? ⟨bo, 0, none⟩ = some (.slice AO order.length capo)) (hbd : w.cell? ⟨bd, 0, none⟩ = some (.slice A cs.length cap)) (hbd2 : w.cell? ⟨bd, 1, none⟩ = some (.slice A2 n2 cap2))
    (hbf : w.cell? ⟨bf, 0, none⟩ = some (.func (.func g) #[] #[])) (hz : SlS S w A 4 encTC cs) (ho : SlS S w AO 1 encI order) :
    Seq Try.prog 69 #[.pointer (some ⟨bs, 0, none⟩), .pointer (some ⟨bo, 0, none⟩), .pointer (some ⟨bd, 0, none⟩), .pointer (some ⟨bf, 0, none⟩)] encTn S (turnsF cs pick (List.replicate s 0) order) w := by
  intro l J Jx W hW hJs hJxs hS hY h0
  exact turns_1 cs pick g hg eg order hlo s hs hcs hp hor S l J Jx W hJs hS bs bo bd bf nbs nbo nbd nbf A A2 AO n2 cap cap2 capo
    (hW.rdcell (cell_lt hbs) hbs) (hW.rdcell (cell_lt hbo) hbo) (hW.rdcell (cell_lt hbd) hbd) (hW.rdcell (cell_lt hbd2) hbd2) (hW.rdcell (cell_lt hbf) hbf) (hz.below hW) (ho.below hW) hY h0

theorem SlS.sl {α : Type} {S : Nat → Prop} {w : World} {A : Option Addr} {k : Nat} {enc : α → List Value} {xs : List α} (h : SlS S w A k enc xs) : Sl w A k enc xs := by
  intro hx
  obtain ⟨b, off, e, hl, _, hc⟩ := h hx
  exact ⟨b, off, e, hl, hc⟩

/-- The iterator just made, over slices that lie outside S. -/
theorem turns_fresh (cs : List TC) (pick : TC → Int) (g : Nat) (hg : Picks g pick) (eg : ∀ args w, (callFunc g args).run Try.prog w = .ok (.enter g args) w) (order : List Int) (hlo : order.length ≤ 1000) (s : Nat) (hs : 1 ≤ s ∧ s ≤ 5)
    (hcs : ∀ c ∈ cs, 0 ≤ c.comes ∧ c.comes ≤ 200) (hp : ∀ c ∈ cs, 0 ≤ pick c ∧ pick c ≤ 20) (hor : ∀ o ∈ order, 0 ≤ o ∧ o < cs.length) (S : Nat → Prop) (w2 w3 : World) (A A2 AO : Option Addr) (n2 cap cap2 capo : Nat)
    (hw3 : ((((w2.alloc (.cells #[.slice A cs.length cap, .slice A2 n2 cap2] 108)).alloc (.cells #[.slice AO order.length capo] 29)).alloc (.cells #[.int .i64 s] 3)).alloc (.cells #[.func (.func g) #[] #[]] 160)) = w3)
    (hz : Sl w2 A 4 encTC cs) (ho : Sl w2 AO 1 encI order) (hS : ∀ k, S k → k < w2.heap.size) (hcS : 0 < cs.length → ∀ b off, A = some ⟨b, off, none⟩ → ¬ S b) (hoS : 0 < order.length → ∀ b off, AO = some ⟨b, off, none⟩ → ¬ S b) :
    Seq Try.prog 69 #[.pointer (some ⟨w2.heap.size + 1 + 1, 0, none⟩), .pointer (some ⟨w2.heap.size + 1, 0, none⟩), .pointer (some ⟨w2.heap.size, 0, none⟩), .pointer (some ⟨w2.heap.size + 1 + 1 + 1, 0, none⟩)] encTn S (turnsF cs pick (List.replicate s 0) order) w3 := by
  have nS : ∀ k, w2.heap.size ≤ k → ¬ S k := fun k hk h => by have := hS k h; omega
  have HB : Below w2.heap.size w2 w3 := by rw [← hw3]; exact (by repeat (first | with_reducible exact Below.refl _ _ | with_reducible assumption | with_reducible refine Below.al ?_ _ | with_reducible refine Below.drew ?_ | with_reducible refine Below.st ?_ (by first | (simp; done) | assumption | (simp; omega)) _ | with_reducible refine Below.call ?_ (by with_reducible assumption) | exact Below.refl _ _ | assumption | refine Below.al ?_ _ | refine Below.drew ?_ | refine Below.call ?_ (by assumption) | refine Below.st ?_ (by first | (simp; done) | assumption | (simp; omega)) _))
  refine turns_seq cs pick g hg eg order hlo s hs hcs hp hor S w3 _ _ _ _ (nS _ (by omega)) (nS _ (by omega)) (nS _ (by omega)) (nS _ (by omega)) A A2 AO n2 cap cap2 capo ?_ ?_ ?_ ?_ ?_ ((hz.slS hcS).below HB) ((ho.slS hoS).below HB)
  all_goals (subst hw3; go_simp)

theorem stable_keep {S : Nat → Prop} {W0 : World} {B : Nat} (h : W0.heap.size ≤ B) : Stable B (Keep S W0) := fun A C hA hs hb =>
  ⟨Nat.le_trans hA.size hb.size, fun k o hk hc hn => (hb.block k (Nat.lt_of_lt_of_le (lt_of_get hk) h)).trans (hA.same k o hk hc hn)⟩
theorem stable_below {w : World} {B : Nat} (h : w.heap.size ≤ B) : Stable B (Below w.heap.size w) := fun A C hA hs hb => hA.trans (hb.mono h)
theorem stable_cell {b o B : Nat} {v : Value} (h : b < B) : Stable B fun W => W.cell? ⟨b, o, none⟩ = some v := fun A C hA hs hb =>
  (hb.cell (p := ⟨b, o, none⟩) h).trans hA
theorem stable_free {b o B : Nat} {v : Bool} (h : b < B) : Stable B fun W => W.frozen? ⟨b, o, none⟩ = v := fun A C hA hs hb =>
  (hb.frozen (p := ⟨b, o, none⟩) h).trans hA
theorem Stable.and {B : Nat} {F G : World → Prop} (h : Stable B F) (k : Stable B G) : Stable B fun W => F W ∧ G W := fun A C hA hs hb => ⟨h A C hA.1 hs hb, k A C hA.2 hs hb⟩
theorem stable_false {B : Nat} : Stable B fun _ => False := fun _ _ h _ _ => h

theorem other_setCell {w : World} {a : Addr} {v : Value} {D : Nat} {o : Obj} (h : w.heap[D]? = some o) (hne : D ≠ a.block) : (w.setCell a v).heap[D]? = some o :=
  (Below.heap_setCell _ _ _ D hne).trans h

section
variable {P : Program}
theorem leaves_1 {F : Fence} {n : Nat} {fn : Func} {tmps : Array Value} {R : Ending → World → Prop} {D : Nat} {w : World} (h : w.heap[D]? = some (.deferred (some [])))
    (hr : LeavesIn F n P fn tmps R [] .returning (w.putObj D (.deferred none))) : LeavesInM F n P fn tmps R [{ target := .collected D, args := #[] }] .returning w :=
  ⟨by simp, .inl ⟨_, _, rfl, run_takeDeferred h, hr⟩⟩

theorem leaves_2 {F : Fence} {n : Nat} {fn : Func} {tmps : Array Value} {R : Ending → World → Prop} {D D2 : Nat} {w : World} (h : w.heap[D]? = some (.deferred (some []))) (h2 : w.heap[D2]? = some (.deferred (some []))) (hne : D ≠ D2)
    (hr : LeavesIn F n P fn tmps R [] .returning ((w.putObj D2 (.deferred none)).putObj D (.deferred none))) : LeavesInM F n P fn tmps R [{ target := .collected D2, args := #[] }, { target := .collected D, args := #[] }] .returning w :=
  ⟨by simp, .inl ⟨_, _, rfl, run_takeDeferred h2, leaves_1 ((World.putObj_heap_other hne).trans h) hr⟩⟩

theorem cell_put {w : World} {b o D : Nat} {x : Obj} (hne : b ≠ D) : (w.putObj D x).cell? ⟨b, o, none⟩ = w.cell? ⟨b, o, none⟩ :=
  World.cell?_of_block (World.putObj_heap_other hne)

theorem frozen_put {w : World} {b o D : Nat} {x : Obj} (hne : b ≠ D) : (w.putObj D x).frozen? ⟨b, o, none⟩ = w.frozen? ⟨b, o, none⟩ :=
  World.frozen?_of_block (World.putObj_heap_other hne)

theorem below_put {w W : World} (h : Below w.heap.size w W) {D : Nat} (hD : w.heap.size ≤ D) (o : Obj) : Below w.heap.size w (W.putObj D o) :=
  h.trans ⟨rfl, rfl, rfl, by simp, fun k hk => World.putObj_heap_other (by omega)⟩

/-- range_law, the loop's variables told by the frame ahead of it. -/
theorem range_lawT {α : Type} {g : Operand} {ps : Array Tmp} {assign body : Code} {Q : Exit → Act → World → Prop} {a : Act} {w : World} {gf : Nat} {lb : Array Value} (hg : a.eval g = .func (.func gf) #[] lb)
    (eg : ∀ args w, (callFunc gf args).run P w = .ok (.enter gf args) w) {encs : α → Array Value} {S : Nat → Prop} {xs : List α} {w0 : World} (hseq : Seq P gf lb encs S xs w0) (hb0 : Below w0.heap.size w0 w)
    (hps : ∀ x, (encs x).size = ps.size) (hS : ∀ k, S k → k < w.heap.size) (I : List α → World → Prop) (Ix : Code → List α → World → Prop) (hI : ∀ s, Stable w.heap.size (I s)) (hIx : ∀ c s, Stable w.heap.size (Ix c s)) (h0 : I [] w)
    (Ax : Array Value → α → Act → World → Prop) (hAx : ∀ T x a' W l r o, W.heap[l]? = some (.loop r) → Ax T x a' W → Ax T x a' (W.putObj l o))
    (hassign : ∀ (l : Nat) pre x rest (W : World) (K : Act → World → Prop), xs = pre ++ x :: rest → I pre W → w.heap.size ≤ W.heap.size → (∀ a' W', Kept S W W' → I pre W' → Ax a.tmps x a' W' → K a' W') →
      assign.wpIn (Fence.wide.inRound l) 19 P (Exit.then K (fun _ _ _ => False)) { tmps := (ps.zip (encs x)).foldl (fun t (p, v) => t.setIfInBounds p v) a.tmps, defers := [] } W)
    (hbody : ∀ (l : Nat) pre x rest (a' : Act) (W : World), xs = pre ++ x :: rest → I pre W → w.heap.size ≤ W.heap.size → Ax a.tmps x a' W → body.wpIn (Fence.wide.inRound l) 19 P (bodyPostK S I Ix (pre ++ [x]) W) a' W)
    (hdone : ∀ (D : Nat) (W : World), w.heap.size ≤ D → w.heap.size ≤ W.heap.size → I xs W → W.heap[D]? = some (.deferred (some [])) → Q .normal { a with defers := { target := .collected D, args := #[] } :: a.defers } W)
    (hstop : ∀ (D : Nat) (c : Code) (pre : List α) (W : World), w.heap.size ≤ D → w.heap.size ≤ W.heap.size → pre <+: xs → Ix c pre W → W.heap[D]? = some (.deferred (some [])) → c.wpIn Fence.wide 21 P Q { a with defers := { target := .collected D, args := #[] } :: a.defers } W) :
    (Code.rangeFunc g ps assign body).wpIn Fence.wide 21 P Q a w :=
  range_law hg eg hseq hb0 hps hS I Ix hI hIx h0 (Ax a.tmps) (hAx a.tmps) hassign hbody hdone hstop
end
end Go.Proofs.Ytacellaeepngkaa
