/- TopTurnDry: the plain law. -/
import Derived.Test.YtacellaeepngkaaE6
import Derived.Test.YtacellaeepngkaaTS
namespace Go.Proofs.Ytacellaeepngkaa
set_option linter.unusedVariables false
set_option linter.unusedSimpArgs false

/-- When a cloth is done at the latest. -/
def doneF (cs : List TC) (rk : List Int) (s j : Nat) : Int := startF (tnsF cs rk TC.hi s) j + (cs.getD j default).hi
def lastF (cs : List TC) (rk : List Int) (s n : Nat) : Int := (List.range n).foldl (fun m j => max m (doneF cs rk s j)) 0

theorem lastF_succ (cs : List TC) (rk : List Int) (s n : Nat) : lastF cs rk s (n + 1) = max (lastF cs rk s n) (doneF cs rk s n) := by
  unfold lastF; rw [List.range_succ, List.foldl_append]; rfl

theorem fold_max_le {α : Type} (f : α → Int) (xs : List α) : ∀ (a B : Int), xs.foldl (fun m t => max m (f t)) a ≤ B ↔ a ≤ B ∧ ∀ t ∈ xs, f t ≤ B := by
  induction xs with
  | nil => intro a B; simp
  | cons x l ih =>
    intro a B
    simp only [List.foldl_cons, ih, List.mem_cons, forall_eq_or_imp]
    constructor
    · rintro ⟨h1, h2⟩; exact ⟨by omega, by omega, h2⟩
    · rintro ⟨h1, h2, h3⟩; exact ⟨by omega, h3⟩

theorem fold_max_ge {α : Type} (f : α → Int) (xs : List α) (a : Int) : a ≤ xs.foldl (fun m t => max m (f t)) a ∧ ∀ t ∈ xs, f t ≤ xs.foldl (fun m t => max m (f t)) a :=
  (fold_max_le f xs a _).1 (Int.le_refl _)

theorem turn_facts {cs : List TC} {pick : TC → Int} (hc : ∀ c ∈ cs, 0 ≤ c.comes ∧ c.comes ≤ 200) (hp : ∀ c ∈ cs, 0 ≤ pick c ∧ pick c ≤ 20) (l : List Int) (hl : ∀ o ∈ l, 0 ≤ o ∧ o < cs.length) :
    ∀ (f : List Int) (m : Int), 0 < f.length → 0 ≤ m → (∀ x ∈ f, 0 ≤ x ∧ x ≤ 200 + m) → ∀ t ∈ turnsF cs pick f l, t.cloth ∈ l ∧ 0 ≤ t.taken ∧ t.taken ≤ 200 + m + 20 * l.length ∧ t.done = t.taken + pick (cs.getD t.cloth.toNat default) := by
  induction l with
  | nil => intro f m _ _ _ t ht; simp [turnsF] at ht
  | cons o l ih =>
    intro f m hf hm h t ht
    have ho := hl o (by simp)
    have hget : cs[o.toNat]! ∈ cs := by
      rw [getElem!_pos cs o.toNat (by omega)]; exact List.getElem_mem _
    have h0 := h (f.getD 0 0) (by rw [List.getD_eq_getElem?_getD, List.getElem?_eq_getElem hf]; exact List.getElem_mem _)
    have h1 := hc _ hget
    have h2 := hp _ hget
    have hgd : cs[o.toNat]! = cs.getD o.toNat default := by rw [getElem!_pos cs o.toNat (by omega), List.getD_eq_getElem?_getD, List.getElem?_eq_getElem (by omega)]; rfl
    simp only [turnsF, List.mem_cons] at ht
    rcases ht with rfl | ht
    · refine ⟨by simp [tnF], ?_, ?_, ?_⟩
      · simp only [tnF]; omega
      · simp only [tnF, List.length_cons]; omega
      · simp only [tnF, hgd]
    · obtain ⟨g1, g2, g3, g4⟩ := ih (fun o ho => hl o (by simp [ho])) (nextF cs pick f o) (m + 20) (by rw [nextF_length]; exact hf) (by omega) (fun y hy => by
        have hy2 := (sortI_perm _).mem_iff.1 hy
        rcases List.mem_or_eq_of_mem_set hy2 with hy3 | hy3
        · have := h y hy3; omega
        · subst hy3; simp only [tnF]; omega) t ht
      exact ⟨by simp [g1], g2, by simp only [List.length_cons]; omega, g4⟩

theorem tns_facts {cs : List TC} {rk : List Int} (hd : DayOk cs rk) (s : Nat) (hs : 1 ≤ s ∧ s ≤ 5) : ∀ t ∈ tnsF cs rk TC.hi s, 0 ≤ t.cloth ∧ t.cloth < cs.length ∧ 0 ≤ t.taken ∧ t.taken ≤ 600 ∧ t.done = t.taken + (cs.getD t.cloth.toNat default).hi := by
  intro t ht
  have hb := ord_bound cs rk
  have hfew := hd.few
  obtain ⟨g1, g2, g3, g4⟩ := turn_facts (pick := TC.hi) (fun c hc => by have := hd.cloths c hc; unfold TC.ok at this; omega) (fun c hc => by have := hd.cloths c hc; unfold TC.ok at this; omega) (ordF cs rk) hb (List.replicate s 0) 0 (by simp; omega) (by omega)
    (fun x hx => by have := List.eq_of_mem_replicate hx; omega) t ht
  have := hb _ g1
  rw [ord_length] at g3
  exact ⟨by omega, by omega, g2, by omega, g4⟩

/-- Of turns of different cloths the one of cloth i says when it is taken. -/
theorem start_of (xs : List Tn) (hn : (xs.map Tn.cloth).Nodup) (i : Nat) (t : Tn) (ht : t ∈ xs) (hc : t.cloth = (i : Int)) : startF xs i = t.taken := by
  have key : ∀ (xs : List Tn) (m : Int), (xs.map Tn.cloth).Nodup → (t ∈ xs → xs.foldl (fun m t => if t.cloth = (i : Int) then t.taken else m) m = t.taken) ∧ ((∀ u ∈ xs, u.cloth ≠ (i : Int)) → xs.foldl (fun m t => if t.cloth = (i : Int) then t.taken else m) m = m) := by
    intro xs
    induction xs with
    | nil => intro m _; exact ⟨fun h => by simp at h, fun _ => rfl⟩
    | cons x l ih =>
      intro m hn
      simp only [List.map_cons, List.nodup_cons] at hn
      refine ⟨fun h => ?_, fun h => ?_⟩
      · rw [List.foldl_cons]
        rcases List.mem_cons.1 h with rfl | h
        · rw [if_pos hc]
          refine (ih _ hn.2).2 fun u hu he => hn.1 ?_
          rw [hc, ← he]
          exact List.mem_map_of_mem hu
        · exact (ih _ hn.2).1 h
      · rw [List.foldl_cons, if_neg (h x (by simp))]
        exact (ih _ hn.2).2 fun u hu => h u (by simp [hu])
  exact (key xs 0 hn).1 ht

theorem tns_cloths {cs : List TC} {rk : List Int} (s : Nat) : (tnsF cs rk TC.hi s).map Tn.cloth = ordF cs rk := turnsF_cloth _ _

theorem tns_nodup {cs : List TC} {rk : List Int} (s : Nat) : ((tnsF cs rk TC.hi s).map Tn.cloth).Nodup := by
  rw [tns_cloths]
  refine (ord_perm cs rk).nodup_iff.2 ?_
  refine List.Pairwise.map _ (fun a b h => ?_) List.nodup_range
  intro e; exact h (by omega)

theorem tns_at {cs : List TC} {rk : List Int} (hd : DayOk cs rk) (s : Nat) (hs : 1 ≤ s ∧ s ≤ 5) (j : Nat) (hj : j < cs.length) : ∃ t ∈ tnsF cs rk TC.hi s, t.cloth = (j : Int) ∧ startF (tnsF cs rk TC.hi s) j = t.taken ∧ doneF cs rk s j = t.done := by
  have hm : (j : Int) ∈ (tnsF cs rk TC.hi s).map Tn.cloth := by
    rw [tns_cloths]
    refine (ord_perm cs rk).mem_iff.2 ?_
    exact List.mem_map.2 ⟨j, List.mem_range.2 hj, rfl⟩
  obtain ⟨t, ht, hc⟩ := List.mem_map.1 hm
  have h1 := start_of _ (tns_nodup s) j t ht hc
  obtain ⟨_, _, _, _, h2⟩ := tns_facts hd s hs t ht
  refine ⟨t, ht, hc, h1, ?_⟩
  unfold doneF
  rw [h1, h2, hc]
  simp

theorem done_bound {cs : List TC} {rk : List Int} (hd : DayOk cs rk) (s : Nat) (hs : 1 ≤ s ∧ s ≤ 5) (j : Nat) (hj : j < cs.length) : 1 ≤ doneF cs rk s j ∧ doneF cs rk s j ≤ endF (tnsF cs rk TC.hi s) := by
  obtain ⟨t, ht, hc, h1, h2⟩ := tns_at hd s hs j hj
  obtain ⟨_, _, g2, _, g4⟩ := tns_facts hd s hs t ht
  have hmem : cs.getD t.cloth.toNat default ∈ cs := by
    rw [hc, List.getD_eq_getElem?_getD, List.getElem?_eq_getElem (by simp; exact hj)]; exact List.getElem_mem _
  have := hd.cloths _ hmem
  unfold TC.ok at this
  exact ⟨by omega, by rw [h2]; exact (fold_max_ge Tn.done _ 0).2 t ht⟩

theorem end_bound {cs : List TC} {rk : List Int} (hd : DayOk cs rk) (s : Nat) (hs : 1 ≤ s ∧ s ≤ 5) : 0 ≤ endF (tnsF cs rk TC.hi s) ∧ endF (tnsF cs rk TC.hi s) ≤ 100000 := by
  refine ⟨(fold_max_ge Tn.done _ 0).1, (fold_max_le Tn.done _ 0 _).2 ⟨by omega, fun t ht => ?_⟩⟩
  obtain ⟨g0, g1, g2, g3, g4⟩ := tns_facts hd s hs t ht
  have hmem : cs.getD t.cloth.toNat default ∈ cs := by
    rw [List.getD_eq_getElem?_getD, List.getElem?_eq_getElem (by omega)]; exact List.getElem_mem _
  have := hd.cloths _ hmem
  unfold TC.ok at this
  omega

theorem start_bound {cs : List TC} {rk : List Int} (hd : DayOk cs rk) (s : Nat) (hs : 1 ≤ s ∧ s ≤ 5) (j : Nat) (hj : j < cs.length) : 0 ≤ startF (tnsF cs rk TC.hi s) j ∧ startF (tnsF cs rk TC.hi s) j ≤ 100000 := by
  obtain ⟨t, ht, hc, h1, h2⟩ := tns_at hd s hs j hj
  obtain ⟨_, _, g2, g3, g4⟩ := tns_facts hd s hs t ht
  omega

theorem last_end {cs : List TC} {rk : List Int} (hd : DayOk cs rk) (s : Nat) (hs : 1 ≤ s ∧ s ≤ 5) : lastF cs rk s cs.length = endF (tnsF cs rk TC.hi s) := by
  apply Int.le_antisymm
  · refine (fold_max_le _ _ 0 _).2 ⟨(fold_max_ge Tn.done _ 0).1, fun j hj => (done_bound hd s hs j (List.mem_range.1 hj)).2⟩
  · refine (fold_max_le Tn.done _ 0 _).2 ⟨(fold_max_ge _ _ 0).1, fun t ht => ?_⟩
    obtain ⟨g0, g1, g2, g3, g4⟩ := tns_facts hd s hs t ht
    have hj : t.cloth.toNat < cs.length := by omega
    have h1 := start_of _ (tns_nodup s) t.cloth.toNat t ht (by omega)
    have h2 : doneF cs rk s t.cloth.toNat = t.done := by unfold doneF; rw [h1, g4]
    rw [← h2]
    exact (fold_max_ge (fun j => doneF cs rk s j) _ 0).2 _ (List.mem_range.2 hj)

theorem last_bound {cs : List TC} {rk : List Int} (hd : DayOk cs rk) (s : Nat) (hs : 1 ≤ s ∧ s ≤ 5) (j : Nat) (hj : j ≤ cs.length) : 0 ≤ lastF cs rk s j ∧ lastF cs rk s j ≤ 100000 := by
  refine ⟨(fold_max_ge _ _ 0).1, (fold_max_le _ _ 0 _).2 ⟨by omega, fun i hi => ?_⟩⟩
  have := done_bound hd s hs i (by have := List.mem_range.1 hi; omega)
  have := end_bound hd s hs
  omega

/-- What surely dries before an hour. -/
def dryP (ws : List Wx) (i : Nat) : Int := ((ws.take i).map Prod.fst).sum

theorem dryP_succ (ws : List Wx) (i : Nat) (h : i < ws.length) : dryP ws (i + 1) = dryP ws i + ws[i].1 := by
  unfold dryP; rw [List.take_succ_eq_append_getElem h]; simp only [List.map_append, List.map_cons, List.map_nil, List.sum_append, List.sum_cons, List.sum_nil]; omega

theorem dryP_mono {ws : List Wx} (h0 : ∀ x ∈ ws, 0 ≤ x.1) (b d : Nat) : b + d ≤ ws.length → dryP ws b ≤ dryP ws (b + d) := by
  induction d with
  | zero => intro _; simp
  | succ d ih =>
    intro h
    have h1 := ih (by omega)
    have h2 := dryP_succ ws (b + d) (by omega)
    have h3 := h0 ws[b + d] (List.getElem_mem _)
    rw [← Nat.add_assoc]
    omega

theorem dried_ge (en : Wx → Int) (l : List Wx) : ∀ (a wt : Int), a ≤ driedF en l a wt := by
  induction l with
  | nil => intro a wt; simp only [driedF]; split <;> omega
  | cons x l ih =>
    intro a wt
    simp only [driedF]
    split
    · omega
    · have := ih (a + 1) (wt - en x); omega

theorem dried_iff {ws : List Wx} (h0 : ∀ x ∈ ws, 0 ≤ x.1) (b : Nat) (hb : b ≤ ws.length) (d : Nat) : ∀ (a : Nat) (wt : Int), a + d = b → (driedF Prod.fst (ws.drop a) a wt ≤ b ↔ wt ≤ dryP ws b - dryP ws a) := by
  induction d with
  | zero =>
    intro a wt ha
    obtain rfl : a = b := by omega
    by_cases hw : wt ≤ 0
    · have : driedF Prod.fst (ws.drop a) a wt = a := by
        cases hd : ws.drop a with
        | nil => exact driedF_nil1 _ _ _ hw
        | cons x l => simp [driedF, hw]
      omega
    · by_cases hal : a < ws.length
      · rw [driedF_step _ _ _ _ _ hal hw]
        have := dried_ge Prod.fst (ws.drop (a + 1)) ((a : Int) + 1) (wt - ws[a].1)
        omega
      · rw [List.drop_eq_nil_of_le (by omega), driedF_nil2 _ _ _ hw]
        omega
  | succ d ih =>
    intro a wt ha
    have hal : a < ws.length := by omega
    have hm := dryP_mono h0 a (d + 1) (by omega)
    rw [show a + (d + 1) = b by omega] at hm
    by_cases hw : wt ≤ 0
    · have : driedF Prod.fst (ws.drop a) a wt = a := by
        cases hd : ws.drop a with
        | nil => exact driedF_nil1 _ _ _ hw
        | cons x l => simp [driedF, hw]
      omega
    · rw [driedF_step _ _ _ _ _ hal hw]
      have := ih (a + 1) (wt - ws[a].1) (by omega)
      have hs := dryP_succ ws a hal
      push_cast at this
      rw [this]
      omega

theorem late_iff {ws : List Wx} (h0 : ∀ x ∈ ws, 0 ≤ x.1) (rain : Nat) : rain ≤ ws.length → ∀ (b : Nat) (wt : Int), b ≤ rain → ((0 ≤ lateF ws rain wt ∧ (b : Int) ≤ lateF ws rain wt) ↔ wt ≤ dryP ws rain - dryP ws b) := by
  induction rain with
  | zero =>
    intro _ b wt hb
    obtain rfl : b = 0 := by omega
    simp only [lateF]
    split <;> simp <;> omega
  | succ h ih =>
    intro hr b wt hb
    have hm := dryP_mono h0 b (h + 1 - b) (by omega)
    rw [show b + (h + 1 - b) = h + 1 by omega] at hm
    by_cases hw : wt ≤ 0
    · rw [lateF_done _ _ _ hw]
      constructor
      · intro _; omega
      · intro _; omega
    · rw [lateF_step _ _ _ (by omega) hw]
      have hs := dryP_succ ws h (by omega)
      by_cases hbh : b ≤ h
      · rw [ih (by omega) b _ hbh]; omega
      · obtain rfl : b = h + 1 := by omega
        have := (late_range ws h (wt - ws[h].1)).2
        constructor
        · rintro ⟨h1, h2⟩; omega
        · intro h1; omega

/-- It is dry when the rain comes just if it is hung no later than Late says. -/
theorem late_dry {ws : List Wx} (hw : SkyOk ws) (rain : Nat) (hr : rain ≤ ws.length) (done : Nat) (hd : done ≤ rain) (wh : Int) (h0 : 0 ≤ wh) :
    (driedF Prod.fst (ws.drop done) done wh ≤ rain) ↔ (0 ≤ lateF ws rain wh ∧ (done : Int) ≤ lateF ws rain wh) := by
  have h1 : ∀ x ∈ ws, 0 ≤ x.1 := fun x hx => (hw.hours x hx).1
  rw [dried_iff h1 rain hr (rain - done) done wh (by omega), late_iff h1 rain hr done wh hd]
end Go.Proofs.Ytacellaeepngkaa
