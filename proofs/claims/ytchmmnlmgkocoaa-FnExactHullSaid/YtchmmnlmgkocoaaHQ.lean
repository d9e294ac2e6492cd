/- The points in order, and the hulls' values; conditions: those of each lemma. -/
import Derived.Test.YtchmmnlmgkocoaaHP
set_option linter.unusedVariables false
set_option linter.unusedSimpArgs false
namespace Go.Proofs.Ytchmmnlmgkocoaa.H
open Go.RowKit Go.Proofs.YtchmmnlmgkocoaaW.PrintWords Go.Proofs.YtchmmnlmgkocoaaW.PrintLast
open Hm (A pop)
theorem implOk (p : S81) : impl_PtOk.f p.f0 p.f1 = some (rightB p) := by
  unfold impl_PtOk.f impl_isCoord.f impl_inRange.f rightB
  by_cases h1 : p.f0 ≥ -10000000
  · rw [if_pos h1]
    by_cases h2 : p.f0 ≤ 10000000
    · by_cases h3 : p.f1 ≥ -10000000 <;> simp [h1, h2, h3] <;> omega
    · simp [h1, h2]
  · rw [if_neg h1]; simp; omega
theorem specOk (p : S81) : spec_PtOk.f p.f0 p.f1 = some (rightB p) := by
  unfold spec_PtOk.f spec_l1In.f rightB
  by_cases h1 : p.f0 ≥ -10000000
  · rw [if_pos h1]
    by_cases h2 : p.f0 ≤ 10000000
    · by_cases h3 : p.f1 ≥ -10000000 <;> simp [h1, h2, h3] <;> omega
    · simp [h1, h2]
  · rw [if_neg h1]; simp; omega
theorem areRight_ev (xs : List S81) (hn : xs.length ≤ 2000000) : Ev (fun k => impl_areRight.f k xs) (xs.all rightB && decide (xs.length ≤ 500)) := by
  have : ∀ (d i : Nat), xs.length - i = d → i ≤ xs.length → Ev (fun k => impl_areRight.l0 k xs xs xs.length (i : Int)) ((xs.drop i).all rightB && decide (xs.length ≤ 500)) := by
    intro d
    induction d with
    | zero =>
      intro i hd hi
      refine Ev.step (f := fun _ => some (decide ((xs.length : Int) ≤ 500))) (fun k => ?_) ?_
      · simp only [impl_areRight.l0]; rw [if_neg (by omega)]
      · rw [List.drop_eq_nil_of_le (by omega), List.all_nil, Bool.true_and, show decide ((xs.length : Int) ≤ 500) = decide (xs.length ≤ 500) from decide_eq_decide.2 (by omega)]
        exact Ev.now _
    | succ d ih =>
      intro i hd hi
      have hlt : i < xs.length := by omega
      rw [List.drop_eq_getElem_cons hlt, List.all_cons]
      refine Ev.step (f := fun k => if rightB xs[i] = true then impl_areRight.l0 k xs xs xs.length (wrap64 ((i : Int) + 1)) else some false) (fun k => ?_) ?_
      · simp only [impl_areRight.l0]
        rw [if_pos (by omega), if_pos (by omega), if_pos (by omega), rd_at _ _ hlt, implOk]
        rfl
      · cases hb : rightB xs[i] with
        | true =>
          simp only [if_true, Bool.true_and]
          rw [w64 (by omega) (by omega)]
          have := ih (i + 1) (by omega) (by omega)
          simpa using this
        | false => simp only [Bool.false_eq_true, if_false, Bool.false_and]; exact Ev.now _
  have h := this xs.length 0 (by omega) (by omega)
  simpa [impl_areRight.f] using h
theorem l9Right_ev (xs : List S81) (hn : xs.length ≤ 2000000) : Ev (fun k => spec_l9Right.f k xs 500) (xs.all rightB && decide (xs.length ≤ 500)) := by
  have : ∀ (d i : Nat), xs.length - i = d → i ≤ xs.length → Ev (fun k => spec_l9Right.l0 k xs 500 (i : Int)) ((xs.drop i).all rightB && decide (xs.length ≤ 500)) := by
    intro d
    induction d with
    | zero =>
      intro i hd hi
      refine Ev.step (f := fun _ => some (decide ((xs.length : Int) ≤ 500))) (fun k => ?_) ?_
      · simp only [spec_l9Right.l0]; rw [if_neg (by omega)]
      · rw [List.drop_eq_nil_of_le (by omega), List.all_nil, Bool.true_and, show decide ((xs.length : Int) ≤ 500) = decide (xs.length ≤ 500) from decide_eq_decide.2 (by omega)]
        exact Ev.now _
    | succ d ih =>
      intro i hd hi
      have hlt : i < xs.length := by omega
      rw [List.drop_eq_getElem_cons hlt, List.all_cons]
      refine Ev.step (f := fun k => if rightB xs[i] = true then spec_l9Right.l0 k xs 500 (wrap64 ((i : Int) + 1)) else some false) (fun k => ?_) ?_
      · simp only [spec_l9Right.l0]
        rw [if_pos (by omega), if_pos (by omega), rd_at _ _ hlt, specOk]
        rfl
      · cases hb : rightB xs[i] with
        | true =>
          simp only [if_true, Bool.true_and]
          rw [w64 (by omega) (by omega)]
          have := ih (i + 1) (by omega) (by omega)
          simpa using this
        | false => simp only [Bool.false_eq_true, if_false, Bool.false_and]; exact Ev.now _
  have h := this xs.length 0 (by omega) (by omega)
  simpa [spec_l9Right.f] using h
/-! ### the points in order -/
def ltP (a b : S81) : Prop := a.f0 < b.f0 ∨ a.f0 = b.f0 ∧ a.f1 < b.f1
instance (a b : S81) : Decidable (ltP a b) := by unfold ltP; exact inferInstance
theorem ltP_trans {a b c : S81} (h1 : ltP a b) (h2 : ltP b c) : ltP a c := by unfold ltP at *; omega
theorem ltP_irr (a : S81) : ¬ ltP a a := by unfold ltP; omega
theorem ltP_asymm {a b : S81} (h : ltP a b) : ¬ ltP b a := by unfold ltP at *; omega
theorem ltP_tot (a b : S81) : ltP a b ∨ a = b ∨ ltP b a := by
  cases a; cases b
  simp only [ltP, S81.mk.injEq]
  omega
theorem less_some (a b : S81) : spec_l9Less.f a.f0 a.f1 b.f0 b.f1 = some (decide (ltP a b)) := by
  unfold spec_l9Less.f ltP
  by_cases h1 : a.f0 < b.f0
  · simp [h1]
  · by_cases h2 : a.f0 = b.f0 <;> simp [h1, h2]
/-- strictly rising lists of the same points are one -/
theorem rising_one : ∀ (a b : List S81), a.Pairwise ltP → b.Pairwise ltP → (∀ q, q ∈ a ↔ q ∈ b) → a = b
  | [], [], _, _, _ => rfl
  | [], y :: b, _, _, h => absurd ((h y).2 (by simp)) (by simp)
  | x :: a, [], _, _, h => absurd ((h x).1 (by simp)) (by simp)
  | x :: a, y :: b, ha, hb, h => by
    have ha' := List.pairwise_cons.1 ha
    have hb' := List.pairwise_cons.1 hb
    have hxy : x = y := by
      rcases List.mem_cons.1 ((h x).1 (by simp)) with e | e
      · exact e
      · rcases List.mem_cons.1 ((h y).2 (by simp)) with e2 | e2
        · exact e2.symm
        · exact absurd (hb'.1 x e) (ltP_asymm (ha'.1 y e2))
    subst hxy
    rw [rising_one a b ha'.2 hb'.2 (fun q => ⟨fun hq => by
      rcases List.mem_cons.1 ((h q).1 (List.mem_cons_of_mem _ hq)) with e | e
      · subst e; exact absurd (ha'.1 q hq) (ltP_irr q)
      · exact e, fun hq => by
      rcases List.mem_cons.1 ((h q).2 (List.mem_cons_of_mem _ hq)) with e | e
      · subst e; exact absurd (hb'.1 q hq) (ltP_irr q)
      · exact e⟩)]
theorem eqP_iff (x p : S81) : eqP x p = true ↔ x = p := by
  cases x; cases p
  simp [eqP]
theorem lePt_iff (a b : S81) : lePt a b = true ↔ ltP a b ∨ a = b := by
  cases a; cases b
  simp [lePt, ltP]
  omega
theorem cpt_props : ∀ (l : List S81) (p : S81), (∀ q ∈ l, ltP p q ∨ p = q) → l.Pairwise (fun a b => lePt a b = true) → (cpt p l).Pairwise ltP ∧ (∀ q ∈ cpt p l, ltP p q) ∧ (∀ q, q ∈ cpt p l ∨ q = p ↔ q ∈ l ∨ q = p)
  | [], p, _, _ => by simp [cpt]
  | x :: t, p, hp, hl => by
    have hl' := List.pairwise_cons.1 hl
    have hx : ∀ q ∈ t, ltP x q ∨ x = q := fun q hq => (lePt_iff x q).1 (hl'.1 q hq)
    obtain ⟨h1, h2, h3⟩ := cpt_props t x hx hl'.2
    simp only [cpt]
    by_cases he : eqP x p = true
    · rw [if_pos he]
      have e := (eqP_iff x p).1 he
      subst e
      exact ⟨h1, h2, fun q => by rw [h3 q, List.mem_cons]; exact ⟨fun h => h.elim (fun h => .inl (.inr h)) .inr, fun h => h.elim (fun h => h.elim .inr .inl) .inr⟩⟩
    · rw [if_neg he]
      have hpx : ltP p x := by
        rcases hp x (by simp) with h | h
        · exact h
        · exact absurd ((eqP_iff x p).2 h.symm) he
      refine ⟨List.pairwise_cons.2 ⟨h2, h1⟩, fun q hq => ?_, fun q => ?_⟩
      · rcases List.mem_cons.1 hq with rfl | hq
        · exact hpx
        · exact ltP_trans hpx (h2 q hq)
      · have := h3 q
        simp only [List.mem_cons]
        constructor
        · rintro ((h | h) | h)
          · exact .inl (.inl h)
          · rcases this.1 (.inl h) with h | h
            · exact .inl (.inr h)
            · exact .inl (.inl h)
          · exact .inr h
        · rintro ((h | h) | h)
          · exact .inl (.inl h)
          · rcases this.2 (.inl h) with h | h
            · exact .inl (.inr h)
            · exact .inl (.inl h)
          · exact .inr h
theorem sortedPts_props (l : List S81) : (sortedPts l).Pairwise ltP ∧ ∀ q, q ∈ sortedPts l ↔ q ∈ l := by
  unfold sortedPts
  have hs : (l.mergeSort lePt).Pairwise (fun a b => lePt a b = true) := List.pairwise_mergeSort (fun a b c h1 h2 => by
    rw [lePt_iff] at *
    rcases h1 with h1 | rfl
    · rcases h2 with h2 | rfl
      · exact .inl (ltP_trans h1 h2)
      · exact .inl h1
    · exact h2) (fun a b => by
    rcases ltP_tot a b with h | h | h
    · simp [(lePt_iff a b).2 (.inl h)]
    · simp [(lePt_iff a b).2 (.inr h)]
    · simp [(lePt_iff b a).2 (.inl h)]) l
  have hm : ∀ q, q ∈ l.mergeSort lePt ↔ q ∈ l := fun q => List.mem_mergeSort
  generalize l.mergeSort lePt = m at hs hm
  cases m with
  | nil => exact ⟨by simp [comp], fun q => by rw [← hm q]; simp [comp]⟩
  | cons x t =>
    have hl' := List.pairwise_cons.1 hs
    obtain ⟨h1, h2, h3⟩ := cpt_props t x (fun q hq => (lePt_iff x q).1 (hl'.1 q hq)) hl'.2
    refine ⟨List.pairwise_cons.2 ⟨h2, h1⟩, fun q => ?_⟩
    rw [← hm q]
    have := h3 q
    simp only [comp, List.mem_cons]
    constructor
    · rintro (h | h)
      · exact .inl h
      · exact (this.1 (.inl h)).symm
    · rintro (h | h)
      · exact .inl h
      · exact (this.2 (.inl h)).symm
/-! ### the reference's way to put points in order -/
theorem sorted_l2 {xs : List S81} {i : Nat} (hi : i < xs.length) {cur : List S81} (hc : cur.length ≤ 1000) {j : Nat} {R : List S81}
    (h : Ev (fun k => spec_l9Sorted.l0 k xs (cur.take j ++ xs[i] :: cur.drop j) (wrap64 ((i : Int) + 1))) R) : ∀ (d m : Nat) (y : List S81), m - j = d → j ≤ m → m ≤ cur.length → y.length = cur.length + 1 → y.take m = cur.take m → y.drop (m + 1) = cur.drop m →
    Ev (fun k => spec_l9Sorted.l2 k xs y (i : Int) (j : Int) (m : Int)) R := by
  intro d
  induction d with
  | zero =>
    intro m y hd hjm hm hy h1 h2
    obtain rfl : m = j := by omega
    refine Ev.step (fun k => ?_) h
    simp only [spec_l9Sorted.l2]
    rw [if_neg (by omega), if_pos (by omega), if_pos (by omega), if_pos (by omega), if_pos (by omega), rd_at _ _ hi, Int.toNat_natCast]
    congr 1
    rw [List.set_eq_take_append_cons_drop, if_pos (by omega), h1, h2]
  | succ d ih =>
    intro m y hd hjm hm hy h1 h2
    obtain ⟨m, rfl⟩ : ∃ q, m = q + 1 := ⟨m - 1, by omega⟩
    have hym : m < y.length := by omega
    refine Ev.step (f := fun k => spec_l9Sorted.l2 k xs (y.set (m + 1) y[m]) (i : Int) (j : Int) (m : Int)) (fun k => ?_) (ih m (y.set (m + 1) y[m]) (by omega) (by omega) (by omega) (by rw [List.length_set]; exact hy) ?_ ?_)
    · simp only [spec_l9Sorted.l2]
      have hw : wrap64 (((m + 1 : Nat) : Int) - 1) = (m : Int) := by rw [w64 (by omega) (by omega)]; omega
      rw [if_pos (by omega), hw, if_pos (by omega), if_pos (by omega), if_pos (by omega), if_pos (by omega), rd_at _ _ hym, Int.toNat_natCast]
    · rw [List.take_set_of_le (by omega)]
      have := congrArg (List.take m) h1
      rwa [List.take_take, List.take_take, Nat.min_eq_left (by omega)] at this
    · rw [List.drop_set, if_neg (by omega), Nat.sub_self]
      have e1 : y.drop (m + 1) = y[m + 1]'(by omega) :: y.drop (m + 1 + 1) := List.drop_eq_getElem_cons (by omega)
      have e2 : cur.drop m = cur[m]'(by omega) :: cur.drop (m + 1) := List.drop_eq_getElem_cons (by omega)
      rw [e1, List.set_cons_zero, h2, e2]
      congr 1
      have := congrArg (fun l => l[m]?) h1
      simp only [List.getElem?_take] at this
      rw [if_pos (by omega), if_pos (by omega), List.getElem?_eq_getElem hym, List.getElem?_eq_getElem (by omega)] at this
      exact Option.some.inj this
theorem sorted_l1 {xs : List S81} {i : Nat} (hi : i < xs.length) {cur : List S81} (hc : cur.length ≤ 1000) {R : List S81}
    (h : ∀ j, j ≤ cur.length → (∀ hj : 0 < j, ∀ hl : j - 1 < cur.length, ¬ ltP xs[i] cur[j - 1]) → (∀ q ∈ cur.drop j, ltP xs[i] q) → Ev (fun k => spec_l9Sorted.j2 k xs cur (i : Int) (j : Int)) R) : ∀ (j : Nat), j ≤ cur.length → (∀ q ∈ cur.drop j, ltP xs[i] q) →
    Ev (fun k => spec_l9Sorted.l1 k xs cur (i : Int) (j : Int)) R := by
  intro j
  induction j with
  | zero =>
    intro hj hq
    refine Ev.step (fun k => ?_) (h 0 hj (fun h => absurd h (by omega)) hq)
    simp only [spec_l9Sorted.l1]
    rw [if_neg (by omega)]
  | succ j ih =>
    intro hj hq
    have hlt : j < cur.length := by omega
    have hw : wrap64 (((j + 1 : Nat) : Int) - 1) = (j : Int) := by rw [w64 (by omega) (by omega)]; omega
    have step : ∀ k, spec_l9Sorted.l1 (k + 1) xs cur (i : Int) ((j + 1 : Nat) : Int) = if decide (ltP xs[i] cur[j]) = true then spec_l9Sorted.l1 k xs cur (i : Int) (j : Int) else spec_l9Sorted.j2 k xs cur (i : Int) ((j + 1 : Nat) : Int) := by
      intro k
      simp only [spec_l9Sorted.l1]
      rw [if_pos (by omega), if_pos (by omega), if_pos (by omega), hw, if_pos (by omega), if_pos (by omega), rd_at _ _ hi, rd_at _ _ hlt, less_some]
      rfl
    by_cases hl : ltP xs[i] cur[j]
    · refine Ev.step (fun k => by rw [step k, if_pos (decide_eq_true hl)]) (ih (by omega) (fun q hq' => ?_))
      rw [List.drop_eq_getElem_cons hlt] at hq'
      rcases List.mem_cons.1 hq' with rfl | hq'
      · exact hl
      · exact hq q hq'
    · exact Ev.step (fun k => by rw [step k, if_neg (by simpa using hl)]) (h (j + 1) hj (fun _ _ => hl) hq)
theorem insert_props {cur : List S81} {p : S81} {j : Nat} (hs : cur.Pairwise ltP) (hj : j ≤ cur.length) (h1 : ∀ hj : 0 < j, ∀ hl : j - 1 < cur.length, ltP cur[j - 1] p) (h2 : ∀ q ∈ cur.drop j, ltP p q) :
    (cur.take j ++ p :: cur.drop j).Pairwise ltP ∧ ∀ q, q ∈ cur.take j ++ p :: cur.drop j ↔ q ∈ cur ∨ q = p := by
  have hd : cur = cur.take j ++ cur.drop j := (List.take_append_drop j cur).symm
  have hs2 := hs
  rw [hd] at hs2
  obtain ⟨p1, p2, p3⟩ := List.pairwise_append.1 hs2
  have hlow : ∀ q ∈ cur.take j, ltP q p := by
    intro q hq
    obtain ⟨a, ha, rfl⟩ := List.mem_iff_getElem.1 hq
    rw [List.length_take] at ha
    rw [List.getElem_take]
    have hl : j - 1 < cur.length := by omega
    by_cases e : a = j - 1
    · subst e; exact h1 (by omega) hl
    · exact ltP_trans (List.pairwise_iff_getElem.1 hs a (j - 1) (by omega) hl (by omega)) (h1 (by omega) hl)
  refine ⟨List.pairwise_append.2 ⟨p1, List.pairwise_cons.2 ⟨h2, p2⟩, fun a ha b hb => ?_⟩, fun q => ?_⟩
  · rcases List.mem_cons.1 hb with rfl | hb
    · exact hlow a ha
    · exact p3 a ha b hb
  · conv => rhs; rw [hd]
    simp only [List.mem_append, List.mem_cons]
    constructor
    · rintro (h | h | h)
      · exact .inl (.inl h)
      · exact .inr h
      · exact .inl (.inr h)
    · rintro ((h | h) | h)
      · exact .inl h
      · exact .inr (.inr h)
      · exact .inr (.inl h)
theorem sorted_l0 {xs : List S81} (hn : xs.length ≤ 500) : ∀ (d i : Nat) (cur : List S81), xs.length - i = d → i ≤ xs.length → cur.length ≤ i → cur.Pairwise ltP →
    ∃ R, Ev (fun k => spec_l9Sorted.l0 k xs cur (i : Int)) R ∧ R.Pairwise ltP ∧ ∀ q, q ∈ R ↔ q ∈ cur ∨ q ∈ xs.drop i := by
  intro d
  induction d with
  | zero =>
    intro i cur hd hi hl hs
    refine ⟨cur, Ev.step (f := fun _ => some cur) (fun k => ?_) (Ev.now _), hs, fun q => ?_⟩
    · simp only [spec_l9Sorted.l0]; rw [if_neg (by omega)]
    · rw [List.drop_eq_nil_of_le (by omega)]; simp
  | succ d ih =>
    intro i cur hd hi hl hs
    have hlt : i < xs.length := by omega
    have hw : wrap64 ((i : Int) + 1) = ((i + 1 : Nat) : Int) := by rw [w64 (by omega) (by omega)]; omega
    -- where the point goes
    have key : ∃ R, (∀ j, j ≤ cur.length → (∀ hj : 0 < j, ∀ hl : j - 1 < cur.length, ¬ ltP xs[i] cur[j - 1]) → (∀ q ∈ cur.drop j, ltP xs[i] q) → Ev (fun k => spec_l9Sorted.j2 k xs cur (i : Int) (j : Int)) R) ∧ R.Pairwise ltP ∧ ∀ q, q ∈ R ↔ q ∈ cur ∨ q ∈ xs.drop i := by
      by_cases hin : xs[i] ∈ cur
      · obtain ⟨R, hR, hRs, hRm⟩ := ih (i + 1) cur (by omega) (by omega) (by omega) hs
        refine ⟨R, fun j hj h1 h2 => ?_, hRs, fun q => ?_⟩
        · have hnd : ¬ xs[i] ∈ cur.drop j := fun h => ltP_irr _ (h2 _ h)
          have hmt : xs[i] ∈ cur.take j := by
            have := hin
            rw [← List.take_append_drop j cur] at this
            exact (List.mem_append.1 this).resolve_right hnd
          obtain ⟨a, ha, hae⟩ := List.mem_iff_getElem.1 hmt
          rw [List.length_take] at ha
          rw [List.getElem_take] at hae
          have hj0 : 0 < j := by omega
          have hjl : j - 1 < cur.length := by omega
          have he : cur[j - 1] = xs[i] := by
            by_cases e : a = j - 1
            · subst e; exact hae
            · exact absurd (hae ▸ List.pairwise_iff_getElem.1 hs a (j - 1) (by omega) hjl (by omega)) (h1 hj0 hjl)
          obtain ⟨j, rfl⟩ : ∃ q, j = q + 1 := ⟨j - 1, by omega⟩
          have hwj : wrap64 (((j + 1 : Nat) : Int) - 1) = (j : Int) := by rw [w64 (by omega) (by omega)]; omega
          simp only [Nat.add_sub_cancel] at he hjl
          refine Ev.step (f := fun k => spec_l9Sorted.j3 k xs cur (i : Int) ((j + 1 : Nat) : Int) true) (fun k => ?_) (Ev.step (f := fun k => spec_l9Sorted.l0 k xs cur ((i + 1 : Nat) : Int)) (fun k => ?_) hR)
          · simp only [spec_l9Sorted.j2]
            rw [if_pos (by omega), hwj, if_pos (by omega), if_pos (by omega), if_pos (by omega), if_pos (by omega), rd_at _ _ hlt, rd_at _ _ hjl, he]
            simp
          · simp only [spec_l9Sorted.j3]
            rw [if_pos trivial, hw]
        · rw [hRm q, List.drop_eq_getElem_cons hlt, List.mem_cons]
          constructor
          · rintro (h | h)
            · exact .inl h
            · exact .inr (.inr h)
          · rintro (h | h | h)
            · exact .inl h
            · subst h; exact .inl hin
            · exact .inr h
      · -- the one place
        have hplace : ∀ j, j ≤ cur.length → (∀ hj : 0 < j, ∀ hl : j - 1 < cur.length, ¬ ltP xs[i] cur[j - 1]) → (∀ q ∈ cur.drop j, ltP xs[i] q) → (∀ hj : 0 < j, ∀ hl : j - 1 < cur.length, ltP cur[j - 1] xs[i]) := by
          intro j hj h1 h2 hj0 hjl
          rcases ltP_tot cur[j - 1] xs[i] with h | h | h
          · exact h
          · exact absurd (h ▸ List.getElem_mem hjl) hin
          · exact absurd h (h1 hj0 hjl)
        by_cases hex : ∃ j, j ≤ cur.length ∧ (∀ hj : 0 < j, ∀ hl : j - 1 < cur.length, ¬ ltP xs[i] cur[j - 1]) ∧ (∀ q ∈ cur.drop j, ltP xs[i] q)
        · obtain ⟨j0, hj0, a1, a2⟩ := hex
          obtain ⟨hsn, hmn⟩ := insert_props hs hj0 (hplace j0 hj0 a1 a2) a2
          obtain ⟨R, hR, hRs, hRm⟩ := ih (i + 1) (cur.take j0 ++ xs[i] :: cur.drop j0) (by omega) (by omega) (by simp; omega) hsn
          refine ⟨R, fun j hj h1 h2 => ?_, hRs, fun q => ?_⟩
          · obtain ⟨hsn', hmn'⟩ := insert_props hs hj (hplace j hj h1 h2) h2
            have heq : cur.take j ++ xs[i] :: cur.drop j = cur.take j0 ++ xs[i] :: cur.drop j0 := rising_one _ _ hsn' hsn (fun q => (hmn' q).trans (hmn q).symm)
            have hl2 := sorted_l2 hlt (by omega : cur.length ≤ 1000) (j := j) (R := R) (by rw [heq, hw]; exact hR) (cur.length - j) cur.length (cur ++ [xs[i]]) rfl hj (Nat.le_refl _) (by simp) (by simp) (by simp)
            have hwl : wrap64 (((cur ++ [xs[i]]).length : Int) - 1) = (cur.length : Int) := by
              have hlen : (cur ++ [xs[i]]).length = cur.length + 1 := by simp
              rw [hlen, w64 (by omega) (by omega)]
              omega
            refine Ev.step (f := fun k => spec_l9Sorted.j3 k xs cur (i : Int) (j : Int) false) (fun k => ?_) (Ev.step (f := fun k => spec_l9Sorted.l2 k xs (cur ++ [xs[i]]) (i : Int) (j : Int) (cur.length : Int)) (fun k => ?_) hl2)
            · simp only [spec_l9Sorted.j2]
              by_cases h0 : 0 < j
              · obtain ⟨j, rfl⟩ : ∃ q, j = q + 1 := ⟨j - 1, by omega⟩
                have hwj : wrap64 (((j + 1 : Nat) : Int) - 1) = (j : Int) := by rw [w64 (by omega) (by omega)]; omega
                have hjl : j < cur.length := by omega
                rw [if_pos (by omega), hwj, if_pos (by omega), if_pos (by omega), if_pos (by omega), if_pos (by omega), rd_at _ _ hlt, rd_at _ _ hjl]
                have hne : (cur[j].f0 == xs[i].f0 && cur[j].f1 == xs[i].f1) = false := by
                  rw [Bool.eq_false_iff]
                  intro he
                  have := (eqP_iff cur[j] xs[i]).1 he
                  exact hin (this ▸ List.getElem_mem hjl)
                rw [hne]
              · rw [if_neg (by omega)]
            · simp only [spec_l9Sorted.j3]
              rw [if_neg (by decide), if_pos (by omega), if_pos (by omega), if_pos (by omega), rd_at _ _ hlt]
              simp only [Option.bind_some]
              rw [hwl]
          · rw [hRm q, hmn q, List.drop_eq_getElem_cons hlt, List.mem_cons]
            constructor
            · rintro ((h | h) | h)
              · exact .inl h
              · exact .inr (.inl h)
              · exact .inr (.inr h)
            · rintro (h | h | h)
              · exact .inl (.inl h)
              · exact .inl (.inr h)
              · exact .inr h
        · -- there is always one
          exfalso
          have : ∀ j, j ≤ cur.length → (∀ q ∈ cur.drop j, ltP xs[i] q) → False := by
            intro j
            induction j with
            | zero => intro hj hq; exact hex ⟨0, hj, fun h => absurd h (by omega), hq⟩
            | succ j ihj =>
              intro hj hq
              by_cases hl : ltP xs[i] (cur[j]'(by omega))
              · refine ihj (by omega) (fun q hq' => ?_)
                rw [List.drop_eq_getElem_cons (by omega)] at hq'
                rcases List.mem_cons.1 hq' with rfl | hq'
                · exact hl
                · exact hq q hq'
              · exact hex ⟨j + 1, hj, fun _ _ => hl, hq⟩
          exact this cur.length (Nat.le_refl _) (by simp)
    obtain ⟨R, hk, hRs, hRm⟩ := key
    refine ⟨R, Ev.step (f := fun k => spec_l9Sorted.l1 k xs cur (i : Int) (cur.length : Int)) (fun k => ?_) (sorted_l1 hlt (by omega) hk cur.length (Nat.le_refl _) (by simp)), hRs, hRm⟩
    simp only [spec_l9Sorted.l0]
    rw [if_pos (by omega)]
theorem l9Sorted_ev (xs : List S81) (hn : xs.length ≤ 500) : Ev (fun k => spec_l9Sorted.f k xs) (sortedPts xs) := by
  obtain ⟨R, hR, hs, hm⟩ := sorted_l0 hn xs.length 0 [] (by omega) (by omega) (by simp) (by simp)
  obtain ⟨h1, h2⟩ := sortedPts_props xs
  have : R = sortedPts xs := rising_one _ _ hs h1 (fun q => by rw [hm q, h2 q]; simp)
  subst this
  simpa [spec_l9Sorted.f] using hR
end Go.Proofs.Ytchmmnlmgkocoaa.H
