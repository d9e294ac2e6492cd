/- What the two programs' hulls come to, and the law's two questions of right points; conditions: those of each lemma. -/
import Derived.Test.YtchmmnlmgkocoaaHT
import Derived.Test.YtchmmnlmgkocoaaH10
set_option linter.unusedVariables false
set_option linter.unusedSimpArgs false
namespace Go.Proofs.Ytchmmnlmgkocoaa.H
open Go.RowKit Go.Proofs.YtchmmnlmgkocoaaW.PrintWords Go.Proofs.YtchmmnlmgkocoaaW.PrintLast Go.Proofs.YtchmmnlmgkocoaaW.PrintMore
open Hm (A pop pos neg Half sub cr chainR IsChain Ordered)
theorem rightAll {l : List S81} (h : l.all rightB = true) : ∀ q ∈ l, Right q := fun q hq => (rightB_iff q).1 (List.all_eq_true.1 h q hq)
theorem sorted_right {l : List S81} (h : ∀ q ∈ l, Right q) : ∀ q ∈ sortedPts l, Right q := fun q hq => h q (((sortedPts_props l).2 q).1 hq)
theorem nodup_len : ∀ (a b : List S81), a.Pairwise ltP → (∀ q ∈ a, q ∈ b) → a.length ≤ b.length
  | [], _, _, _ => by simp
  | x :: a, b, ha, h => by
    have hx := h x (by simp)
    have hp := List.pairwise_cons.1 ha
    obtain ⟨u, v, rfl⟩ := List.append_of_mem hx
    have := nodup_len a (u ++ v) hp.2 (fun q hq => by
      have hne : q ≠ x := by intro e; subst e; exact ltP_irr _ (hp.1 _ hq)
      have := h q (List.mem_cons_of_mem _ hq)
      simp only [List.mem_append, List.mem_cons] at this ⊢
      rcases this with h | h | h
      · exact .inl h
      · exact absurd h hne
      · exact .inr h)
    simp at this ⊢
    omega
theorem sorted_len (l : List S81) : (sortedPts l).length ≤ l.length := nodup_len _ _ (sortedPts_props l).1 (fun q hq => ((sortedPts_props l).2 q).1 hq)
theorem implHull_ev (l : List S81) (hn : l.length ≤ 500) (hr : ∀ q ∈ l, Right q) : Ev (fun k => impl_Hull.f k l) (hullOf (sortedPts l)) := by
  have hb : (l.all rightB && decide (l.length ≤ 500)) = true := by
    rw [Bool.and_eq_true]
    exact ⟨List.all_eq_true.2 (fun q hq => (rightB_iff q).2 (hr q hq)), by simpa using hn⟩
  have hA := areRight_ev l (by omega)
  rw [hb] at hA
  unfold impl_Hull.f
  refine Ev.bind hA ?_
  simp only [if_true]
  simp only [show l.length < 8796093022 from by omega, if_true]
  by_cases hs : (sortedPts l).length < 2
  · simp only [hs, if_true]
    rw [show hullOf (sortedPts l) = sortedPts l by unfold hullOf; rw [if_pos hs]]
    exact Ev.now _
  · simp only [hs, if_false]
    obtain ⟨m, M, T⟩ := ends_two (sortedPts_props l).1 (by omega)
    have hl := sorted_len l
    have rs := sorted_right hr
    refine Ev.bind (chainOf_ev rs (by omega)) ?_
    refine Ev.bind (chainOf_ev (xs := (sortedPts l).reverse) (fun q hq => rs q (List.mem_reverse.1 hq)) (by simp; omega)) ?_
    have h1 := T.ll
    have h2 := T.lh
    have h3 := T.hlen
    have h4 := hull_len (sortedPts l)
    rw [T.hull] 
    unfold lowC highC at *
    rw [if_pos ⟨by omega, by omega, by omega⟩]
    exact Ev.now _
theorem implHull_none (l : List S81) (hn : l.length ≤ 1000000) (h : (l.all rightB && decide (l.length ≤ 500)) = false) : Ev (fun k => impl_Hull.f k l) [] := by
  have hA := areRight_ev l hn
  rw [h] at hA
  unfold impl_Hull.f
  refine Ev.bind hA ?_
  simp only [Bool.false_eq_true, if_false]
  exact Ev.now _
theorem specHull_l0 {s low : List S81} (hs : s.length ≤ 1000) (hr : ∀ q ∈ s, Right q) (hlow : 1 ≤ low.length) (hll : low.length ≤ 1000) (hh : 1 ≤ (highC s).length) (hhl : (highC s).length ≤ 1000) : ∀ (i : Nat), i ≤ s.length →
    Ev (fun k => spec_Hull.l0 k s low (s.drop i).reverse ((i : Int) - 1)) (low.dropLast ++ (highC s).dropLast) := by
  intro i
  induction i with
  | zero =>
    intro _
    refine Ev.step (f := fun k => (spec_l9Chain.f k s.reverse).bind fun t => some (low.dropLast ++ t.dropLast)) (fun k => ?_) ?_
    · simp only [spec_Hull.l0]
      rw [if_neg (by omega), List.drop_zero]
      cases h : spec_l9Chain.f k s.reverse with
      | none => rfl
      | some t =>
        have ht : t = highC s := by
          obtain ⟨K, hK⟩ := l9Chain_ev (xs := s.reverse) (fun q hq => hr q (List.mem_reverse.1 hq)) (by simp; omega)
          have h1 := hK (max K k) (by omega)
          have h2 : spec_l9Chain.f (max K k) s.reverse = some t := at_rounds (g := fun k => spec_l9Chain.f k s.reverse) (spec_l9Chain.mono _) (by omega) h
          exact Option.some.inj (h2.symm.trans h1)
        subst ht
        simp only [Option.bind_some]
        have e1 : wrap64 ((low.length : Int) - 1) = ((low.length - 1 : Nat) : Int) := by rw [w64 (by omega) (by omega)]; omega
        have e2 : wrap64 (((highC s).length : Int) - 1) = (((highC s).length - 1 : Nat) : Int) := by rw [w64 (by omega) (by omega)]; omega
        rw [e1, e2, if_pos (by omega), if_pos (by omega), if_pos (by omega), if_pos (by omega), Int.toNat_natCast, Int.toNat_natCast, low_take _ _ rfl, low_take _ _ rfl, if_pos (by simp; omega)]
    · refine Ev.bind (l9Chain_ev (xs := s.reverse) (fun q hq => hr q (List.mem_reverse.1 hq)) (by simp; omega)) ?_
      exact Ev.now _
  | succ i ih =>
    intro hi
    refine Ev.step (fun k => ?_) (ih (by omega))
    simp only [spec_Hull.l0]
    have e : ((i + 1 : Nat) : Int) - 1 = (i : Int) := by omega
    rw [e, if_pos (by omega), if_pos (by omega), if_pos (by omega), if_pos (by simp; omega), rd_at _ _ (by omega), w64 (by omega) (by omega), List.drop_eq_getElem_cons (by omega : i < s.length), List.reverse_cons]
theorem specHull_ev (l : List S81) (hn : l.length ≤ 500) (hr : ∀ q ∈ l, Right q) : Ev (fun k => spec_Hull.f k l) (hullOf (sortedPts l)) := by
  have hb : (l.all rightB && decide (l.length ≤ 500)) = true := by
    rw [Bool.and_eq_true]
    exact ⟨List.all_eq_true.2 (fun q hq => (rightB_iff q).2 (hr q hq)), by simpa using hn⟩
  have hA := l9Right_ev l (by omega)
  rw [hb] at hA
  unfold spec_Hull.f
  refine Ev.bind hA ?_
  simp only [if_true]
  refine Ev.bind (l9Sorted_ev l hn) ?_
  have hl := sorted_len l
  have rs := sorted_right hr
  by_cases hs : (sortedPts l).length < 3
  · have : hullOf (sortedPts l) = sortedPts l := by
      unfold hullOf
      split
      · rfl
      · rename_i h2
        match sortedPts l, hs, h2 with
        | [a, b], _, _ => simp [lowC, highC, chainR, pop]
        | [a], _, h2 => simp at h2
        | [], _, h2 => simp at h2
    simp only [show ((sortedPts l).length : Int) < 3 from by omega, if_true]
    rw [this]
    exact Ev.now _
  · simp only [show ¬ ((sortedPts l).length : Int) < 3 from by omega, if_false]
    obtain ⟨m, M, T⟩ := ends_two (sortedPts_props l).1 (by omega)
    have h1 := T.ll
    have h2 := T.lh
    have h3 := chainR_len (sortedPts l)
    have h4 := chainR_len (sortedPts l).reverse
    have e1 : (lowC (sortedPts l)).length = (chainR (sortedPts l)).length := by simp [lowC]
    have e2 : (highC (sortedPts l)).length = (chainR (sortedPts l).reverse).length := by simp [highC]
    simp only [List.length_reverse] at h4
    refine Ev.bind (l9Chain_ev rs (by omega)) ?_
    have := specHull_l0 (s := sortedPts l) (low := lowC (sortedPts l)) (by omega) rs (by omega) (by omega) (by omega) (by omega) (sortedPts l).length (Nat.le_refl _)
    rw [T.hull]
    rw [w64 (by omega) (by omega)]
    simpa [lowC] using this
theorem specHull_none (l : List S81) (hn : l.length ≤ 1000000) (h : (l.all rightB && decide (l.length ≤ 500)) = false) : Ev (fun k => spec_Hull.f k l) [] := by
  have hA := l9Right_ev l hn
  rw [h] at hA
  unfold spec_Hull.f
  refine Ev.bind hA ?_
  simp only [Bool.false_eq_true, if_false]
  exact Ev.now _
theorem taken_some {a : S81} (ha : Right a) : impl_taken.f a.f0 a.f1 = some (a.f0, a.f1) := by
  unfold impl_taken.f
  rw [implOk, (rightB_iff a).2 ha]
  rfl
theorem Turn_some {a b c : S81} (ha : Right a) (hb : Right b) (hc : Right c) : impl_Turn.f a.f0 a.f1 b.f0 b.f1 c.f0 c.f1 = some (sgn (A a b c)) := by
  unfold impl_Turn.f
  rw [taken_some ha, taken_some hb, taken_some hc]
  simp only [Option.bind_some]
  rw [turn_some ha hb hc]
  rfl
theorem between {a b x : Int} (h : (a ≤ x ∧ x ≤ b) ∨ (b ≤ x ∧ x ≤ a)) : impl_isBetween.f x a b = some true := by
  unfold impl_isBetween.f impl_inRange.f mn mx
  rw [if_pos (by split <;> omega)]
  simp only [Option.bind_some, Option.some.injEq, decide_eq_true_eq]
  split <;> omega
theorem seg_y {m M q : S81} (h0 : A m M q = 0) (h1 : q = m ∨ ltP m q) (h2 : q = M ∨ ltP q M) : (m.f1 ≤ q.f1 ∧ q.f1 ≤ M.f1) ∨ (M.f1 ≤ q.f1 ∧ q.f1 ≤ m.f1) := by
  rcases h1 with rfl | h1
  · omega
  rcases h2 with rfl | h2
  · omega
  unfold ltP at h1 h2
  by_cases hx : M.f0 = m.f0
  · omega
  · have hd : 0 < M.f0 - m.f0 := by omega
    have key : (M.f0 - m.f0) * (q.f1 - m.f1) = (M.f1 - m.f1) * (q.f0 - m.f0) := by simp only [A] at h0; omega
    have key2 : (M.f0 - m.f0) * (M.f1 - q.f1) = (M.f1 - m.f1) * (M.f0 - q.f0) := by
      have e : (M.f0 - m.f0) * (M.f1 - q.f1) = (M.f0 - m.f0) * (M.f1 - m.f1) - (M.f0 - m.f0) * (q.f1 - m.f1) := by grind
      rw [e, key]; grind
    by_cases hy : 0 ≤ M.f1 - m.f1
    · left
      have a1 := Hm.le_of_mul_pos hd (by rw [key]; exact Int.mul_nonneg hy (by omega))
      have a2 := Hm.le_of_mul_pos hd (by rw [key2]; exact Int.mul_nonneg hy (by omega))
      omega
    · right
      have a1 := Hm.le_of_mul_pos (b := m.f1 - q.f1) hd (by
        have e : (M.f0 - m.f0) * (m.f1 - q.f1) = - ((M.f0 - m.f0) * (q.f1 - m.f1)) := by grind
        have e2 : - ((M.f1 - m.f1) * (q.f0 - m.f0)) = (m.f1 - M.f1) * (q.f0 - m.f0) := by grind
        rw [e, key, e2]; exact Int.mul_nonneg (by omega) (by omega))
      have a2 := Hm.le_of_mul_pos (b := q.f1 - M.f1) hd (by
        have e : (M.f0 - m.f0) * (q.f1 - M.f1) = - ((M.f0 - m.f0) * (M.f1 - q.f1)) := by grind
        have e2 : - ((M.f1 - m.f1) * (M.f0 - q.f0)) = (m.f1 - M.f1) * (M.f0 - q.f0) := by grind
        rw [e, key2, e2]; exact Int.mul_nonneg (by omega) (by omega))
      omega
theorem OnSeg_some {m M q : S81} (hm : Right m) (hM : Right M) (hq : Right q) (h0 : A m M q = 0) (h1 : q = m ∨ ltP m q) (h2 : q = M ∨ ltP q M) : impl_OnSeg.f m.f0 m.f1 M.f0 M.f1 q.f0 q.f1 = some true := by
  unfold impl_OnSeg.f
  rw [taken_some hm, taken_some hM, taken_some hq]
  simp only [Option.bind_some]
  unfold impl_onSeg.f
  rw [turn_some hm hM hq, h0]
  have hy := seg_y h0 h1 h2
  have hx : m.f0 ≤ q.f0 ∧ q.f0 ≤ M.f0 := by
    rcases h1 with rfl | h1 <;> rcases h2 with rfl | h2 <;> (try unfold ltP at h1) <;> (try unfold ltP at h2) <;> omega
  simp only [Option.bind_some]
  rw [show sgn 0 = 0 from rfl, if_pos rfl, between (.inl hx), between hy]
  rfl
end Go.Proofs.Ytchmmnlmgkocoaa.H
