/- What the two programs' hulls come to; conditions: those of each lemma. -/
import Derived.Test.YtchmmnlmgkocoaaHT
import Derived.Test.YtchmmnlmgkocoaaH7
set_option linter.unusedVariables false
set_option linter.unusedSimpArgs false
namespace Go.Proofs.Ytchmmnlmgkocoaa.H
open Go.RowKit Go.Proofs.YtchmmnlmgkocoaaW.PrintWords Go.Proofs.YtchmmnlmgkocoaaW.PrintLast Go.Proofs.YtchmmnlmgkocoaaW.PrintMore
open Hm (A pop pos neg Half sub cr chainR IsChain Ordered)
theorem rightAll {l : List S81} (h : l.all rightB = true) : ∀ q ∈ l, Right q := fun q hq => (rightB_iff q).1 (List.all_eq_true.1 h q hq)
theorem sorted_right {l : List S81} (h : ∀ q ∈ l, Right q) : ∀ q ∈ sortedPts l, Right q := fun q hq => h q (((sortedPts_props l).2 q).1 hq)
theorem nodup_len : ∀ (a b : List S81), a.Pairwise ltP → (∀ q ∈ a, q ∈ b) → a.length ≤ b.length
  | [], _, _, _ => by simp
  | x :: a, b, ha, h => by
    have hx := h x (by simp)
    have hp := List.pairwise_cons.1 ha
    obtain ⟨u, v, rfl⟩ := List.append_of_mem hx
    have := nodup_len a (u ++ v) hp.2 (fun q hq => by
      have hne : q ≠ x := by intro e; subst e; exact ltP_irr _ (hp.1 _ hq)
      have := h q (List.mem_cons_of_mem _ hq)
      simp only [List.mem_append, List.mem_cons] at this ⊢
      rcases this with h | h | h
      · exact .inl h
      · exact absurd h hne
      · exact .inr h)
    simp at this ⊢
    omega
theorem sorted_len (l : List S81) : (sortedPts l).length ≤ l.length := nodup_len _ _ (sortedPts_props l).1 (fun q hq => ((sortedPts_props l).2 q).1 hq)
theorem implHull_ev (l : List S81) (hn : l.length ≤ 500) (hr : ∀ q ∈ l, Right q) : Ev (fun k => impl_Hull.f k l) (hullOf (sortedPts l)) := by
  have hb : (l.all rightB && decide (l.length ≤ 500)) = true := by
    rw [Bool.and_eq_true]
    exact ⟨List.all_eq_true.2 (fun q hq => (rightB_iff q).2 (hr q hq)), by simpa using hn⟩
  have hA := areRight_ev l (by omega)
  rw [hb] at hA
  unfold impl_Hull.f
  refine Ev.bind hA ?_
  simp only [if_true]
  simp only [show l.length < 8796093022 from by omega, if_true]
  by_cases hs : (sortedPts l).length < 2
  · simp only [hs, if_true]
    rw [show hullOf (sortedPts l) = sortedPts l by unfold hullOf; rw [if_pos hs]]
    exact Ev.now _
  · simp only [hs, if_false]
    obtain ⟨m, M, T⟩ := ends_two (sortedPts_props l).1 (by omega)
    have hl := sorted_len l
    have rs := sorted_right hr
    refine Ev.bind (chainOf_ev rs (by omega)) ?_
    refine Ev.bind (chainOf_ev (xs := (sortedPts l).reverse) (fun q hq => rs q (List.mem_reverse.1 hq)) (by simp; omega)) ?_
    have h1 := T.ll
    have h2 := T.lh
    have h3 := T.hlen
    have h4 := hull_len (sortedPts l)
    rw [T.hull] 
    unfold lowC highC at *
    rw [if_pos ⟨by omega, by omega, by omega⟩]
    exact Ev.now _
theorem implHull_none (l : List S81) (hn : l.length ≤ 2000000) (h : (l.all rightB && decide (l.length ≤ 500)) = false) : Ev (fun k => impl_Hull.f k l) [] := by
  have hA := areRight_ev l hn
  rw [h] at hA
  unfold impl_Hull.f
  refine Ev.bind hA ?_
  simp only [Bool.false_eq_true, if_false]
  exact Ev.now _
theorem specHull_l0 {s low : List S81} (hs : s.length ≤ 1000) (hr : ∀ q ∈ s, Right q) (hlow : 1 ≤ low.length) (hll : low.length ≤ 1000) (hh : 1 ≤ (highC s).length) (hhl : (highC s).length ≤ 1000) : ∀ (i : Nat), i ≤ s.length →
    Ev (fun k => spec_Hull.l0 k s low (s.drop i).reverse ((i : Int) - 1)) (low.dropLast ++ (highC s).dropLast) := by
  intro i
  induction i with
  | zero =>
    intro _
    refine Ev.step (f := fun k => (spec_l9Chain.f k s.reverse).bind fun t => some (low.dropLast ++ t.dropLast)) (fun k => ?_) ?_
    · simp only [spec_Hull.l0]
      rw [if_neg (by omega), List.drop_zero]
      cases h : spec_l9Chain.f k s.reverse with
      | none => rfl
      | some t =>
        have ht : t = highC s := by
          obtain ⟨K, hK⟩ := l9Chain_ev (xs := s.reverse) (fun q hq => hr q (List.mem_reverse.1 hq)) (by simp; omega)
          have h1 := hK (max K k) (by omega)
          have h2 : spec_l9Chain.f (max K k) s.reverse = some t := at_rounds (g := fun k => spec_l9Chain.f k s.reverse) (spec_l9Chain.mono _) (by omega) h
          exact Option.some.inj (h2.symm.trans h1)
        subst ht
        simp only [Option.bind_some]
        have e1 : wrap64 ((low.length : Int) - 1) = ((low.length - 1 : Nat) : Int) := by rw [w64 (by omega) (by omega)]; omega
        have e2 : wrap64 (((highC s).length : Int) - 1) = (((highC s).length - 1 : Nat) : Int) := by rw [w64 (by omega) (by omega)]; omega
        rw [e1, e2, if_pos (by omega), if_pos (by omega), if_pos (by omega), if_pos (by omega), Int.toNat_natCast, Int.toNat_natCast, low_take _ _ rfl, low_take _ _ rfl, if_pos (by simp; omega)]
    · refine Ev.bind (l9Chain_ev (xs := s.reverse) (fun q hq => hr q (List.mem_reverse.1 hq)) (by simp; omega)) ?_
      exact Ev.now _
  | succ i ih =>
    intro hi
    refine Ev.step (fun k => ?_) (ih (by omega))
    simp only [spec_Hull.l0]
    have e : ((i + 1 : Nat) : Int) - 1 = (i : Int) := by omega
    rw [e, if_pos (by omega), if_pos (by omega), if_pos (by omega), if_pos (by simp; omega), rd_at _ _ (by omega), w64 (by omega) (by omega), List.drop_eq_getElem_cons (by omega : i < s.length), List.reverse_cons]
theorem specHull_ev (l : List S81) (hn : l.length ≤ 500) (hr : ∀ q ∈ l, Right q) : Ev (fun k => spec_Hull.f k l) (hullOf (sortedPts l)) := by
  have hb : (l.all rightB && decide (l.length ≤ 500)) = true := by
    rw [Bool.and_eq_true]
    exact ⟨List.all_eq_true.2 (fun q hq => (rightB_iff q).2 (hr q hq)), by simpa using hn⟩
  have hA := l9Right_ev l (by omega)
  rw [hb] at hA
  unfold spec_Hull.f
  refine Ev.bind hA ?_
  simp only [if_true]
  refine Ev.bind (l9Sorted_ev l hn) ?_
  have hl := sorted_len l
  have rs := sorted_right hr
  by_cases hs : (sortedPts l).length < 3
  · have : hullOf (sortedPts l) = sortedPts l := by
      unfold hullOf
      split
      · rfl
      · rename_i h2
        match sortedPts l, hs, h2 with
        | [a, b], _, _ => simp [lowC, highC, chainR, pop]
        | [a], _, h2 => simp at h2
        | [], _, h2 => simp at h2
    simp only [show ((sortedPts l).length : Int) < 3 from by omega, if_true]
    rw [this]
    exact Ev.now _
  · simp only [show ¬ ((sortedPts l).length : Int) < 3 from by omega, if_false]
    obtain ⟨m, M, T⟩ := ends_two (sortedPts_props l).1 (by omega)
    have h1 := T.ll
    have h2 := T.lh
    have h3 := chainR_len (sortedPts l)
    have h4 := chainR_len (sortedPts l).reverse
    have e1 : (lowC (sortedPts l)).length = (chainR (sortedPts l)).length := by simp [lowC]
    have e2 : (highC (sortedPts l)).length = (chainR (sortedPts l).reverse).length := by simp [highC]
    simp only [List.length_reverse] at h4
    refine Ev.bind (l9Chain_ev rs (by omega)) ?_
    have := specHull_l0 (s := sortedPts l) (low := lowC (sortedPts l)) (by omega) rs (by omega) (by omega) (by omega) (by omega) (sortedPts l).length (Nat.le_refl _)
    rw [T.hull]
    rw [w64 (by omega) (by omega)]
    simpa [lowC] using this
theorem specHull_none (l : List S81) (hn : l.length ≤ 2000000) (h : (l.all rightB && decide (l.length ≤ 500)) = false) : Ev (fun k => spec_Hull.f k l) [] := by
  have hA := l9Right_ev l hn
  rw [h] at hA
  unfold spec_Hull.f
  refine Ev.bind hA ?_
  simp only [Bool.false_eq_true, if_false]
  exact Ev.now _
end Go.Proofs.Ytchmmnlmgkocoaa.H
