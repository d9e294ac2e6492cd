/- The law of hulls holds; condition: its row's own. -/
import Derived.Test.YtchmmnlmgkocoaaHV
set_option linter.unusedVariables false
set_option linter.unusedSimpArgs false
namespace Go.Proofs.Ytchmmnlmgkocoaa.H
open Go.RowKit Go.Proofs.YtchmmnlmgkocoaaW.PrintWords Go.Proofs.YtchmmnlmgkocoaaW.PrintLast Go.Proofs.YtchmmnlmgkocoaaW.PrintMore
open Hm (A)
theorem same_ev (l : List S81) (hn : l.length ≤ 1000000) : Ev (fun k => laws_samePts.f k l l) true := by
  have : ∀ (d i : Nat), l.length - i = d → Ev (fun k => laws_samePts.l0 k l l (i : Int)) true := by
    intro d
    induction d with
    | zero =>
      intro i hd
      refine Ev.step (f := fun _ => some true) (fun k => ?_) (Ev.now _)
      simp only [laws_samePts.l0]
      rw [if_neg (by omega)]
    | succ d ih =>
      intro i hd
      refine Ev.step (fun k => ?_) (ih (i + 1) (by omega))
      simp only [laws_samePts.l0]
      rw [if_pos (by omega), if_pos (by omega), if_pos (by omega), if_neg (by simp), w64 (by omega) (by omega)]
      rfl
  unfold laws_samePts.f
  simp only [if_true]
  exact this l.length 0 (by omega)
section
variable {l h : List S81}
theorem j4_false (hh : h.length ≤ 1000) (he : Ev (fun k => impl_Hull.f k h) h) (h0 : 0 < h.length) (i : Int) : Ev (fun k => laws_FnHulls.j4 k l h (h.length : Int) i false) true := by
  refine Ev.step (f := fun k => (impl_Hull.f k h).bind fun t353 => ((laws_samePts.f k t353 h).bind fun t356 => (if t356 = true then (some (decide ((h.length : Int) > 0))) else (some false)))) (fun k => ?_) ?_
  · simp only [laws_FnHulls.j4]
    rw [if_neg (by simp)]
  · refine Ev.bind he (Ev.bind (same_ev h (by omega)) ?_)
    simp only [if_true]
    rw [decide_eq_true (by omega)]
    exact Ev.now _
theorem l2_ev (hl : l.length ≤ 1000000) (hh : h.length ≤ 1000) (he : Ev (fun k => impl_Hull.f k h) h) (h0 : 0 < h.length) (hs : ∀ m M, h = [m, M] → ∀ q ∈ l, impl_OnSeg.f m.f0 m.f1 M.f0 M.f1 q.f0 q.f1 = some true) :
    ∀ (d i : Nat), l.length - i = d → Ev (fun k => laws_FnHulls.l2 k l h (h.length : Int) (i : Int)) true := by
  intro d
  induction d with
  | zero =>
    intro i hd
    refine Ev.step (f := fun k => laws_FnHulls.j4 k l h (h.length : Int) i false) (fun k => ?_) (j4_false hh he h0 i)
    simp only [laws_FnHulls.l2]
    rw [if_neg (by omega)]
  | succ d ih =>
    intro i hd
    have hi : i < l.length := by omega
    refine Ev.step (f := fun k => laws_FnHulls.j4 k l h (h.length : Int) i ((h.length : Int) == 2)) (fun k => ?_) ?_
    · simp only [laws_FnHulls.l2]
      rw [if_pos (by omega)]
    · by_cases h2 : h.length = 2
      · obtain ⟨m, M, hmM⟩ : ∃ m M, h = [m, M] := by
          match h, h2 with
          | [a, b], _ => exact ⟨a, b, rfl⟩
        rw [show ((h.length : Int) == 2) = true by rw [h2]; rfl]
        refine Ev.step (fun k => ?_) (ih (i + 1) (by omega))
        have e := hs m M hmM l[i] (List.getElem_mem hi)
        have w1 : wrap64 ((i : Int) + 1) = ((i + 1 : Nat) : Int) := by rw [w64 (by omega) (by omega)]; omega
        have r0 : rd_T81 h 0 = m := by rw [hmM]; rfl
        have r1 : rd_T81 h 1 = M := by rw [hmM]; rfl
        simp only [laws_FnHulls.j4]
        rw [if_pos trivial, if_pos (by omega), if_pos (by omega), if_pos (by omega), if_pos (by omega), rd_at _ _ hi, r0, r1, e, Option.bind_some, if_pos rfl, w1]
      · rw [show ((h.length : Int) == 2) = false by rw [beq_eq_false_iff_ne]; omega]
        exact j4_false hh he h0 i
theorem l1_ev (hl : l.length ≤ 1000000) (hh : h.length ≤ 1000) {i : Nat} (hi : i < h.length) (hr : ∀ q ∈ h, Right q) (hrl : ∀ q ∈ l, Right q)
    (hleft : ∀ x y, h[i]? = some x → h[(i + 1) % h.length]? = some y → ∀ q ∈ l, 0 ≤ A x y q)
    (hnext : Ev (fun k => laws_FnHulls.l0 k l h (h.length : Int) ((i + 1 : Nat) : Int)) true) :
    ∀ (d j : Nat), l.length - j = d → Ev (fun k => laws_FnHulls.l1 k l h (h.length : Int) (i : Int) (j : Int)) true := by
  have w1 : wrap64 ((i : Int) + 1) = ((i + 1 : Nat) : Int) := by rw [w64 (by omega) (by omega)]; omega
  have m1 : Int.tmod ((i + 1 : Nat) : Int) (h.length : Int) = (((i + 1) % h.length : Nat) : Int) := by rw [Int.tmod_eq_emod_of_nonneg (by omega)]; omega
  have lt1 : (i + 1) % h.length < h.length := Nat.mod_lt _ (by omega)
  intro d
  induction d with
  | zero =>
    intro j hd
    refine Ev.step (fun k => ?_) hnext
    simp only [laws_FnHulls.l1]
    rw [if_neg (by omega), w1]
  | succ d ih =>
    intro j hd
    have hj : j < l.length := by omega
    refine Ev.step (fun k => ?_) (ih (j + 1) (by omega))
    have wj : wrap64 ((j : Int) + 1) = ((j + 1 : Nat) : Int) := by rw [w64 (by omega) (by omega)]; omega
    have hA := hleft h[i] h[(i + 1) % h.length] (List.getElem?_eq_getElem hi) (List.getElem?_eq_getElem lt1) l[j] (List.getElem_mem hj)
    simp only [laws_FnHulls.l1]
    rw [w1, m1, if_pos (by omega), if_pos (by omega), if_pos (by omega), if_neg (by omega), if_pos (by omega), if_pos (by omega), if_pos (by omega), rd_at _ _ hi, rd_at _ _ lt1, rd_at _ _ hj,
      Turn_some (hr _ (List.getElem_mem hi)) (hr _ (List.getElem_mem lt1)) (hrl _ (List.getElem_mem hj)), Option.bind_some, if_neg (by unfold sgn; split <;> (try split) <;> omega), wj]
theorem l0_ev (hl : l.length ≤ 1000000) (hh : h.length ≤ 1000) (hr : ∀ q ∈ h, Right q) (hrl : ∀ q ∈ l, Right q) (h0 : 0 < h.length)
    (hleft : 2 < h.length → ∀ (i : Nat) x y, i < h.length → h[i]? = some x → h[(i + 1) % h.length]? = some y → ∀ q ∈ l, 0 ≤ A x y q)
    (hturn : 2 < h.length → ∀ (i : Nat) x y z, i < h.length → h[i]? = some x → h[(i + 1) % h.length]? = some y → h[(i + 2) % h.length]? = some z → 0 < A x y z)
    (hend : Ev (fun k => laws_FnHulls.l2 k l h (h.length : Int) 0) true) :
    ∀ (d i : Nat), h.length - i = d → Ev (fun k => laws_FnHulls.l0 k l h (h.length : Int) (i : Int)) true := by
  have fall : ∀ (i : Int), Ev (fun k => laws_FnHulls.j1 k l h (h.length : Int) i false) true := by
    intro i
    refine Ev.step (fun k => ?_) hend
    simp only [laws_FnHulls.j1]
    rw [if_neg (by simp)]
  intro d
  induction d with
  | zero =>
    intro i hd
    refine Ev.step (fun k => ?_) (fall i)
    simp only [laws_FnHulls.l0]
    rw [if_neg (by omega)]
  | succ d ih =>
    intro i hd
    have hi : i < h.length := by omega
    refine Ev.step (f := fun k => laws_FnHulls.j1 k l h (h.length : Int) i (decide ((h.length : Int) > 2))) (fun k => ?_) ?_
    · simp only [laws_FnHulls.l0]
      rw [if_pos (by omega)]
    · by_cases h2 : 2 < h.length
      · rw [decide_eq_true (by omega)]
        have w1 : wrap64 ((i : Int) + 1) = ((i + 1 : Nat) : Int) := by rw [w64 (by omega) (by omega)]; omega
        have w2 : wrap64 ((i : Int) + 2) = ((i + 2 : Nat) : Int) := by rw [w64 (by omega) (by omega)]; omega
        have m1 : Int.tmod ((i + 1 : Nat) : Int) (h.length : Int) = (((i + 1) % h.length : Nat) : Int) := by rw [Int.tmod_eq_emod_of_nonneg (by omega)]; omega
        have m2 : Int.tmod ((i + 2 : Nat) : Int) (h.length : Int) = (((i + 2) % h.length : Nat) : Int) := by rw [Int.tmod_eq_emod_of_nonneg (by omega)]; omega
        have lt1 : (i + 1) % h.length < h.length := Nat.mod_lt _ (by omega)
        have lt2 : (i + 2) % h.length < h.length := Nat.mod_lt _ (by omega)
        have hA := hturn h2 i _ _ _ hi (List.getElem?_eq_getElem hi) (List.getElem?_eq_getElem lt1) (List.getElem?_eq_getElem lt2)
        refine Ev.step (fun k => ?_) (l1_ev hl hh hi hr hrl (fun x y hx hy => hleft h2 i x y hi hx hy) (ih (i + 1) (by omega)) l.length 0 (by omega))
        simp only [laws_FnHulls.j1]
        rw [w1, w2, m1, m2, if_pos trivial, if_pos (by omega), if_pos (by omega), if_neg (by omega), if_pos (by omega), if_pos (by omega), if_pos (by omega), if_pos (by omega), rd_at _ _ hi, rd_at _ _ lt1, rd_at _ _ lt2,
          Turn_some (hr _ (List.getElem_mem hi)) (hr _ (List.getElem_mem lt1)) (hr _ (List.getElem_mem lt2)), Option.bind_some, if_pos (by unfold sgn; rw [if_neg (by omega), if_pos hA])]
        rfl
      · rw [decide_eq_false (by omega)]
        exact fall i
end
theorem zeros_sorted (n : Nat) : (sortedPts (List.replicate n z81)).length ≤ 1 := by
  obtain ⟨h1, h2⟩ := sortedPts_props (List.replicate n z81)
  match h : sortedPts (List.replicate n z81) with
  | [] => simp
  | [_] => simp
  | a :: b :: t =>
    exfalso
    rw [h] at h1 h2
    have ha := (h2 a).1 (by simp)
    have hb := (h2 b).1 (by simp)
    have ea := (List.mem_replicate.1 ha).2
    have eb := (List.mem_replicate.1 hb).2
    have := (List.pairwise_cons.1 h1).1 b (by simp)
    rw [ea, eb] at this
    exact ltP_irr _ this
theorem holds (x : List Int) : ∃ k, laws_FnHulls.f k x = some true := by
  apply Ev.rounds (g := fun k => laws_FnHulls.f k x)
  unfold laws_FnHulls.f laws_big.f
  simp only [Option.bind_some]
  by_cases hx : (x.length : Int) > 1048576
  · simp only [hx, decide_true, if_true]
    exact Ev.now _
  · simp only [hx, decide_false, Bool.false_eq_true, if_false]
    obtain ⟨l, eD, hd⟩ := DrawHull_is (x := x) (by omega)
    have hn : l.length ≤ 501 := by
      rcases hd with h | ⟨n, h, rfl⟩
      · omega
      · simpa using h
    refine Ev.bind eD ?_
    by_cases hb : (l.all rightB && decide (l.length ≤ 500)) = true
    · have hb' := hb
      rw [Bool.and_eq_true, decide_eq_true_eq] at hb'
      obtain ⟨h1, h2⟩ := hb'
      have hr := rightAll h1
      refine Ev.bind (implHull_ev l h2 hr) (Ev.bind (specHull_ev l h2 hr) ?_)
      have hs := (sortedPts_props l).1
      have hm := (sortedPts_props l).2
      have sl := sorted_len l
      have hlen : (hullOf (sortedPts l)).length ≤ 60 := by
        have h4 := hull_len (sortedPts l)
        rcases hd with h | ⟨n, h, rfl⟩
        · omega
        · have := zeros_sorted n
          omega
      generalize eh : hullOf (sortedPts l) = h at *
      have again : hullOf (sortedPts h) = h := by rw [← eh]; exact hull_again hs
      have hrh : ∀ q ∈ h, Right q := fun q hq => hr q ((hm q).1 (hull_mem hs (by rw [eh]; exact hq)))
      have he : Ev (fun k => impl_Hull.f k h) h := by
        have := implHull_ev h (by omega) hrh
        rw [again] at this
        exact this
      by_cases h0 : h.length = 0
      · simp only [h0]
        exact Ev.now _
      · simp only [show ¬ ((h.length : Int) = 0) by omega, if_false]
        have two : 2 ≤ h.length → ∃ m M, Two (sortedPts l) m M := by
          intro h2
          apply ends_two hs
          apply Classical.byContradiction
          intro hc
          have : hullOf (sortedPts l) = sortedPts l := by unfold hullOf; rw [if_pos (by omega)]
          rw [eh] at this
          rw [this] at h2
          omega
        refine l0_ev (by omega) (by omega) hrh hr (by omega) (fun h2 i x y hi hx hy q hq => ?_) (fun h2 i x y z hi hx hy hz => ?_) ?_ h.length 0 (by omega)
        · obtain ⟨m, M, T⟩ := two (by omega)
          exact T.left (by rw [eh]; exact hi) (by rw [eh]; exact hx) (by rw [eh]; exact hy) q ((hm q).2 hq)
        · obtain ⟨m, M, T⟩ := two (by omega)
          exact T.turns (by rw [eh]; exact h2) (by rw [eh]; exact hi) (by rw [eh]; exact hx) (by rw [eh]; exact hy) (by rw [eh]; exact hz)
        · refine l2_ev (by omega) (by omega) he (by omega) (fun m' M' e q hq => ?_) l.length 0 (by omega)
          obtain ⟨m, M, T⟩ := two (by rw [e]; simp)
          obtain ⟨e2, hz⟩ := T.flat (by rw [eh, e]; rfl)
          rw [eh, e] at e2
          obtain ⟨rfl, rfl⟩ : m' = m ∧ M' = M := by simpa using e2
          exact OnSeg_some (hr _ ((hm _).1 T.ms)) (hr _ ((hm _).1 T.Ms)) (hr _ hq) (hz q ((hm q).2 hq)) (T.least q ((hm q).2 hq)) (T.most q ((hm q).2 hq))
    · have hb' : (l.all rightB && decide (l.length ≤ 500)) = false := by simpa using hb
      refine Ev.bind (implHull_none l (by omega) hb') (Ev.bind (specHull_none l (by omega) hb') ?_)
      exact Ev.now _
end Go.Proofs.Ytchmmnlmgkocoaa.H
