/- Both finds come to the same; conditions: those of each lemma. -/
import Derived.Test.YtchmmnlmgkocoaaFR
set_option linter.unusedVariables false
set_option linter.unusedSimpArgs false
namespace Go.Proofs.Ytchmmnlmgkocoaa.F
open Go.Proofs.Ytchmmnlmgkocoaa.H (S81 z81 k81 k81_open k81_openM k81_mk k81_mkM rd_T81 at_T81 w64 rd_at)
open Go.RowKit Go.Proofs.YtchmmnlmgkocoaaW.PrintWords Go.Proofs.YtchmmnlmgkocoaaW.PrintLast Go.Proofs.YtchmmnlmgkocoaaW.PrintMore
theorem l5Copy_ev (a : Int) (s : List (List S81)) (hl : s.length ≤ 2000000) (hb : ∀ l ∈ s, l.length ≤ 2000000) : Ev (fun k => spec_l5Copy.f k a s) (a, s) := by
  have : ∀ (d i : Nat), i + d = s.length → Ev (fun k => spec_l5Copy.l0 k (i : Int) a s a (s.take i)) (a, s) := by
    intro d
    induction d with
    | zero =>
      intro i hd
      refine Ev.step (f := fun _ => some (a, s)) (fun k => ?_) (Ev.now _)
      simp only [spec_l5Copy.l0]
      rw [if_neg (by omega), List.take_of_length_le (by omega)]
    | succ d ih =>
      intro i hd
      have hi : i < s.length := by omega
      have hbi := hb _ (List.getElem_mem hi)
      refine Ev.step (fun k => ?_) (ih (i + 1) (by omega))
      simp only [spec_l5Copy.l0, Option.bind_some]
      rw [if_pos (by omega), if_pos (by omega), rdL_at _ _ hi, if_pos (by simp; omega), if_pos (by simp; omega), w64 (by omega) (by omega), List.nil_append]
      have ht : s.take (i + 1) = s.take i ++ [s[i]] := by rw [List.take_add_one, List.getElem?_eq_getElem hi]; rfl
      rw [ht]
      rfl
  have h := this s.length 0 (by omega)
  simpa [spec_l5Copy.f] using h
theorem copyShape_ev (a : Int) (s : List (List S81)) (hl : s.length ≤ 2000000) (hb : ∀ l ∈ s, l.length ≤ 2000000) : Ev (fun k => impl_copyShape.f k a s) (a, s) := by
  have : ∀ (d i : Nat), i + d = s.length → Ev (fun k => impl_copyShape.l0 k s (s.length : Int) (i : Int) a (s.take i)) (a, s) := by
    intro d
    induction d with
    | zero =>
      intro i hd
      refine Ev.step (f := fun _ => some (a, s)) (fun k => ?_) (Ev.now _)
      simp only [impl_copyShape.l0]
      rw [if_neg (by omega), List.take_of_length_le (by omega)]
    | succ d ih =>
      intro i hd
      have hi : i < s.length := by omega
      have hbi := hb _ (List.getElem_mem hi)
      refine Ev.step (fun k => ?_) (ih (i + 1) (by omega))
      simp only [impl_copyShape.l0]
      rw [if_pos (by omega), if_pos (by omega), if_pos (by omega), rdL_at _ _ hi]
      simp only [impl_Pt.f, show s[i].length < 8796093022208 from by omega, if_true, Option.bind_some]
      rw [if_pos (by simp; omega), w64 (by omega) (by omega)]
      have ht : s.take (i + 1) = s.take i ++ [s[i]] := by rw [List.take_add_one, List.getElem?_eq_getElem hi]; rfl
      rw [ht]
      rfl
  have h := this s.length 0 (by omega)
  simpa [impl_copyShape.f] using h
def Few' (s : List S110) : Prop := s.length ≤ 2000000 ∧ ∀ e ∈ s, e.f1.f1.length ≤ 2000000 ∧ ∀ l ∈ e.f1.f1, l.length ≤ 2000000
theorem idx_none (a : Int) : ∀ (l : List S110) (s : Nat), idx a l s = -1 ∨ ∃ i, ∃ h : i < l.length, idx a l s = ((s + i : Nat) : Int) ∧ l[i].f0 = a ∧ ∀ j (hj : j < i), (l[j]'(by omega)).f0 ≠ a
  | [], _ => .inl rfl
  | x :: t, s => by
    by_cases hx : x.f0 = a
    · exact .inr ⟨0, by simp, by simp [idx, hx], hx, fun j hj => absurd hj (Nat.not_lt_zero _)⟩
    · rcases idx_none a t (s + 1) with h | ⟨i, hi, h1, h2, h3⟩
      · exact .inl (by rw [idx, if_neg hx]; exact h)
      · refine .inr ⟨i + 1, by simpa using hi, by rw [idx, if_neg hx, h1]; omega, by simpa using h2, fun j hj => ?_⟩
        cases j with
        | zero => exact hx
        | succ j => exact h3 j (by omega)
theorem miss_all (a : Int) : ∀ (l : List S110) (s : Nat), idx a l s = -1 → ∀ j (hj : j < l.length), l[j].f0 ≠ a
  | [], _, _, j, hj => by simp at hj
  | x :: t, s, h, j, hj => by
    by_cases hx : x.f0 = a
    · rw [idx, if_pos hx] at h; omega
    · rw [idx, if_neg hx] at h
      cases j with
      | zero => exact hx
      | succ j => exact miss_all a t (s + 1) h j (by simpa using hj)
/-- what both find -/
theorem find_ev (s : List S110) (a : Int) (hs : Few' s) : ∃ (r1 : Int) (r2 : List (List S81)) (r3 : Bool), Ev (fun k => impl_Find.f k s a) (r1, r2, r3) ∧ Ev (fun k => spec_Find.f k s a) (r1, r2, r3) ∧ r2.length ≤ 2000000 ∧ (∀ l ∈ r2, l.length ≤ 2000000) ∧ ((r2 = []) ∨ ∃ e ∈ s, r2 = e.f1.f1) := by
  obtain ⟨hl, hb⟩ := hs
  rcases idx_none a s 0 with h | ⟨i, hi, h1, h2, h3⟩
  · have hm := miss_all a s 0 h
    refine ⟨0, [], false, ?_, ?_, by simp, by simp, .inl rfl⟩
    · unfold impl_Find.f impl_idAt.f
      rw [h]
      exact Ev.now _
    · have : ∀ (d i : Nat), i + d = s.length → Ev (fun k => spec_Find.l0 k s a (i : Int)) (0, [], false) := by
        intro d
        induction d with
        | zero =>
          intro i hd
          refine Ev.step (f := fun _ => some (0, [], false)) (fun k => ?_) (Ev.now _)
          simp only [spec_Find.l0]
          rw [if_neg (by omega)]
        | succ d ih =>
          intro i hd
          have hi : i < s.length := by omega
          refine Ev.step (fun k => ?_) (ih (i + 1) (by omega))
          simp only [spec_Find.l0]
          rw [if_pos (by omega), if_pos (by omega), rd110_at _ _ hi, if_neg (hm i hi), w64 (by omega) (by omega)]
          rfl
      exact this s.length 0 (by omega)
  · obtain ⟨hb1, hb2⟩ := hb _ (List.getElem_mem hi)
    rw [Nat.zero_add] at h1
    refine ⟨s[i].f1.f0, s[i].f1.f1, true, ?_, ?_, hb1, hb2, .inr ⟨s[i], List.getElem_mem hi, rfl⟩⟩
    · unfold impl_Find.f impl_idAt.f
      simp only [Option.bind_some, h1, show ¬ ((i : Nat) : Int) < 0 from by omega, show (0 : Int) ≤ ((i : Nat) : Int) from by omega, show ((i : Nat) : Int) < (s.length : Int) from by omega, if_true, if_false, rd110_at s i hi]
      refine Ev.bind (copyShape_ev s[i].f1.f0 s[i].f1.f1 hb1 hb2) ?_
      exact Ev.now _
    · have : ∀ (d j : Nat), j + d = i → Ev (fun k => spec_Find.l0 k s a (j : Int)) (s[i].f1.f0, s[i].f1.f1, true) := by
        intro d
        induction d with
        | zero =>
          intro j hd
          obtain rfl : j = i := by omega
          refine Ev.step (f := fun k => (spec_l5Copy.f k s[j].f1.f0 s[j].f1.f1).bind fun bt => some (bt.1, bt.2, true)) (fun k => ?_) (Ev.bind (l5Copy_ev s[j].f1.f0 s[j].f1.f1 hb1 hb2) (Ev.now _))
          simp only [spec_Find.l0]
          rw [if_pos (by omega), if_pos (by omega), rd110_at _ _ hi, if_pos h2]
        | succ d ih =>
          intro j hd
          have hj : j < s.length := by omega
          refine Ev.step (fun k => ?_) (ih (j + 1) (by omega))
          simp only [spec_Find.l0]
          rw [if_pos (by omega), if_pos (by omega), rd110_at _ _ hj, if_neg (h3 j (by omega)), w64 (by omega) (by omega)]
          rfl
      exact this i 0 (by omega)
end Go.Proofs.Ytchmmnlmgkocoaa.F
