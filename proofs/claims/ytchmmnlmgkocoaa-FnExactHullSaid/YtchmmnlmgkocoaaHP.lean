/- The hull's loops as plain functions on lists; conditions: those of each lemma. -/
import Derived.Test.YtchmmnlmgkocoaaHE
import Derived.Test.YtchmmnlmgkocoaaHM
import Derived.Test.YtchmmnlmgkocoaaH7
set_option linter.unusedVariables false
set_option linter.unusedSimpArgs false
namespace Go.Proofs.Ytchmmnlmgkocoaa.H
open Go.RowKit Go.Proofs.YtchmmnlmgkocoaaW.PrintWords Go.Proofs.YtchmmnlmgkocoaaW.PrintLast
open Hm (A pop)
def Right (p : S81) : Prop := -10000000 ≤ p.f0 ∧ p.f0 ≤ 10000000 ∧ -10000000 ≤ p.f1 ∧ p.f1 ≤ 10000000
def rightB (p : S81) : Bool := decide (-10000000 ≤ p.f0) && decide (p.f0 ≤ 10000000) && decide (-10000000 ≤ p.f1) && decide (p.f1 ≤ 10000000)
theorem rightB_iff (p : S81) : rightB p = true ↔ Right p := by simp [rightB, Right, and_assoc]
def sgn (x : Int) : Int := if x < 0 then -1 else if x > 0 then 1 else 0
theorem w64 {x : Int} (h0 : -9223372036854775808 ≤ x) (h1 : x ≤ 9223372036854775807) : wrap64 x = x := by unfold wrap64; omega
theorem mul_bd {u v : Int} (h1 : -20000000 ≤ u) (h2 : u ≤ 20000000) (h3 : -20000000 ≤ v) (h4 : v ≤ 20000000) : -400000000000000 ≤ u * v ∧ u * v ≤ 400000000000000 := by
  have a := Int.mul_nonneg (show 0 ≤ 20000000 - u by omega) (show 0 ≤ 20000000 - v by omega)
  have b := Int.mul_nonneg (show 0 ≤ 20000000 + u by omega) (show 0 ≤ 20000000 + v by omega)
  have c := Int.mul_nonneg (show 0 ≤ 20000000 - u by omega) (show 0 ≤ 20000000 + v by omega)
  have d := Int.mul_nonneg (show 0 ≤ 20000000 + u by omega) (show 0 ≤ 20000000 - v by omega)
  simp only [Int.sub_mul, Int.mul_sub, Int.add_mul, Int.mul_add] at a b c d
  omega
theorem A_bd {a b c : S81} (ha : Right a) (hb : Right b) (hc : Right c) : -800000000000000 ≤ A a b c ∧ A a b c ≤ 800000000000000 := by
  unfold Right at *
  have h1 := mul_bd (u := b.f0 - a.f0) (v := c.f1 - a.f1) (by omega) (by omega) (by omega) (by omega)
  have h2 := mul_bd (u := b.f1 - a.f1) (v := c.f0 - a.f0) (by omega) (by omega) (by omega) (by omega)
  unfold A
  omega
theorem area_some {a b c : S81} (ha : Right a) (hb : Right b) (hc : Right c) : wrap64 ((wrap64 ((wrap64 (b.f0 - a.f0)) * (wrap64 (c.f1 - a.f1)))) - (wrap64 ((wrap64 (b.f1 - a.f1)) * (wrap64 (c.f0 - a.f0))))) = A a b c := by
  have hA := A_bd ha hb hc
  unfold Right at *
  have h1 := mul_bd (u := b.f0 - a.f0) (v := c.f1 - a.f1) (by omega) (by omega) (by omega) (by omega)
  have h2 := mul_bd (u := b.f1 - a.f1) (v := c.f0 - a.f0) (by omega) (by omega) (by omega) (by omega)
  rw [w64 (x := b.f0 - a.f0) (by omega) (by omega), w64 (x := c.f1 - a.f1) (by omega) (by omega), w64 (x := b.f1 - a.f1) (by omega) (by omega), w64 (x := c.f0 - a.f0) (by omega) (by omega)]
  rw [w64 (x := (b.f0 - a.f0) * (c.f1 - a.f1)) (by omega) (by omega), w64 (x := (b.f1 - a.f1) * (c.f0 - a.f0)) (by omega) (by omega)]
  unfold A at *
  exact w64 (by omega) (by omega)
theorem compare0 (x : Int) : cmp_Compare_int.f x 0 = some (sgn x) := by
  unfold cmp_Compare_int.f cmp_isNaN_int.f sgn
  simp only [Option.bind_some, bne_self_eq_false, Bool.false_eq_true, if_false]
  split
  · rfl
  · split <;> rfl
theorem turn_some {a b c : S81} (ha : Right a) (hb : Right b) (hc : Right c) : impl_turn.f a.f0 a.f1 b.f0 b.f1 c.f0 c.f1 = some (sgn (A a b c)) := by
  unfold impl_turn.f impl_cross2.f
  rw [area_some ha hb hc]
  simp only [Option.bind_some, compare0]
theorem l3Area_some {a b c : S81} (ha : Right a) (hb : Right b) (hc : Right c) : spec_l3Area.f a.f0 a.f1 b.f0 b.f1 c.f0 c.f1 = some (A a b c) := by
  unfold spec_l3Area.f
  rw [area_some ha hb hc]
theorem sgn_le (x : Int) : sgn x ≤ 0 ↔ x ≤ 0 := by unfold sgn; split <;> (try split) <;> omega
theorem rd_at (xs : List S81) (i : Nat) (h : i < xs.length) : rd_T81 xs (i : Int) = xs[i] := by
  unfold rd_T81
  rw [Int.toNat_natCast, List.getD_eq_getElem?_getD, List.getElem?_eq_getElem h]
  simp
theorem rev_top2 (b a : S81) (t : List S81) : ((b :: a :: t).reverse.length : Int) = t.length + 2 ∧ rd_T81 (b :: a :: t).reverse ((t.length : Nat) : Int) = a ∧ rd_T81 (b :: a :: t).reverse ((t.length + 1 : Nat) : Int) = b ∧ (b :: a :: t).reverse.take (t.length + 1) = (a :: t).reverse := by
  have e : (b :: a :: t).reverse = t.reverse ++ [a, b] := by simp
  refine ⟨by simp, ?_, ?_, ?_⟩
  · rw [rd_at _ _ (by simp), ]
    simp [e]
  · rw [rd_at _ _ (by simp)]
    simp [e]
  · rw [e]
    rw [List.take_append]
    simp [List.take_of_length_le]
section
variable {xs : List S81}
theorem chainOf_l1 {i : Nat} {p : S81} (hp : Right p) {R : List S81} : ∀ (st : List S81), (∀ q ∈ st, Right q) → st.length < 8796093022208 →
    Ev (fun k => impl_chainOf.l0 k (p :: pop p st).reverse xs xs.length (wrap64 ((i : Int) + 1))) R → Ev (fun k => impl_chainOf.l1 k st.reverse xs xs.length (i : Int) p.f0 p.f1) R := by
  intro st
  induction st with
  | nil =>
    intro _ _ h
    refine Ev.step (fun k => ?_) h
    simp only [impl_chainOf.l1, pop]
    rw [if_neg (by simp), if_pos (by simp)]
    simp
  | cons b st ih =>
    intro hst hl h
    match st, ih, hst, hl, h with
    | [], _, _, _, h =>
      refine Ev.step (fun k => ?_) h
      simp only [impl_chainOf.l1, pop]
      rw [if_neg (by simp), if_pos (by simp)]
      simp
    | a :: t, ih, hst, hl, h =>
      obtain ⟨e0, e1, e2, e3⟩ := rev_top2 b a t
      have ha : Right a := hst a (by simp)
      have hb : Right b := hst b (by simp)
      have hl' : t.length + 2 < 8796093022208 := by simpa using hl
      have w2 : wrap64 (((b :: a :: t).reverse.length : Int) - 2) = ((t.length : Nat) : Int) := by rw [e0, w64 (by omega) (by omega)]; omega
      have w1 : wrap64 (((b :: a :: t).reverse.length : Int) - 1) = ((t.length + 1 : Nat) : Int) := by rw [e0, w64 (by omega) (by omega)]; omega
      have step : ∀ k, impl_chainOf.l1 (k + 1) (b :: a :: t).reverse xs xs.length (i : Int) p.f0 p.f1 = if sgn (A a b p) ≤ 0 then impl_chainOf.l1 k (a :: t).reverse xs xs.length (i : Int) p.f0 p.f1 else impl_chainOf.l0 k ((b :: a :: t).reverse ++ [p]) xs xs.length (wrap64 ((i : Int) + 1)) := by
        intro k
        simp only [impl_chainOf.l1]
        rw [w1, w2, if_pos (by rw [e0]; omega), if_pos (by omega), if_pos (by rw [e0]; omega), if_pos (by omega), if_pos (by rw [e0]; omega), e1, e2, turn_some ha hb hp]
        simp only [Option.bind_some, Int.toNat_natCast, e3]
        by_cases hc : sgn (A a b p) ≤ 0
        · rw [if_pos hc, if_pos hc, if_pos (by rw [e0]; omega)]
        · rw [if_neg hc, if_neg hc, if_pos (by simp; omega)]
      by_cases hc : A a b p ≤ 0
      · have hs : sgn (A a b p) ≤ 0 := (sgn_le _).2 hc
        refine Ev.step (fun k => by rw [step k, if_pos hs]) (ih (fun q hq => hst q (List.mem_cons_of_mem _ hq)) (by simp at hl ⊢; omega) ?_)
        simp only [pop, if_pos hc] at h
        exact h
      · have hs : ¬ sgn (A a b p) ≤ 0 := fun h => hc ((sgn_le _).1 h)
        refine Ev.step (fun k => by rw [step k, if_neg hs]) ?_
        simp only [pop, if_neg hc] at h
        simpa using h
theorem pop_mem (p : S81) : ∀ (st : List S81) (q : S81), q ∈ pop p st → q ∈ st
  | [], q, h => by simp [pop] at h
  | [b], q, h => by simpa [pop] using h
  | b :: a :: t, q, h => by
    simp only [pop] at h
    split at h
    · exact List.mem_cons_of_mem _ (pop_mem p (a :: t) q h)
    · exact h
theorem pop_len (p : S81) : ∀ (st : List S81), (pop p st).length ≤ st.length
  | [] => by simp [pop]
  | [b] => by simp [pop]
  | b :: a :: t => by
    simp only [pop]
    split
    · have := pop_len p (a :: t); simp at this ⊢; omega
    · simp
theorem chainOf_l0 (hx : ∀ q ∈ xs, Right q) (hn : xs.length ≤ 1000) : ∀ (d i : Nat) (st : List S81), xs.length - i = d → i ≤ xs.length → (∀ q ∈ st, Right q) → st.length ≤ i →
    Ev (fun k => impl_chainOf.l0 k st.reverse xs xs.length (i : Int)) ((xs.drop i).foldl (fun s p => p :: pop p s) st).reverse := by
  intro d
  induction d with
  | zero =>
    intro i st hd hi hst hl
    refine Ev.step (f := fun _ => some st.reverse) (fun k => ?_) (by rw [List.drop_eq_nil_of_le (by omega)]; exact Ev.now _)
    simp only [impl_chainOf.l0]
    rw [if_neg (by omega)]
  | succ d ih =>
    intro i st hd hi hst hl
    have hlt : i < xs.length := by omega
    have hp : Right xs[i] := hx _ (List.getElem_mem hlt)
    rw [List.drop_eq_getElem_cons hlt, List.foldl_cons]
    refine Ev.step (f := fun k => impl_chainOf.l1 k st.reverse xs xs.length (i : Int) xs[i].f0 xs[i].f1) (fun k => ?_) ?_
    · simp only [impl_chainOf.l0]
      rw [if_pos (by omega), if_pos (by omega), if_pos (by omega), rd_at _ _ hlt]
    · refine chainOf_l1 hp st hst (by omega) ?_
      rw [w64 (by omega) (by omega)]
      have := ih (i + 1) (xs[i] :: pop xs[i] st) (by omega) (by omega) (fun q hq => by
        rcases List.mem_cons.1 hq with rfl | hq
        · exact hp
        · exact hst q (pop_mem _ _ q hq)) (by have := pop_len xs[i] st; simp; omega)
      simpa using this
theorem chainOf_ev (hx : ∀ q ∈ xs, Right q) (hn : xs.length ≤ 1000) : Ev (fun k => impl_chainOf.f k xs) (Hm.chainR xs).reverse := by
  have := chainOf_l0 hx hn xs.length 0 [] (by omega) (by omega) (by simp) (by simp)
  simpa [impl_chainOf.f, Hm.chainR] using this
/-- the reference's chain: the same -/
theorem l9Chain_l1 (hx : ∀ q ∈ xs, Right q) {i : Nat} (hi : i < xs.length) {R : List S81} : ∀ (st : List S81), (∀ q ∈ st, Right q) → st.length < 8796093022208 →
    Ev (fun k => spec_l9Chain.l0 k xs (xs[i] :: pop xs[i] st).reverse (wrap64 ((i : Int) + 1))) R → Ev (fun k => spec_l9Chain.l1 k xs st.reverse (i : Int)) R := by
  have hp : Right xs[i] := hx _ (List.getElem_mem hi)
  intro st
  induction st with
  | nil =>
    intro _ _ h
    refine Ev.step (fun k => ?_) h
    simp only [spec_l9Chain.l1, pop]
    rw [if_neg (by simp), if_pos (by omega), if_pos (by omega), if_pos (by simp), rd_at _ _ hi]
    simp
  | cons b st ih =>
    intro hst hl h
    match st, ih, hst, hl, h with
    | [], _, _, _, h =>
      refine Ev.step (fun k => ?_) h
      simp only [spec_l9Chain.l1, pop]
      rw [if_neg (by simp), if_pos (by omega), if_pos (by omega), if_pos (by simp), rd_at _ _ hi]
      simp
    | a :: t, ih, hst, hl, h =>
      obtain ⟨e0, e1, e2, e3⟩ := rev_top2 b a t
      have ha : Right a := hst a (by simp)
      have hb : Right b := hst b (by simp)
      have hl' : t.length + 2 < 8796093022208 := by simpa using hl
      have w2 : wrap64 (((b :: a :: t).reverse.length : Int) - 2) = ((t.length : Nat) : Int) := by rw [e0, w64 (by omega) (by omega)]; omega
      have w1 : wrap64 (((b :: a :: t).reverse.length : Int) - 1) = ((t.length + 1 : Nat) : Int) := by rw [e0, w64 (by omega) (by omega)]; omega
      have step : ∀ k, spec_l9Chain.l1 (k + 1) xs (b :: a :: t).reverse (i : Int) = if A a b xs[i] ≤ 0 then spec_l9Chain.l1 k xs (a :: t).reverse (i : Int) else spec_l9Chain.l0 k xs ((b :: a :: t).reverse ++ [xs[i]]) (wrap64 ((i : Int) + 1)) := by
        intro k
        simp only [spec_l9Chain.l1]
        rw [w1, w2, if_pos (by rw [e0]; omega), if_pos (by omega), if_pos (by rw [e0]; omega), if_pos (by omega), if_pos (by rw [e0]; omega), if_pos (by omega), if_pos (by omega), e1, e2, rd_at _ _ hi, l3Area_some ha hb hp]
        simp only [Option.bind_some, Int.toNat_natCast, e3]
        by_cases hc : A a b xs[i] ≤ 0
        · rw [if_pos hc, if_pos hc, if_pos (by rw [e0]; omega)]
        · rw [if_neg hc, if_neg hc, if_pos (by simp; omega)]
      by_cases hc : A a b xs[i] ≤ 0
      · refine Ev.step (fun k => by rw [step k, if_pos hc]) (ih (fun q hq => hst q (List.mem_cons_of_mem _ hq)) (by simp at hl ⊢; omega) ?_)
        simp only [pop, if_pos hc] at h
        exact h
      · refine Ev.step (fun k => by rw [step k, if_neg hc]) ?_
        simp only [pop, if_neg hc] at h
        simpa using h
theorem l9Chain_l0 (hx : ∀ q ∈ xs, Right q) (hn : xs.length ≤ 1000) : ∀ (d i : Nat) (st : List S81), xs.length - i = d → i ≤ xs.length → (∀ q ∈ st, Right q) → st.length ≤ i →
    Ev (fun k => spec_l9Chain.l0 k xs st.reverse (i : Int)) ((xs.drop i).foldl (fun s p => p :: pop p s) st).reverse := by
  intro d
  induction d with
  | zero =>
    intro i st hd hi hst hl
    refine Ev.step (f := fun _ => some st.reverse) (fun k => ?_) (by rw [List.drop_eq_nil_of_le (by omega)]; exact Ev.now _)
    simp only [spec_l9Chain.l0]
    rw [if_neg (by omega)]
  | succ d ih =>
    intro i st hd hi hst hl
    have hlt : i < xs.length := by omega
    have hp : Right xs[i] := hx _ (List.getElem_mem hlt)
    rw [List.drop_eq_getElem_cons hlt, List.foldl_cons]
    refine Ev.step (f := fun k => spec_l9Chain.l1 k xs st.reverse (i : Int)) (fun k => ?_) ?_
    · simp only [spec_l9Chain.l0]
      rw [if_pos (by omega)]
    · refine l9Chain_l1 hx hlt st hst (by omega) ?_
      rw [w64 (by omega) (by omega)]
      have := ih (i + 1) (xs[i] :: pop xs[i] st) (by omega) (by omega) (fun q hq => by
        rcases List.mem_cons.1 hq with rfl | hq
        · exact hp
        · exact hst q (pop_mem _ _ q hq)) (by have := pop_len xs[i] st; simp; omega)
      simpa using this
theorem l9Chain_ev (hx : ∀ q ∈ xs, Right q) (hn : xs.length ≤ 1000) : Ev (fun k => spec_l9Chain.f k xs) (Hm.chainR xs).reverse := by
  have := l9Chain_l0 hx hn xs.length 0 [] (by omega) (by omega) (by simp) (by simp)
  simpa [spec_l9Chain.f, Hm.chainR] using this
end
end Go.Proofs.Ytchmmnlmgkocoaa.H
