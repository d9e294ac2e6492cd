/- The hull of points in order: its sides, its corners, its hull, what the two programs' hulls come to; conditions: those of each lemma. -/
import Derived.Test.YtchmmnlmgkocoaaHR
set_option linter.unusedVariables false
set_option linter.unusedSimpArgs false
namespace Go.Proofs.Ytchmmnlmgkocoaa.H
open Go.RowKit Go.Proofs.YtchmmnlmgkocoaaW.PrintWords Go.Proofs.YtchmmnlmgkocoaaW.PrintLast
open Hm (A pop pos neg Half sub cr chainR IsChain Ordered)
theorem Good.less {H S S' : S81 → Prop} (hS : ∀ q, S' q → S q) : ∀ (t : List S81), Hm.Good H S t → (∀ q ∈ t, S' q) → Hm.Good H S' t
  | [], _, _ => trivial
  | [a], _, h => h a (by simp)
  | b :: a :: t, hG, h => ⟨h b (by simp), hG.2.1, fun q hq => hG.2.2.1 q (hS q hq), hG.2.2.2.1, Good.less hS (a :: t) hG.2.2.2.2 (fun q hq => h q (List.mem_cons_of_mem _ hq))⟩
theorem pos_lt (a b : S81) : pos (sub b a) ↔ ltP a b := by simp only [pos, sub, ltP]; omega
theorem neg_lt (a b : S81) : neg (sub b a) ↔ ltP b a := by simp only [neg, pos, sub, ltP]; omega
theorem neg_pos (a b : S81) : neg (sub b a) ↔ pos (sub a b) := by rw [neg_lt, pos_lt]
/-- the lower chain -/
def lowC (s : List S81) : List S81 := (chainR s).reverse
/-- the upper chain -/
def highC (s : List S81) : List S81 := (chainR s.reverse).reverse
def hullOf (s : List S81) : List S81 := if s.length < 2 then s else (lowC s).dropLast ++ (highC s).dropLast
/-- what the two chains of at least two points in order are -/
structure Two (s : List S81) (m M : S81) : Prop where
  gl : Hm.Good pos (· ∈ s) (chainR s)
  gh : Hm.Good neg (· ∈ s) (chainR s.reverse)
  tl : (chainR s).head? = some M
  bl : (chainR s).getLast? = some m
  th : (chainR s.reverse).head? = some m
  bh : (chainR s.reverse).getLast? = some M
  mM : ltP m M
  least : ∀ q ∈ s, q = m ∨ ltP m q
  most : ∀ q ∈ s, q = M ∨ ltP q M
  ms : m ∈ s
  Ms : M ∈ s
theorem head_least {m : S81} {s : List S81} (h : (m :: s).Pairwise ltP) : ∀ q ∈ m :: s, q = m ∨ ltP m q := by
  intro q hq
  rcases List.mem_cons.1 hq with e | hq
  · exact .inl e
  · exact .inr ((List.pairwise_cons.1 h).1 q hq)
theorem ends_two {s : List S81} (hs : s.Pairwise ltP) (hl : 2 ≤ s.length) : ∃ m M, Two s m M := by
  obtain ⟨m, s, rfl⟩ : ∃ m t, s = m :: t := by
    cases s with
    | nil => simp at hl
    | cons m t => exact ⟨m, t, rfl⟩
  obtain ⟨M, r, hr⟩ : ∃ M r, (m :: s).reverse = M :: r := by
    cases h : (m :: s).reverse with
    | nil => simp at h
    | cons M r => exact ⟨M, r, rfl⟩
  have ho : Ordered pos (m :: s) := hs.imp (fun h => (pos_lt _ _).2 h)
  have hor : Ordered neg (M :: r) := by
    rw [← hr]
    exact List.pairwise_reverse.2 (hs.imp (fun h => (neg_lt _ _).2 h))
  have c1 := Hm.chain_is Hm.pos_half m s ho
  have c2 := Hm.chain_is Hm.neg_half M r hor
  have hM : (m :: s).getLast (by simp) = M := by
    have : (m :: s) = (M :: r).reverse := by rw [← hr, List.reverse_reverse]
    simp [this]
  have hm : (M :: r).getLast (by simp) = m := by
    have : (M :: r) = (m :: s).reverse := hr.symm
    simp [this]
  have hmem : ∀ q, q ∈ M :: r ↔ q ∈ m :: s := by intro q; rw [← hr, List.mem_reverse]
  have hMs : M ∈ m :: s := (hmem M).1 (by simp)
  have most : ∀ q ∈ m :: s, q = M ∨ ltP q M := by
    intro q hq
    rcases List.mem_cons.1 ((hmem q).2 hq) with e | hq
    · exact .inl e
    · exact .inr ((neg_lt M q).1 ((List.pairwise_cons.1 hor).1 q hq))
  have hmM : ltP m M := by
    rcases most m (by simp) with e | e
    · exfalso
      cases s with
      | nil => simp at hl
      | cons a s =>
        have h1 := (List.pairwise_cons.1 hs).1 a (by simp)
        rcases most a (by simp) with e2 | e2
        · subst e; subst e2; exact ltP_irr _ h1
        · subst e; exact ltP_asymm h1 e2
    · exact e
  rw [hM] at c1
  rw [hm, ← hr] at c2
  exact ⟨m, M, ⟨c1.good, by
    have e : (fun q => q ∈ (m :: s).reverse) = (fun q => q ∈ m :: s) := by funext q; simp [or_comm]
    have := c2.good
    rw [e] at this
    exact this, c1.top, c1.bot, c2.top, c2.bot, hmM, head_least hs, most, by simp, hMs⟩⟩
theorem len_two {t : List S81} {x y : S81} (h1 : t.head? = some x) (h2 : t.getLast? = some y) (hn : x ≠ y) : 2 ≤ t.length := by
  match t, h1, h2 with
  | [], h, _ => simp at h
  | [a], h1, h2 => simp at h1 h2; exact absurd (h1.symm.trans h2) hn
  | _ :: _ :: _, _, _ => simp
theorem rev_first {t : List S81} {x : S81} (h : t.getLast? = some x) : t.reverse[0]? = some x := by
  rw [← List.head?_eq_getElem?, List.head?_reverse, h]
theorem rev_last {t : List S81} {x : S81} (h : t.head? = some x) : t.reverse[t.reverse.length - 1]? = some x := by
  rw [← List.getLast?_eq_getElem?, List.getLast?_reverse, h]
section
variable {s : List S81} {m M : S81}
theorem Two.ne (T : Two s m M) : m ≠ M := fun e => ltP_irr M (e ▸ T.mM)
theorem Two.line (T : Two s m M) : Line pos (· ∈ s) (lowC s) := Line.of_good _ T.gl
theorem Two.lineH (T : Two s m M) : Line neg (· ∈ s) (highC s) := Line.of_good _ T.gh
theorem Two.ll (T : Two s m M) : 2 ≤ (lowC s).length := by unfold lowC; rw [List.length_reverse]; exact len_two T.tl T.bl T.ne.symm
theorem Two.lh (T : Two s m M) : 2 ≤ (highC s).length := by unfold highC; rw [List.length_reverse]; exact len_two T.th T.bh T.ne
theorem Two.l0 (T : Two s m M) : (lowC s)[0]? = some m := rev_first T.bl
theorem Two.l1 (T : Two s m M) : (lowC s)[(lowC s).length - 1]? = some M := rev_last T.tl
theorem Two.h0 (T : Two s m M) : (highC s)[0]? = some M := rev_first T.bh
theorem Two.h1 (T : Two s m M) : (highC s)[(highC s).length - 1]? = some m := rev_last T.th
theorem Two.len2 (T : Two s m M) : 2 ≤ s.length := by
  match s, T with
  | [], T => have := T.ms; simp at this
  | [a], T =>
    have h1 := T.ms
    have h2 := T.Ms
    simp at h1 h2
    exact absurd (h1.trans h2.symm) T.ne
  | _ :: _ :: _, _ => simp
theorem Two.hull (T : Two s m M) : hullOf s = (lowC s).dropLast ++ (highC s).dropLast := by unfold hullOf; rw [if_neg (by have := T.len2; omega)]
theorem Two.hlen (T : Two s m M) : (hullOf s).length = (lowC s).length - 1 + ((highC s).length - 1) := by rw [T.hull]; simp
theorem Two.mem (T : Two s m M) {q : S81} (h : q ∈ hullOf s) : q ∈ s := by
  rw [T.hull] at h
  rcases List.mem_append.1 h with h | h
  · exact T.line.mem q (List.dropLast_subset _ h)
  · exact T.lineH.mem q (List.dropLast_subset _ h)
theorem mem_drop {t : List S81} {q x : S81} (hx : t[t.length - 1]? = some x) (hl : 1 ≤ t.length) (h : q ∈ t) : q ∈ t.dropLast ∨ q = x := by
  have : t = t.dropLast ++ [x] := by
    have hne : t ≠ [] := by intro e; subst e; simp at hl
    have := List.dropLast_concat_getLast hne
    rw [List.getLast_eq_getElem] at this
    have e : t[t.length - 1]'(by omega) = x := by
      have := List.getElem?_eq_getElem (l := t) (i := t.length - 1) (by omega)
      rw [this] at hx; exact Option.some.inj hx
    rw [e] at this
    exact this.symm
  rw [this] at h
  simpa using h
theorem zero_mem {t : List S81} {x : S81} (h0 : t[0]? = some x) (hl : 2 ≤ t.length) : x ∈ t.dropLast := by
  apply List.mem_of_getElem? (i := 0)
  rw [List.getElem?_dropLast, if_pos (by omega), h0]
theorem Two.low_mem (T : Two s m M) {q : S81} (h : q ∈ lowC s) : q ∈ hullOf s := by
  rw [T.hull]
  have hl := T.ll
  rcases mem_drop T.l1 (by omega) h with h | rfl
  · exact List.mem_append_left _ h
  · exact List.mem_append_right _ (zero_mem T.h0 T.lh)
theorem Two.high_mem (T : Two s m M) {q : S81} (h : q ∈ highC s) : q ∈ hullOf s := by
  rw [T.hull]
  have hl := T.lh
  rcases mem_drop T.h1 (by omega) h with h | rfl
  · exact List.mem_append_right _ h
  · exact List.mem_append_left _ (zero_mem T.l0 T.ll)
/-- the hull of the hull is the hull -/
theorem Two.again (T : Two s m M) : hullOf (sortedPts (hullOf s)) = hullOf s := by
  obtain ⟨hp, hm⟩ := sortedPts_props (hullOf s)
  have mh : m ∈ hullOf s := T.low_mem (List.mem_of_getElem? T.l0)
  have Mh : M ∈ hullOf s := T.high_mem (List.mem_of_getElem? T.h0)
  have hl : 2 ≤ (sortedPts (hullOf s)).length := by
    cases e : sortedPts (hullOf s) with
    | nil => have := (hm m).2 mh; rw [e] at this; simp at this
    | cons a t =>
      cases t with
      | nil =>
        have h1 := (hm m).2 mh
        have h2 := (hm M).2 Mh
        rw [e] at h1 h2
        simp at h1 h2
        exact absurd (h1.trans h2.symm) T.ne
      | cons b t => simp
  obtain ⟨m', M', T'⟩ := ends_two hp hl
  have in' : ∀ q, q ∈ sortedPts (hullOf s) → q ∈ s := fun q hq => T.mem ((hm q).1 hq)
  obtain rfl : m' = m := by
    rcases T.least m' (in' _ T'.ms) with e | e
    · exact e
    · rcases T'.least m ((hm m).2 mh) with e2 | e2
      · exact e2.symm
      · exact absurd e2 (ltP_asymm e)
  obtain rfl : M' = M := by
    rcases T.most M' (in' _ T'.Ms) with e | e
    · exact e
    · rcases T'.most M ((hm M).2 Mh) with e2 | e2
      · exact e2.symm
      · exact absurd e2 (ltP_asymm e)
  have e1 : chainR (sortedPts (hullOf s)) = chainR s :=
    Hm.chain_one Hm.pos_half (S := (· ∈ sortedPts (hullOf s))) m' (fun q hq => (T'.least q hq).imp id (fun h => (pos_lt _ _).2 h)) _ _ T'.gl
      (Good.less in' _ T.gl (fun q hq => (hm q).2 (T.low_mem (List.mem_reverse.2 hq)))) (T'.tl.trans T.tl.symm) T'.bl T.bl
  have e2 : chainR (sortedPts (hullOf s)).reverse = chainR s.reverse :=
    Hm.chain_one Hm.neg_half (S := (· ∈ sortedPts (hullOf s))) M' (fun q hq => (T'.most q hq).imp id (fun h => (neg_lt _ _).2 h)) _ _ T'.gh
      (Good.less in' _ T.gh (fun q hq => (hm q).2 (T.high_mem (List.mem_reverse.2 hq)))) (T'.th.trans T.th.symm) T'.bh T.bh
  have a := T'.hull
  have b := T.hull
  unfold lowC highC at a b
  rw [e1, e2] at a
  exact a.trans b.symm
theorem Two.left (T : Two s m M) {i : Nat} (hi : i < (hullOf s).length) {x y : S81} (hx : (hullOf s)[i]? = some x) (hy : (hullOf s)[(i + 1) % (hullOf s).length]? = some y) : ∀ q ∈ s, 0 ≤ A x y q := by
  rw [T.hlen] at hi hy
  rw [T.hull] at hx hy
  exact hull_left T.line T.lineH T.ll T.lh T.l0 T.l1 T.h0 T.h1 hi hx hy
theorem Two.turns (T : Two s m M) (hn : 2 < (hullOf s).length) {i : Nat} (hi : i < (hullOf s).length) {x y z : S81} (hx : (hullOf s)[i]? = some x) (hy : (hullOf s)[(i + 1) % (hullOf s).length]? = some y) (hz : (hullOf s)[(i + 2) % (hullOf s).length]? = some z) : 0 < A x y z := by
  rw [T.hlen] at hi hy hz hn
  rw [T.hull] at hx hy hz
  exact hull_turns Hm.pos_half Hm.neg_half neg_pos T.line T.lineH T.ll T.lh T.l0 T.l1 T.h0 T.h1 hn hi hx hy hz
theorem Two.flat (T : Two s m M) (hn : (hullOf s).length = 2) : hullOf s = [m, M] ∧ ∀ q ∈ s, A m M q = 0 := by
  have h1 := T.hlen
  have h2 := T.ll
  have h3 := T.lh
  have e0 : (hullOf s)[0]? = some m := by rw [T.hull, List.getElem?_append_left (by simp; omega), List.getElem?_dropLast, if_pos (by omega), T.l0]
  have e1 : (hullOf s)[1]? = some M := by
    have hl : (lowC s).length = 2 := by omega
    rw [T.hull, List.getElem?_append_right (by simp; omega), List.length_dropLast, hl, List.getElem?_dropLast, if_pos (by omega)]
    exact T.h0
  refine ⟨?_, fun q hq => ?_⟩
  · match h : hullOf s, hn with
    | [a, b], _ =>
      rw [h] at e0 e1
      simp at e0 e1
      rw [e0, e1]
  · have a1 := T.left (i := 0) (by omega) e0 (by rw [hn]; exact e1) q hq
    have a2 := T.left (i := 1) (by omega) e1 (by rw [hn]; exact e0) q hq
    have : A M m q = - A m M q := by simp only [A]; grind
    omega
end
theorem hull_again {s : List S81} (hs : s.Pairwise ltP) : hullOf (sortedPts (hullOf s)) = hullOf s := by
  by_cases h : 2 ≤ s.length
  · obtain ⟨m, M, T⟩ := ends_two hs h
    exact T.again
  · have e : hullOf s = s := by unfold hullOf; rw [if_pos (by omega)]
    have e2 : sortedPts s = s := rising_one _ _ (sortedPts_props s).1 hs (fun q => (sortedPts_props s).2 q)
    rw [e, e2, e]
theorem hull_mem {s : List S81} (hs : s.Pairwise ltP) {q : S81} (h : q ∈ hullOf s) : q ∈ s := by
  by_cases hl : 2 ≤ s.length
  · obtain ⟨m, M, T⟩ := ends_two hs hl
    exact T.mem h
  · have e : hullOf s = s := by unfold hullOf; rw [if_pos (by omega)]
    rw [e] at h; exact h
theorem chainR_len (s : List S81) : (chainR s).length ≤ s.length := by
  have : ∀ (s st : List S81), (s.foldl (fun st p => p :: pop p st) st).length ≤ st.length + s.length := by
    intro s
    induction s with
    | nil => intro st; simp
    | cons p s ih =>
      intro st
      have h := ih (p :: pop p st)
      have h2 := pop_len p st
      simp only [List.foldl_cons, List.length_cons] at h ⊢
      omega
  simpa [chainR] using this s []
theorem hull_len (s : List S81) : (hullOf s).length ≤ 2 * s.length := by
  unfold hullOf
  split
  · omega
  · have h1 := chainR_len s
    have h2 := chainR_len s.reverse
    simp [lowC, highC] at *
    omega
end Go.Proofs.Ytchmmnlmgkocoaa.H
