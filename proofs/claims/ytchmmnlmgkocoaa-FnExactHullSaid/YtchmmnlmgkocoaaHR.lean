/- What a hull is: all points to its left, its corners turn left, its hull is itself; conditions: those of each lemma. -/
import Derived.Test.YtchmmnlmgkocoaaHQ
set_option linter.unusedVariables false
set_option linter.unusedSimpArgs false
namespace Go.Proofs.Ytchmmnlmgkocoaa.H
open Go.RowKit Go.Proofs.YtchmmnlmgkocoaaW.PrintWords Go.Proofs.YtchmmnlmgkocoaaW.PrintLast
open Hm (A pop pos neg Half sub cr chainR IsChain Ordered)
/-- a chain by its places -/
structure Line (H : S81 → Prop) (S : S81 → Prop) (L : List S81) : Prop where
  edge : ∀ (i : Nat) (x y : S81), L[i]? = some x → L[i + 1]? = some y → H (sub y x) ∧ ∀ q, S q → 0 ≤ A x y q
  turn : ∀ (i : Nat) (x y z : S81), L[i]? = some x → L[i + 1]? = some y → L[i + 2]? = some z → 0 < A x y z
  mem : ∀ q ∈ L, S q
theorem Line.of_good {H S : S81 → Prop} : ∀ (t : List S81), Hm.Good H S t → Line H S t.reverse
  | [], _ => ⟨fun i x y h => by simp at h, fun i x y z h => by simp at h, fun q h => by simp at h⟩
  | [a], h => ⟨fun i x y _ h => by simp at h, fun i x y z _ h => by simp at h, fun q hq => by
      have : q = a := by simpa using hq
      subst this; exact h⟩
  | b :: a :: t, hG => by
    have ih := Line.of_good (a :: t) hG.2.2.2.2
    have e : (b :: a :: t).reverse = (a :: t).reverse ++ [b] := by simp
    have hl : (a :: t).reverse.length = t.length + 1 := by simp
    have hlast : (a :: t).reverse[t.length]? = some a := by simp
    rw [e]
    refine ⟨fun i x y h1 h2 => ?_, fun i x y z h1 h2 h3 => ?_, fun q hq => ?_⟩
    · by_cases h : i + 1 < t.length + 1
      · rw [List.getElem?_append_left (by omega)] at h1 h2
        exact ih.edge i x y h1 h2
      · have hi : i + 1 = t.length + 1 := by
          have := (List.getElem?_eq_some_iff.1 h2).1
          simp at this
          omega
        obtain rfl : i = t.length := by omega
        rw [List.getElem?_append_left (by omega), hlast] at h1
        rw [List.getElem?_append_right (by omega), hl] at h2
        simp at h1 h2
        subst h1; subst h2
        exact ⟨hG.2.1, hG.2.2.1⟩
    · by_cases h' : i + 2 < t.length + 1
      · rw [List.getElem?_append_left (by omega)] at h1 h2 h3
        exact ih.turn i x y z h1 h2 h3
      · have hi : i + 2 = t.length + 1 := by
          have := (List.getElem?_eq_some_iff.1 h3).1
          simp at this
          omega
        obtain ⟨c, t, rfl⟩ : ∃ c t', t = c :: t' := by
          cases t with
          | nil => simp at hi
          | cons c t => exact ⟨c, t, rfl⟩
        simp only [List.length_cons] at hi hl hlast
        obtain rfl : i = t.length := by omega
        rw [List.getElem?_append_left (by omega)] at h1 h2
        rw [List.getElem?_append_right (by omega), hl] at h3
        rw [hlast] at h2
        have hsec : (a :: c :: t).reverse[t.length]? = some c := by simp
        rw [hsec] at h1
        simp at h1 h2 h3
        subst h1; subst h2; subst h3
        exact hG.2.2.2.1 _ rfl
    · rcases List.mem_append.1 hq with hq | hq
      · exact ih.mem q hq
      · have : q = b := by simpa using hq
        subst this; exact hG.1
section
variable {H H' S : S81 → Prop} {L D : List S81} {m M : S81}
theorem A_rot (a b c : S81) : A b c a = A a b c := by simp only [A]; grind
/-- where two chains meet: a true corner, unless both are one edge alone -/
theorem corner (hH : Half H) (hop : ∀ a b, H' (sub b a) ↔ H (sub a b)) (hL : Line H S L) (hD : Line H' S D) {k l : Nat} {x y : S81} (hk : L.length = k + 2) (hl : D.length = l + 2) (hx : L[k]? = some x) (hM : L[k + 1]? = some M) (hM' : D[0]? = some M) (hy : D[1]? = some y)
    (hn : 0 < k ∨ 0 < l) : 0 < A x M y := by
  have sx : S x := hL.mem x (List.mem_of_getElem? hx)
  have sy : S y := hD.mem y (List.mem_of_getElem? hy)
  obtain ⟨hu, hux⟩ := hL.edge k x M hx hM
  obtain ⟨hv, hvx⟩ := hD.edge 0 M y hM' hy
  have hv' : H (sub M y) := (hop M y).1 hv
  have h0 := hux y sy
  by_cases hz : A x M y = 0
  · exfalso
    have cuv : cr (sub M x) (sub M y) = 0 := by
      have : cr (sub M x) (sub M y) = - A x M y := by simp only [A, cr, sub]; grind
      omega
    have key : ∀ q, S q → H (sub M q) → cr (sub M x) (sub M q) = 0 := by
      intro q hq hMq
      have e1 : cr (sub M q) (sub M x) = A x M q := by simp only [A, cr, sub]; grind
      have e2 : cr (sub M y) (sub M q) = A M y q := by simp only [A, cr, sub]; grind
      have e3 : cr (sub M x) (sub M q) = - cr (sub M q) (sub M x) := by simp only [cr, sub]; grind
      have := hH.tr _ _ _ hu hv' hMq (by omega) (by rw [e2]; exact hvx q hq)
      have := hux q hq
      omega
    rcases hn with hn | hn
    · obtain ⟨k, rfl⟩ : ∃ j, k = j + 1 := ⟨k - 1, by omega⟩
      obtain ⟨w, hw⟩ : ∃ w, L[k]? = some w := ⟨L[k]'(by omega), List.getElem?_eq_getElem (by omega)⟩
      have ht := hL.turn k w x M hw hx hM
      have hwx := (hL.edge k w x hw hx).1
      have hMw := hH.add w x M hwx hu
      have := key w (hL.mem w (List.mem_of_getElem? hw)) hMw
      have e : cr (sub M x) (sub M w) = - A w x M := by simp only [A, cr, sub]; grind
      omega
    · obtain ⟨l, rfl⟩ : ∃ j, l = j + 1 := ⟨l - 1, by omega⟩
      obtain ⟨w, hw⟩ : ∃ w, D[2]? = some w := ⟨D[2]'(by omega), List.getElem?_eq_getElem (by omega)⟩
      have ht := hD.turn 0 M y w hM' hy hw
      have hyw : H (sub y w) := (hop y w).1 (hD.edge 1 y w hy hw).1
      have hMw : H (sub M w) := hH.add w y M hyw hv'
      have hkw := key w (hD.mem w (List.mem_of_getElem? hw)) hMw
      have e3 : cr (sub M y) (sub M w) = A M y w := by simp only [A, cr, sub]; grind
      have e4 : cr (sub M w) (sub M y) = - A M y w := by simp only [A, cr, sub]; grind
      have e5 : cr (sub M w) (sub M x) = - cr (sub M x) (sub M w) := by simp only [cr, sub]; grind
      have := hH.tr _ _ _ hMw hu hv' (by omega) (by omega)
      omega
  · omega
/-- an edge of the two chains laid one behind the other -/
theorem next_edge (hk : 2 ≤ L.length) (hl : 2 ≤ D.length) (hL0 : L[0]? = some m) (hL1 : L[L.length - 1]? = some M) (hD0 : D[0]? = some M) (hD1 : D[D.length - 1]? = some m) {i : Nat} (hi : i < L.length - 1 + (D.length - 1)) :
    (i < L.length - 1 ∧ (L.dropLast ++ D.dropLast)[i]? = L[i]? ∧ (L.dropLast ++ D.dropLast)[(i + 1) % (L.length - 1 + (D.length - 1))]? = L[i + 1]?) ∨
    (L.length - 1 ≤ i ∧ (L.dropLast ++ D.dropLast)[i]? = D[i - (L.length - 1)]? ∧ (L.dropLast ++ D.dropLast)[(i + 1) % (L.length - 1 + (D.length - 1))]? = D[i - (L.length - 1) + 1]?) := by
  have at_ : ∀ i, i < L.length - 1 + (D.length - 1) → (L.dropLast ++ D.dropLast)[i]? = if i < L.length - 1 then L[i]? else D[i - (L.length - 1)]? := by
    intro i hi
    by_cases h : i < L.length - 1
    · rw [if_pos h, List.getElem?_append_left (by simpa using h), List.getElem?_dropLast, if_pos h]
    · rw [if_neg h, List.getElem?_append_right (by simpa using h), List.length_dropLast, List.getElem?_dropLast, if_pos (by omega)]
  by_cases h : i < L.length - 1
  · refine .inl ⟨h, by rw [at_ i hi, if_pos h], ?_⟩
    have hm : (i + 1) % (L.length - 1 + (D.length - 1)) = i + 1 := Nat.mod_eq_of_lt (by omega)
    rw [hm, at_ _ (by omega)]
    by_cases h2 : i + 1 < L.length - 1
    · rw [if_pos h2]
    · rw [if_neg h2, show i + 1 - (L.length - 1) = 0 by omega, hD0, show i + 1 = L.length - 1 by omega, hL1]
  · refine .inr ⟨by omega, by rw [at_ i hi, if_neg h], ?_⟩
    by_cases h2 : i + 1 < L.length - 1 + (D.length - 1)
    · rw [Nat.mod_eq_of_lt h2, at_ _ h2, if_neg (by omega)]
      congr 1
      omega
    · have he : i + 1 = L.length - 1 + (D.length - 1) := by omega
      rw [he, Nat.mod_self, at_ 0 (by omega), if_pos (by omega), hL0, show i - (L.length - 1) + 1 = D.length - 1 by omega, hD1]
theorem hull_left (hL : Line H S L) (hD : Line H' S D) (hk : 2 ≤ L.length) (hl : 2 ≤ D.length) (hL0 : L[0]? = some m) (hL1 : L[L.length - 1]? = some M) (hD0 : D[0]? = some M) (hD1 : D[D.length - 1]? = some m)
    {i : Nat} (hi : i < L.length - 1 + (D.length - 1)) {x y : S81} (hx : (L.dropLast ++ D.dropLast)[i]? = some x) (hy : (L.dropLast ++ D.dropLast)[(i + 1) % (L.length - 1 + (D.length - 1))]? = some y) : ∀ q, S q → 0 ≤ A x y q := by
  rcases next_edge hk hl hL0 hL1 hD0 hD1 hi with ⟨_, h1, h2⟩ | ⟨_, h1, h2⟩
  · exact (hL.edge i x y (h1 ▸ hx) (h2 ▸ hy)).2
  · exact (hD.edge _ x y (h1 ▸ hx) (h2 ▸ hy)).2
theorem hull_turns (hH : Half H) (hH' : Half H') (hop : ∀ a b, H' (sub b a) ↔ H (sub a b)) (hL : Line H S L) (hD : Line H' S D) (hk : 2 ≤ L.length) (hl : 2 ≤ D.length) (hL0 : L[0]? = some m) (hL1 : L[L.length - 1]? = some M) (hD0 : D[0]? = some M) (hD1 : D[D.length - 1]? = some m)
    (hn : 2 < L.length - 1 + (D.length - 1)) {i : Nat} (hi : i < L.length - 1 + (D.length - 1)) {x y z : S81} (hx : (L.dropLast ++ D.dropLast)[i]? = some x) (hy : (L.dropLast ++ D.dropLast)[(i + 1) % (L.length - 1 + (D.length - 1))]? = some y)
    (hz : (L.dropLast ++ D.dropLast)[(i + 2) % (L.length - 1 + (D.length - 1))]? = some z) : 0 < A x y z := by
  have e2 : (i + 2) % (L.length - 1 + (D.length - 1)) = ((i + 1) % (L.length - 1 + (D.length - 1)) + 1) % (L.length - 1 + (D.length - 1)) := by rw [Nat.mod_add_mod]
  have hi2 : (i + 1) % (L.length - 1 + (D.length - 1)) < L.length - 1 + (D.length - 1) := Nat.mod_lt _ (by omega)
  have hop' : ∀ a b, H (sub b a) ↔ H' (sub a b) := fun a b => (hop b a).symm
  have N2 := next_edge hk hl hL0 hL1 hD0 hD1 hi2
  rw [← e2] at N2
  rcases next_edge hk hl hL0 hL1 hD0 hD1 hi with ⟨hlt, h1, h2⟩ | ⟨hge, h1, h2⟩
  · rw [h1] at hx
    have hm : (i + 1) % (L.length - 1 + (D.length - 1)) = i + 1 := Nat.mod_eq_of_lt (by omega)
    rw [hm] at N2 h2 hy
    have hy2 := hy
    rw [h2] at hy2
    rcases N2 with ⟨hlt2, g1, g2⟩ | ⟨hge2, g1, g2⟩
    · rw [g2] at hz
      exact hL.turn i x y z hx hy2 hz
    · have hik : i + 1 = L.length - 1 := by omega
      rw [g2, show i + 1 - (L.length - 1) + 1 = 1 by omega] at hz
      have hMy : M = y := by rw [← hik] at hL1; rw [hy2] at hL1; exact (Option.some.inj hL1).symm
      subst hMy
      exact corner hH hop hL hD (k := i) (l := D.length - 2) (by omega) (by omega) hx hy2 hD0 hz (by omega)
  · rw [h1] at hx
    have hy2 := hy
    rw [h2] at hy2
    by_cases hend : i + 1 < L.length - 1 + (D.length - 1)
    · have hm : (i + 1) % (L.length - 1 + (D.length - 1)) = i + 1 := Nat.mod_eq_of_lt hend
      rw [hm] at N2
      rcases N2 with ⟨hlt2, g1, g2⟩ | ⟨hge2, g1, g2⟩
      · omega
      · rw [g2, show i + 1 - (L.length - 1) + 1 = i - (L.length - 1) + 2 by omega] at hz
        exact hD.turn _ x y z hx hy2 hz
    · have he : i + 1 = L.length - 1 + (D.length - 1) := by omega
      rw [he, Nat.mod_self] at N2
      rcases N2 with ⟨hlt2, g1, g2⟩ | ⟨hge2, g1, g2⟩
      · rw [g2] at hz
        have hmy : m = y := by
          rw [show D.length - 1 = i - (L.length - 1) + 1 by omega, hy2] at hD1
          exact (Option.some.inj hD1).symm
        subst hmy
        exact corner hH' hop' hD hL (k := i - (L.length - 1)) (l := L.length - 2) (by omega) (by omega) hx hy2 hL0 hz (by omega)
      · omega
end
end Go.Proofs.Ytchmmnlmgkocoaa.H
