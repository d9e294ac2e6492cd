/- A row of points of the call's own, and the row's cells: what slices.SortFunc's contract asks and tells; conditions: those of each lemma. -/
import Derived.Test.YtchmmnlmgkocoaaHC
import Derived.Test.YtchmmnlmgkocoaaH0
set_option linter.unusedVariables false
set_option linter.unusedSimpArgs false
namespace Go.Proofs.Ytchmmnlmgkocoaa.H
open Go.Shelf Go.RowKit Go.Sort Go.Proofs.YtchmmnlmgkocoaaW.PrintWords Go.Proofs.YtchmmnlmgkocoaaW.PrintLast Go.Proofs.YtchmmnlmgkocoaaW.PrintMore
instance : Inhabited S81 := ⟨z81⟩
def encS (x : S81) : List Value := [.int .i64 x.f0, .int .i64 x.f1]
def flatS (xs : List S81) : List Value := xs.flatMap encS
theorem flatS_length (xs : List S81) : (flatS xs).length = xs.length * 2 := by
  induction xs with
  | nil => rfl
  | cons x xs ih => simp only [flatS, List.flatMap_cons, List.length_append, encS, List.length_cons, List.length_nil] at *; omega
theorem flatS_at (xs : List S81) : ∀ t, t < xs.length * 2 → (flatS xs)[t]? = some (encS (xs.getD (t / 2) z81))[t % 2]! := by
  induction xs with
  | nil => intro t h; simp at h
  | cons x xs ih =>
    intro t h
    have e : flatS (x :: xs) = encS x ++ flatS xs := rfl
    rw [e]
    by_cases h2 : t < 2
    · rw [List.getElem?_append_left (by simpa [encS] using h2)]
      have h0 : t / 2 = 0 := by omega
      have h1 : t % 2 = t := by omega
      rw [h0, h1]
      rcases (show t = 0 ∨ t = 1 by omega) with rfl | rfl <;> rfl
    · rw [List.getElem?_append_right (by simp [encS]; omega)]
      obtain ⟨u, rfl⟩ : ∃ u, t = u + 2 := ⟨t - 2, by omega⟩
      have h0 : (u + 2) / 2 = u / 2 + 1 := by omega
      have h1 : (u + 2) % 2 = u % 2 := by omega
      rw [h0, h1]
      simp only [encS, List.length_cons, List.length_nil]
      rw [show u + 2 - (0 + 1 + 1) = u by omega, ih u (by simp at h; omega)]
      rfl
theorem reps_flat {R : S81 → List Value → Prop} (hR : ∀ x cs, R x cs → cs = encS x) : ∀ (xs : List S81) (inner : List Value), Reps R 2 xs inner → inner = flatS xs := by
  intro xs
  induction xs with
  | nil =>
    intro inner h
    have := h.1
    simpa [flatS] using this
  | cons x xs ih =>
    intro inner h
    have h0 := hR _ _ (h.2 0 x rfl)
    have h1 : Reps R 2 xs (inner.drop 2) := ⟨by rw [List.length_drop, h.1]; simp; omega, fun j p hj => by
      have := h.2 (j + 1) p (by simpa using hj)
      rw [List.drop_drop]
      rwa [show (j + 1) * 2 = 2 + j * 2 by omega] at this⟩
    have e : flatS (x :: xs) = encS x ++ flatS xs := rfl
    rw [e, ← ih _ h1, ← h0]
    simp
theorem flat_reps {R : S81 → List Value → Prop} (hR : ∀ x, R x (encS x)) : ∀ (xs : List S81), Reps R 2 xs (flatS xs) := by
  intro xs
  refine ⟨flatS_length xs, fun j p hj => ?_⟩
  have hlt : j < xs.length := (List.getElem?_eq_some_iff.1 hj).1
  have : ((flatS xs).drop (j * 2)).take 2 = encS p := by
    apply List.ext_getElem?
    intro i
    have hd : xs.getD j z81 = p := by rw [List.getD_eq_getElem?_getD, hj]; rfl
    by_cases hi : i < 2
    · rw [List.getElem?_take, if_pos hi, List.getElem?_drop, flatS_at _ _ (by omega), show (j * 2 + i) / 2 = j by omega, show (j * 2 + i) % 2 = i by omega, hd]
      rcases (show i = 0 ∨ i = 1 by omega) with rfl | rfl <;> rfl
    · rw [List.getElem?_take, if_neg hi, List.getElem?_eq_none (by simp [encS]; omega)]
  rw [this]
  exact hR p
section
variable {w w1 : World} {base : Nat} {ok : Nat → Prop} {v : Value} {xs ys : List S81}
theorem R_cells (h : Kd.R k81 81 w base ok v xs) : (∀ k, v.ownBlock = some k → ok k) ∧ w.ownsRow base 81 2 v xs.length (flatS xs) := by
  obtain ⟨h0, inner, ho, hr⟩ := h
  refine ⟨h0, ?_⟩
  rw [← reps_flat (fun x cs hx => k81_openM hx) xs inner hr]
  exact ho
theorem R_of_cells (h0 : ∀ k, v.ownBlock = some k → ok k) (h : w.ownsRow base 81 2 v xs.length (flatS xs)) : Kd.R k81 81 w base ok v xs :=
  ⟨h0, flatS xs, h, flat_reps (fun x => k81_mkM _ _ _ x) xs⟩
/-- A row, or nothing at all. -/
theorem R_form (h : Kd.R k81 81 w base ok v xs) : (v = .slice none 0 0 ∧ xs = []) ∨ ∃ g cap cur, v = .slice (some ⟨g, 0, none⟩) xs.length cap ∧ ok g ∧ base ≤ g ∧ w.heap[g]? = some (.cells cur 81 (0, 0)) ∧ xs.length ≤ cap ∧ cap ≤ maxLen ∧ cur.size = cap * 2 ∧ cur.toList.take (xs.length * 2) = flatS xs := by
  obtain ⟨h0, ho⟩ := R_cells h
  rcases ho.2 with ⟨rfl, hn⟩ | ⟨g, cap, cur, rfl, hb, hh, h1, h2, h3, h4⟩
  · exact .inl ⟨rfl, List.eq_nil_of_length_eq_zero hn⟩
  · exact .inr ⟨g, cap, cur, rfl, h0 g (by simp [Value.ownBlock]), hb, hh, h1, h2, h3, h4⟩
theorem R_of_form {g cap : Nat} {cur : Array Value} (hok : ok g) (hb : base ≤ g) (hh : w.heap[g]? = some (.cells cur 81 (0, 0))) (h1 : xs.length ≤ cap) (h2 : cap ≤ maxLen) (h3 : cur.size = cap * 2) (h4 : cur.toList.take (xs.length * 2) = flatS xs) :
    Kd.R k81 81 w base ok (.slice (some ⟨g, 0, none⟩) xs.length cap) xs :=
  R_of_cells (fun k hk => by have : g = k := by simpa [Value.ownBlock] using hk
                             exact this ▸ hok) ⟨flatS_length xs, .inr ⟨g, cap, cur, rfl, hb, hh, h1, h2, h3, h4⟩⟩
/-- The block's cells, one by one. -/
theorem cells_take {cur : Array Value} {n : Nat} {l : List Value} (hl : l.length = n) (hn : n ≤ cur.size) : cur.toList.take n = l ↔ ∀ t, t < n → cur[t]? = l[t]? := by
  constructor
  · rintro rfl t ht
    rw [List.getElem?_take, if_pos ht]
    simp
  · intro h
    apply List.ext_getElem?
    intro t
    rw [List.getElem?_take]
    by_cases ht : t < n
    · rw [if_pos ht, ← h t ht]; simp
    · rw [if_neg ht, List.getElem?_eq_none (by omega)]
end
def lePt (a b : S81) : Bool := decide (a.f0 < b.f0) || (decide (a.f0 = b.f0) && decide (a.f1 ≤ b.f1))
def cfS (x y : S81) : Int := if Lib.compareInt x.f0 y.f0 = 0 then Lib.compareInt x.f1 y.f1 else Lib.compareInt x.f0 y.f0
theorem ltS (x y : S81) : ltOf cfS x y = decide (x.f0 < y.f0 ∨ x.f0 = y.f0 ∧ x.f1 < y.f1) := by
  unfold ltOf cfS Lib.compareInt
  by_cases h1 : x.f0 < y.f0
  · simp [h1]
  · by_cases h2 : y.f0 < x.f0
    · have : ¬ x.f0 = y.f0 := by omega
      simp [h1, h2, this]
    · have : x.f0 = y.f0 := by omega
      by_cases h3 : x.f1 < y.f1
      · simp [this, h3]
      · by_cases h4 : y.f1 < x.f1 <;> simp [this, h3, h4]
theorem swoS : SWO (ltOf cfS) where
  irrefl x := by rw [ltS]; simp
  trans x y z h1 h2 := by rw [ltS] at *; simp at *; omega
  ntrans x y z h1 h2 := by rw [ltS] at *; simp at *; omega
theorem totS (x y : S81) (h1 : ltOf cfS x y = false) (h2 : ltOf cfS y x = false) : x = y := by
  rw [ltS] at *
  cases x; cases y
  simp at *
  omega
theorem not_ltS (x y : S81) : (!ltOf cfS y x) = lePt x y := by
  rw [ltS, lePt, Bool.eq_iff_iff]
  simp
  omega
theorem laysS (blk off size : Nat) (w : World) : CmpLays Try.prog 110 #[] encS 2 cfS blk off size w :=
  fun _ _ _ _ x y => (Try.comparePts_any x.f0 x.f1 y.f0 y.f1 _).mono fun _ _ ⟨he, h⟩ => ⟨he, h.out⟩
end Go.Proofs.Ytchmmnlmgkocoaa.H
