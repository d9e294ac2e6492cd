/- Plain law: the monotone chain of points in order is the one strictly convex chain with all points to its left. Conditions: none beyond those of each lemma. -/
import Derived.Test.YtchmmnlmgkocoaaH0
set_option linter.unusedVariables false
set_option linter.unusedSimpArgs false
namespace Go.Proofs.Ytchmmnlmgkocoaa.H.Hm
def sub (b a : S81) : S81 := ⟨b.f0 - a.f0, b.f1 - a.f1⟩
def cr (u v : S81) : Int := u.f0 * v.f1 - u.f1 * v.f0
/-- twice the area of the triangle, with its sign -/
def A (a b c : S81) : Int := (b.f0 - a.f0) * (c.f1 - a.f1) - (b.f1 - a.f1) * (c.f0 - a.f0)
theorem A_cr (a b c : S81) : A a b c = cr (sub b a) (sub c a) := rfl

/-- a half of the plane's vectors in which the cross product orders by angle -/
structure Half (H : S81 → Prop) : Prop where
  add : ∀ a b c : S81, H (sub b a) → H (sub c b) → H (sub c a)
  irr : ∀ a b : S81, H (sub b a) → ¬ H (sub a b)
  tot : ∀ a b : S81, a = b ∨ H (sub b a) ∨ H (sub a b)
  tr : ∀ u v w : S81, H u → H v → H w → 0 ≤ cr u v → 0 ≤ cr v w → 0 ≤ cr u w
  trl : ∀ u v w : S81, H u → H v → H w → 0 < cr u v → 0 ≤ cr v w → 0 < cr u w
  trr : ∀ u v w : S81, H u → H v → H w → 0 ≤ cr u v → 0 < cr v w → 0 < cr u w

def pos (u : S81) : Prop := 0 < u.f0 ∨ (u.f0 = 0 ∧ 0 < u.f1)
def neg (u : S81) : Prop := pos ⟨-u.f0, -u.f1⟩

theorem mid (u v w : S81) : v.f0 * cr u w = u.f0 * cr v w + w.f0 * cr u v := by simp only [cr]; grind
theorem le_of_mul_pos {a b : Int} (h : 0 < a) (h2 : 0 ≤ a * b) : 0 ≤ b := by
  apply Int.not_lt.1; intro hb
  have := Int.mul_neg_of_pos_of_neg h hb
  omega
theorem lt_of_mul_pos {a b : Int} (h : 0 < a) (h2 : 0 < a * b) : 0 < b := by
  apply Int.not_le.1; intro hb
  have := Int.mul_nonpos_of_nonneg_of_nonpos (Int.le_of_lt h) hb
  omega
theorem pos_x {u : S81} (h : pos u) : 0 ≤ u.f0 := by rcases h with h | ⟨h, _⟩ <;> omega

theorem pos_tr (u v w : S81) (hu : pos u) (hv : pos v) (hw : pos w) (h1 : 0 ≤ cr u v) (h2 : 0 ≤ cr v w) : 0 ≤ cr u w := by
  have m := mid u v w
  have ux := pos_x hu; have wx := pos_x hw
  rcases hv with hv | ⟨hv, hv'⟩
  · apply le_of_mul_pos hv; rw [m]
    have a := Int.mul_nonneg ux h2; have b := Int.mul_nonneg wx h1; omega
  · simp only [cr, hv, Int.zero_mul] at h2
    have wz : w.f0 = 0 := by
      by_cases h : 0 < w.f0
      · have := Int.mul_pos hv' h; omega
      · omega
    rcases hw with hw | ⟨_, hw⟩
    · omega
    · simp only [cr, wz, Int.mul_zero]
      have := Int.mul_nonneg ux (Int.le_of_lt hw); omega
theorem pos_trl (u v w : S81) (hu : pos u) (hv : pos v) (hw : pos w) (h1 : 0 < cr u v) (h2 : 0 ≤ cr v w) : 0 < cr u w := by
  have m := mid u v w
  have ux := pos_x hu; have wx := pos_x hw; have vx := pos_x hv
  have ux' : 0 < u.f0 := by
    rcases hu with h | ⟨h, h'⟩
    · exact h
    · simp only [cr, h, Int.zero_mul] at h1
      have := Int.mul_nonneg (Int.le_of_lt h') vx; omega
  rcases hv with hv | ⟨hv, hv'⟩
  · apply lt_of_mul_pos hv
    rw [m]
    have a := Int.mul_nonneg ux h2
    rcases hw with hw | ⟨hw, hw'⟩
    · have b := Int.mul_pos hw h1; omega
    · rw [← m]; apply Int.mul_pos hv
      simp only [cr, hw, Int.mul_zero]
      have := Int.mul_pos ux' hw'; omega
  · simp only [cr, hv, Int.zero_mul] at h2
    have wz : w.f0 = 0 := by
      by_cases h : 0 < w.f0
      · have := Int.mul_pos hv' h; omega
      · omega
    rcases hw with hw | ⟨_, hw⟩
    · omega
    · simp only [cr, wz, Int.mul_zero]
      have := Int.mul_pos ux' hw; omega
theorem pos_trr (u v w : S81) (hu : pos u) (hv : pos v) (hw : pos w) (h1 : 0 ≤ cr u v) (h2 : 0 < cr v w) : 0 < cr u w := by
  have m := mid u v w
  have ux := pos_x hu; have wx := pos_x hw
  rcases hv with hv | ⟨hv, hv'⟩
  · apply lt_of_mul_pos hv; rw [m]
    rcases hu with hu | ⟨hu, hu'⟩
    · have a := Int.mul_pos hu h2; have b := Int.mul_nonneg wx h1; omega
    · simp only [cr, hu, Int.zero_mul] at h1
      have := Int.mul_pos hu' hv; omega
  · simp only [cr, hv, Int.zero_mul] at h2
    have := Int.mul_nonneg (Int.le_of_lt hv') wx; omega

theorem pos_half : Half pos where
  add a b c h1 h2 := by simp only [pos, sub] at *; omega
  irr a b h1 h2 := by simp only [pos, sub] at *; omega
  tot a b := by
    cases a; cases b; simp only [pos, sub, S81.mk.injEq]; omega
  tr := pos_tr
  trl := pos_trl
  trr := pos_trr
theorem cr_neg (u v : S81) : cr ⟨-u.f0, -u.f1⟩ ⟨-v.f0, -v.f1⟩ = cr u v := by simp only [cr]; grind
theorem neg_half : Half neg where
  add a b c h1 h2 := by simp only [neg, pos, sub] at *; omega
  irr a b h1 h2 := by simp only [neg, pos, sub] at *; omega
  tot a b := by
    cases a; cases b; simp only [neg, pos, sub, S81.mk.injEq]; omega
  tr u v w hu hv hw h1 h2 := by rw [← cr_neg] at *; exact pos_tr _ _ _ hu hv hw h1 h2
  trl u v w hu hv hw h1 h2 := by rw [← cr_neg] at *; exact pos_trl _ _ _ hu hv hw h1 h2
  trr u v w hu hv hw h1 h2 := by rw [← cr_neg] at *; exact pos_trr _ _ _ hu hv hw h1 h2

/-! ### A chain, its last point first -/
def Top : List S81 → Option S81 := List.head?
/-- strictly convex, in order, all points of S to the left of each edge -/
def Good (H : S81 → Prop) (S : S81 → Prop) : List S81 → Prop
  | [] => True
  | [a] => S a
  | b :: a :: t => S b ∧ H (sub b a) ∧ (∀ q, S q → 0 ≤ A a b q) ∧ (∀ z, t.head? = some z → 0 < A z a b) ∧ Good H S (a :: t)

def pop (p : S81) : List S81 → List S81
  | b :: a :: t => if A a b p ≤ 0 then pop p (a :: t) else b :: a :: t
  | s => s

variable {H : S81 → Prop}

theorem A_swap (a b c : S81) : A a c b = - A a b c := by simp only [A]; grind
theorem A_self (a p : S81) : A a p a = 0 := by simp only [A]; grind
theorem A_self' (a p : S81) : A a p p = 0 := by simp only [A]; grind

/-- what is popped lies to the left of the new edge -/
theorem left_pop (hH : Half H) (a b p q : S81) (hab : H (sub b a)) (hbp : H (sub p b)) (h : A a b p ≤ 0) (hq : q = a ∨ H (sub q a)) (hl : 0 ≤ A a b q) : 0 ≤ A a p q := by
  rcases hq with rfl | hq
  · rw [A_self]; omega
  · have hap := hH.add a b p hab hbp
    rw [A_cr] at *
    apply hH.tr (sub p a) (sub b a) (sub q a) hap hab hq _ hl
    have : cr (sub p a) (sub b a) = - cr (sub b a) (sub p a) := by simp only [cr]; grind
    omega
/-- what lies ahead of the last point that stays lies to the left of the new edge -/
theorem left_stay (hH : Half H) (a b p q : S81) (hab : H (sub b a)) (hbp : H (sub p b)) (h : 0 < A a b p) (hq : H (sub b q)) (hl : 0 ≤ A a b q) : 0 ≤ A b p q := by
  have e1 : cr (sub b q) (sub b a) = A a b q := by simp only [A, cr, sub]; grind
  have e2 : cr (sub b a) (sub p b) = A a b p := by simp only [A, cr, sub]; grind
  have e3 : cr (sub b q) (sub p b) = A b p q := by simp only [A, cr, sub]; grind
  rw [← e3]
  exact hH.tr _ _ _ hq hab hbp (by omega) (by omega)
/-- an edge below the last one has the new point to its left -/
theorem left_below (hH : Half H) (z a b p : S81) (hza : H (sub a z)) (hab : H (sub b a)) (hbp : H (sub p b)) (hc : 0 < A z a b) (h : 0 ≤ A a b p) : 0 ≤ A z a p := by
  have e1 : cr (sub a z) (sub b a) = A z a b := by simp only [A, cr, sub]; grind
  have e2 : cr (sub b a) (sub p b) = A a b p := by simp only [A, cr, sub]; grind
  have e3 : A z a p = A z a b + cr (sub a z) (sub p b) := by simp only [A, cr, sub]; grind
  have := hH.tr _ _ _ hza hab hbp (by omega) (by omega)
  omega

theorem Good.tail {S : S81 → Prop} : ∀ {b : S81} {t : List S81}, Good H S (b :: t) → Good H S t
  | _, [], _ => trivial
  | _, _ :: _, h => h.2.2.2.2
theorem Good.mem {S : S81 → Prop} : ∀ {t : List S81}, Good H S t → ∀ q ∈ t, S q
  | [], _, _, hq => by simp at hq
  | [a], h, q, hq => by simp at hq; subst hq; exact h
  | b :: a :: t, h, q, hq => by
    rcases List.mem_cons.1 hq with rfl | hq
    · exact h.1
    · exact Good.mem h.2.2.2.2 q hq

/-- a chain to whose edges a point p is to the left, is one of S and p -/
theorem Good.more (hH : Half H) {S : S81 → Prop} (p : S81) : ∀ (t : List S81), Good H S t → (∀ b a t', t = b :: a :: t' → 0 ≤ A a b p) → (∀ b, t.head? = some b → H (sub p b)) → Good H (fun q => S q ∨ q = p) t
  | [], _, _, _ => trivial
  | [a], h, _, _ => Or.inl h
  | b :: a :: t, h, h0, hp => by
    obtain ⟨h1, h2, h3, h4, h5⟩ := h
    have hbp := hp b rfl
    have hab := h0 b a t rfl
    refine ⟨Or.inl h1, h2, ?_, h4, ?_⟩
    · intro q hq
      rcases hq with hq | rfl
      · exact h3 q hq
      · exact hab
    · apply Good.more hH p (a :: t) h5
      · intro b' z t' e
        obtain ⟨rfl, rfl⟩ : a = b' ∧ t = z :: t' := by simpa using e
        exact left_below hH z a b p h5.2.1 h2 hbp (h4 z rfl) hab
      · intro b' e
        obtain rfl : a = b' := by simpa using e
        exact hH.add _ _ _ h2 hbp

/-- the point that is pushed -/
theorem Good.push (hH : Half H) {S : S81 → Prop} (p : S81) (hSp : ∀ q, S q → H (sub p q)) : ∀ (t : List S81), t ≠ [] → Good H S t →
    (∀ m, t.getLast? = some m → ∀ q, S q → q = m ∨ H (sub q m)) →
    (∀ b, t.head? = some b → ∀ q, S q → q = b ∨ H (sub q b) → 0 ≤ A b p q) →
    Good H (fun q => S q ∨ q = p) (p :: pop p t)
  | [], h, _, _, _ => absurd rfl h
  | [b], _, h, hm, hb => by
    have hSb : S b := h
    refine ⟨Or.inr rfl, hSp b hSb, ?_, by simp, Or.inl hSb⟩
    intro q hq
    rcases hq with hq | rfl
    · exact hb b rfl q hq (hm b rfl q hq)
    · rw [A_self']; omega
  | b :: a :: t, _, h, hm, hb => by
    have h' := h
    obtain ⟨h1, h2, h3, h4, h5⟩ := h
    have hbp := hSp b h1
    simp only [pop]
    by_cases hc : A a b p ≤ 0
    · rw [if_pos hc]
      apply Good.push hH p hSp (a :: t) (by simp) h5
      · intro m hm'
        exact hm m (by simpa using hm')
      · intro b' e q hq hqb
        obtain rfl : a = b' := by simpa using e
        exact left_pop hH a b p q h2 hbp hc hqb (h3 q hq)
    · rw [if_neg hc]
      have hc' : 0 < A a b p := by omega
      refine ⟨Or.inr rfl, hbp, ?_, ?_, ?_⟩
      · intro q hq
        rcases hq with hq | rfl
        · rcases hH.tot q b with rfl | hqb | hqb
          · exact hb q rfl q hq (Or.inl rfl)
          · exact left_stay hH a b p q h2 hbp hc' hqb (h3 q hq)
          · exact hb b rfl q hq (Or.inr hqb)
        · rw [A_self']; omega
      · intro z hz
        obtain rfl : a = z := by simpa using hz
        exact hc'
      · apply Good.more hH p _ h'
        · intro b' a' t' e
          obtain ⟨rfl, rfl, rfl⟩ : b = b' ∧ a = a' ∧ t = t' := by simpa using e
          omega
        · intro b' e
          obtain rfl : b = b' := by simpa using e
          exact hbp

theorem pop_ne (p : S81) : ∀ t : List S81, t ≠ [] → pop p t ≠ []
  | [], h => absurd rfl h
  | [b], _ => by simp [pop]
  | b :: a :: t, _ => by
    simp only [pop]
    split
    · exact pop_ne p (a :: t) (by simp)
    · simp
theorem pop_last (p : S81) : ∀ t : List S81, (pop p t).getLast? = t.getLast?
  | [] => rfl
  | [b] => rfl
  | b :: a :: t => by
    simp only [pop]
    split
    · rw [pop_last p (a :: t)]; simp
    · rfl

/-- the chain of points in order: its last point first -/
def chainR (s : List S81) : List S81 := s.foldl (fun st p => p :: pop p st) []

/-- in order -/
def Ordered (H : S81 → Prop) (s : List S81) : Prop := s.Pairwise (fun a b => H (sub b a))

/-- what a chain of the points of S, from m to l, is -/
structure IsChain (H : S81 → Prop) (S : S81 → Prop) (m l : S81) (t : List S81) : Prop where
  good : Good H S t
  top : t.head? = some l
  bot : t.getLast? = some m

theorem chain_fold (hH : Half H) (m : S81) : ∀ (s done : List S81) (t : List S81) (l : S81), Ordered H (done ++ s) → (∀ q ∈ done, q = m ∨ H (sub q m)) → (∀ q ∈ done, q = l ∨ H (sub l q)) →
    IsChain H (· ∈ done) m l t → IsChain H (· ∈ done ++ s) m ((l :: s).getLast (by simp)) (s.foldl (fun st p => p :: pop p st) t)
  | [], done, t, l, ho, hm, hl, h => by simpa using h
  | p :: s, done, t, l, ho, hm, hl, h => by
    have hne : t ≠ [] := by
      intro e; have := h.top; rw [e] at this; simp at this
    have hSp : ∀ q, q ∈ done → H (sub p q) := by
      intro q hq
      exact (List.pairwise_append.1 ho).2.2 q hq p (by simp)
    have hmd : m ∈ done := h.good.mem m (List.mem_of_getLast? h.bot)
    have hg := Good.push hH p hSp t hne h.good (by
        intro m' e q hq
        rw [h.bot] at e
        obtain rfl : m = m' := by simpa using e
        exact hm q hq)
      (by
        intro b e q hq hqb
        rw [h.top] at e
        obtain rfl : l = b := by simpa using e
        rcases hl q hq with rfl | hq'
        · rw [A_self]; omega
        · rcases hqb with rfl | hqb
          · rw [A_self]; omega
          · exact absurd hqb (hH.irr _ _ hq'))
    have e : (done ++ p :: s) = (done ++ [p]) ++ s := by simp
    have := chain_fold hH m s (done ++ [p]) (p :: pop p t) p (by rw [← e]; exact ho) (by
        intro q hq
        rcases List.mem_append.1 hq with hq | hq
        · exact hm q hq
        · obtain rfl : q = p := by simpa using hq
          exact Or.inr (hSp m hmd)) (by
        intro q hq
        rcases List.mem_append.1 hq with hq | hq
        · exact Or.inr (hSp q hq)
        · exact Or.inl (by simpa using hq))
      ⟨by
        have e2 : (fun q => q ∈ done ++ [p]) = (fun q => q ∈ done ∨ q = p) := by funext q; simp
        rw [e2]; exact hg, rfl, by
        have := pop_last p t
        have hn := pop_ne p t hne
        rw [List.getLast?_cons_of_ne_nil hn, this]
        exact h.bot⟩
    rw [e]
    simpa using this

theorem chain_is (hH : Half H) (m : S81) (s : List S81) (ho : Ordered H (m :: s)) : IsChain H (· ∈ m :: s) m ((m :: s).getLast (by simp)) (chainR (m :: s)) := by
  have := chain_fold hH m s [m] [m] m (by simpa using ho) (by simp) (by simp) ⟨by simp [Good], rfl, rfl⟩
  simpa [chainR, pop] using this

/-- there is but one such chain -/
theorem chain_one (hH : Half H) {S : S81 → Prop} (m : S81) (hm : ∀ q, S q → q = m ∨ H (sub q m)) : ∀ (c d : List S81), Good H S c → Good H S d → c.head? = d.head? → c.getLast? = some m → d.getLast? = some m → c = d
  | [], d, _, _, _, h, _ => by simp at h
  | _ :: _, [], _, _, _, _, h => by simp at h
  | [b], [b'], _, _, h, _, _ => by simpa using h
  | [b], b' :: a' :: t', _, hd, h, hc1, hd1 => by
    exfalso
    obtain rfl : b = b' := by simpa using h
    obtain rfl : b = m := by simpa using hc1
    have ha : S a' := hd.2.2.2.2.mem a' (by simp)
    rcases hm a' ha with e | e
    · subst e; exact hH.irr _ _ hd.2.1 hd.2.1
    · exact hH.irr _ _ hd.2.1 e
  | b :: a :: t, [b'], hc, _, h, hc1, hd1 => by
    exfalso
    obtain rfl : b = b' := by simpa using h
    obtain rfl : b = m := by simpa using hd1
    have ha : S a := hc.2.2.2.2.mem a (by simp)
    rcases hm a ha with e | e
    · subst e; exact hH.irr _ _ hc.2.1 hc.2.1
    · exact hH.irr _ _ hc.2.1 e
  | b :: a :: t, b' :: a' :: t', hc, hd, h, hc1, hd1 => by
    obtain rfl : b = b' := by simpa using h
    have key : ∀ (a a' : S81) (t' : List S81), S a → Good H S (b :: a' :: t') → H (sub b a) → 0 ≤ A a b a' → (b :: a' :: t').getLast? = some m → ¬ H (sub a' a) := by
      intro a a' t' ha hd hba h0 hd1 hlt
      obtain ⟨d1, d2, d3, d4, d5⟩ := hd
      have hA := d3 a ha
      cases t' with
      | nil =>
        obtain rfl : a' = m := by simpa using hd1
        rcases hm a ha with e | e
        · subst e; exact hH.irr _ _ hlt hlt
        · exact hH.irr _ _ hlt e
      | cons z t' =>
        have c0 := d4 z rfl
        have c1 := d5.2.2.1 a ha
        have hz := d5.2.1
        have e1 : cr (sub a' a) (sub a' z) = A z a' a := by simp only [A, cr, sub]; grind
        have e2 : cr (sub a' z) (sub b a') = A z a' b := by simp only [A, cr, sub]; grind
        have e3 : cr (sub a' a) (sub b a') = - A a b a' := by simp only [A, cr, sub]; grind
        have := hH.trr _ _ _ hlt hz d2 (by omega) (by omega)
        omega
    have ha : S a := hc.2.2.2.2.mem a (by simp)
    have ha' : S a' := hd.2.2.2.2.mem a' (by simp)
    have hcc := hc
    have hdd := hd
    obtain ⟨c1, c2, c3, c4, c5⟩ := hc
    obtain ⟨d1, d2, d3, d4, d5⟩ := hd
    have k1 := key a a' t' ha hdd c2 (c3 a' ha') hd1
    have k2 := key a' a t ha' hcc d2 (d3 a ha) hc1
    obtain rfl : a = a' := by
      rcases hH.tot a a' with e | e | e
      · exact e
      · exact absurd e k1
      · exact absurd e k2
    rw [chain_one hH m hm (a :: t) (a :: t') c5 d5 rfl (by simpa using hc1) (by simpa using hd1)]
end Go.Proofs.Ytchmmnlmgkocoaa.H.Hm
