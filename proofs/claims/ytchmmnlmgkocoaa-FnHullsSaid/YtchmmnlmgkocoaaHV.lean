/- The draw comes to few points, or to many alike; conditions: those of each lemma. -/
import Derived.Test.YtchmmnlmgkocoaaHU
import Derived.Laws.BitsLemmas
set_option linter.unusedVariables false
set_option linter.unusedSimpArgs false
namespace Go.Proofs.Ytchmmnlmgkocoaa.H
open Go.RowKit Go.Proofs.YtchmmnlmgkocoaaW.PrintWords Go.Proofs.YtchmmnlmgkocoaaW.PrintLast Go.Proofs.YtchmmnlmgkocoaaW.PrintMore
theorem and255 (n : Int) : bits .and .i64 n 255 = n % 256 := by
  have h255 : (BitVec.ofInt 64 255).toNat = 2 ^ 8 - 1 := by decide
  have key : (BitVec.ofInt 64 n &&& BitVec.ofInt 64 255).toNat = (n % ((2 ^ 64 : Nat) : Int)).toNat % 2 ^ 8 := by
    rw [BitVec.toNat_and, BitVec.toNat_ofInt, h255, Nat.and_two_pow_sub_one_eq_mod]
  show IntKind.i64.wrap ((BitVec.ofInt 64 n &&& BitVec.ofInt 64 255).toNat : Nat) = n % 256
  rw [key, IntKind.wrap_i64]
  omega
theorem l1Byte_is {x : List Int} (hx : x.length ≤ 1048576) {p s : Int} (hp : 0 ≤ p) : ∃ b p' s', spec_l1Byte.f x p s = some (b, p', s') ∧ 0 ≤ b ∧ b ≤ 255 ∧ 0 ≤ p' := by
  unfold spec_l1Byte.f
  split
  · refine ⟨_, _, _, rfl, ?_, ?_, ?_⟩
    · rw [and255]; omega
    · rw [and255]; omega
    · rw [w64 (by omega) (by omega)]; omega
  · refine ⟨_, _, _, rfl, ?_, ?_, hp⟩
    · rw [and255]; omega
    · rw [and255]; omega
theorem l1Below_is {x : List Int} (hx : x.length ≤ 1048576) {p s a : Int} (hp : 0 ≤ p) (h0 : 0 < a) (h1 : a ≤ 256) : ∃ b p' s', spec_l1Below.f x p s a = some (b, p', s') ∧ 0 ≤ b ∧ b < a ∧ 0 ≤ p' := by
  obtain ⟨b, p', s', e, hb, _, hp'⟩ := l1Byte_is hx (s := s) hp
  refine ⟨_, p', s', by unfold spec_l1Below.f; rw [if_neg (by omega), if_pos h1, e, Option.bind_some, if_neg (by omega)], ?_, ?_, hp'⟩
  · rw [Int.tmod_eq_emod_of_nonneg hb]; exact Int.emod_nonneg _ (by omega)
  · rw [Int.tmod_eq_emod_of_nonneg hb]; exact Int.emod_lt_of_pos _ h0
theorem l1Once_is {x : List Int} (hx : x.length ≤ 1048576) {p s a : Int} (hp : 0 ≤ p) (h0 : 0 < a) (h1 : a ≤ 256) : ∃ b p' s', spec_l1Once.f x p s a = some (b, p', s') ∧ 0 ≤ p' := by
  obtain ⟨b, p', s', e, _, _, hp'⟩ := l1Below_is hx (s := s) hp h0 h1
  exact ⟨_, p', s', by unfold spec_l1Once.f; rw [e, Option.bind_some], hp'⟩
theorem l1Int_is {x l : List Int} (hx : x.length ≤ 1048576) {p s : Int} (hp : 0 ≤ p) (h0 : 0 < l.length) (h1 : l.length ≤ 256) : ∃ b p' s', spec_l1Int.f x p s l = some (b, p', s') ∧ 0 ≤ p' := by
  obtain ⟨b, p', s', e, hb, hb2, hp'⟩ := l1Below_is hx (s := s) (a := l.length) hp (by omega) (by omega)
  exact ⟨_, p', s', by unfold spec_l1Int.f; rw [e, Option.bind_some, if_pos hb, if_pos hb2], hp'⟩
theorem l3j_is {x : List Int} (hx : x.length ≤ 1048576) {p s : Int} (hp : 0 ≤ p) (u v : Int) : ∃ a b p' s', Ev (fun k => spec_l3Draw.j0 k x p s u v) (a, b, p', s') ∧ 0 ≤ p' := by
  obtain ⟨t, p1, s1, e1, h1⟩ := l1Once_is hx (s := s) (a := 8) hp (by omega) (by omega)
  cases t with
  | true =>
    obtain ⟨b, p2, s2, e2, h2⟩ := l1Int_is (l := [(-10000000), 10000000, 9999998, 7654321, (-10000001), 9223372036854775807]) hx (s := s1) h1 (by simp) (by simp)
    refine ⟨u, b, p2, s2, Ev.step (f := fun _ => some (u, b, p2, s2)) (fun k => ?_) (Ev.now _), h2⟩
    simp only [spec_l3Draw.j0]
    rw [e1, Option.bind_some, if_pos rfl, e2, Option.bind_some]
  | false =>
    refine ⟨u, v, p1, s1, Ev.step (f := fun _ => some (u, v, p1, s1)) (fun k => ?_) (Ev.now _), h1⟩
    simp only [spec_l3Draw.j0]
    rw [e1, Option.bind_some, if_neg (by simp)]
theorem l3Draw_is {x : List Int} (hx : x.length ≤ 1048576) {p s : Int} (hp : 0 ≤ p) : ∃ a b p' s', Ev (fun k => spec_l3Draw.f k x p s) (a, b, p', s') ∧ 0 ≤ p' := by
  obtain ⟨a1, p1, s1, e1, _, _, h1⟩ := l1Below_is hx (s := s) (a := 9) hp (by omega) (by omega)
  obtain ⟨a2, p2, s2, e2, _, _, h2⟩ := l1Below_is hx (s := s1) (a := 9) h1 (by omega) (by omega)
  obtain ⟨t, p3, s3, e3, h3⟩ := l1Once_is hx (s := s2) (a := 8) h2 (by omega) (by omega)
  cases t with
  | true =>
    obtain ⟨c, p4, s4, e4, h4⟩ := l1Int_is (l := [(-10000000), 10000000, 9999999, 1234567, 10000001, (-9223372036854775808)]) hx (s := s3) h3 (by simp) (by simp)
    obtain ⟨a, b, p', s', e, h⟩ := l3j_is hx (s := s4) h4 c (wrap64 (a2 - 4))
    refine ⟨a, b, p', s', Ev.congr (fun k => ?_) e, h⟩
    unfold spec_l3Draw.f
    rw [e1, Option.bind_some, e2, Option.bind_some, e3, Option.bind_some, if_pos rfl, e4, Option.bind_some]
  | false =>
    obtain ⟨a, b, p', s', e, h⟩ := l3j_is hx (s := s3) h3 (wrap64 (a1 - 4)) (wrap64 (a2 - 4))
    refine ⟨a, b, p', s', Ev.congr (fun k => ?_) e, h⟩
    unfold spec_l3Draw.f
    rw [e1, Option.bind_some, e2, Option.bind_some, e3, Option.bind_some, if_neg (by simp)]
theorem l3Pt_is (a b : Int) : ∃ c d, spec_l3Pt.f a b = some (c, d) := by
  unfold spec_l3Pt.f
  have := specOk ⟨a, b⟩
  simp only at this
  rw [this, Option.bind_some]
  split
  · exact ⟨_, _, rfl⟩
  · exact ⟨_, _, rfl⟩
theorem l9l0_is {x : List Int} (hx : x.length ≤ 1048576) : ∀ (n : Nat) (ps : List S81) (p s : Int), n + ps.length ≤ 30 → 0 ≤ p → ∃ r p' s', Ev (fun k => spec_l9Draw.l0 k ps (n : Int) x p s) (r, p', s') ∧ r.length ≤ 30 := by
  intro n
  induction n with
  | zero =>
    intro ps p s hn hp
    refine ⟨ps, p, s, Ev.step (f := fun _ => some (ps, p, s)) (fun k => ?_) (Ev.now _), by omega⟩
    simp only [spec_l9Draw.l0]
    rw [if_neg (by omega)]
  | succ n ih =>
    intro ps p s hn hp
    obtain ⟨a, b, p1, s1, e1, h1⟩ := l3Draw_is hx (s := s) hp
    obtain ⟨c, d, e2⟩ := l3Pt_is a b
    obtain ⟨t, p3, s3, e3, h3⟩ := l1Once_is hx (s := s1) (a := 40) h1 (by omega) (by omega)
    have en : wrap64 (((n + 1 : Nat) : Int) - 1) = (n : Int) := by rw [w64 (by omega) (by omega)]; omega
    cases t with
    | true =>
      obtain ⟨r, p', s', e, h⟩ := ih (ps ++ [⟨10000001, 0⟩]) p3 s3 (by simp; omega) h3
      refine ⟨r, p', s', Ev.step (fun k => ?_) (Ev.bind e1 (f := fun k bt264 => (spec_l3Pt.f bt264.1 bt264.2.1).bind fun bt268 => ((spec_l1Once.f x bt264.2.2.1 bt264.2.2.2 40).bind fun bt271 => (if bt271.1 = true then (if ps.length < 8796093022208 then (spec_l9Draw.l0 k (ps ++ [(⟨10000001, 0⟩ : S81)]) (wrap64 (((n + 1 : Nat) : Int) - 1)) x bt271.2.1 bt271.2.2) else (none)) else (if ps.length < 8796093022208 then (spec_l9Draw.l0 k (ps ++ [(⟨bt268.1, bt268.2⟩ : S81)]) (wrap64 (((n + 1 : Nat) : Int) - 1)) x bt271.2.1 bt271.2.2) else (none))))) (Ev.congr (fun k => ?_) e)), h⟩
      · simp only [spec_l9Draw.l0]
        rw [if_pos (by omega)]
      · simp only [e2, Option.bind_some, e3, if_true]
        rw [if_pos (by omega), en]
    | false =>
      obtain ⟨r, p', s', e, h⟩ := ih (ps ++ [⟨c, d⟩]) p3 s3 (by simp; omega) h3
      refine ⟨r, p', s', Ev.step (fun k => ?_) (Ev.bind e1 (f := fun k bt264 => (spec_l3Pt.f bt264.1 bt264.2.1).bind fun bt268 => ((spec_l1Once.f x bt264.2.2.1 bt264.2.2.2 40).bind fun bt271 => (if bt271.1 = true then (if ps.length < 8796093022208 then (spec_l9Draw.l0 k (ps ++ [(⟨10000001, 0⟩ : S81)]) (wrap64 (((n + 1 : Nat) : Int) - 1)) x bt271.2.1 bt271.2.2) else (none)) else (if ps.length < 8796093022208 then (spec_l9Draw.l0 k (ps ++ [(⟨bt268.1, bt268.2⟩ : S81)]) (wrap64 (((n + 1 : Nat) : Int) - 1)) x bt271.2.1 bt271.2.2) else (none))))) (Ev.congr (fun k => ?_) e)), h⟩
      · simp only [spec_l9Draw.l0]
        rw [if_pos (by omega)]
      · simp only [e2, Option.bind_some, e3, Bool.false_eq_true, if_false]
        rw [if_pos (by omega), en]
theorem l1New_is {x : List Int} (hx : x.length ≤ 1048576) : ∃ c, Ev (fun k => spec_l1New.f k x) (x, 0, c) := by
  have : ∀ (d i : Nat) (c : Int), x.length - i = d → ∃ c', Ev (fun k => spec_l1New.l0 k x c (i : Int)) (x, 0, c') := by
    intro d
    induction d with
    | zero =>
      intro i c hd
      refine ⟨c, Ev.step (f := fun _ => some (x, 0, c)) (fun k => ?_) (Ev.now _)⟩
      simp only [spec_l1New.l0]
      rw [if_neg (by omega)]
    | succ d ih =>
      intro i c hd
      by_cases h4 : (i : Int) < 4000
      · obtain ⟨c', e⟩ := ih (i + 1) (Go.bits .and .i64 (wrap64 ((wrap64 ((wrap64 (c * 137)) + (wrap64 (rd x i)))) + 11)) 1073741823) (by omega)
        refine ⟨c', Ev.step (fun k => ?_) e⟩
        simp only [spec_l1New.l0]
        rw [if_pos (by omega), if_pos h4, if_pos (by omega), w64 (x := (i : Int) + 1) (by omega) (by omega)]
        rfl
      · refine ⟨c, Ev.step (f := fun _ => some (x, 0, c)) (fun k => ?_) (Ev.now _)⟩
        simp only [spec_l1New.l0]
        rw [if_pos (by omega), if_neg h4]
  obtain ⟨c, e⟩ := this x.length 0 (wrap64 (108108 + (x.length : Int))) (by omega)
  exact ⟨c, e⟩
theorem l1Size_is {x : List Int} (hx : x.length ≤ 1048576) : ∃ r, spec_l1Size.f x 30 = some r ∧ 0 < r ∧ r ≤ 30 := by
  unfold spec_l1Size.f
  have e1 : wrap64 ((x.length : Int) / 12) = (x.length : Int) / 12 := w64 (by omega) (by omega)
  rw [e1, w64 (by omega) (by omega)]
  split
  · exact ⟨_, rfl, by omega, by omega⟩
  · exact ⟨_, rfl, by omega, by omega⟩
/-- few points, or many alike -/
def Drawn9 (l : List S81) : Prop := l.length ≤ 30 ∨ ∃ n, n ≤ 501 ∧ l = List.replicate n z81
theorem DrawHull_is {x : List Int} (hx : x.length ≤ 1048576) : ∃ l, Ev (fun k => spec_DrawHull.f k x) l ∧ Drawn9 l := by
  obtain ⟨c, eN⟩ := l1New_is hx
  obtain ⟨t, p1, s1, e1, h1⟩ := l1Once_is hx (p := 0) (s := c) (a := 60) (by omega) (by omega) (by omega)
  unfold spec_DrawHull.f
  cases t with
  | true =>
    obtain ⟨b, p2, s2, e2, hb, hb2, h2⟩ := l1Below_is hx (s := s1) (a := 2) h1 (by omega) (by omega)
    refine ⟨List.replicate (wrap64 (500 + b)).toNat z81, Ev.bind eN (Ev.congr (fun k => ?_) (Ev.now _)), .inr ⟨_, ?_, rfl⟩⟩
    · simp only [e1, Option.bind_some, if_true, e2]
      rw [w64 (by omega) (by omega), if_pos (by omega), if_pos (by omega)]
    · rw [w64 (by omega) (by omega)]; omega
  | false =>
    obtain ⟨r, e2, hr, hr2⟩ := l1Size_is hx
    obtain ⟨b, p3, s3, e3, hb, hb2, h3⟩ := l1Below_is hx (s := s1) h1 hr (by omega)
    obtain ⟨n, rfl⟩ : ∃ n : Nat, b = n := ⟨b.toNat, by omega⟩
    obtain ⟨l, p', s', e, hl⟩ := l9l0_is hx n [] p3 s3 (by simp; omega) h3
    refine ⟨l, Ev.bind eN (Ev.congr (f := fun k => (spec_l9Draw.f k x p1 s1 r).bind fun bt => some bt.1) (fun k => ?_) (Ev.bind (a := (l, p', s')) (Ev.congr (fun k => ?_) e) (Ev.now _))), .inl hl⟩
    · simp only [e1, Option.bind_some, Bool.false_eq_true, if_false, e2]
    · unfold spec_l9Draw.f
      simp only [e3, Option.bind_some]
end Go.Proofs.Ytchmmnlmgkocoaa.H
