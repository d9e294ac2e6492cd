/- Rows of the law's own, by the range of blocks that they lie in, and its calls over them; conditions: those of each lemma. -/
import Derived.Test.YtchmmnlmgkocoaaX1
import Derived.Test.YtchmmnlmgkocoaaHF
import Derived.Test.YtchmmnlmgkocoaaXU
set_option linter.unusedVariables false
set_option linter.unusedSimpArgs false
namespace Go.Proofs.Ytchmmnlmgkocoaa.H
open Go.RowKit Go.Proofs.YtchmmnlmgkocoaaW.PrintWords Go.Proofs.YtchmmnlmgkocoaaW.PrintLast Go.Proofs.YtchmmnlmgkocoaaW.PrintMore
/-- a row of points, in a block of that range -/
def Own (w : World) (base lo hi : Nat) (A : Option Addr) (c : Nat) (xs : List S81) : Prop := hi ≤ w.heap.size ∧ Kd.R k81 81 w base (fun k => lo ≤ k ∧ k < hi) (.slice A xs.length c) xs
section
variable {W w w1 : World} {base lo hi : Nat} {A : Option Addr} {c : Nat} {xs : List S81} {v : Value}
theorem own_new (h : Kd.R k81 81 w1 w.heap.size (fun _ => True) v xs) (hb : base ≤ w.heap.size) : ∃ A c lo hi, v = .slice A xs.length c ∧ w.heap.size ≤ lo ∧ Own w1 base lo hi A c xs := by
  obtain ⟨A, c, rfl, hl, _⟩ := Kd.R_reads h
  exact ⟨A, c, _, _, rfl, Nat.le_refl _, Nat.le_refl _, Kd.R_lower (Kd.R_mono (Kd.R_bound h) (fun k hk => ⟨hk.2.1, hk.2.2.1⟩)) hb⟩
theorem own_cut (h : Cut w1 w.heap.size v xs) (hb : base ≤ w.heap.size) : ∃ A c d lo hi, v = .slice A xs.length d ∧ xs.length ≤ d ∧ w.heap.size ≤ lo ∧ Own w1 base lo hi A c xs := by
  obtain ⟨A, c, d, rfl, hl, h⟩ := h
  exact ⟨A, c, d, _, _, rfl, hl, Nat.le_refl _, Nat.le_refl _, Kd.R_lower (Kd.R_mono (Kd.R_bound h) (fun k hk => ⟨hk.2.1, hk.2.2.1⟩)) hb⟩
theorem own_below (h : Own w base lo hi A c xs) (hb : Below w.heap.size w w1) : Own w1 base lo hi A c xs := ⟨Nat.le_trans h.1 hb.size, Kd.R_below h.2 hb⟩
theorem own_drew (h : Own w base lo hi A c xs) : Own w.drew base lo hi A c xs := ⟨h.1, Kd.R_drew h.2⟩
theorem own_drewN (h : Own w base lo hi A c xs) (m : Nat) : Own (w.drewN m) base lo hi A c xs := ⟨h.1, Kd.R_drewN h.2 m⟩
theorem own_kept {lo' hi' : Nat} (h : Own w base lo hi A c xs) (hk : Kept w w1 (fun k => lo' ≤ k ∧ k < hi')) (hd : hi ≤ lo' ∨ hi' ≤ lo) : Own w1 base lo hi A c xs :=
  ⟨Nat.le_trans h.1 hk.1, Kd.R_kept h.2 hk (fun k h1 h2 => by omega)⟩
theorem own_le {lo2 : Nat} (h : Own w base lo hi A c xs) (h2 : w.heap.size ≤ lo2) : hi ≤ lo2 := Nat.le_trans h.1 h2
theorem own_reads (h : Own w base lo hi A c xs) : Kd.C k81 w A xs.length xs := (Kd.R_reads' h.2).2.2
theorem own_cap (h : Own w base lo hi A c xs) : xs.length ≤ c := (Kd.R_reads' h.2).2.1
end
section
variable {W w : World}
theorem cToPtS {k : Nat} {A0 : Option Addr} {c0 : Nat} {l : List S149} {xs : List S81} (hr : Kd.C k149 W A0 l.length l) (hc : l.length ≤ c0) (h : laws_toPtS.f k l = some xs) (hB : Below W.heap.size W w) :
    Calls Try.prog 44 #[.slice A0 l.length c0] w fun e w' => ∃ A c lo hi, e = .returned (.slice A xs.length c) ∧ w.heap.size ≤ lo ∧ Own w' W.heap.size lo hi A c xs ∧ Below W.heap.size W w' ∧ Below w.heap.size w w' :=
  (laws_toPtS.calls k A0 c0 l xs w (Kd.C_below hr hB) hc h).mono fun e w' ⟨v, he, hR, hb⟩ => by
    obtain ⟨A, c, lo, hi, rfl, hlo, ho⟩ := own_new hR hB.size
    exact ⟨A, c, lo, hi, he, hlo, ho, below_step hB hb, hb⟩
theorem cSpec {k : Nat} {A0 : Option Addr} {c0 lo hi : Nat} {l xs : List S81} (ho : Own w W.heap.size lo hi A0 c0 l) (h : spec_Hull.f k l = some xs) (hB : Below W.heap.size W w) :
    Calls Try.prog 43 #[.slice A0 l.length c0] w fun e w' => ∃ A c lo hi, e = .returned (.slice A xs.length c) ∧ w.heap.size ≤ lo ∧ Own w' W.heap.size lo hi A c xs ∧ Below W.heap.size W w' ∧ Below w.heap.size w w' :=
  (spec_Hull.calls k A0 c0 l xs w (own_reads ho) (own_cap ho) h).mono fun e w' ⟨v, he, hR, hb⟩ => by
    obtain ⟨A, c, lo, hi, rfl, hlo, ho⟩ := own_new hR hB.size
    exact ⟨A, c, lo, hi, he, hlo, ho, below_step hB hb, hb⟩
theorem cHull {k : Nat} {A0 : Option Addr} {c0 lo hi : Nat} {l xs : List S81} (ho : Own w W.heap.size lo hi A0 c0 l) (h : impl_Hull.f k l = some xs) (hB : Below W.heap.size W w) :
    Calls Try.prog 45 #[.slice A0 l.length c0] w fun e w' => ∃ A c d lo hi, e = .returned (.slice A xs.length d) ∧ xs.length ≤ d ∧ w.heap.size ≤ lo ∧ Own w' W.heap.size lo hi A c xs ∧ Below W.heap.size W w' ∧ Below w.heap.size w w' :=
  (impl_Hull.cut k A0 c0 l xs w (own_reads ho) (own_cap ho) h).mono fun e w' ⟨v, he, hR, hb⟩ => by
    obtain ⟨A, c, d, lo, hi, rfl, hd, hlo, ho⟩ := own_cut hR hB.size
    exact ⟨A, c, d, lo, hi, he, hd, hlo, ho, below_step hB hb, hb⟩
theorem cEq {k : Nat} {A0 A1 : Option Addr} {c0 c1 d0 d1 lo0 hi0 lo1 hi1 : Nat} {l xs : List S81} (h0 : Own w W.heap.size lo0 hi0 A0 c0 l) (h1 : Own w W.heap.size lo1 hi1 A1 c1 xs) (hd0 : l.length ≤ d0) (hd1 : xs.length ≤ d1) (h : laws_eqPtS.f k l xs = some true) (hB : Below W.heap.size W w) :
    Calls Try.prog 46 #[.slice A0 l.length d0, .slice A1 xs.length d1] w fun e w' => e = .returned (.bool true) ∧ Below W.heap.size W w' ∧ Below w.heap.size w w' :=
  (laws_eqPtS.calls k A0 d0 l A1 d1 xs true w (own_reads h0) hd0 (own_reads h1) hd1 h).mono fun e w' ⟨he, hb⟩ => ⟨he, below_step hB hb, hb⟩
theorem cMark {k : Nat} {A0 : Option Addr} {c0 d0 lo hi : Nat} {l xs : List S81} {m : Int} (h0 : Own w W.heap.size lo hi A0 c0 l) (hl : xs.length = l.length) (h : laws_markPtS.f k l 1 = some (m, xs)) (hB : Below W.heap.size W w) :
    Calls Try.prog 47 #[.slice A0 l.length d0, .int .i64 1] w fun e w' => ∃ hi', e = .returned (.int .i64 m) ∧ Own w' W.heap.size lo hi' A0 c0 xs ∧ Kept w w' (fun k => lo ≤ k ∧ k < hi) ∧ Below W.heap.size W w' :=
  (laws_markPtS.calls k (fun k => lo ≤ k ∧ k < hi) A0 l.length c0 d0 l 1 m xs W w hB h0.2 h).mono fun e w' ⟨he, hR, hb, hk⟩ => by
    refine ⟨w'.heap.size, he, ⟨Nat.le_refl _, ?_⟩, hk, hb⟩
    rw [hl]
    exact Kd.R_reok rfl hR (fun k e => ⟨(h0.2.1 k e).1, ((Kd.R_bound hR).1 k e).2.2.1⟩)
theorem cHeld {k : Nat} {A0 : Option Addr} {c0 d0 lo hi : Nat} {l : List S81} {m : Int} {n : Nat} (h0 : Own w W.heap.size lo hi A0 c0 l) (hn : l.length = n) (hd : n ≤ d0) (h : laws_heldPtS.f k l 1 = some m) :
    Calls Try.prog 48 #[.slice A0 n d0, .int .i64 1] w fun e w' => e = .returned (.int .i64 m) ∧ Drawn0 w w' := by
  subst hn; exact laws_heldPtS.calls k A0 d0 l 1 m w (own_reads h0) hd h
end
/-! ### Plain -/
def conv (p : S149) : S81 := ⟨p.f0, p.f1⟩
theorem rd149_at (xs : List S149) (i : Nat) (h : i < xs.length) : rd_T149 xs (i : Int) = xs[i] := by
  simp [rd_T149, List.getD_eq_getElem?_getD, List.getElem?_eq_getElem h]
theorem toPtS_ev (l : List S149) (hl : l.length ≤ 2000000) : Ev (fun k => laws_toPtS.f k l) (l.map conv) := by
  have : ∀ (d i : Nat), i + d = l.length → Ev (fun k => laws_toPtS.l0 k l ((l.map conv).take i ++ List.replicate d z81) (i : Int)) (l.map conv) := by
    intro d
    induction d with
    | zero =>
      intro i hd
      refine Ev.step (f := fun _ => some (l.map conv)) (fun k => ?_) (Ev.now _)
      simp only [laws_toPtS.l0]
      rw [if_neg (by omega), List.take_of_length_le (by simp; omega)]
      simp
    | succ d ih =>
      intro i hd
      have hi : i < l.length := by omega
      refine Ev.step (fun k => ?_) (ih (i + 1) (by omega))
      simp only [laws_toPtS.l0]
      rw [if_pos (by omega), if_pos (by omega), rd149_at _ _ hi]
      simp only [laws_toPt.f, Option.bind_some]
      rw [if_pos (by simp; omega), w64 (by omega) (by omega), Int.toNat_natCast, List.set_append_right i _ (by simp; omega)]
      have e1 : i - ((l.map conv).take i).length = 0 := by simp; omega
      rw [e1, List.replicate_succ, List.set_cons_zero, List.take_add_one, List.getElem?_eq_getElem (by simpa using hi)]
      simp [conv]
  unfold laws_toPtS.f
  simp only [Int.toNat_natCast, show (0 : Int) ≤ (l.length : Int) from by omega, show l.length ≤ 17592186044416 from by omega, if_true]
  exact this l.length 0 (by omega)
theorem eqPtS_ev (l : List S81) (hl : l.length ≤ 2000000) : Ev (fun k => laws_eqPtS.f k l l) true := by
  have : ∀ (d i : Nat), l.length - i = d → Ev (fun k => laws_eqPtS.l0 k l l (i : Int)) true := by
    intro d
    induction d with
    | zero =>
      intro i hd
      refine Ev.step (f := fun _ => some true) (fun k => ?_) (Ev.now _)
      simp only [laws_eqPtS.l0]
      rw [if_neg (by omega)]
    | succ d ih =>
      intro i hd
      refine Ev.step (fun k => ?_) (ih (i + 1) (by omega))
      simp only [laws_eqPtS.l0]
      rw [if_pos (by omega), if_pos (by omega), if_pos (by omega)]
      simp only [laws_eqPt.f, if_true, Option.bind_some]
      rw [w64 (by omega) (by omega)]
      rfl
  unfold laws_eqPtS.f
  simp only [if_true]
  exact this l.length 0 (by omega)
def markL (n : Nat) : List S81 := (List.range n).map fun (i : Nat) => (⟨1 + 2 * (i : Int), 2 + 2 * (i : Int)⟩ : S81)
theorem markL_len (n : Nat) : (markL n).length = n := by simp [markL]
theorem rd_set (xs : List S81) (i : Nat) (h : i < xs.length) (v : S81) : rd_T81 (xs.set i v) (i : Int) = v := by
  rw [rd_at _ _ (by simpa using h)]; simp
theorem mark_ev (l : List S81) (hl : l.length ≤ 2000000) : Ev (fun k => laws_markPtS.f k l 1) (1 + 2 * (l.length : Int), markL l.length) := by
  have : ∀ (d i : Nat), i + d = l.length → Ev (fun k => laws_markPtS.l0 k ((markL l.length).take i ++ l.drop i) (1 + 2 * (i : Int)) (i : Int)) (1 + 2 * (l.length : Int), markL l.length) := by
    intro d
    induction d with
    | zero =>
      intro i hd
      refine Ev.step (f := fun _ => some (1 + 2 * (l.length : Int), markL l.length)) (fun k => ?_) (Ev.now _)
      simp only [laws_markPtS.l0]
      rw [if_neg (by simp [markL_len]; omega), List.take_of_length_le (by rw [markL_len]; omega), List.drop_eq_nil_of_le (by omega)]
      simp
      omega
    | succ d ih =>
      intro i hd
      have hi : i < l.length := by omega
      have hlen : ((markL l.length).take i ++ l.drop i).length = l.length := by simp [markL_len]; omega
      refine Ev.step (fun k => ?_) (ih (i + 1) (by omega))
      simp only [laws_markPtS.l0, Option.bind_some]
      rw [if_pos (by rw [hlen]; omega), if_pos (by omega), w64 (x := 1 + 2 * (i : Int) + 1) (by omega) (by omega), w64 (x := 1 + 2 * (i : Int) + 1 + 1) (by omega) (by omega), w64 (x := (i : Int) + 1) (by omega) (by omega), Int.toNat_natCast, rd_set _ i (by rw [hlen]; exact hi), List.set_set, List.set_append_right i _ (by simp [markL_len]; omega)]
      have e2 : i - ((markL l.length).take i).length = 0 := by simp [markL_len]; omega
      rw [e2, List.drop_eq_getElem_cons hi, List.set_cons_zero, List.take_add_one, List.getElem?_eq_getElem (by rw [markL_len]; exact hi)]
      have e3 : (markL l.length)[i]'(by rw [markL_len]; exact hi) = ⟨1 + 2 * (i : Int), 2 + 2 * (i : Int)⟩ := by simp [markL]
      rw [e3]
      have e4 : (1 + 2 * (i : Int) + 1 + 1) = 1 + 2 * ((i + 1 : Nat) : Int) := by omega
      have e5 : (1 + 2 * (i : Int) + 1) = 2 + 2 * (i : Int) := by omega
      rw [e4, e5]
      simp
  have h := this l.length 0 (by omega)
  simpa [laws_markPtS.f] using h
theorem held_ev (n : Nat) (hl : n ≤ 2000000) : Ev (fun k => laws_heldPtS.f k (markL n) 1) (1 + 2 * (n : Int)) := by
  have : ∀ (d i : Nat), i + d = n → Ev (fun k => laws_heldPtS.l0 k (markL n) (1 + 2 * (i : Int)) (i : Int)) (1 + 2 * (n : Int)) := by
    intro d
    induction d with
    | zero =>
      intro i hd
      refine Ev.step (f := fun _ => some (1 + 2 * (n : Int))) (fun k => ?_) (Ev.now _)
      simp only [laws_heldPtS.l0]
      rw [if_neg (by rw [markL_len]; omega)]
      simp
      omega
    | succ d ih =>
      intro i hd
      have hi : i < (markL n).length := by rw [markL_len]; omega
      refine Ev.step (fun k => ?_) (ih (i + 1) (by omega))
      have e3 : (markL n)[i] = ⟨1 + 2 * (i : Int), 2 + 2 * (i : Int)⟩ := by simp [markL]
      simp only [laws_heldPtS.l0]
      rw [if_pos (by omega), if_pos (by omega), rd_at _ _ hi, e3, w64 (x := 1 + 2 * (i : Int) + 1) (by omega) (by omega), w64 (x := 1 + 2 * (i : Int) + 1 + 1) (by omega) (by omega), w64 (x := (i : Int) + 1) (by omega) (by omega)]
      simp only [if_true]
      rw [if_pos (by omega), show (1 + 2 * (i : Int) + 1 + 1) = 1 + 2 * ((i + 1 : Nat) : Int) by omega]
      rfl
  have h := this n 0 (by omega)
  simpa [laws_heldPtS.f] using h
theorem both_ev (l : List S81) (hl : l.length ≤ 2000000) : ∃ h, Ev (fun k => impl_Hull.f k l) h ∧ Ev (fun k => spec_Hull.f k l) h ∧ h.length ≤ 1000 := by
  by_cases hb : (l.all rightB && decide (l.length ≤ 500)) = true
  · have hb' := hb
    rw [Bool.and_eq_true, decide_eq_true_eq] at hb'
    refine ⟨_, implHull_ev l hb'.2 (rightAll hb'.1), specHull_ev l hb'.2 (rightAll hb'.1), ?_⟩
    have := hull_len (sortedPts l)
    have := sorted_len l
    omega
  · have hb' : (l.all rightB && decide (l.length ≤ 500)) = false := by simpa using hb
    exact ⟨[], implHull_none l hl hb', specHull_none l hl hb', by simp⟩
end Go.Proofs.Ytchmmnlmgkocoaa.H
