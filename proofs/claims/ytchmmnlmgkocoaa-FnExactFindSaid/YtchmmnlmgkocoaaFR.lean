/- The plain laws of FnExactFind's copies, likeness and finds; conditions: those of each lemma. -/
import Derived.Test.YtchmmnlmgkocoaaFQ
set_option linter.unusedVariables false
set_option linter.unusedSimpArgs false
namespace Go.Proofs.Ytchmmnlmgkocoaa.F
open Go.Proofs.Ytchmmnlmgkocoaa.H (S81 z81 k81 k81_open k81_openM k81_mk k81_mkM rd_T81 at_T81 w64 rd_at)
open Go.RowKit Go.Proofs.YtchmmnlmgkocoaaW.PrintWords Go.Proofs.YtchmmnlmgkocoaaW.PrintLast Go.Proofs.YtchmmnlmgkocoaaW.PrintMore
def conv (p : S149) : S81 := ⟨p.f0, p.f1⟩
def convL (l : List S149) : List S81 := l.map conv
def convE (e : S108) : S110 := ⟨e.f0, ⟨e.f1.f0, e.f1.f1.map convL⟩⟩
theorem rd149_at (xs : List S149) (i : Nat) (h : i < xs.length) : rd_T149 xs (i : Int) = xs[i] := by
  simp [rd_T149, List.getD_eq_getElem?_getD, List.getElem?_eq_getElem h]
/-- one more place filled -/
theorem fill {α β : Type} (f : α → β) (l : List α) (z : β) (i d : Nat) (hi : i < l.length) : ((l.map f).take i ++ List.replicate (d + 1) z).set i (f l[i]) = (l.map f).take (i + 1) ++ List.replicate d z := by
  rw [List.set_append_right i _ (by simp; omega)]
  have e1 : i - ((l.map f).take i).length = 0 := by simp; omega
  rw [e1, List.replicate_succ, List.set_cons_zero, List.take_add_one, List.getElem?_eq_getElem (by simpa using hi)]
  simp
theorem toPtS_ev (l : List S149) (hl : l.length ≤ 2000000) : Ev (fun k => laws_toPtS.f k l) (convL l) := by
  show Ev (fun k => laws_toPtS.f k l) (l.map conv)
  have : ∀ (d i : Nat), i + d = l.length → Ev (fun k => laws_toPtS.l0 k l ((l.map conv).take i ++ List.replicate d z81) (i : Int)) (l.map conv) := by
    intro d
    induction d with
    | zero =>
      intro i hd
      refine Ev.step (f := fun _ => some (l.map conv)) (fun k => ?_) (Ev.now _)
      simp only [laws_toPtS.l0]
      rw [if_neg (by omega), List.take_of_length_le (by simp; omega)]
      simp
    | succ d ih =>
      intro i hd
      have hi : i < l.length := by omega
      refine Ev.step (fun k => ?_) (ih (i + 1) (by omega))
      simp only [laws_toPtS.l0]
      rw [if_pos (by omega), if_pos (by omega), rd149_at _ _ hi]
      simp only [laws_toPt.f, Option.bind_some]
      rw [if_pos (by simp; omega), w64 (by omega) (by omega), Int.toNat_natCast, show (⟨l[i].f0, l[i].f1⟩ : S81) = conv l[i] from rfl, fill conv l z81 i d hi]
      rfl
  unfold laws_toPtS.f
  simp only [Int.toNat_natCast, show (0 : Int) ≤ (l.length : Int) from by omega, show l.length ≤ 17592186044416 from by omega, if_true]
  exact this l.length 0 (by omega)
theorem toPtSS_ev (s : List (List S149)) (hl : s.length ≤ 2000000) (hb : ∀ l ∈ s, l.length ≤ 2000000) : Ev (fun k => laws_toPtSS.f k s) (s.map convL) := by
  have : ∀ (d i : Nat), i + d = s.length → Ev (fun k => laws_toPtSS.l0 k s ((s.map convL).take i ++ List.replicate d []) (i : Int)) (s.map convL) := by
    intro d
    induction d with
    | zero =>
      intro i hd
      refine Ev.step (f := fun _ => some (s.map convL)) (fun k => ?_) (Ev.now _)
      simp only [laws_toPtSS.l0]
      rw [if_neg (by omega), List.take_of_length_le (by simp; omega)]
      simp
    | succ d ih =>
      intro i hd
      have hi : i < s.length := by omega
      refine Ev.step (f := fun k => (laws_toPtS.f k s[i]).bind fun t => laws_toPtSS.l0 k s (((s.map convL).take i ++ List.replicate (d + 1) []).set i t) ((i + 1 : Nat) : Int)) (fun k => ?_) (Ev.bind (toPtS_ev s[i] (hb _ (List.getElem_mem hi))) ?_)
      · simp only [laws_toPtSS.l0]
        rw [if_pos (by omega), if_pos (by omega), rdL2_at _ _ hi]
        cases laws_toPtS.f k s[i] with
        | none => rfl
        | some t =>
          simp only [Option.bind_some]
          rw [if_pos (by simp; omega), w64 (by omega) (by omega), Int.toNat_natCast]
          rfl
      · rw [fill convL s [] i d hi]
        exact ih (i + 1) (by omega)
  unfold laws_toPtSS.f
  simp only [Int.toNat_natCast, show (0 : Int) ≤ (s.length : Int) from by omega, show s.length ≤ 11728124029610 from by omega, if_true]
  exact this s.length 0 (by omega)
/-- small enough to copy -/
def Few (s : List S108) : Prop := s.length ≤ 2000000 ∧ ∀ e ∈ s, e.f1.f1.length ≤ 2000000 ∧ ∀ l ∈ e.f1.f1, l.length ≤ 2000000
theorem toEntryS_ev (s : List S108) (hs : Few s) : Ev (fun k => laws_toEntryS.f k s) (s.map convE) := by
  obtain ⟨hl, hb⟩ := hs
  have : ∀ (d i : Nat), i + d = s.length → Ev (fun k => laws_toEntryS.l0 k s ((s.map convE).take i ++ List.replicate d z110) (i : Int)) (s.map convE) := by
    intro d
    induction d with
    | zero =>
      intro i hd
      refine Ev.step (f := fun _ => some (s.map convE)) (fun k => ?_) (Ev.now _)
      simp only [laws_toEntryS.l0]
      rw [if_neg (by omega), List.take_of_length_le (by simp; omega)]
      simp
    | succ d ih =>
      intro i hd
      have hi : i < s.length := by omega
      obtain ⟨hb1, hb2⟩ := hb _ (List.getElem_mem hi)
      refine Ev.step (f := fun k => (laws_toPtSS.f k s[i].f1.f1).bind fun t => laws_toEntryS.l0 k s (((s.map convE).take i ++ List.replicate (d + 1) z110).set i ⟨s[i].f0, ⟨s[i].f1.f0, t⟩⟩) ((i + 1 : Nat) : Int)) (fun k => ?_) (Ev.bind (toPtSS_ev s[i].f1.f1 hb1 hb2) ?_)
      · simp only [laws_toEntryS.l0, laws_toEntry.f, laws_toShape.f]
        rw [if_pos (by omega), if_pos (by omega), rd108_at _ _ hi]
        cases laws_toPtSS.f k s[i].f1.f1 with
        | none => rfl
        | some t =>
          simp only [Option.bind_some]
          rw [if_pos (by simp; omega), w64 (by omega) (by omega), Int.toNat_natCast]
          rfl
      · have := fill convE s z110 i d hi
        show Ev (fun k => laws_toEntryS.l0 k s (((s.map convE).take i ++ List.replicate (d + 1) z110).set i (convE s[i])) ((i + 1 : Nat) : Int)) _
        rw [this]
        exact ih (i + 1) (by omega)
  unfold laws_toEntryS.f
  simp only [Int.toNat_natCast, show (0 : Int) ≤ (s.length : Int) from by omega, show s.length ≤ 7036874417766 from by omega, if_true]
  exact this s.length 0 (by omega)
theorem eqPtS_ev (l : List S81) (hl : l.length ≤ 2000000) : Ev (fun k => laws_eqPtS.f k l l) true := by
  have : ∀ (d i : Nat), l.length - i = d → Ev (fun k => laws_eqPtS.l0 k l l (i : Int)) true := by
    intro d
    induction d with
    | zero =>
      intro i hd
      refine Ev.step (f := fun _ => some true) (fun k => ?_) (Ev.now _)
      simp only [laws_eqPtS.l0]
      rw [if_neg (by omega)]
    | succ d ih =>
      intro i hd
      refine Ev.step (fun k => ?_) (ih (i + 1) (by omega))
      simp only [laws_eqPtS.l0]
      rw [if_pos (by omega), if_pos (by omega), if_pos (by omega)]
      simp only [laws_eqPt.f, if_true, Option.bind_some]
      rw [w64 (by omega) (by omega)]
      rfl
  unfold laws_eqPtS.f
  simp only [if_true]
  exact this l.length 0 (by omega)
theorem eqPtSS_ev (s : List (List S81)) (hl : s.length ≤ 2000000) (hb : ∀ l ∈ s, l.length ≤ 2000000) : Ev (fun k => laws_eqPtSS.f k s s) true := by
  have : ∀ (d i : Nat), s.length - i = d → Ev (fun k => laws_eqPtSS.l0 k s s (i : Int)) true := by
    intro d
    induction d with
    | zero =>
      intro i hd
      refine Ev.step (f := fun _ => some true) (fun k => ?_) (Ev.now _)
      simp only [laws_eqPtSS.l0]
      rw [if_neg (by omega)]
    | succ d ih =>
      intro i hd
      have hi : i < s.length := by omega
      refine Ev.step (f := fun k => (laws_eqPtS.f k s[i] s[i]).bind fun t => if t = true then laws_eqPtSS.l0 k s s ((i + 1 : Nat) : Int) else some false) (fun k => ?_) (Ev.bind (eqPtS_ev s[i] (hb _ (List.getElem_mem hi))) ?_)
      · simp only [laws_eqPtSS.l0]
        rw [if_pos (by omega), if_pos (by omega), if_pos (by omega), rdL_at _ _ hi, w64 (by omega) (by omega)]
        rfl
      · simp only [if_true]
        exact ih (i + 1) (by omega)
  unfold laws_eqPtSS.f
  simp only [if_true]
  exact this s.length 0 (by omega)
theorem eqShape_ev (a : Int) (s : List (List S81)) (hl : s.length ≤ 2000000) (hb : ∀ l ∈ s, l.length ≤ 2000000) : Ev (fun k => laws_eqShape.f k a s a s) true := by
  unfold laws_eqShape.f
  simp only [if_true]
  refine Ev.bind (eqPtSS_ev s hl hb) ?_
  simp only [if_true]
  exact Ev.now _
theorem eqEntryS_ev (s : List S110) (hl : s.length ≤ 2000000) (hb : ∀ e ∈ s, e.f1.f1.length ≤ 2000000 ∧ ∀ l ∈ e.f1.f1, l.length ≤ 2000000) : Ev (fun k => laws_eqEntryS.f k s s) true := by
  have : ∀ (d i : Nat), s.length - i = d → Ev (fun k => laws_eqEntryS.l0 k s s (i : Int)) true := by
    intro d
    induction d with
    | zero =>
      intro i hd
      refine Ev.step (f := fun _ => some true) (fun k => ?_) (Ev.now _)
      simp only [laws_eqEntryS.l0]
      rw [if_neg (by omega)]
    | succ d ih =>
      intro i hd
      have hi : i < s.length := by omega
      obtain ⟨hb1, hb2⟩ := hb _ (List.getElem_mem hi)
      refine Ev.step (f := fun k => (laws_eqShape.f k s[i].f1.f0 s[i].f1.f1 s[i].f1.f0 s[i].f1.f1).bind fun t => if t = true then laws_eqEntryS.l0 k s s ((i + 1 : Nat) : Int) else some false) (fun k => ?_) (Ev.bind (eqShape_ev s[i].f1.f0 s[i].f1.f1 hb1 hb2) ?_)
      · simp only [laws_eqEntryS.l0, laws_eqEntry.f, if_true]
        rw [if_pos (by omega), if_pos (by omega), if_pos (by omega), rd110_at _ _ hi, w64 (by omega) (by omega)]
        cases laws_eqShape.f k s[i].f1.f0 s[i].f1.f1 s[i].f1.f0 s[i].f1.f1 with
        | none => rfl
        | some t => cases t <;> rfl
      · simp only [if_true]
        exact ih (i + 1) (by omega)
  unfold laws_eqEntryS.f
  simp only [if_true]
  exact this s.length 0 (by omega)
end Go.Proofs.Ytchmmnlmgkocoaa.F
