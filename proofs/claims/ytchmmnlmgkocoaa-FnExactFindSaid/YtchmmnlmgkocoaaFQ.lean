/- The plain laws of FnExactFind's small functions: sizes, copies, likeness; conditions: those of each lemma. -/
import Derived.Test.YtchmmnlmgkocoaaFP
import Derived.Test.YtchmmnlmgkocoaaF1
import Derived.Test.YtchmmnlmgkocoaaF2
import Derived.Test.YtchmmnlmgkocoaaF3
set_option linter.unusedVariables false
set_option linter.unusedSimpArgs false
namespace Go.Proofs.Ytchmmnlmgkocoaa.F
open Go.Proofs.Ytchmmnlmgkocoaa.H (S81 z81 k81 k81_open k81_openM k81_mk k81_mkM rd_T81 at_T81 w64 rd_at)
open Go.RowKit Go.Proofs.YtchmmnlmgkocoaaW.PrintWords Go.Proofs.YtchmmnlmgkocoaaW.PrintLast Go.Proofs.YtchmmnlmgkocoaaW.PrintMore
def pts : List (List S149) → Nat
  | [] => 0
  | l :: t => l.length + pts t
theorem rdL2_at (xs : List (List S149)) (i : Nat) (h : i < xs.length) : rd_L2 xs (i : Int) = xs[i] := by
  simp [rd_L2, List.getD_eq_getElem?_getD, List.getElem?_eq_getElem h]
theorem rd108_at (xs : List S108) (i : Nat) (h : i < xs.length) : rd_T108 xs (i : Int) = xs[i] := by
  simp [rd_T108, List.getD_eq_getElem?_getD, List.getElem?_eq_getElem h]
theorem rd110_at (xs : List S110) (i : Nat) (h : i < xs.length) : rd_T110 xs (i : Int) = xs[i] := by
  simp [rd_T110, List.getD_eq_getElem?_getD, List.getElem?_eq_getElem h]
theorem szPtS_is (l : List S149) (a : Int) (h0 : 0 ≤ a) (h1 : a ≤ 2000000) (hl : l.length ≤ 9223372036854775807) : ∃ t, laws_szPtS.f l a = some t ∧ (t < 0 ∨ (t = a - (l.length : Int) ∧ 0 ≤ t)) := by
  unfold laws_szPtS.f
  rw [w64 (by omega) (by omega)]
  split
  · exact ⟨-1, rfl, .inl (by omega)⟩
  · exact ⟨_, rfl, .inr ⟨rfl, by omega⟩⟩
theorem szPtSS_is (s : List (List S149)) (a : Int) (h0 : 0 ≤ a) (h1 : a ≤ 2000000) (hl : s.length ≤ 9223372036854775807) (hb : ∀ l ∈ s, l.length ≤ 9223372036854775807) :
    ∃ t, Ev (fun k => laws_szPtSS.f k s a) t ∧ (t < 0 ∨ (t = a - (s.length : Int) - (pts s : Int) ∧ 0 ≤ t)) := by
  have loop : ∀ (d i : Nat) (x : Int), i + d = s.length → 0 ≤ x → x ≤ 2000000 → ∃ t, Ev (fun k => laws_szPtSS.l0 k s x (i : Int)) t ∧ (t < 0 ∨ (t = x - (pts (s.drop i) : Int) ∧ 0 ≤ t)) := by
    intro d
    induction d with
    | zero =>
      intro i x hd hx0 hx1
      refine ⟨x, Ev.step (f := fun _ => some x) (fun k => ?_) (Ev.now _), .inr ⟨?_, hx0⟩⟩
      · simp only [laws_szPtSS.l0]
        rw [if_neg (by omega)]
      · rw [List.drop_eq_nil_of_le (by omega)]; simp [pts]
    | succ d ih =>
      intro i x hd hx0 hx1
      have hi : i < s.length := by omega
      obtain ⟨t, et, ht⟩ := szPtS_is s[i] x hx0 hx1 (hb _ (List.getElem_mem hi))
      by_cases htn : t < 0
      · refine ⟨-1, Ev.step (f := fun _ => some (-1)) (fun k => ?_) (Ev.now _), .inl (by omega)⟩
        simp only [laws_szPtSS.l0]
        rw [if_pos (by omega), if_pos (by omega), rdL2_at _ _ hi, et, Option.bind_some, if_pos htn]
      · have ht2 : t = x - (s[i].length : Int) ∧ 0 ≤ t := ht.resolve_left htn
        obtain ⟨r, er, hr⟩ := ih (i + 1) t (by omega) ht2.2 (by omega)
        refine ⟨r, Ev.step (fun k => ?_) er, ?_⟩
        · simp only [laws_szPtSS.l0]
          rw [if_pos (by omega), if_pos (by omega), rdL2_at _ _ hi, et, Option.bind_some, if_neg htn, w64 (x := (i : Int) + 1) (by omega) (by omega)]
          rfl
        · rw [List.drop_eq_getElem_cons hi]
          simp only [pts]
          rcases hr with hr | ⟨hr, hr0⟩
          · exact .inl hr
          · exact .inr ⟨by omega, hr0⟩
  unfold laws_szPtSS.f
  rw [w64 (by omega) (by omega)]
  by_cases hn : a - (s.length : Int) < 0
  · simp only [hn, if_true]
    exact ⟨-1, Ev.now _, .inl (by omega)⟩
  · simp only [hn, if_false]
    obtain ⟨t, et, ht⟩ := loop s.length 0 (a - (s.length : Int)) (by omega) (by omega) (by omega)
    exact ⟨t, et, by simpa using ht⟩
def size : List S108 → Nat
  | [] => 0
  | e :: t => e.f1.f1.length + pts e.f1.f1 + size t
def Small (l : List S108) : Prop := ∀ e ∈ l, e.f1.f1.length ≤ 9223372036854775807 ∧ ∀ r ∈ e.f1.f1, r.length ≤ 9223372036854775807
theorem szEntry_is (x y : Int) (s : List (List S149)) (a : Int) (h0 : 0 ≤ a) (h1 : a ≤ 2000000) (hl : s.length ≤ 9223372036854775807) (hb : ∀ l ∈ s, l.length ≤ 9223372036854775807) :
    ∃ t, Ev (fun k => laws_szEntry.f k x y s a) t ∧ (t < 0 ∨ (t = a - (s.length : Int) - (pts s : Int) ∧ 0 ≤ t)) := by
  obtain ⟨t, et, ht⟩ := szPtSS_is s a h0 h1 hl hb
  unfold laws_szEntry.f laws_szShape.f
  by_cases hn : t < 0
  · refine ⟨-1, Ev.bind (Ev.bind et (by simp only [hn, if_true]; exact Ev.now _)) (by simp only [show (-1 : Int) < 0 by omega, if_true]; exact Ev.now _), .inl (by omega)⟩
  · refine ⟨t, Ev.bind (Ev.bind et (by simp only [hn, if_false]; exact Ev.now _)) (by simp only [hn, if_false]; exact Ev.now _), ht⟩
theorem szEntryS_is (s : List S108) (hl : s.length ≤ 9223372036854775807) (hb : Small s) :
    ∃ t, Ev (fun k => laws_szEntryS.f k s 1048576) t ∧ (t < 0 ∨ (s.length + size s ≤ 1048576 ∧ 0 ≤ t)) := by
  have loop : ∀ (d i : Nat) (x : Int), i + d = s.length → 0 ≤ x → x ≤ 2000000 → ∃ t, Ev (fun k => laws_szEntryS.l0 k s x (i : Int)) t ∧ (t < 0 ∨ (t = x - (size (s.drop i) : Int) ∧ 0 ≤ t)) := by
    intro d
    induction d with
    | zero =>
      intro i x hd hx0 hx1
      refine ⟨x, Ev.step (f := fun _ => some x) (fun k => ?_) (Ev.now _), .inr ⟨?_, hx0⟩⟩
      · simp only [laws_szEntryS.l0]
        rw [if_neg (by omega)]
      · rw [List.drop_eq_nil_of_le (by omega)]; simp [size]
    | succ d ih =>
      intro i x hd hx0 hx1
      have hi : i < s.length := by omega
      obtain ⟨hb1, hb2⟩ := hb _ (List.getElem_mem hi)
      obtain ⟨t, et, ht⟩ := szEntry_is s[i].f0 s[i].f1.f0 s[i].f1.f1 x hx0 hx1 hb1 hb2
      have step : ∀ k, laws_szEntryS.l0 (k + 1) s x (i : Int) = (laws_szEntry.f k s[i].f0 s[i].f1.f0 s[i].f1.f1 x).bind fun t => if t < 0 then some (-1) else laws_szEntryS.l0 k s t ((i + 1 : Nat) : Int) := by
        intro k
        simp only [laws_szEntryS.l0]
        rw [if_pos (by omega), if_pos (by omega), rd108_at _ _ hi, w64 (x := (i : Int) + 1) (by omega) (by omega)]
        rfl
      by_cases htn : t < 0
      · exact ⟨-1, Ev.step step (Ev.bind et (by simp only [htn, if_true]; exact Ev.now _)), .inl (by omega)⟩
      · have ht2 := ht.resolve_left htn
        obtain ⟨r, er, hr⟩ := ih (i + 1) t (by omega) ht2.2 (by omega)
        refine ⟨r, Ev.step step (Ev.bind et (by simp only [htn, if_false]; exact er)), ?_⟩
        rw [List.drop_eq_getElem_cons hi]
        simp only [size]
        rcases hr with hr | ⟨hr, hr0⟩
        · exact .inl hr
        · exact .inr ⟨by omega, hr0⟩
  unfold laws_szEntryS.f
  rw [w64 (by omega) (by omega)]
  by_cases hn : 1048576 - (s.length : Int) < 0
  · simp only [hn, if_true]
    exact ⟨-1, Ev.now _, .inl (by omega)⟩
  · simp only [hn, if_false]
    obtain ⟨t, et, ht⟩ := loop s.length 0 (1048576 - (s.length : Int)) (by omega) (by omega) (by omega)
    refine ⟨t, et, ht.imp id (fun h => ⟨?_, h.2⟩)⟩
    have := h.1
    have h3 := h.2
    rw [List.drop_zero] at this
    omega
end Go.Proofs.Ytchmmnlmgkocoaa.F
