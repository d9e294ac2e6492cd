/- A log sector, read: both programs read the same of its bytes; conditions: those of each lemma. -/
import Derived.Test.YtchmmnlmgkocoaaLP
import Derived.Test.YtchmmnlmgkocoaaL7
set_option linter.unusedVariables false
set_option linter.unusedSimpArgs false
namespace Go.Proofs.Ytchmmnlmgkocoaa.L
open Go.RowKit Go.Proofs.YtchmmnlmgkocoaaW.PrintWords Go.Proofs.YtchmmnlmgkocoaaW.PrintLast Go.Proofs.YtchmmnlmgkocoaaW.PrintMore
theorem eq_at {x y : List Int} (h : x.length = y.length) (h2 : ∀ i (hi : i < x.length), x[i] = y[i]'(by omega)) : x = y := List.ext_getElem h (fun i h1 _ => h2 i h1)
theorem equal_ev (x y : List Int) (h : x.length = y.length) (hl : x.length ≤ 1000000) : Ev (fun k => slices_Equal_byte_byte.f k x y) (decide (x = y)) := by
 have : ∀ (d i : Nat), i + d = x.length → (∀ j (hj : j < x.length), j < i → x[j] = y[j]'(by omega)) → Ev (fun k => slices_Equal_byte_byte.l0 k x y (x.length : Int) (i : Int)) (decide (x = y)) := by
  intro d
  induction d with
  | zero =>
   intro i hd ha
   refine Ev.step (f := fun _ => some true) (fun k => ?_) ?_
   ·
    simp only [slices_Equal_byte_byte.l0]
    rw [if_neg (by omega)]
   ·
    rw [decide_eq_true (eq_at h (fun j hj => ha j hj (by omega)))]
    exact Ev.now _
  | succ d ih =>
   intro i hd ha
   have hi : i < x.length := by omega
   by_cases e : x[i] = y[i]'(by omega)
   ·
    refine Ev.step (fun k => ?_) (ih (i + 1) (by omega) (fun j hj hji => ?_))
    ·
     simp only [slices_Equal_byte_byte.l0]
     rw [if_pos (by omega), if_pos (by omega), if_pos (by omega), if_pos (by omega), rd_at _ _ hi, rd_at _ _ (by omega), if_pos e, w64 (by omega) (by omega)]
     rfl
    ·
     by_cases hq : j = i
     ·
      subst hq; exact e
     ·
      exact ha j hj (by omega)
   ·
    refine Ev.step (f := fun _ => some false) (fun k => ?_) ?_
    ·
     simp only [slices_Equal_byte_byte.l0]
     rw [if_pos (by omega), if_pos (by omega), if_pos (by omega), if_pos (by omega), rd_at _ _ hi, rd_at _ _ (by omega), if_neg e]
    ·
     rw [decide_eq_false (fun hxy => e (by subst hxy; rfl))]
     exact Ev.now _
 unfold slices_Equal_byte_byte.f
 have hh : (x.length : Int) = (y.length : Int) := by omega
 simp only [if_pos hh]
 exact this x.length 0 (by omega) (fun j hj hji => absurd hji (Nat.not_lt_zero _))
/-- what a sector's bytes tell -/
def sec (b : List Int) : Option S139 := parse (decide (secB (get4 b 0) (get4 b 4) (rd b 8) (pieceOf b) = b)) (get4 b 0) (get4 b 4) b
theorem piece_byt {b : List Int} (h : Byt b) : Byt (pieceOf b) := byt_drop (byt_take h _) _
theorem sec_some {b : List Int} {s : S139} (h : sec b = some s) : 1 ≤ s.f0 ∧ s.f0 ≤ 1000000 ∧ s.f1 = get4 b 4 ∧ (s.f2 = 1 ∨ s.f2 = 2) ∧ s.f3 = pieceOf b ∧ rd b 9 ≤ 44 := by
 unfold sec parse at h
 split at h
 ·
  cases h
 ·
  split at h
  ·
   cases h
  ·
   split at h
   ·
    cases h
   ·
    split at h
    ·
     obtain rfl := Option.some.inj h
     refine ⟨?_, ?_, rfl, ?_, rfl, by omega⟩
     ·
      show 1 ≤ get4 b 0
      omega
     ·
      show get4 b 0 ≤ 1000000
      omega
     ·
      show rd b 8 = 1 ∨ rd b 8 = 2
      omega
    ·
     cases h
theorem sectorOf_ev {b : List Int} (hb : Byt b) (hl : b.length = 64) : Ev (fun k => impl_sectorOf.f k b) (flat (sec b)) := by
 have r9 := byt_rd hb 9
 have r8 := byt_rd hb 8
 have g0 := get4_rng hb 0
 have g4 := get4_rng hb 4
 unfold impl_sectorOf.f
 rw [getLow_is hb 0 (by omega) (by omega) (by omega), getLow_is hb 4 (by omega) (by omega) (by omega)]
 have hc : b.length = 64 ∧ 0 ≤ rd b 9 ∧ rd b 9 ≤ 255 := ⟨hl, r9.1, r9.2⟩
 simp only [Option.bind_some, if_pos hc]
 by_cases hn : (parse true (get4 b 0) (get4 b 4) b).isNone = true
 ·
  simp only [if_pos hn]
  rw [sec, parse_none hn]
  exact Ev.now _
 ·
  simp only [if_neg hn]
  have hp : rd b 9 ≤ 44 := by
   by_cases h : 44 < rd b 9
   ·
    exact absurd (by unfold parse; rw [if_pos h]; rfl) hn
   ·
    omega
  have hpl := piece_len hl rfl r9.1 hp
  refine Ev.bind (sector_bytes_ev _ _ _ _ g0.1 (by omega) g4.1 (by omega) r8 (piece_byt hb) (by omega)) ?_
  refine Ev.bind (equal_ev _ _ (by rw [secB_len _ _ _ _ (by omega), hl]) (by rw [secB_len _ _ _ _ (by omega)]; omega)) ?_
  exact Ev.now _
/-- the reference's part -/
def part (r : Option S139) : Int × Int × Bool × List Int × Bool := match r with
 | none => (0, 0, false, [], false)
 | some s => (s.f0, s.f1, s.f2 == 1, s.f3, true)
theorem l12Read_loop {b x : List Int} (h : b.length = x.length) (hl : b.length ≤ 1000000) (ep nu : Int) (more : Bool) (pc : List Int) :
  Ev (fun k => spec_l12Read.l0 k b x 0 ep nu more pc) (if x = b then (ep, nu, more, pc, true) else (0, 0, false, [], false)) := by
 have : ∀ (d i : Nat), i + d = b.length → (∀ j (hj : j < b.length), j < i → b[j] = x[j]'(by omega)) → Ev (fun k => spec_l12Read.l0 k b x (i : Int) ep nu more pc) (if x = b then (ep, nu, more, pc, true) else (0, 0, false, [], false)) := by
  intro d
  induction d with
  | zero =>
   intro i hd ha
   refine Ev.step (f := fun _ => some (ep, nu, more, pc, true)) (fun k => ?_) ?_
   ·
    simp only [spec_l12Read.l0]
    rw [if_neg (by omega)]
   ·
    rw [if_pos (eq_at h (fun j hj => ha j hj (by omega))).symm]
    exact Ev.now _
  | succ d ih =>
   intro i hd ha
   have hi : i < b.length := by omega
   by_cases e : b[i] = x[i]'(by omega)
   ·
    refine Ev.step (fun k => ?_) (ih (i + 1) (by omega) (fun j hj hji => ?_))
    ·
     simp only [spec_l12Read.l0]
     rw [if_pos (by omega), if_pos (by omega), if_pos (by omega), rd_at _ _ hi, rd_at _ _ (by omega), if_pos e, w64 (by omega) (by omega)]
     rfl
    ·
     by_cases hq : j = i
     ·
      subst hq; exact e
     ·
      exact ha j hj (by omega)
   ·
    refine Ev.step (f := fun _ => some (0, 0, false, [], false)) (fun k => ?_) ?_
    ·
     simp only [spec_l12Read.l0]
     rw [if_pos (by omega), if_pos (by omega), if_pos (by omega), rd_at _ _ hi, rd_at _ _ (by omega), if_neg e]
    ·
     rw [if_neg (fun hxy => e (by subst hxy; rfl))]
     exact Ev.now _
 exact this b.length 0 (by omega) (fun j hj hji => absurd hji (Nat.not_lt_zero _))
theorem l1In_is (a b c : Int) : spec_l1In.f a b c = some (decide (b ≤ a ∧ a ≤ c)) := by
 unfold spec_l1In.f
 by_cases h : a ≥ b
 ·
  rw [if_pos h]
  congr 1
  rw [decide_eq_decide]
  omega
 ·
  rw [if_neg h]
  congr 1
  symm
  rw [decide_eq_false_iff_not]
  omega
theorem l12Read_no {b : List Int} (n ep nu : Int) (more : Bool) : Ev (fun k => spec_l12Read.j0 k b n true ep nu more) (0, 0, false, [], false) :=
 Ev.step (f := fun _ => some (0, 0, false, [], false)) (fun k => by simp only [spec_l12Read.j0]; rw [if_pos trivial]) (Ev.now _)
theorem l12Read_ev {b : List Int} (hb : Byt b) (hl : b.length = 64) : Ev (fun k => spec_l12Read.f k b) (part (sec b)) := by
 have r9 := byt_rd hb 9
 have r8 := byt_rd hb 8
 have g0 := get4_rng hb 0
 have g4 := get4_rng hb 4
 unfold spec_l12Read.f
 rw [l12Get_is hb 0 (by omega) (by omega) (by omega), l12Get_is hb 4 (by omega) (by omega) (by omega)]
 have c8 : (8 : Int) < (b.length : Int) := by omega
 have c9 : (9 : Int) < (b.length : Int) := by omega
 have e8 : wrap64 (rd b 8) = rd b 8 := w64 (by omega) (by omega)
 have e9 : wrap64 (rd b 9) = rd b 9 := w64 (by omega) (by omega)
 simp only [Option.bind_some, if_pos c8, if_pos c9, e8, e9, l1In_is, decide_eq_true_eq]
 by_cases h1 : 1 ≤ get4 b 0 ∧ get4 b 0 ≤ 1000000
 ·
  simp only [if_pos h1]
  by_cases h2 : 1 ≤ rd b 8 ∧ rd b 8 ≤ 2
  ·
   simp only [if_pos h2]
   by_cases h3 : rd b 9 > 44
   ·
    simp only [if_pos h3]
    have : sec b = none := by unfold sec parse; rw [if_pos (by omega)]
    rw [this]
    exact l12Read_no _ _ _ _
   ·
    simp only [if_neg h3]
    have hpl := piece_len hl rfl r9.1 (by omega)
    have good : (rd b 8 ≠ 1 ∨ rd b 9 = 44) → Ev (fun k => spec_l12Read.j0 k b (rd b 9) false (get4 b 0) (get4 b 4) (rd b 8 == 1)) (part (sec b)) := by
     intro h4
     have hs : sec b = if secB (get4 b 0) (get4 b 4) (rd b 8) (pieceOf b) = b then some ⟨get4 b 0, get4 b 4, rd b 8, pieceOf b⟩ else none := by
      unfold sec parse
      rw [if_neg (by omega), if_neg (by omega), if_neg (by omega)]
      simp only [decide_eq_true_eq]
     have hm : (if (rd b 8 == 1) = true then (1 : Int) else 2) = rd b 8 := by
      by_cases e : rd b 8 = 1
      ·
       simp [e]
      ·
       rw [if_neg (by simpa using e)]
       omega
     have hpe : (b.take (wrap64 (16 + rd b 9)).toNat).drop 16 = pieceOf b := by rw [w64 (by omega) (by omega)]; rfl
     refine Ev.step (f := fun k => (spec_l12Sector.f k (get4 b 0) (get4 b 4) (rd b 8 == 1) (pieceOf b)).bind fun t => spec_l12Read.l0 k b t 0 (get4 b 0) (get4 b 4) (rd b 8 == 1) (pieceOf b)) (fun k => ?_) ?_
     ·
      simp only [spec_l12Read.j0, Option.bind_some, List.nil_append, hpe]
      rw [if_neg (by simp), w64 (by omega) (by omega), if_pos (by omega), if_pos (by omega), if_pos (by simp; omega)]
     ·
      refine Ev.bind (l12Sector_ev _ _ _ _ g0.1 (by omega) g4.1 (by omega) (piece_byt hb) (by omega)) ?_
      rw [hm]
      have := l12Read_loop (b := b) (x := secB (get4 b 0) (get4 b 4) (rd b 8) (pieceOf b)) (by rw [secB_len _ _ _ _ (by omega), hl]) (by omega) (get4 b 0) (get4 b 4) (rd b 8 == 1) (pieceOf b)
      rw [hs]
      split
      ·
       rename_i e
       rw [if_pos e] at this
       exact this
      ·
       rename_i e
       rw [if_neg e] at this
       exact this
    by_cases h4 : rd b 8 = 1
    ·
     simp only [if_pos h4]
     by_cases h5 : rd b 9 = 44
     ·
      rw [show (rd b 9 != 44) = false by simp [h5]]
      exact good (Or.inr h5)
     ·
      rw [show (rd b 9 != 44) = true by simp [h5]]
      have : sec b = none := by unfold sec parse; rw [if_neg (by omega), if_neg (by omega), if_pos (by omega)]
      rw [this]
      exact l12Read_no _ _ _ _
    ·
     simp only [if_neg h4]
     exact good (Or.inl h4)
  ·
   simp only [if_neg h2]
   have : sec b = none := by
    unfold sec parse
    by_cases h9 : 44 < rd b 9
    ·
     rw [if_pos h9]
    ·
     rw [if_neg h9, if_neg (by omega), if_pos (by omega)]
   rw [this]
   exact l12Read_no _ _ _ _
 ·
  simp only [if_neg h1]
  have : sec b = none := by
   unfold sec parse
   by_cases h9 : 44 < rd b 9
   ·
    rw [if_pos h9]
   ·
    rw [if_neg h9, if_pos h1]
  rw [this]
  exact l12Read_no _ _ _ _
end Go.Proofs.Ytchmmnlmgkocoaa.L
