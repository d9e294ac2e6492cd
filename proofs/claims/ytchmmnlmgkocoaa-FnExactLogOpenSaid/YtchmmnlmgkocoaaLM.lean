/- Marks in rows of bytes: what they come to, plainly; conditions: those of each lemma. -/
import Derived.Test.YtchmmnlmgkocoaaL3
import Derived.Test.YtchmmnlmgkocoaaL10
import Derived.LoopTactic
set_option linter.unusedVariables false
set_option linter.unusedSimpArgs false
namespace Go.Proofs.Ytchmmnlmgkocoaa.L
open Go.RowKit Go.Proofs.YtchmmnlmgkocoaaW.PrintWords Go.Proofs.YtchmmnlmgkocoaaW.PrintLast Go.Proofs.YtchmmnlmgkocoaaW.PrintMore
theorem w64 {x : Int} (h0 : -9223372036854775808 ≤ x) (h1 : x ≤ 9223372036854775807) : wrap64 x = x := by unfold wrap64; omega
theorem rd_at (xs : List Int) (i : Nat) (h : i < xs.length) : rd xs (i : Int) = xs[i] := by
 unfold rd
 rw [Int.toNat_natCast, List.getD_eq_getElem?_getD, List.getElem?_eq_getElem h]
 rfl
/-- n bytes, marked from a on -/
def markL (a : Int) (n : Nat) : List Int := (List.range n).map fun (i : Nat) => (a + (i : Int)) % 256
theorem markL_len (a : Int) (n : Nat) : (markL a n).length = n := by simp [markL]
theorem mark_ev (a : Int) (l : List Int) (h0 : 1 ≤ a) (h1 : a + (l.length : Int) ≤ 1000000000) : Ev (fun k => laws_markByteS.f k l a) (a + (l.length : Int), markL a l.length) := by
 have : ∀ (d i : Nat), i + d = l.length → Ev (fun k => laws_markByteS.l0 k ((markL a l.length).take i ++ l.drop i) (a + (i : Int)) (i : Int)) (a + (l.length : Int), markL a l.length) := by
  intro d
  induction d with
  | zero =>
   intro i hd
   refine Ev.step (f := fun _ => some (a + (l.length : Int), markL a l.length)) (fun k => ?_) (Ev.now _)
   simp only [laws_markByteS.l0]
   rw [if_neg (by simp [markL_len]; omega), List.take_of_length_le (by rw [markL_len]; omega), List.drop_eq_nil_of_le (by omega)]
   simp
   omega
  | succ d ih =>
   intro i hd
   have hi : i < l.length := by omega
   have hlen : ((markL a l.length).take i ++ l.drop i).length = l.length := by simp [markL_len]; omega
   refine Ev.step (fun k => ?_) (ih (i + 1) (by omega))
   simp only [laws_markByteS.l0, Option.bind_some]
   rw [if_pos (by rw [hlen]; omega), if_pos (by omega), w64 (x := a + (i : Int) + 1) (by omega) (by omega), w64 (x := (i : Int) + 1) (by omega) (by omega), Int.toNat_natCast, List.set_append_right i _ (by simp [markL_len]; omega)]
   have e2 : i - ((markL a l.length).take i).length = 0 := by simp [markL_len]; omega
   rw [e2, List.drop_eq_getElem_cons hi, List.set_cons_zero, List.take_add_one, List.getElem?_eq_getElem (by rw [markL_len]; exact hi)]
   have e3 : (markL a l.length)[i]'(by rw [markL_len]; exact hi) = (a + (i : Int)) % 256 := by simp [markL]
   rw [e3]
   have e4 : (a + (i : Int) + 1) = a + ((i + 1 : Nat) : Int) := by omega
   rw [e4]
   simp
 have h := this l.length 0 (by omega)
 simpa [laws_markByteS.f] using h
theorem held_ev (a : Int) (n : Nat) (h0 : 1 ≤ a) (h1 : a + (n : Int) ≤ 1000000000) : Ev (fun k => laws_heldByteS.f k (markL a n) a) (a + (n : Int)) := by
 have : ∀ (d i : Nat), i + d = n → Ev (fun k => laws_heldByteS.l0 k (markL a n) (a + (i : Int)) (i : Int)) (a + (n : Int)) := by
  intro d
  induction d with
  | zero =>
   intro i hd
   refine Ev.step (f := fun _ => some (a + (n : Int))) (fun k => ?_) (Ev.now _)
   simp only [laws_heldByteS.l0]
   rw [if_neg (by rw [markL_len]; omega)]
   simp
   omega
  | succ d ih =>
   intro i hd
   have hi : i < (markL a n).length := by rw [markL_len]; omega
   refine Ev.step (fun k => ?_) (ih (i + 1) (by omega))
   have e3 : (markL a n)[i] = (a + (i : Int)) % 256 := by simp [markL]
   simp only [laws_heldByteS.l0]
   rw [if_pos (by omega), if_pos (by omega), rd_at _ _ hi, e3, w64 (x := a + (i : Int) + 1) (by omega) (by omega), w64 (x := (i : Int) + 1) (by omega) (by omega), if_pos rfl, show (a + (i : Int) + 1) = a + ((i + 1 : Nat) : Int) by omega]
   rfl
 have h := this n 0 (by omega)
 simpa [laws_heldByteS.f] using h
/-- how many bytes -/
def cnt : List (List Int) → Nat
 | [] => 0
 | l :: t => l.length + cnt t
/-- rows marked one behind the other -/
def markSS (a : Int) : List (List Int) → List (List Int)
 | [] => []
 | l :: t => markL a l.length :: markSS (a + (l.length : Int)) t
theorem cnt_app (s t : List (List Int)) : cnt (s ++ t) = cnt s + cnt t := by
 induction s with
 | nil => simp [cnt]
 | cons l s ih => simp only [List.cons_append, cnt, ih]; omega
theorem markSS_app (a : Int) (s t : List (List Int)) : markSS a (s ++ t) = markSS a s ++ markSS (a + (cnt s : Int)) t := by
 induction s generalizing a with
 | nil => simp [markSS, cnt]
 | cons l s ih =>
  simp only [List.cons_append, markSS, ih, cnt]
  congr 3
  omega
theorem markSS_len (a : Int) (s : List (List Int)) : (markSS a s).length = s.length := by
 induction s generalizing a with
 | nil => rfl
 | cons l s ih => simp [markSS, ih]
theorem rdL_at (xs : List (List Int)) (i : Nat) (h : i < xs.length) : rd_L2 xs (i : Int) = xs[i] := by
 simp [rd_L2, List.getD_eq_getElem?_getD, List.getElem?_eq_getElem h]
theorem heldSS_ev (s : List (List Int)) (a : Int) (h0 : 1 ≤ a) (h1 : a + (cnt s : Int) ≤ 1000000000) (hl : s.length ≤ 1000000000) : Ev (fun k => laws_heldByteSS.f k (markSS a s) a) (a + (cnt s : Int)) := by
 have : ∀ (d i : Nat), i + d = s.length → Ev (fun k => laws_heldByteSS.l0 k (markSS a s) (a + (cnt (s.take i) : Int)) (i : Int)) (a + (cnt s : Int)) := by
  intro d
  induction d with
  | zero =>
   intro i hd
   refine Ev.step (f := fun _ => some (a + (cnt s : Int))) (fun k => ?_) (Ev.now _)
   simp only [laws_heldByteSS.l0]
   rw [if_neg (by rw [markSS_len]; omega), List.take_of_length_le (by omega)]
  | succ d ih =>
   intro i hd
   have hi : i < s.length := by omega
   have ht : s.take (i + 1) = s.take i ++ [s[i]] := by rw [List.take_add_one, List.getElem?_eq_getElem hi]; rfl
   have hc : cnt (s.take (i + 1)) = cnt (s.take i) + s[i].length := by rw [ht, cnt_app]; simp [cnt]
   have hs : cnt s = cnt (s.take (i + 1)) + cnt (s.drop (i + 1)) := by rw [← cnt_app, List.take_append_drop]
   have he : (markSS a s)[i]'(by rw [markSS_len]; exact hi) = markL (a + (cnt (s.take i) : Int)) s[i].length := by
    have h2 : s = s.take i ++ (s[i] :: s.drop (i + 1)) := by rw [← List.drop_eq_getElem_cons hi, List.take_append_drop]
    have h3 := markSS_app a (s.take i) (s[i] :: s.drop (i + 1))
    rw [← h2] at h3
    apply Option.some.inj
    rw [← List.getElem?_eq_getElem, h3, List.getElem?_append_right (by rw [markSS_len]; simp; omega), markSS_len]
    have : i - (s.take i).length = 0 := by simp; omega
    rw [this]
    rfl
   refine Ev.step (f := fun k => (laws_heldByteS.f k (markL (a + (cnt (s.take i) : Int)) s[i].length) (a + (cnt (s.take i) : Int))).bind fun t => if t < 0 then some (-1) else laws_heldByteSS.l0 k (markSS a s) t (wrap64 ((i : Int) + 1))) (fun k => ?_) (Ev.bind (held_ev (a + (cnt (s.take i) : Int)) s[i].length (by omega) (by omega)) ?_)
   ·
    simp only [laws_heldByteSS.l0]
    rw [if_pos (by rw [markSS_len]; omega), if_pos (by omega), rdL_at _ _ (by rw [markSS_len]; exact hi), he]
   ·
    have := ih (i + 1) (by omega)
    refine Ev.congr (fun k => ?_) this
    rw [if_neg (by omega), w64 (by omega) (by omega), hc, show a + (cnt (s.take i) : Int) + (s[i].length : Int) = a + ((cnt (s.take i) + s[i].length : Nat) : Int) by omega]
    rfl
 have h := this s.length 0 (by omega)
 simpa [laws_heldByteSS.f, cnt] using h
end Go.Proofs.Ytchmmnlmgkocoaa.L
