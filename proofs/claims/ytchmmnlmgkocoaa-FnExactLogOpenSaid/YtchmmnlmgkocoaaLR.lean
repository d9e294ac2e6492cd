/- Disks read, a log opened: both programs come to the same; conditions: those of each lemma. -/
import Derived.Test.YtchmmnlmgkocoaaLQ
import Derived.Test.YtchmmnlmgkocoaaL8
import Derived.Test.YtchmmnlmgkocoaaL9
set_option linter.unusedVariables false
set_option linter.unusedSimpArgs false
namespace Go.Proofs.Ytchmmnlmgkocoaa.L
open Go.RowKit Go.Proofs.YtchmmnlmgkocoaaW.PrintWords Go.Proofs.YtchmmnlmgkocoaaW.PrintLast Go.Proofs.YtchmmnlmgkocoaaW.PrintMore
theorem rd142_at (xs : List S142) (i : Nat) (h : i < xs.length) : rd_T142 xs (i : Int) = xs[i] := by
 simp [rd_T142, List.getD_eq_getElem?_getD, List.getElem?_eq_getElem h]
/-- a disk small enough to be reckoned with -/
def Mid (b : List Int) (q : List S142) : Prop := b.length ≤ 2000000 ∧ q.length ≤ 2000000 ∧ ∀ x ∈ q, x.f1.length ≤ 2000000
theorem many_is (b : List Int) (q : List S142) (h : b.length ≤ 2000000) : spec_l11Many.f b q = some (secs b) := by
 unfold spec_l11Many.f secs
 rw [w64 (by omega) (by omega)]
theorem secs_bd (b : List Int) (h : b.length ≤ 2000000) : 0 ≤ secs b ∧ secs b ≤ 31250 := by unfold secs; omega
theorem diskOk_ev {b : List Int} {q : List S142} (hm : Mid b q) : Ev (fun k => spec_DiskOk.f k b q) (diskOk b q) := by
 have hs := secs_bd b hm.1
 have hq := hm.2.1
 have loop : ∀ (d i : Nat), i + d = q.length → (∀ j (hj : j < q.length), j < i → goodW b q[j] = true) → Ev (fun k => spec_DiskOk.l0 k (i : Int) b q) (q.all (goodW b)) := by
  intro d
  induction d with
  | zero =>
   intro i hd ha
   refine Ev.step (f := fun _ => some true) (fun k => ?_) ?_
   ·
    simp only [spec_DiskOk.l0]
    rw [if_neg (by omega)]
   ·
    rw [show q.all (goodW b) = true from by
     rw [List.all_eq_true]
     intro x hx
     obtain ⟨j, hj, rfl⟩ := List.getElem_of_mem hx
     exact ha j hj (by omega)]
    exact Ev.now _
  | succ d ih =>
   intro i hd ha
   have hi : i < q.length := by omega
   have hl := hm.2.2 q[i] (List.getElem_mem hi)
   by_cases g : goodW b q[i] = true
   ·
    have g2 : 0 ≤ q[i].f0 ∧ q[i].f0 ≤ secs b - 1 ∧ q[i].f1.length = 64 := by simpa [goodW, isSec, and_assoc] using g
    refine Ev.step (fun k => ?_) (ih (i + 1) (by omega) (fun j hj hji => ?_))
    ·
     simp only [spec_DiskOk.l0]
     rw [if_pos (by omega), if_pos (by omega), many_is b q hm.1, rd142_at _ _ hi, w64 (x := (i : Int) + 1) (by omega) (by omega)]
     simp only [Option.bind_some]
     rw [w64 (by omega) (by omega), l1In_is, decide_eq_true (⟨g2.1, g2.2.1⟩ : 0 ≤ q[i].f0 ∧ q[i].f0 ≤ secs b - 1)]
     simp only [Option.bind_some, if_true]
     rw [if_pos (by omega)]
     rfl
    ·
     by_cases e : j = i
     ·
      subst e; exact g
     ·
      exact ha j hj (by omega)
   ·
    refine Ev.step (f := fun _ => some false) (fun k => ?_) ?_
    ·
     simp only [spec_DiskOk.l0]
     rw [if_pos (by omega), if_pos (by omega), many_is b q hm.1, rd142_at _ _ hi]
     simp only [Option.bind_some]
     rw [w64 (by omega) (by omega), l1In_is]
     simp only [Option.bind_some, decide_eq_true_eq]
     by_cases g1 : 0 ≤ q[i].f0 ∧ q[i].f0 ≤ secs b - 1
     ·
      rw [if_pos g1, if_neg (fun h => g (by simp [goodW, isSec, g1.1, g1.2]; omega))]
     ·
      rw [if_neg g1]
    ·
     rw [show q.all (goodW b) = false from by
      rw [List.all_eq_false]
      exact ⟨q[i], List.getElem_mem _, g⟩]
     exact Ev.now _
 have no : diskOk b q = false → Ev (fun k => spec_DiskOk.j0 k true b q) (diskOk b q) := by
  intro h
  rw [h]
  exact Ev.step (f := fun _ => some false) (fun k => by simp only [spec_DiskOk.j0]; rw [if_pos trivial]) (Ev.now _)
 unfold spec_DiskOk.f
 rw [many_is b q hm.1]
 simp only [Option.bind_some, l1In_is]
 by_cases h64 : (b.length : Int) % 64 = 0
 ·
  simp only [if_pos h64]
  by_cases hr : 1 ≤ secs b ∧ secs b ≤ 400
  ·
   rw [decide_eq_true hr, show diskOk b q = q.all (goodW b) from by
    have hb64 : (b.length % 64 == 0) = true := by simp; omega
    simp only [diskOk, hb64, Bool.true_and, decide_eq_true hr.1, decide_eq_true hr.2]]
   refine Ev.step (f := fun k => spec_DiskOk.l0 k 0 b q) (fun k => ?_) (loop q.length 0 (by omega) (fun j hj hji => absurd hji (Nat.not_lt_zero _)))
   simp only [spec_DiskOk.j0]
   rw [if_neg (by simp)]
  ·
   rw [decide_eq_false hr]
   exact no (by simp only [diskOk, Bool.and_eq_false_iff, decide_eq_false_iff_not]; omega)
 ·
  simp only [if_neg h64]
  exact no (by simp only [diskOk, Bool.and_eq_false_iff]; left; simp; omega)
theorem readSec_ev {b : List Int} {q : List S142} (hm : Mid b q) (a : Int) (ha : -9223372036854775808 ≤ a) (ha2 : a ≤ 9223372036854775807) : Ev (fun k => spec_ReadSector.f k b q a) (readSec b q a) := by
 have hs := secs_bd b hm.1
 have hq := hm.2.1
 have no : readSec b q a = ([], false) → Ev (fun k => spec_ReadSector.j0 k a true b q) (readSec b q a) := by
  intro h
  rw [h]
  exact Ev.step (f := fun _ => some ([], false)) (fun k => by simp only [spec_ReadSector.j0]; rw [if_pos trivial]) (Ev.now _)
 have loop : ∀ (y : List Int) (d i : Nat), i + d = q.length → Ev (fun k => spec_ReadSector.l0 k a ((lastOf a (q.take i)).getD y) (i : Int) b q) ((lastOf a q).getD y, true) := by
  intro y d
  induction d with
  | zero =>
   intro i hd
   refine Ev.step (f := fun _ => some ((lastOf a q).getD y, true)) (fun k => ?_) (Ev.now _)
   simp only [spec_ReadSector.l0]
   rw [if_neg (by omega), List.take_of_length_le (by omega)]
  | succ d ih =>
   intro i hd
   have hi : i < q.length := by omega
   have hl := hm.2.2 q[i] (List.getElem_mem hi)
   have ht : q.take (i + 1) = q.take i ++ [q[i]] := by rw [List.take_add_one, List.getElem?_eq_getElem hi]; rfl
   refine Ev.step (fun k => ?_) (ih (i + 1) (by omega))
   simp only [spec_ReadSector.l0]
   rw [if_pos (by omega), if_pos (by omega), rd142_at _ _ hi, ht, lastOf_app, w64 (x := (i : Int) + 1) (by omega) (by omega)]
   by_cases e : q[i].f0 = a
   ·
    rw [if_pos e]
    simp only [Option.bind_some, List.nil_append]
    rw [if_pos (by simp; omega), show lastOf a [q[i]] = some q[i].f1 from by simp [lastOf, e]]
    rfl
   ·
    rw [if_neg e, show lastOf a [q[i]] = none from by simp [lastOf, e]]
    rfl
 unfold spec_ReadSector.f
 refine Ev.bind (diskOk_ev hm) ?_
 cases hd : diskOk b q with
 | false =>
  simp only [Bool.false_eq_true, if_false]
  exact no (by simp [readSec, hd])
 | true =>
  simp only [if_true, many_is b q hm.1, Option.bind_some]
  rw [w64 (by omega) (by omega), l1In_is]
  simp only [Option.bind_some]
  by_cases h1 : 0 ≤ a ∧ a ≤ secs b - 1
  ·
   rw [decide_eq_true h1, show readSec b q a = (sector b q a, true) from by simp [readSec, isSec, h1.1, h1.2, hd]]
   have hlen : ((a + 1) * 64) ≤ (b.length : Int) := by unfold secs at h1; omega
   refine Ev.step (f := fun k => spec_ReadSector.l0 k a ((b.take ((a + 1) * 64).toNat).drop (a * 64).toNat) 0 b q) (fun k => ?_) (loop ((b.take ((a + 1) * 64).toNat).drop (a * 64).toNat) q.length 0 (by omega))
   simp only [spec_ReadSector.j0]
   rw [if_neg (by simp)]
   simp only [Option.bind_some, List.nil_append]
   rw [w64 (x := a + 1) (by omega) (by omega), w64 (x := a * 64) (by omega) (by omega), w64 (x := (a + 1) * 64) (by omega) (by omega), if_pos (by omega), if_pos (by omega), if_pos (by omega), if_pos (by simp; omega)]
  ·
   rw [decide_eq_false h1]
   have hI : isSec b a = false := by simp only [isSec, Bool.and_eq_false_iff, decide_eq_false_iff_not]; omega
   exact no (by simp [readSec, hI])
theorem region_ev {b : List Int} {q : List S142} (hm : Mid b q) (a z : Int) : Ev (fun k => spec_l12Region.f k b q a z) (canOpen b q a z) := by
 have hs := secs_bd b hm.1
 have hq := hm.2.1
 unfold spec_l12Region.f
 refine Ev.bind (diskOk_ev hm) ?_
 cases hd : diskOk b q with
 | false =>
  simp only [Bool.false_eq_true, if_false]
  rw [show canOpen b q a z = false from by simp [canOpen, hd]]
  exact Ev.now _
 | true =>
  simp only [if_true, l1In_is, many_is b q hm.1, Option.bind_some, decide_eq_true_eq]
  by_cases h : 0 ≤ a ∧ a ≤ z
  ·
   simp only [if_pos h]
   rw [show canOpen b q a z = decide (z < secs b) from by
    simp only [canOpen, isSec, h.1, h.2, hd, decide_true, Bool.true_and, Bool.and_true]
    by_cases g : z < secs b
    ·
     rw [decide_eq_true g, decide_eq_true (show 0 ≤ z by omega), decide_eq_true (show z ≤ secs b - 1 by omega)]; rfl
    ·
     rw [decide_eq_false g, decide_eq_false (show ¬ z ≤ secs b - 1 by omega)]; simp]
   exact Ev.now _
  ·
   simp only [if_neg h]
   rw [show canOpen b q a z = false from by
    simp only [canOpen]
    by_cases g : 0 ≤ a
    ·
     rw [decide_eq_false (show ¬ a ≤ z from fun w => h ⟨g, w⟩)]; simp
    ·
     rw [decide_eq_false g]; simp]
   exact Ev.now _
end Go.Proofs.Ytchmmnlmgkocoaa.L
