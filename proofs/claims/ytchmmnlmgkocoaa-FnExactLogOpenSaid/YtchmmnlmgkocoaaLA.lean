/- slices.Clone at bytes, impl.DiskOk, canOpen, ReadSector; conditions: what their arguments' cells hold. -/
import Derived.Test.YtchmmnlmgkocoaaL0
import Derived.LoopTactic
import Derived.WalkSpells
set_option linter.unusedVariables false
set_option linter.unusedSimpArgs false
namespace Go.Proofs.Ytchmmnlmgkocoaa.L
open Go.RowKit Go.Proofs.YtchmmnlmgkocoaaW.PrintWords Go.Proofs.YtchmmnlmgkocoaaW.PrintLast Go.Proofs.YtchmmnlmgkocoaaW.PrintMore
theorem empty5 (w : World) : Kd.R (Kd.int .u8) 5 (w.alloc (.cells #[] 5)) w.heap.size (fun _ => True) (.slice (some ⟨w.heap.size, 0, none⟩) 0 0) ([] : List Int) :=
 Kd.R_of_own ⟨rfl, .inr ⟨w.heap.size, 0, #[], rfl, Nat.le_refl _, by simpa using heap_alloc_new w (.cells #[] 5), Nat.le_refl _, by simp [maxLen], rfl, rfl⟩⟩ (fun _ _ => trivial)
def slices_Clone_byte_byte.f (l : List Int) : Option (List Int) := if l.length < 8796093022208 then some l else none
theorem cloneB {w : World} {A : Option Addr} {c : Nat} {l : List Int} (hr : Kd.C (Kd.int .u8) w A l.length l) (hl : l.length < 8796093022208) :
  Calls Try.prog 150 #[.slice A l.length c] w fun e w' => ∃ v : Value, e = .returned v ∧ Kd.R (Kd.int .u8) 5 w' w.heap.size (fun _ => True) v l ∧ Below w.heap.size w w' := by
 have q22 : ∀ (w : World) (a : Option Addr) (n c n' c' : Nat), (binOp .eql 36 (.slice a n c) (.slice none n' c')).run Try.prog w = .ok (.bool a.isNone) w := fun w a n c n' c' => Lib.run_eql_slice_nil w _ _ a n c n' c' Try.underlying36
 have HR := Aside0.mk hr
 clear hr
 cases A with
 | none =>
  have h0 : l = [] := by
   rcases Nat.eq_zero_or_pos l.length with h | h
   ·
    exact List.eq_nil_of_length_eq_zero h
   ·
    obtain ⟨ad, e, _⟩ := HR.out.2.2 h
    cases e
  subst h0
  clear HR
  go_enter Try.func150, Try.ntmps150
  go_wp2
  go_ret
  exact ⟨_, rfl, Kd.R_nil _ _ _ _ _, Below.refl _ _⟩
 | some ad =>
  go_enter Try.func150, Try.ntmps150
  go_wp2_with (at_builtin; refine Kd.R_append_rows (Kd.int .u8) (w0 := w) w.heap.size rfl (.tmp 5) (.tmp 6) 36 5 (.int .u8 0) 1 rfl Try.underlying36 info5 rfl (by decide) (by omega) (.slice (some ⟨w.heap.size, 0, none⟩) 0 0) ([] : List Int) l _ _ _ (fun _ => True) (fun _ => False) rfl rfl ?aO ?aR (fun _ _ h => h) (fun _ h => h.elim) ?aF ?aB ?aS ?aL ?_; (case aO => exact empty5 w); (case aR => exact Kd.C_alloc HR.out _); (case aF => exact fun _ _ => trivial); (case aB => exact below_alloc (Below.refl _ _) _); (case aS => exact (by simp)); (case aL => simp; omega); intro v1 w1 ho hb hg hat; have HO := Aside0.mk ho; have HB := Aside0.mk hb; clear ho hb hg hat)
  go_ret
  exact ⟨_, rfl, HO.out, HB.out⟩
theorem slices_Clone_byte_byte.calls (A0 : Option Addr) (c0 : Nat) (l0 : List Int) (r : List Int) (w : World) (hr0 : Kd.C (Kd.int .u8) w A0 l0.length l0) (hc0 : l0.length ≤ c0) (h : slices_Clone_byte_byte.f l0 = some r) :
  Calls Try.prog 150 #[.slice A0 l0.length c0] w fun e w' => ∃ v0_ : Value, e = .returned v0_ ∧ Kd.R (Kd.int .u8) 5 w' w.heap.size (fun _ => True) v0_ r ∧ Below w.heap.size w w' := by
 unfold slices_Clone_byte_byte.f at h
 split at h
 ·
  obtain rfl := Option.some.inj h
  rename_i hl
  exact cloneB hr0 hl
 ·
  cases h
/-- how many sectors; is it one; is it a right write; is it a right disk -/
def secs (b : List Int) : Int := (b.length : Int) / 64
def isSec (b : List Int) (a : Int) : Bool := decide (0 ≤ a) && decide (a ≤ secs b - 1)
def goodW (b : List Int) (x : S142) : Bool := isSec b x.f0 && x.f1.length == 64
def diskOk (b : List Int) (q : List S142) : Bool := (b.length % 64 == 0) && (decide (1 ≤ secs b) && (decide (secs b ≤ 400) && q.all (goodW b)))
def impl_DiskOk.f (l0_0 : List Int) (l0_1 : List S142) : Option Bool := some (diskOk l0_0 l0_1)
set_option maxHeartbeats 4000000 in
theorem diskOk_walk {w : World} {A0 A1 : Option Addr} {c0 c1 : Nat} {b : List Int} {q : List S142} (hr0 : Kd.C (Kd.int .u8) w A0 b.length b) (hr1 : Kd.C k142 w A1 q.length q) :
  Calls Try.prog 99 #[.agg #[.slice A0 b.length c0, .slice A1 q.length c1]] w fun e w' => e = .returned (.bool (diskOk b q)) ∧ Below w.heap.size w w' := by
 have hn0 := hr0.2.1
 have hn1 := hr1.2.1
 have HR1 := Aside0.mk hr1
 clear hr0 hr1
 have no : ∀ W, Below w.heap.size w W → diskOk b q = false → Ending.returned (.bool false) = Ending.returned (.bool (diskOk b q)) ∧ Below w.heap.size w W := fun W hb h => ⟨by rw [h], hb⟩
 have NO := Aside0.mk no
 clear no
 by_cases h64 : b.length % 64 = 0
 ·
  have hz : ((b.length : Int) % 64) = 0 := by omega
  have d1 : (((b.length : Int) % 64) != 0) = false := by simp [hz]
  clear hz
  by_cases h1 : 1 ≤ (b.length : Int) / 64
  ·
   by_cases h2 : (b.length : Int) / 64 ≤ 400
   ·
    have HD := Aside0.mk (show diskOk b q = q.all (goodW b) from by simp [diskOk, secs, h64, h1, h2])
    clear h64
    go_enter Try.func99, Try.ntmps99
    go_wp2
    clear d1
    go_loopg [18] q.length (fun gg s18 wr => ∃ i : Nat, i ≤ q.length ∧ q.length - i ≤ gg ∧ s18 = .int .i64 i ∧ Aside0 (wr.heap[w.heap.size]? = some (.cells #[.slice A0 b.length c0, .slice A1 q.length c1] 45 (0, 0))) ∧ Aside0 (Below w.heap.size w wr) ∧ Aside0 (∀ j (hj : j < q.length), j < i → goodW b q[j] = true))
    case atStart => exact ⟨0, Nat.zero_le _, by omega, rfl, ⟨blk_new w _⟩, ⟨below_alloc (Below.refl _ _) _⟩, ⟨fun j _ hj => absurd hj (Nat.not_lt_zero _)⟩⟩
    case round =>
     obtain ⟨i, hi, hg, rfl, BK, BW, HA⟩ := hrel
     by_cases hlt : i < q.length
     ·
      have hltz : (i : Int) < (q.length : Int) := by omega
      obtain ⟨ad, A2, c2, rfl, x0, x1, _, _⟩ := at_T142 (Kd.C_below HR1.out BW.out) (i : Int) (by omega) (by omega)
      have e0 : rd_T142 q (i : Int) = q[i] := by simp [rd_T142, List.getD_eq_getElem?_getD, List.getElem?_eq_getElem hlt]
      rw [e0] at x0 x1
      simp only [Int.toNat_natCast] at x0 x1
      have y0 := (blk_cell BK.out 0).trans rfl
      have y1 := (blk_cell BK.out 1).trans rfl
      have hsz : w.heap.size < wr.heap.size := blk_lt BK.out
      clear e0
      obtain ⟨x, hx⟩ : ∃ x, q[i] = x := ⟨_, rfl⟩
      rw [hx] at x0 x1
      have HX := Aside0.mk hx
      clear hx
      by_cases g1 : 0 ≤ x.f0 ∧ x.f0 ≤ (b.length : Int) / 64 - 1
      ·
       obtain ⟨g1, g2⟩ := g1
       by_cases g3 : x.f1.length = 64
       ·
        have HG := Aside0.mk (show goodW b x = true from by simp [goodW, isSec, secs, g1, g2, g3])
        have g4 : ((x.f1.length : Int) != 64) = false := by simp [g3]
        clear g3
        have BK2 := Aside0.mk (blk_alloc BK.out (.cells #[.int .i64 x.f0, .slice A2 x.f1.length c2] 142))
        have BW2 := Aside0.mk (below_alloc BW.out (.cells #[.int .i64 x.f0, .slice A2 x.f1.length c2] 142))
        go_wp2
        go_roundg (q.length - (i + 1))
        case measure => omega
        case rel =>
         refine ⟨i + 1, by omega, Nat.le_refl _, by simp, BK2, BW2, ⟨fun j hj hji => ?_⟩⟩
         by_cases e : j < i
         ·
          exact HA.out j hj e
         ·
          obtain rfl : j = i := by omega
          rw [HX.out]
          exact HG.out
       ·
        have HG := Aside0.mk (show goodW b x = false from by simp [goodW, g3])
        have g4 : ((x.f1.length : Int) != 64) = true := by simp; omega
        clear g3
        have BW2 := Aside0.mk (below_alloc BW.out (.cells #[.int .i64 x.f0, .slice A2 x.f1.length c2] 142))
        go_wp2
        go_ret
        exact NO.out _ BW2.out (by rw [HD.out, List.all_eq_false]; exact ⟨q[i], List.getElem_mem _, by rw [HX.out, HG.out]; decide⟩)
      ·
       have HG := Aside0.mk (show goodW b x = false from by simp only [goodW, isSec, secs, Bool.and_eq_false_iff]; refine Or.inl ?_; by_cases z : 0 ≤ x.f0; exact Or.inr (decide_eq_false (fun h => g1 ⟨z, h⟩)); exact Or.inl (decide_eq_false z))
       by_cases g2 : 0 ≤ x.f0
       ·
        have g3 : ¬ x.f0 ≤ (b.length : Int) / 64 - 1 := fun h => g1 ⟨g2, h⟩
        clear g1
        have BW2 := Aside0.mk (below_alloc BW.out (.cells #[.int .i64 x.f0, .slice A2 x.f1.length c2] 142))
        go_wp2
        go_ret
        exact NO.out _ BW2.out (by rw [HD.out, List.all_eq_false]; exact ⟨q[i], List.getElem_mem _, by rw [HX.out, HG.out]; decide⟩)
       ·
        clear g1
        have BW2 := Aside0.mk (below_alloc BW.out (.cells #[.int .i64 x.f0, .slice A2 x.f1.length c2] 142))
        go_wp2
        go_ret
        exact NO.out _ BW2.out (by rw [HD.out, List.all_eq_false]; exact ⟨q[i], List.getElem_mem _, by rw [HX.out, HG.out]; decide⟩)
     ·
      have hltz : ¬ (i : Int) < (q.length : Int) := by omega
      have d1 : decide ((i : Int) < (q.length : Int)) = false := decide_eq_false hltz
      have d2 : decide (i < q.length) = false := decide_eq_false hlt
      go_wp2
      go_ret
      refine ⟨?_, BW.out⟩
      have : diskOk b q = true := by
       rw [HD.out, List.all_eq_true]
       intro x hx
       obtain ⟨j, hj, rfl⟩ := List.getElem_of_mem hx
       exact HA.out j hj (by omega)
      rw [this]
      rfl
   ·
    have HF := Aside0.mk (show diskOk b q = false from by simp [diskOk, secs, h2])
    clear h64
    go_enter Try.func99, Try.ntmps99
    go_wp2
    go_ret
    exact NO.out _ (below_alloc (Below.refl _ _) _) HF.out
  ·
   have HF := Aside0.mk (show diskOk b q = false from by simp [diskOk, secs, h1])
   clear h64
   go_enter Try.func99, Try.ntmps99
   go_wp2
   go_ret
   exact NO.out _ (below_alloc (Below.refl _ _) _) HF.out
 ·
  have hz : ¬ ((b.length : Int) % 64) = 0 := by omega
  have d1 : (((b.length : Int) % 64) != 0) = true := by simp [hz]
  have HF := Aside0.mk (show diskOk b q = false from by simp [diskOk, h64])
  clear hz h64
  go_enter Try.func99, Try.ntmps99
  go_wp2
  go_ret
  exact NO.out _ (below_alloc (Below.refl _ _) _) HF.out
theorem impl_DiskOk.calls (A0_0 : Option Addr) (c0_0 : Nat) (l0_0 : List Int) (A0_1 : Option Addr) (c0_1 : Nat) (l0_1 : List (S142)) (r : Bool) (w : World) (hr0_0 : Kd.C (Kd.int .u8) w A0_0 l0_0.length l0_0) (hc0_0 : l0_0.length ≤ c0_0) (hr0_1 : Kd.C k142 w A0_1 l0_1.length l0_1) (hc0_1 : l0_1.length ≤ c0_1) (h : impl_DiskOk.f l0_0 l0_1 = some r) :
  Calls Try.prog 99 #[.agg #[.slice A0_0 l0_0.length c0_0, .slice A0_1 l0_1.length c0_1]] w fun e w' => e = .returned (.bool r) ∧ Below w.heap.size w w' := by
 obtain rfl := Option.some.inj h
 exact diskOk_walk hr0_0 hr0_1
/-- are there sectors from a to z? -/
def canOpen (b : List Int) (q : List S142) (a z : Int) : Bool := decide (0 ≤ a) && (decide (a ≤ z) && (isSec b z && diskOk b q))
def impl_canOpen.f (l0_0 : List Int) (l0_1 : List S142) (a1 a2 : Int) : Option Bool := some (canOpen l0_0 l0_1 a1 a2)
set_option maxHeartbeats 4000000 in
theorem canOpen_walk {w : World} {A0 A1 : Option Addr} {c0 c1 : Nat} {b : List Int} {q : List S142} (a z : Int) (hr0 : Kd.C (Kd.int .u8) w A0 b.length b) (hr1 : Kd.C k142 w A1 q.length q) :
  Calls Try.prog 91 #[.agg #[.slice A0 b.length c0, .slice A1 q.length c1], .int .i64 a, .int .i64 z] w fun e w' => e = .returned (.bool (canOpen b q a z)) ∧ Below w.heap.size w w' := by
 have hn0 := hr0.2.1
 have hn1 := hr1.2.1
 have HR0 := Aside0.mk hr0
 have HR1 := Aside0.mk hr1
 clear hr0 hr1
 have NO := Aside0.mk (fun W (hb : Below w.heap.size w W) (h : canOpen b q a z = false) => show Ending.returned (.bool false) = Ending.returned (.bool (canOpen b q a z)) ∧ Below w.heap.size w W from ⟨by rw [h], hb⟩)
 by_cases h1 : 0 ≤ a
 ·
  by_cases h2 : a ≤ z
  ·
   have h4 : 0 ≤ z := by omega
   by_cases h3 : z ≤ (b.length : Int) / 64 - 1
   ·
    have HD := Aside0.mk (show canOpen b q a z = diskOk b q from by simp [canOpen, isSec, secs, h1, h2, h3, h4])
    go_enter Try.func91, Try.ntmps91
    go_wp2_with (first | (go_at_call 99; refine (diskOk_walk (c0 := c0) (c1 := c1) (Kd.C_alloc HR0.out _) (Kd.C_alloc HR1.out _)).mono ?_; rintro e w' ⟨rfl, hb⟩; have HB := Aside0.mk (below_then (below_alloc (Below.refl _ _) _) (by simp) hb); clear hb) | go_in)
    go_ret
    exact ⟨by rw [HD.out]; rfl, HB.out⟩
   ·
    have HF := Aside0.mk (show canOpen b q a z = false from by simp [canOpen, isSec, secs, h3])
    go_enter Try.func91, Try.ntmps91
    go_wp2
    go_ret
    exact NO.out _ (below_alloc (Below.refl _ _) _) HF.out
  ·
   have HF := Aside0.mk (show canOpen b q a z = false from by simp [canOpen, h2])
   go_enter Try.func91, Try.ntmps91
   go_wp2
   go_ret
   exact NO.out _ (below_alloc (Below.refl _ _) _) HF.out
 ·
  have HF := Aside0.mk (show canOpen b q a z = false from by simp [canOpen, h1])
  go_enter Try.func91, Try.ntmps91
  go_wp2
  go_ret
  exact NO.out _ (below_alloc (Below.refl _ _) _) HF.out
theorem impl_canOpen.calls (A0_0 : Option Addr) (c0_0 : Nat) (l0_0 : List Int) (A0_1 : Option Addr) (c0_1 : Nat) (l0_1 : List (S142)) (a1 a2 : Int) (r : Bool) (w : World) (hr0_0 : Kd.C (Kd.int .u8) w A0_0 l0_0.length l0_0) (hc0_0 : l0_0.length ≤ c0_0) (hr0_1 : Kd.C k142 w A0_1 l0_1.length l0_1) (hc0_1 : l0_1.length ≤ c0_1) (h : impl_canOpen.f l0_0 l0_1 a1 a2 = some r) :
  Calls Try.prog 91 #[.agg #[.slice A0_0 l0_0.length c0_0, .slice A0_1 l0_1.length c0_1], .int .i64 a1, .int .i64 a2] w fun e w' => e = .returned (.bool r) ∧ Below w.heap.size w w' := by
 obtain rfl := Option.some.inj h
 exact canOpen_walk a1 a2 hr0_0 hr0_1
/-- what the last write of a sector writes; what a sector holds -/
def lastOf (a : Int) : List S142 → Option (List Int)
 | [] => none
 | x :: t => (lastOf a t).or (if x.f0 = a then some x.f1 else none)
theorem lastOf_app (a : Int) (s t : List S142) : lastOf a (s ++ t) = (lastOf a t).or (lastOf a s) := by
 induction s with
 | nil => simp [lastOf]
 | cons x s ih => simp [lastOf, ih, Option.or_assoc]
theorem lastOf_none (a : Int) (t : List S142) (h : ∀ j (hj : j < t.length), t[j].f0 ≠ a) : lastOf a t = none := by
 induction t with
 | nil => rfl
 | cons x t ih =>
  have h0 : x.f0 ≠ a := h 0 (by simp)
  rw [lastOf, if_neg h0, ih (fun j hj => h (j + 1) (by simpa using hj))]
  rfl
theorem lastOf_hit (a : Int) (q : List S142) (i : Nat) (hi : i < q.length) (hx : q[i].f0 = a) (h : ∀ j (hj : j < q.length), i < j → q[j].f0 ≠ a) : lastOf a q = some q[i].f1 := by
 have hn : lastOf a (q.drop (i + 1)) = none := lastOf_none a _ (fun j hj => by
  rw [List.getElem_drop]
  exact h _ _ (by omega))
 have e : lastOf a (q.take i ++ q[i] :: q.drop (i + 1)) = some q[i].f1 := by
  rw [lastOf_app, lastOf, hn, if_pos hx]
  simp
 rwa [← List.drop_eq_getElem_cons hi, List.take_append_drop] at e
def sector (b : List Int) (q : List S142) (a : Int) : List Int := (lastOf a q).getD ((b.take ((a + 1) * 64).toNat).drop (a * 64).toNat)
def readSec (b : List Int) (q : List S142) (a : Int) : List Int × Bool := if isSec b a && diskOk b q then (sector b q a, true) else ([], false)
def impl_ReadSector.f (l0_0 : List Int) (l0_1 : List S142) (a1 : Int) : Option (List Int × Bool) := some (readSec l0_0 l0_1 a1)
theorem diskOk_parts {b : List Int} {q : List S142} (h : diskOk b q = true) : b.length % 64 = 0 ∧ 1 ≤ secs b ∧ secs b ≤ 400 ∧ ∀ j (hj : j < q.length), 0 ≤ q[j].f0 ∧ q[j].f0 ≤ secs b - 1 ∧ q[j].f1.length = 64 := by
 simp only [diskOk, Bool.and_eq_true, beq_iff_eq, decide_eq_true_eq, List.all_eq_true] at h
 refine ⟨h.1, h.2.1, h.2.2.1, fun j hj => ?_⟩
 have := h.2.2.2 q[j] (List.getElem_mem _)
 simpa [goodW, isSec, and_assoc] using this
def ReadPost (w : World) (r : List Int × Bool) (e : Ending) (w' : World) : Prop := ∃ v : Value, e = .returned (.tuple #[v, .bool r.2]) ∧ Kd.R (Kd.int .u8) 5 w' w.heap.size (fun _ => True) v r.1 ∧ Below w.heap.size w w'
set_option maxHeartbeats 4000000 in
set_option maxRecDepth 100000 in
theorem readSec_walk {w : World} {A0 A1 : Option Addr} {c0 c1 : Nat} {b : List Int} {q : List S142} (a : Int) (hr0 : Kd.C (Kd.int .u8) w A0 b.length b) (hc0 : b.length ≤ c0) (hr1 : Kd.C k142 w A1 q.length q) :
  Calls Try.prog 157 #[.agg #[.slice A0 b.length c0, .slice A1 q.length c1], .int .i64 a] w (ReadPost w (readSec b q a)) := by
 have hn0 := hr0.2.1
 have hn1 := hr1.2.1
 have HR0 := Aside0.mk hr0
 have HR1 := Aside0.mk hr1
 have HC0 := Aside0.mk hc0
 clear hr0 hr1 hc0
 have NO := Aside0.mk (fun W (hb : Below w.heap.size w W) (h : readSec b q a = ([], false)) => show ReadPost w (readSec b q a) (.returned (.tuple #[.slice none 0 0, .bool false])) W from ⟨_, by rw [h], by rw [h]; exact Kd.R_nil _ _ _ _ _, hb⟩)
 by_cases h1 : 0 ≤ a ∧ a ≤ (b.length : Int) / 64 - 1
 ·
  have hs : isSec b a = true := by simp [isSec, secs, h1.1, h1.2]
  obtain ⟨h1, h2⟩ := h1
  obtain ⟨D, hD⟩ : ∃ D, diskOk b q = D := ⟨_, rfl⟩
  have HD := Aside0.mk hD
  have hW := fun (W : World) (hb : Below w.heap.size w W) => (diskOk_walk (c0 := c0) (c1 := c1) (Kd.C_below HR0.out hb) (Kd.C_below HR1.out hb))
  rw [hD] at hW
  have HW := Aside0.mk hW
  clear hW hD
  cases D with
  | false =>
   have HF := Aside0.mk (show readSec b q a = ([], false) from by simp [readSec, HD.out])
   clear hs
   go_enter Try.func157, Try.ntmps157
   go_wp2_with (first | (go_at_call 99; refine (HW.out _ (below_alloc (Below.refl _ _) _)).mono ?_; rintro e w' ⟨rfl, hb⟩; have HB := Aside0.mk (below_then (below_alloc (Below.refl _ _) _) (by simp) hb); clear hb) | go_in)
   go_ret2
   exact NO.out _ HB.out HF.out
  | true =>
   have HF := Aside0.mk (show readSec b q a = (sector b q a, true) from by simp [readSec, hs, HD.out])
   clear hs
   go_enter Try.func157, Try.ntmps157
   go_wp2_with (first | (go_at_call 99; refine (HW.out _ (below_alloc (Below.refl _ _) _)).mono ?_; rintro e w' ⟨rfl, hb⟩; have HB := Aside0.mk (below_then (below_alloc (Below.refl _ _) _) (by simp) hb); have BK := Aside0.mk (blk_below (blk_new w _) hb); have y0 := (blk_cell BK.out 0).trans rfl; have y1 := (blk_cell BK.out 1).trans rfl; clear hb BK) | go_in)
   have HP := Aside0.mk (diskOk_parts HD.out)
   go_loopg [6] q.length (fun gg s6 wr => ∃ z : Int, -1 ≤ z ∧ z < q.length ∧ z + 1 ≤ gg ∧ s6 = .int .i64 z ∧ wr = w' ∧ Aside0 (∀ j (hj : j < q.length), z < j → q[j].f0 ≠ a))
   case atStart => exact ⟨_, by omega, by omega, by omega, rfl, rfl, ⟨fun j hj h => by omega⟩⟩
   case round =>
    obtain ⟨z, hz1, hz2, hg, rfl, rfl, HA⟩ := hrel
    by_cases hz : 0 ≤ z
    ·
     obtain ⟨i, rfl⟩ : ∃ i : Nat, z = i := ⟨z.toNat, by omega⟩
     have hlt : i < q.length := by omega
     obtain ⟨ad, A2, c2, rfl, x0, x1, l1, g1⟩ := at_T142 (Kd.C_below HR1.out HB.out) (i : Int) (by omega) (by omega)
     have e0 : rd_T142 q (i : Int) = q[i] := by simp [rd_T142, List.getD_eq_getElem?_getD, List.getElem?_eq_getElem hlt]
     rw [e0] at x0 x1 l1 g1
     simp only [Int.toNat_natCast] at x0 x1
     clear e0
     obtain ⟨x, hx⟩ : ∃ x, q[i] = x := ⟨_, rfl⟩
     rw [hx] at x0 x1 l1 g1
     have HX := Aside0.mk hx
     have G1 := Aside0.mk g1
     clear hx g1 l1
     by_cases he : x.f0 = a
     ·
      have HE := Aside0.mk he
      have d1 : (x.f0 == a) = true := by simp [he]
      have hx64 : x.f1.length < 8796093022208 := by
       have := (HP.out.2.2.2 i hlt).2.2
       rw [HX.out] at this
       omega
      have HC := Aside0.mk (cloneB (c := c2) G1.out hx64)
      clear he hx64
      go_wp2_with (go_at_call 150; refine HC.out.mono ?_; rintro e w2 ⟨v, rfl, ho, hb⟩; have HO := Aside0.mk ho; have HB2 := Aside0.mk hb; clear ho hb)
      go_ret2
      refine ⟨v, by rw [HF.out]; rfl, ?_, below_then HB.out HB.out.size HB2.out⟩
      rw [HF.out]
      have hl : lastOf a q = some x.f1 := by rw [lastOf_hit a q i hlt (by rw [HX.out]; exact HE.out) (fun j hj h => HA.out j hj (by omega)), HX.out]
      show Kd.R _ _ _ _ _ _ (sector b q a)
      rw [sector, hl]
      exact Kd.R_lower HO.out HB.out.size
     ·
      have HE := Aside0.mk he
      have d1 : (x.f0 == a) = false := by simp [he]
      clear he
      go_wp2
      go_roundg i
      case measure => omega
      case rel =>
       refine ⟨_, by omega, by omega, by omega, rfl, rfl, ⟨fun j hj h => ?_⟩⟩
       by_cases e : j = i
       ·
        subst e
        rw [HX.out]
        exact HE.out
       ·
        exact HA.out j hj (by omega)
    ·
     obtain rfl : z = -1 := by omega
     obtain ⟨i5, hi5, hz5⟩ := Option.map_eq_some_iff.1 info5
     simp only [Prod.mk.injEq] at hz5
     have hcut := cut_mid 36 5 .i64 .i64 Try.underlying36 hi5 1 hz5.2.1 A0 b.length c0 (a * 64) ((a + 1) * 64) (by omega) (by omega) (by omega) HC0.out
     clear hz5
     have hlen : ((b.take ((a + 1) * 64).toNat).drop (a * 64).toNat).length = ((a + 1) * 64).toNat - (a * 64).toNat := by
      rw [List.length_drop, List.length_take]
      omega
     have HC := Aside0.mk (cloneB (c := c0 - (a * 64).toNat) (Kd.C_mid (lo := (a * 64).toNat) (hi := ((a + 1) * 64).toNat) (Kd.C_below HR0.out HB.out) (by omega) (by omega) HC0.out) (by rw [hlen]; omega))
     have hne : ¬ c0 = (a * 64).toNat := by have := HC0.out; omega
     rw [hlen, show (Kd.int .u8).sz = 1 from rfl, if_neg hne, Nat.mul_one] at HC
     simp only [if_neg hne, Nat.mul_one] at hcut
     clear hne
     have HL := Aside0.mk hlen
     clear hlen
     go_wp2_with (go_at_call 150; refine HC.out.mono ?_; rintro e w2 ⟨v, rfl, ho, hb⟩; have HO := Aside0.mk ho; have HB2 := Aside0.mk hb; clear ho hb)
     go_ret2
     refine ⟨v, by rw [HF.out]; rfl, ?_, below_then HB.out HB.out.size HB2.out⟩
     rw [HF.out]
     show Kd.R _ _ _ _ _ _ (sector b q a)
     rw [sector, lastOf_none a q (fun j hj => HA.out j hj (by omega))]
     exact Kd.R_lower HO.out HB.out.size
 ·
  have HF := Aside0.mk (show readSec b q a = ([], false) from by
   have : isSec b a = false := by
    simp only [isSec, secs]
    by_cases z : 0 ≤ a
    ·
     simp only [Bool.and_eq_false_iff]; exact Or.inr (decide_eq_false (fun h => h1 ⟨z, h⟩))
    ·
     simp [z]
   simp [readSec, this])
  by_cases z : 0 ≤ a
  ·
   have z2 : ¬ a ≤ (b.length : Int) / 64 - 1 := fun h => h1 ⟨z, h⟩
   clear h1
   go_enter Try.func157, Try.ntmps157
   go_wp2
   go_ret2
   exact NO.out _ (below_alloc (Below.refl _ _) _) HF.out
  ·
   clear h1
   go_enter Try.func157, Try.ntmps157
   go_wp2
   go_ret2
   exact NO.out _ (below_alloc (Below.refl _ _) _) HF.out
theorem impl_ReadSector.calls (A0_0 : Option Addr) (c0_0 : Nat) (l0_0 : List Int) (A0_1 : Option Addr) (c0_1 : Nat) (l0_1 : List (S142)) (a1 : Int) (r1 : List Int) (r2 : Bool) (w : World) (hr0_0 : Kd.C (Kd.int .u8) w A0_0 l0_0.length l0_0) (hc0_0 : l0_0.length ≤ c0_0) (hr0_1 : Kd.C k142 w A0_1 l0_1.length l0_1) (hc0_1 : l0_1.length ≤ c0_1) (h : impl_ReadSector.f l0_0 l0_1 a1 = some (r1, r2)) :
  Calls Try.prog 157 #[.agg #[.slice A0_0 l0_0.length c0_0, .slice A0_1 l0_1.length c0_1], .int .i64 a1] w fun e w' => ∃ v0_ : Value, e = .returned (.tuple #[v0_, .bool r2]) ∧ Kd.R (Kd.int .u8) 5 w' w.heap.size (fun _ => True) v0_ r1 ∧ Below w.heap.size w w' := by
 have e := Option.some.inj h
 have := readSec_walk (c1 := c0_1) a1 hr0_0 hc0_0 hr0_1
 rw [e] at this
 exact this
end Go.Proofs.Ytchmmnlmgkocoaa.L
