/- comparePts comes to the sign of two points' order, laying blocks alone; no condition. -/
import Derived.Test.YtchmmnlmgkocoaaH1
import Derived.Shelf.SlSortCmp.NoneTotal
import Derived.WalkKit
import Derived.LoopTactic
import Derived.Deep.RegionWith
import Derived.KernelRfl
set_option linter.unusedVariables false
set_option linter.unusedSimpArgs false
namespace Go.Proofs
open Go.Shelf Go.RowKit Go.Lib Go.Sort Go.Proofs.YtchmmnlmgkocoaaW.PrintWords Go.Proofs.YtchmmnlmgkocoaaW.PrintLast Go.Proofs.YtchmmnlmgkocoaaW.PrintMore

/-- cmp.Compare's answer at two ints. -/
theorem Try.compareI (x y : Int) (w : World) : Calls Try.prog 172 #[.int .i64 x, .int .i64 y] w fun e w' => e = .returned (.int .i64 (Lib.compareInt x y)) ∧ w' = w := by
  unfold Lib.compareInt
  by_cases h : x < y
  · have h1 : decide (x < y) = true := decide_eq_true h
    go_enter Try.func172, Try.ntmps172
    go_wp2
    go_ret
    exact ⟨by simp [h], rfl⟩
  · have h1 : decide (x < y) = false := decide_eq_false h
    by_cases h2 : y < x
    · have h3 : decide (y < x) = true := decide_eq_true h2
      go_enter Try.func172, Try.ntmps172
      go_wp2
      go_ret
      exact ⟨by simp [h, h2], rfl⟩
    · have h3 : decide (y < x) = false := decide_eq_false h2
      go_enter Try.func172, Try.ntmps172
      go_wp2
      go_ret
      exact ⟨by simp [h, h2], rfl⟩

/-- cmp.Or of two ints: the first that is not 0. -/
theorem Try.orI (x y : Int) (b : Nat) (w : World) (h0 : w.cell? ⟨b, 0, none⟩ = some (.int .i64 x)) (h1 : w.cell? ⟨b, 1, none⟩ = some (.int .i64 y)) :
    Calls Try.prog 171 #[.slice (some ⟨b, 0, none⟩) 2 2] w fun e w' => e = .returned (.int .i64 (if x = 0 then y else x)) ∧ w' = w := by
  by_cases hx : x = 0
  · subst hx
    by_cases hy : y = 0
    · subst hy
      go_enter Try.func171, Try.ntmps171
      go_wp2
      refine wp_loop_rounds 3 ?_
      rw [rounds_succ]
      go_wp2
      rw [rounds_succ]
      go_wp2
      rw [rounds_succ]
      go_wp2
      go_ret
      exact ⟨rfl, rfl⟩
    · have hy' : (y != 0) = true := by simp [hy]
      go_enter Try.func171, Try.ntmps171
      go_wp2
      refine wp_loop_rounds 2 ?_
      rw [rounds_succ]
      go_wp2
      rw [rounds_succ]
      go_wp2
      go_ret
      exact ⟨rfl, rfl⟩
  · have hx' : (x != 0) = true := by simp [hx]
    go_enter Try.func171, Try.ntmps171
    go_wp2
    refine wp_loop_rounds 1 ?_
    rw [rounds_succ]
    go_wp2
    go_ret
    exact ⟨by simp [hx], rfl⟩

/-- A point's two cells. -/
def Try.encP (x : Int × Int) : List Value := [.int .i64 x.1, .int .i64 x.2]
/-- the order of points, as comparePts tells it -/
def Try.cfP (x y : Int × Int) : Int := if Lib.compareInt x.1 y.1 = 0 then Lib.compareInt x.2 y.2 else Lib.compareInt x.1 y.1

/-- Some draws on, with some blocks laid behind. -/
structure Try.Gr (w w' : World) : Prop where mk :: (out : ∃ q os, w' = grow (w.drewN q) os)
theorem Try.Gr.alloc {w w' : World} (h : Try.Gr w w') (o : Obj) : Try.Gr w (w'.alloc o) := by
  obtain ⟨q, os, rfl⟩ := h
  exact ⟨⟨q, os ++ #[o], by rw [alloc_eq_grow, grow_grow]⟩⟩
theorem Try.Gr.drew {w w' : World} (h : Try.Gr w w') : Try.Gr w w'.drew := by
  obtain ⟨q, os, rfl⟩ := h
  exact ⟨⟨q + 1, os, by show grow ((w.drewN q).drewN 1) os = _; rw [World.drewN_drewN]⟩⟩
theorem Try.Gr.refl (w : World) : Try.Gr w w := ⟨⟨0, #[], by rw [grow_empty]; rfl⟩⟩
def Try.comparePts.T1 : Bool × List (List Nat × List Nat) := (true, [([], []), ([0], [0]), ([], []), ([2], [2]), ([1, 3], [1, 3]), ([], []), ([5], [5]), ([], []), ([7], [7]), ([6, 8, 4], [6, 8]), ([4, 9], [4, 9]), ([10, 9], [10]), ([11, 11, 0, 1, 2, 3, 4, 5, 6, 7, 8, 9, 10, 11], [11])])
def Try.comparePts.B1 : List Nat := [0, 1, 0, 4, 15, 0, 32, 0, 128, 511, 1023, 2047, 4095]
theorem Try.comparePts.tab1 : rtab .any (opsOf Try.f110 1) = Try.comparePts.T1 := by kernel_rfl
theorem Try.comparePts.bits1 : waitsOk Try.comparePts.T1.2 Try.comparePts.B1 = true := by kernel_rfl
set_option maxHeartbeats 2000000 in
set_option maxRecDepth 100000 in
theorem Try.comparePts_any (a0_0 a0_1 a1_0 a1_1 : Int) (W : World) : Calls Try.prog 110 #[.agg #[.int .i64 a0_0, .int .i64 a0_1], .agg #[.int .i64 a1_0, .int .i64 a1_1]] W fun e w' => e = .returned (.int .i64 (if Lib.compareInt a0_0 a1_0 = 0 then Lib.compareInt a0_1 a1_1 else Lib.compareInt a0_0 a1_0)) ∧ Try.Gr W w' := by
  have hc1 := Aside0.mk fun w => Try.compareI a0_0 a1_0 w
  have hc2 := Aside0.mk fun w => Try.compareI a0_1 a1_1 w
  generalize Lib.compareInt a0_0 a1_0 = r1 at hc1 ⊢
  generalize Lib.compareInt a0_1 a1_1 = r2 at hc2 ⊢
  have ho := Aside0.mk fun B w => Try.orI r1 r2 B w
  generalize (if r1 = 0 then r2 else r1) = r3 at ho ⊢
  go_enter Try.func110, Try.ntmps110
  go_wp2
  have hG := Aside0.mk ((((Try.Gr.refl W).alloc (.cells #[.int .i64 a0_0, .int .i64 a0_1] 81)).alloc (.cells #[.int .i64 a1_0, .int .i64 a1_1] 81)).drew)
  refine start_ (n := 13) (S := fun w' => w'.cell? ⟨W.heap.size, 0, none⟩ = some (.int .i64 a0_0) ∧ w'.cell? ⟨W.heap.size, 1, none⟩ = some (.int .i64 a0_1) ∧ w'.cell? ⟨W.heap.size + 1, 0, none⟩ = some (.int .i64 a1_0) ∧ w'.cell? ⟨W.heap.size + 1, 1, none⟩ = some (.int .i64 a1_1)) (ds := []) #[false, false, false, false, false, false, false, false, false, false, false, false, false] (by kernel_rfl) rfl rfl ⟨by go_simp, by go_simp, by go_simp, by go_simp⟩ (fun hHeld => ?_); refine with_tabW Try.comparePts.tab1 Try.comparePts.bits1 (fun HT_ HW_ => ?_)
  generalize ((W.alloc (.cells #[.int .i64 a0_0, .int .i64 a0_1] 81)).alloc (.cells #[.int .i64 a1_0, .int .i64 a1_1] 81)).drew = w8 at hG hHeld ⊢
  refine pure_ (i := 0) (N := some 5) (v := ?_) (a' := ?_) #[true, false, false, false, false, false, false, false, false, false, false, false, false] rfl rfl (any_of HT_.out (by kernel_rfl)) (fun _ _ _ h => h) (Or.inl ⟨by rfl, ?_⟩) ?_ ?_
  rotate_left
  · intro w'
    go_simp
    with_reducible rfl
  rotate_left
  · simp only [Act.put, List.setIfInBounds_toArray, List.set_cons_zero, List.set_cons_succ, i64_w, i32_w]
    rfl
  refine pure_ (i := 2) (N := some 7) (v := ?_) (a' := ?_) #[true, false, true, false, false, false, false, false, false, false, false, false, false] rfl rfl (any_of HT_.out (by kernel_rfl)) (fun _ _ _ h => h) (Or.inl ⟨by rfl, ?_⟩) ?_ ?_
  rotate_left
  · intro w'
    go_simp
    with_reducible rfl
  rotate_left
  · simp only [Act.put, List.setIfInBounds_toArray, List.set_cons_zero, List.set_cons_succ, i64_w, i32_w]
    rfl
  refine pure_ (i := 5) (N := some 10) (v := ?_) (a' := ?_) #[true, false, true, false, false, true, false, false, false, false, false, false, false] rfl rfl (any_of HT_.out (by kernel_rfl)) (fun _ _ _ h => h) (Or.inl ⟨by rfl, ?_⟩) ?_ ?_
  rotate_left
  · intro w'
    go_simp
    with_reducible rfl
  rotate_left
  · simp only [Act.put, List.setIfInBounds_toArray, List.set_cons_zero, List.set_cons_succ, i64_w, i32_w]
    rfl
  refine pure_ (i := 7) (N := some 12) (v := ?_) (a' := ?_) #[true, false, true, false, false, true, false, true, false, false, false, false, false] rfl rfl (any_of HT_.out (by kernel_rfl)) (fun _ _ _ h => h) (Or.inl ⟨by rfl, ?_⟩) ?_ ?_
  rotate_left
  · intro w'
    go_simp
    with_reducible rfl
  rotate_left
  · simp only [Act.put, List.setIfInBounds_toArray, List.set_cons_zero, List.set_cons_succ, i64_w, i32_w]
    rfl
  refine take_ (i := 1) (N := some 6) (v := ?_) (a' := ?_) #[true, true, true, false, false, true, false, true, false, false, false, false, false] rfl rfl (take_ofW HT_.out HW_.out (by kernel_rfl)) (fun _ _ _ h => h) (Or.inl ⟨by rfl, ?_⟩) hHeld ?_ ?_
  rotate_left
  · rintro w' ⟨s0, s1, s2, s3⟩
    go_simp
    with_reducible rfl
  rotate_left
  · simp only [Act.put, List.setIfInBounds_toArray, List.set_cons_zero, List.set_cons_succ, i64_w, i32_w]
    rfl
  refine take_ (i := 3) (N := some 8) (v := ?_) (a' := ?_) #[true, true, true, true, false, true, false, true, false, false, false, false, false] rfl rfl (take_ofW HT_.out HW_.out (by kernel_rfl)) (fun _ _ _ h => h) (Or.inl ⟨by rfl, ?_⟩) hHeld ?_ ?_
  rotate_left
  · rintro w' ⟨s0, s1, s2, s3⟩
    go_simp
    with_reducible rfl
  rotate_left
  · simp only [Act.put, List.setIfInBounds_toArray, List.set_cons_zero, List.set_cons_succ, i64_w, i32_w]
    rfl
  refine take_ (i := 6) (N := some 11) (v := ?_) (a' := ?_) #[true, true, true, true, false, true, true, true, false, false, false, false, false] rfl rfl (take_ofW HT_.out HW_.out (by kernel_rfl)) (fun _ _ _ h => h) (Or.inl ⟨by rfl, ?_⟩) hHeld ?_ ?_
  rotate_left
  · rintro w' ⟨s0, s1, s2, s3⟩
    go_simp
    with_reducible rfl
  rotate_left
  · simp only [Act.put, List.setIfInBounds_toArray, List.set_cons_zero, List.set_cons_succ, i64_w, i32_w]
    rfl
  refine take_ (i := 8) (N := some 13) (v := ?_) (a' := ?_) #[true, true, true, true, false, true, true, true, true, false, false, false, false] rfl rfl (take_ofW HT_.out HW_.out (by kernel_rfl)) (fun _ _ _ h => h) (Or.inl ⟨by rfl, ?_⟩) hHeld ?_ ?_
  rotate_left
  · rintro w' ⟨s0, s1, s2, s3⟩
    go_simp
    with_reducible rfl
  rotate_left
  · simp only [Act.put, List.setIfInBounds_toArray, List.set_cons_zero, List.set_cons_succ, i64_w, i32_w]
    rfl
  refine one_ (i := 4) (N := some 9) #[true, true, true, true, true, true, true, true, true, false, false, false, false] rfl rfl (one_of HT_.out (by kernel_rfl)) (by decide) (fun K hK => ?_)
  refine goes_ Try.func172 (by kernel_rfl) rfl #[.int .i64 a0_0, .int .i64 a1_0] (by rfl) rfl rfl (by (try simp only [List.map_toArray, List.map_cons, List.map_nil]); first | done | rfl | (simp only [List.length_drop, List.length_take]; rfl)) ?_
  with_reducible refine (hc1.out _).mono ?_
  rintro e w' ⟨rfl, rfl⟩
  refine ⟨_, rfl, ?_⟩
  refine hK.out _ _ hHeld (fun hHeld => ?_)
  clear hK K
  refine norm_ (a' := ?_) ?_ ?_
  rotate_left
  · show Act.put _ (some 9) _ = _
    simp only [Act.put, List.setIfInBounds_toArray, List.set_cons_zero, List.set_cons_succ, i64_w, i32_w]
    rfl
  refine one_ (i := 9) (N := some 14) #[true, true, true, true, true, true, true, true, true, true, false, false, false] rfl rfl (one_of HT_.out (by kernel_rfl)) (by decide) (fun K hK => ?_)
  refine goes_ Try.func172 (by kernel_rfl) rfl #[.int .i64 a0_1, .int .i64 a1_1] (by rfl) rfl rfl (by (try simp only [List.map_toArray, List.map_cons, List.map_nil]); first | done | rfl | (simp only [List.length_drop, List.length_take]; rfl)) ?_
  with_reducible refine (hc2.out _).mono ?_
  rintro e w' ⟨rfl, rfl⟩
  refine ⟨_, rfl, ?_⟩
  refine hK.out _ _ hHeld (fun hHeld => ?_)
  clear hK K
  refine norm_ (a' := ?_) ?_ ?_
  rotate_left
  · show Act.put _ (some 14) _ = _
    simp only [Act.put, List.setIfInBounds_toArray, List.set_cons_zero, List.set_cons_succ, i64_w, i32_w]
    rfl
  refine one_ (i := 10) (N := some 15) #[true, true, true, true, true, true, true, true, true, true, true, false, false] rfl rfl (one_of HT_.out (by kernel_rfl)) (by decide) (fun K hK => ?_)
  refine event_step (v := .slice (some ⟨w'.heap.size, 0, none⟩) 2 2) (w1 := w'.alloc (.cells #[.int .i64 r1, .int .i64 r2] 3)) (by rfl) (by first | (go_simp; done) | (go_simp; rfl)) ?_
  have hG2 := Aside0.mk (hG.out.alloc (.cells #[.int .i64 r1, .int .i64 r2] 3))
  have hd0 : (w'.alloc (.cells #[.int .i64 r1, .int .i64 r2] 3)).cell? ⟨w'.heap.size, 0, none⟩ = some (.int .i64 r1) := by go_simp
  have hd1 : (w'.alloc (.cells #[.int .i64 r1, .int .i64 r2] 3)).cell? ⟨w'.heap.size, 1, none⟩ = some (.int .i64 r2) := by go_simp
  have hb0 : W.heap.size < w'.heap.size := by
    by_cases h : W.heap.size < w'.heap.size
    · exact h
    · have h2 := hHeld.1
      rw [World.cell?] at h2
      simp only [Array.getElem?_eq_none (Nat.le_of_not_lt h)] at h2
      cases h2
  have hb1 : W.heap.size + 1 < w'.heap.size := by
    by_cases h : W.heap.size + 1 < w'.heap.size
    · exact h
    · have h2 := hHeld.2.2.1
      rw [World.cell?] at h2
      simp only [Array.getElem?_eq_none (Nat.le_of_not_lt h)] at h2
      cases h2
  refine hK.out _ _ ⟨by first | (go_simp; done) | (go_simp; exact hHeld.1), by first | (go_simp; done) | (go_simp; exact hHeld.2.1), by first | (go_simp; done) | (go_simp; exact hHeld.2.2.1), by first | (go_simp; done) | (go_simp; exact hHeld.2.2.2)⟩ (fun hHeld => ?_)
  have hD := Aside0.mk (And.intro hd0 hd1)
  clear hd0 hd1 hb0 hb1
  clear hK K
  refine norm_ (a' := ?_) ?_ ?_
  rotate_left
  · show Act.put _ (some 15) _ = _
    simp only [Act.put, List.setIfInBounds_toArray, List.set_cons_zero, List.set_cons_succ, i64_w, i32_w]
    rfl
  refine one_ (i := 11) (N := some 16) #[true, true, true, true, true, true, true, true, true, true, true, true, false] rfl rfl (one_of HT_.out (by kernel_rfl)) (by decide) (fun K hK => ?_)
  refine goes_ Try.func171 (by kernel_rfl) rfl #[.slice (some ⟨w'.heap.size, 0, none⟩) 2 2] (by rfl) rfl rfl (by (try simp only [List.map_toArray, List.map_cons, List.map_nil]); first | done | rfl | (simp only [List.length_drop, List.length_take]; rfl)) ?_
  with_reducible refine (ho.out _ _ hD.out.1 hD.out.2).mono ?_
  rintro e w2 ⟨rfl, rfl⟩
  refine ⟨_, rfl, ?_⟩
  refine hK.out _ _ hHeld (fun hHeld => ?_)
  clear hK K
  refine norm_ (a' := ?_) ?_ ?_
  rotate_left
  · show Act.put _ (some 16) _ = _
    simp only [Act.put, List.setIfInBounds_toArray, List.set_cons_zero, List.set_cons_succ, i64_w, i32_w]
    rfl
  refine pure_ (i := 12) (N := some 4) (v := ?_) (a' := ?_) #[true, true, true, true, true, true, true, true, true, true, true, true, true] rfl rfl (any_of HT_.out (by kernel_rfl)) (fun _ _ _ h => h) (Or.inl ⟨by rfl, ?_⟩) ?_ ?_
  rotate_left
  · intro w'
    go_simp
    with_reducible rfl
  rotate_left
  · simp only [Act.put, List.setIfInBounds_toArray, List.set_cons_zero, List.set_cons_succ, i64_w, i32_w]
    rfl
  refine done_ (done_of HT_.out (by kernel_rfl)) ?_
  try go_wp2
  go_ret
  exact ⟨rfl, hG2.out⟩
theorem Try.cmpLays (blk off size : Nat) (w : World) : CmpLays Try.prog 110 #[] Try.encP 2 Try.cfP blk off size w :=
  fun _ _ _ _ x y => (Try.comparePts_any x.1 x.2 y.1 y.2 _).mono fun _ _ ⟨he, h⟩ => ⟨he, h.out⟩
end Go.Proofs
