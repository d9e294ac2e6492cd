/- impl.sectorOf; conditions: what its argument's cells hold. -/
import Derived.Test.YtchmmnlmgkocoaaLA
import Derived.Test.YtchmmnlmgkocoaaL1
set_option linter.unusedVariables false
set_option linter.unusedSimpArgs false
namespace Go.Proofs.Ytchmmnlmgkocoaa.L
open Go.RowKit Go.Proofs.YtchmmnlmgkocoaaW.PrintWords Go.Proofs.YtchmmnlmgkocoaaW.PrintLast Go.Proofs.YtchmmnlmgkocoaaW.PrintMore
def SecPost (w : World) (A0 : Option Addr) (b : List Int) (r : Option S139) (e : Ending) (w' : World) : Prop := ∃ A c, e = .returned (.tuple #[.agg #[.int .i64 (r.getD z139).f0, .int .i64 (r.getD z139).f1, .int .u8 (r.getD z139).f2, .slice A (r.getD z139).f3.length c], .bool r.isSome]) ∧ (r.getD z139).f3.length ≤ c ∧ (∀ W, Kd.C (Kd.int .u8) W A0 b.length b → Kd.C (Kd.int .u8) W A (r.getD z139).f3.length (r.getD z139).f3) ∧ Below w.heap.size w w'
/-- what a sector's bytes tell; whether they are what they should be is told -/
def pieceOf (b : List Int) : List Int := (b.take (16 + rd b 9).toNat).drop 16
def parse (eq : Bool) (ep nu : Int) (b : List Int) : Option S139 :=
 if 44 < rd b 9 then none else if ¬ (1 ≤ ep ∧ ep ≤ 1000000) then none else if rd b 8 ≠ 2 ∧ (rd b 8 ≠ 1 ∨ rd b 9 ≠ 44) then none else if eq = true then some ⟨ep, nu, rd b 8, pieceOf b⟩ else none
theorem secNone {w W : World} {A0 : Option Addr} {b : List Int} {r : Option S139} (hr : r = none) (hb : Below w.heap.size w W) : SecPost w A0 b r (.returned (.tuple #[.agg #[.int .i64 0, .int .i64 0, .int .u8 0, .slice none 0 0], .bool false])) W := by
 subst hr
 exact ⟨none, 0, rfl, Nat.le_refl _, fun _ _ => Kd.C_nil _ _, hb⟩
theorem piece_len {b : List Int} {m : Int} (hl : b.length = 64) (hm : rd b 9 = m) (h0 : 0 ≤ m) (h1 : m ≤ 44) : (pieceOf b).length = (16 + m).toNat - 16 := by
 unfold pieceOf
 rw [hm, List.length_drop, List.length_take]
 omega
theorem piece_C {w : World} {A : Option Addr} {c : Nat} {b : List Int} {m : Int} (h : Kd.C (Kd.int .u8) w A b.length b) (hc : b.length ≤ c) (hl : b.length = 64) (hm : rd b 9 = m) (h0 : 0 ≤ m) (h1 : m ≤ 44) : Kd.C (Kd.int .u8) w (A.map (·.add 16)) (pieceOf b).length (pieceOf b) := by
 have := Kd.C_mid (lo := 16) (hi := (16 + m).toNat) h (by omega) (by omega) hc
 rw [if_neg (by omega)] at this
 unfold pieceOf
 rw [hm]
 exact this
/-- the first part: the three numbers are read -/
def Read3 (w : World) (gb s : Nat) (ep nu mk : Int) (w' : World) : Prop := w'.heap[gb]? = some (.cells #[.int .i64 0, .int .i64 0, .int .u8 0, .slice none 0 0] 139 (0, 0)) ∧ w'.heap[s]? = some (.cells #[.int .i64 ep, .int .i64 nu, .int .u8 mk, .slice none 0 0] 139 (0, 0)) ∧ gb ≠ s ∧ w.heap.size ≤ gb ∧ w.heap.size ≤ s ∧ Below w.heap.size w w'
def impl_sectorOf.T1 : Bool × List (List Nat × List Nat) := (true, [([], []), ([0], [0]), ([], []), ([2, 1], [2]), ([], []), ([4], [4]), ([5], [5]), ([1, 3, 6], [1, 3, 6]), ([], []), ([8, 7, 3, 0, 1, 2, 3, 4, 5, 6, 7, 8], [7, 8])])
def impl_sectorOf.B1 : List Nat := [0, 1, 0, 7, 0, 16, 48, 127, 0, 511]
theorem impl_sectorOf.tab1 : rtab .any (opsOf Try.f158 1) = impl_sectorOf.T1 := by kernel_rfl
theorem impl_sectorOf.bits1 : waitsOk impl_sectorOf.T1.2 impl_sectorOf.B1 = true := by kernel_rfl
set_option maxHeartbeats 8000000 in
set_option maxRecDepth 100000 in
theorem sectorOf_walk (A0 : Option Addr) (c0 : Nat) (l0 : List Int) (t138 t139 : Int) (w : World) (hr0 : Kd.C (Kd.int .u8) w A0 l0.length l0) (hc0 : l0.length ≤ c0) (hl : l0.length = 64)
  (h0 : impl_getLow.f l0 0 = some t138) (h4 : impl_getLow.f l0 4 = some t139) (r0 : 0 ≤ rd l0 9) (r1 : rd l0 9 ≤ 255) (k : Nat) (X : List Int) (E : Bool)
  (hX : 1 ≤ t138 ∧ t138 ≤ 1000000 → rd l0 9 ≤ 44 → (rd l0 8 = 2 ∨ rd l0 8 = 1 ∧ rd l0 9 = 44) → impl_sector_bytes.f k t138 t139 (rd l0 8) (pieceOf l0) = some X ∧ slices_Equal_byte_byte.f k X l0 = some E) :
  Calls Try.prog 158 #[.slice A0 l0.length c0] w (SecPost w A0 l0 (parse E t138 t139 l0)) := by
 have hu139 := Try.underlying139
 have HR0 := Aside0.mk hr0
 have HC0 := Aside0.mk hc0
 have HX := Aside0.mk hX
 have R9 := Aside0.mk (And.intro r0 r1)
 clear hr0 hc0 hX r0 r1
 have HB := Aside0.mk (Below.refl w.heap.size w)
 have A2 := Aside0.mk h0
 have A3 := Aside0.mk h4
 have HLen := Aside0.mk hl
 have c4b0 : decide (8 < (l0.length : Int)) = true := decide_eq_true (by omega)
 have c4b1 : decide (8 < l0.length) = true := decide_eq_true (by omega)
 clear hl h0 h4
 go_enter Try.func158, Try.ntmps158
 try go_wp2_with (first | ((with_reducible refine gate_dst (N := 2) rfl ?_); refine box_event ?hg (N := 2) ?hd (cs := #[.int .i64 0, .int .i64 0, .int .u8 0, .slice none 0 0]) (t := 139) ?hr ?_; (case hd => rfl); (case hg => rfl); (case hr => first | (go_simp; done) | (go_simp; rfl)); intro gb137 hg w5 hbox hb; have n0_ := Aside0.mk (below_step (by repeat (first | (with_reducible first | exact HB.out | apply below_alloc | apply pw_below_drewN | apply below_drew1) | exact HB.out)) hb); have n1_ := Aside0.mk (hbox); have n2_ := Aside0.mk ((by rw [hg]; exact (below_size (by repeat (first | (with_reducible first | exact HB.out | apply below_alloc | apply pw_below_drewN | apply below_drew1) | exact HB.out))) : w.heap.size ≤ gb137)); have n3_ := Aside0.mk ((by rw [hg]; exact (below_size (by repeat (first | (with_reducible first | exact HB.out | apply below_alloc | apply pw_below_drewN | apply below_drew1) | exact HB.out))) : w.heap.size ≤ gb137)); clear HB; have HB := n0_; have BK137 := n1_; have GW137 := n2_; have GE137 := n3_; clear n0_ n1_ n2_ n3_; clear hb hbox hg))
 have n0_ := Aside0.mk (blk_drew BK137.out)
 have n1_ := Aside0.mk (below_drew1 HB.out)
 clear BK137
 clear HB
 have BK137 := n0_
 have HB := n1_
 clear n0_ n1_
 have p140 : 0 ≤ (8 : Int) := (by omega)
 have q140 : 8 < (l0.length : Int) := of_decide_eq_true (by first | (with_reducible assumption) | assumption)
 obtain ⟨ad140, e140, hx140_0⟩ := Kd.at_int HR0.out 8 p140 q140
 have hw140_0 := hx140_0
 (try rw [show ((8 : Int)).toNat = 8 from rfl] at hw140_0)
 (try rw [show 8 * 1 = 8 from rfl] at hw140_0)
 (try simp only [Nat.reduceMul, Nat.reduceEqDiff, Go.Addr.add, ↓reduceIte] at hw140_0)
 cases e140
 (try simp only [show (8 : Int).toNat = 8 from rfl, Nat.reduceMul, Nat.reduceEqDiff, Go.Addr.add, ↓reduceIte] at hx140_0)
 have qi140 : (8 < l0.length) = True := eq_true (by omega)
 (try rw [show ((8 : Int)).toNat = 8 from rfl] at hx140_0)
 replace hx140_0 := (HB.out.cell (World.block_lt_of_cell? w _ hx140_0)).trans hx140_0
 replace p140 := eq_true p140
 replace q140 := eq_true q140
 refine start_ (n := 10) (S := fun w' => w'.cell? ⟨ad140.block, ad140.off + 8, none⟩ = some (.int .u8 (rd l0 8))) (ds := []) #[false, false, false, false, false, false, false, false, false, false] (by kernel_rfl) rfl rfl (((HB.out.cell (World.block_lt_of_cell? w _ hw140_0)).trans hw140_0)) (fun hHeld => ?_); refine with_tabW impl_sectorOf.tab1 impl_sectorOf.bits1 (fun HT_ HW_ => ?_)
 generalize w5.drew = w6 at BK137 HB hx140_0 hHeld ⊢
 refine pure_ (i := 0) (N := some 6) (v := ?_) (a' := ?_) #[true, false, false, false, false, false, false, false, false, false] rfl rfl (any_of HT_.out (by kernel_rfl)) (fun _ _ _ h => h) (Or.inl ⟨by rfl, ?_⟩) ?_ ?_
 rotate_left
 ·
  intro w'
  go_simp
  with_reducible rfl
 rotate_left
 ·
  simp only [Act.put, List.setIfInBounds_toArray, List.set_cons_zero, List.set_cons_succ, i64_w, i32_w]
  rfl
 refine pure_ (i := 2) (N := some 8) (v := ?_) (a' := ?_) #[true, false, true, false, false, false, false, false, false, false] rfl rfl (any_of HT_.out (by kernel_rfl)) (fun _ _ _ h => h) (Or.inl ⟨by rfl, ?_⟩) ?_ ?_
 rotate_left
 ·
  intro w'
  go_simp
  with_reducible rfl
 rotate_left
 ·
  simp only [Act.put, List.setIfInBounds_toArray, List.set_cons_zero, List.set_cons_succ, i64_w, i32_w]
  rfl
 refine pure_ (i := 4) (N := some 10) (v := ?_) (a' := ?_) #[true, false, true, false, true, false, false, false, false, false] rfl rfl (any_of HT_.out (by kernel_rfl)) (fun _ _ _ h => h) (Or.inl ⟨by rfl, ?_⟩) ?_ ?_
 rotate_left
 ·
  intro w'
  go_simp
  with_reducible rfl
 rotate_left
 ·
  simp only [Act.put, List.setIfInBounds_toArray, List.set_cons_zero, List.set_cons_succ, i64_w, i32_w]
  rfl
 refine pure_ (i := 5) (N := some 11) (v := ?_) (a' := ?_) #[true, false, true, false, true, true, false, false, false, false] rfl rfl (any_of HT_.out (by kernel_rfl)) (fun _ _ _ h => h) (Or.inl ⟨by rfl, ?_⟩) ?_ ?_
 rotate_left
 ·
  intro w'
  go_simp
  with_reducible rfl
 rotate_left
 ·
  simp only [Act.put, List.setIfInBounds_toArray, List.set_cons_zero, List.set_cons_succ, i64_w, i32_w]
  rfl
 refine take_ (i := 6) (N := some 12) (v := ?_) (a' := ?_) #[true, false, true, false, true, true, true, false, false, false] rfl rfl (take_ofW HT_.out HW_.out (by kernel_rfl)) (fun _ _ _ h => h) (Or.inl ⟨by rfl, ?_⟩) hHeld ?_ ?_
 rotate_left
 ·
  intro w' s0
  go_simp
  with_reducible rfl
 rotate_left
 ·
  simp only [Act.put, List.setIfInBounds_toArray, List.set_cons_zero, List.set_cons_succ, i64_w, i32_w]
  rfl
 refine join_ (σ := Nat) 1 #[true, true, true, true, true, true, true, true, true, false] (fun s_ => [(7, .int .i64 t138), (9, .int .i64 t139), (4, .pointer (some ⟨s_, 0, none⟩)), (13, .agg #[.int .i64 t138, .int .i64 t139, .int .u8 (rd l0 8), .slice none 0 0])]) (fun s_ w' => (w'.cell? ⟨ad140.block, ad140.off + 8, none⟩ = some (.int .u8 (rd l0 8))) ∧ (w'.heap[gb137]? = some (.cells #[.int .i64 0, .int .i64 0, .int .u8 0, .slice none 0 0] 139 (0, 0))) ∧ (w'.heap[s_]? = some (.cells #[.int .i64 0, .int .i64 0, .int .u8 0, .slice none 0 0] 139 (0, 0))) ∧ (w.heap.size ≤ s_) ∧ (w.heap.size ≤ s_) ∧ (gb137 ≠ s_) ∧ (s_ ≠ gb137) ∧ (Below w.heap.size w w')) ?_ ?_
 rotate_left
 ·
  intro hCont
  refine two_ (i := 1) (j := 8) (Ni := some 7) (Nj := some 4) #[true, true, true, false, true, true, true, false, false, false] #[true, false, true, false, true, true, true, false, true, false] rfl rfl rfl rfl (two_of HT_.out (by kernel_rfl)) (by decide) (by decide) (fun K hK => ?_) (fun K hK => ?_)
  ·
   skip
   refine goes_ Try.func191 (by kernel_rfl) rfl #[.slice (some ad140) l0.length c0, .int .i64 0] (by rfl) rfl rfl (by (try simp only [List.map_toArray, List.map_cons, List.map_nil]); first | done | rfl | (simp only [List.length_drop, List.length_take]; rfl)) ?_
   with_reducible refine (impl_getLow.calls _ _ l0 0 t138 _ ?side1 ?side2 A2.out).mono ?_
   (case side1 => repeat (first | exact (Kd.C_below HR0.out HB.out) | (with_reducible refine Kd.C_alloc ?_ _) | (with_reducible refine Kd.C_drewN ?_ _) | (with_reducible refine Kd.C_drew ?_)))
   (case side2 => exact HC0.out)
   rintro e w' ⟨rfl, ⟨nd, rfl⟩⟩
   refine ⟨_, rfl, ?_⟩
   refine hK.out _ _ (((HB.out.cell (World.block_lt_of_cell? w _ hw140_0)).trans hw140_0)) (fun hHeld => ?_)
   clear hK K
   refine norm_ (a' := ?_) ?_ ?_
   rotate_left
   ·
    show Act.put _ (some 7) _ = _
    simp only [Act.put, List.setIfInBounds_toArray, List.set_cons_zero, List.set_cons_succ, i64_w, i32_w]
    rfl
   refine two_ (i := 3) (j := 8) (Ni := some 9) (Nj := some 4) #[true, true, true, true, true, true, true, false, false, false] #[true, true, true, false, true, true, true, false, true, false] rfl rfl rfl rfl (two_of HT_.out (by kernel_rfl)) (by decide) (by decide) (fun K hK => ?_) (fun K hK => ?_)
   ·
    skip
    refine goes_ Try.func191 (by kernel_rfl) rfl #[.slice (some ad140) l0.length c0, .int .i64 4] (by rfl) rfl rfl (by (try simp only [List.map_toArray, List.map_cons, List.map_nil]); first | done | rfl | (simp only [List.length_drop, List.length_take]; rfl)) ?_
    with_reducible refine (impl_getLow.calls _ _ l0 4 t139 _ ?side1 ?side2 A3.out).mono ?_
    (case side1 => repeat (first | exact (Kd.C_below HR0.out (by repeat (first | (with_reducible first | exact HB.out | apply below_alloc | apply pw_below_drewN | apply below_drew1 | refine below_set ?_ GE137.out) | exact HB.out))) | (with_reducible refine Kd.C_alloc ?_ _) | (with_reducible refine Kd.C_drewN ?_ _) | (with_reducible refine Kd.C_drew ?_)))
    (case side2 => exact HC0.out)
    rintro e w' ⟨rfl, ⟨nd, rfl⟩⟩
    refine ⟨_, rfl, ?_⟩
    refine hK.out _ _ (((HB.out.cell (World.block_lt_of_cell? w _ hw140_0)).trans hw140_0)) (fun hHeld => ?_)
    clear hK K
    refine norm_ (a' := ?_) ?_ ?_
    rotate_left
    ·
     show Act.put _ (some 9) _ = _
     simp only [Act.put, List.setIfInBounds_toArray, List.set_cons_zero, List.set_cons_succ, i64_w, i32_w]
     rfl
    refine pure_ (i := 7) (N := some 13) (v := ?_) (a' := ?_) #[true, true, true, true, true, true, true, true, false, false] rfl rfl (any_of HT_.out (by kernel_rfl)) (fun _ _ _ h => h) (Or.inl ⟨by rfl, ?_⟩) ?_ ?_
    rotate_left
    ·
     intro w'
     go_simp
     with_reducible rfl
    rotate_left
    ·
     simp only [Act.put, List.setIfInBounds_toArray, List.set_cons_zero, List.set_cons_succ, i64_w, i32_w]
     rfl
    refine one_ (i := 8) (N := some 4) #[true, true, true, true, true, true, true, true, true, false] rfl rfl (one_of HT_.out (by kernel_rfl)) (by decide) (fun K hK => ?_)
    refine box_step ?hg (N := 4) ?hd (cs := #[.int .i64 0, .int .i64 0, .int .u8 0, .slice none 0 0]) (t := 139) ?hr ?_; (case hd => rfl); (case hg => rfl); (case hr => first | (go_simp; done) | (go_simp; rfl))
    intro gb141 hg w7 hbox hb
    have n0_ := Aside0.mk (blk_below (g := gb137) (o := .cells #[.int .i64 0, .int .i64 0, .int .u8 0, .slice none 0 0] 139 (0, 0)) (by (with_reducible repeat (first | refine blk_drewN ?_ _ | refine blk_drew ?_ | refine blk_alloc ?_ _)); exact BK137.out) hb)
    have n1_ := Aside0.mk (below_step (by repeat (first | (with_reducible first | exact HB.out | apply below_alloc | apply pw_below_drewN | apply below_drew1 | refine below_set ?_ GE137.out) | exact HB.out)) hb)
    have n2_ := Aside0.mk (hbox)
    have n3_ := Aside0.mk ((by rw [hg]; exact (below_size (by repeat (first | (with_reducible first | exact HB.out | apply below_alloc | apply pw_below_drewN | apply below_drew1 | refine below_set ?_ GE137.out) | exact HB.out))) : w.heap.size ≤ gb141))
    have n4_ := Aside0.mk ((by rw [hg]; exact (below_size (by repeat (first | (with_reducible first | exact HB.out | apply below_alloc | apply pw_below_drewN | apply below_drew1 | refine below_set ?_ GE137.out) | exact HB.out))) : w.heap.size ≤ gb141))
    have n5_ := Aside0.mk ((by rw [hg]; exact Nat.ne_of_lt (blk_lt (g := gb137) (o := .cells #[.int .i64 0, .int .i64 0, .int .u8 0, .slice none 0 0] 139 (0, 0)) (by (with_reducible repeat (first | refine blk_drewN ?_ _ | refine blk_drew ?_ | refine blk_alloc ?_ _)); exact BK137.out)) : gb137 ≠ gb141))
    have n6_ := Aside0.mk ((by rw [hg]; exact Nat.ne_of_gt (blk_lt (g := gb137) (o := .cells #[.int .i64 0, .int .i64 0, .int .u8 0, .slice none 0 0] 139 (0, 0)) (by (with_reducible repeat (first | refine blk_drewN ?_ _ | refine blk_drew ?_ | refine blk_alloc ?_ _)); exact BK137.out)) : gb141 ≠ gb137))
    clear BK137
    clear HB
    have BK137 := n0_
    have HB := n1_
    have BK141 := n2_
    have GW141 := n3_
    have GE141 := n4_
    have NB137_141 := n5_
    have NB141_137 := n6_
    clear n0_ n1_ n2_ n3_ n4_ n5_ n6_
    clear hb hbox hg
    refine hK.out _ _ (((HB.out.cell (World.block_lt_of_cell? w _ hw140_0)).trans hw140_0)) (fun hHeld => ?_)
    clear hK K
    refine norm_ (a' := ?_) ?_ ?_
    rotate_left
    ·
     show Act.put _ (some 4) _ = _
     simp only [Act.put, List.setIfInBounds_toArray, List.set_cons_zero, List.set_cons_succ, i64_w, i32_w]
     rfl
    exact norm_ (by simp only [putAll, Act.put, List.setIfInBounds_toArray, List.set_cons_zero, List.set_cons_succ]) (hCont (gb141) _ ⟨hHeld, (by (with_reducible repeat (first | refine blk_drewN ?_ _ | refine blk_drew ?_ | refine blk_alloc ?_ _)); exact BK137.out), (by (with_reducible repeat (first | refine blk_drewN ?_ _ | refine blk_drew ?_ | refine blk_alloc ?_ _)); exact BK141.out), GW141.out, GE141.out, NB137_141.out, NB141_137.out, (by repeat (first | (with_reducible first | exact HB.out | apply below_alloc | apply pw_below_drewN | apply below_drew1 | refine below_set ?_ GE137.out | refine below_set ?_ GE141.out) | exact HB.out))⟩)
   ·
    skip
    refine box_step ?hg (N := 4) ?hd (cs := #[.int .i64 0, .int .i64 0, .int .u8 0, .slice none 0 0]) (t := 139) ?hr ?_; (case hd => rfl); (case hg => rfl); (case hr => first | (go_simp; done) | (go_simp; rfl))
    intro gb141 hg w7 hbox hb
    have n0_ := Aside0.mk (blk_below (g := gb137) (o := .cells #[.int .i64 0, .int .i64 0, .int .u8 0, .slice none 0 0] 139 (0, 0)) (by (with_reducible repeat (first | refine blk_drewN ?_ _ | refine blk_drew ?_ | refine blk_alloc ?_ _)); exact BK137.out) hb)
    have n1_ := Aside0.mk (below_step (by repeat (first | (with_reducible first | exact HB.out | apply below_alloc | apply pw_below_drewN | apply below_drew1 | refine below_set ?_ GE137.out) | exact HB.out)) hb)
    have n2_ := Aside0.mk (hbox)
    have n3_ := Aside0.mk ((by rw [hg]; exact (below_size (by repeat (first | (with_reducible first | exact HB.out | apply below_alloc | apply pw_below_drewN | apply below_drew1 | refine below_set ?_ GE137.out) | exact HB.out))) : w.heap.size ≤ gb141))
    have n4_ := Aside0.mk ((by rw [hg]; exact (below_size (by repeat (first | (with_reducible first | exact HB.out | apply below_alloc | apply pw_below_drewN | apply below_drew1 | refine below_set ?_ GE137.out) | exact HB.out))) : w.heap.size ≤ gb141))
    have n5_ := Aside0.mk ((by rw [hg]; exact Nat.ne_of_lt (blk_lt (g := gb137) (o := .cells #[.int .i64 0, .int .i64 0, .int .u8 0, .slice none 0 0] 139 (0, 0)) (by (with_reducible repeat (first | refine blk_drewN ?_ _ | refine blk_drew ?_ | refine blk_alloc ?_ _)); exact BK137.out)) : gb137 ≠ gb141))
    have n6_ := Aside0.mk ((by rw [hg]; exact Nat.ne_of_gt (blk_lt (g := gb137) (o := .cells #[.int .i64 0, .int .i64 0, .int .u8 0, .slice none 0 0] 139 (0, 0)) (by (with_reducible repeat (first | refine blk_drewN ?_ _ | refine blk_drew ?_ | refine blk_alloc ?_ _)); exact BK137.out)) : gb141 ≠ gb137))
    clear BK137
    clear HB
    have BK137 := n0_
    have HB := n1_
    have BK141 := n2_
    have GW141 := n3_
    have GE141 := n4_
    have NB137_141 := n5_
    have NB141_137 := n6_
    clear n0_ n1_ n2_ n3_ n4_ n5_ n6_
    clear hb hbox hg
    refine hK.out _ _ (((HB.out.cell (World.block_lt_of_cell? w _ hw140_0)).trans hw140_0)) (fun hHeld => ?_)
    clear hK K
    refine norm_ (a' := ?_) ?_ ?_
    rotate_left
    ·
     show Act.put _ (some 4) _ = _
     simp only [Act.put, List.setIfInBounds_toArray, List.set_cons_zero, List.set_cons_succ, i64_w, i32_w]
     rfl
    refine one_ (i := 3) (N := some 9) #[true, true, true, true, true, true, true, false, true, false] rfl rfl (one_of HT_.out (by kernel_rfl)) (by decide) (fun K hK => ?_)
    refine goes_ Try.func191 (by kernel_rfl) rfl #[.slice (some ad140) l0.length c0, .int .i64 4] (by rfl) rfl rfl (by (try simp only [List.map_toArray, List.map_cons, List.map_nil]); first | done | rfl | (simp only [List.length_drop, List.length_take]; rfl)) ?_
    with_reducible refine (impl_getLow.calls _ _ l0 4 t139 _ ?side1 ?side2 A3.out).mono ?_
    (case side1 => repeat (first | exact (Kd.C_below HR0.out HB.out) | (with_reducible refine Kd.C_alloc ?_ _) | (with_reducible refine Kd.C_drewN ?_ _) | (with_reducible refine Kd.C_drew ?_)))
    (case side2 => exact HC0.out)
    rintro e w' ⟨rfl, ⟨nd, rfl⟩⟩
    refine ⟨_, rfl, ?_⟩
    refine hK.out _ _ (((HB.out.cell (World.block_lt_of_cell? w _ hw140_0)).trans hw140_0)) (fun hHeld => ?_)
    clear hK K
    refine norm_ (a' := ?_) ?_ ?_
    rotate_left
    ·
     show Act.put _ (some 9) _ = _
     simp only [Act.put, List.setIfInBounds_toArray, List.set_cons_zero, List.set_cons_succ, i64_w, i32_w]
     rfl
    refine pure_ (i := 7) (N := some 13) (v := ?_) (a' := ?_) #[true, true, true, true, true, true, true, true, true, false] rfl rfl (any_of HT_.out (by kernel_rfl)) (fun _ _ _ h => h) (Or.inl ⟨by rfl, ?_⟩) ?_ ?_
    rotate_left
    ·
     intro w'
     go_simp
     with_reducible rfl
    rotate_left
    ·
     simp only [Act.put, List.setIfInBounds_toArray, List.set_cons_zero, List.set_cons_succ, i64_w, i32_w]
     rfl
    exact norm_ (by simp only [putAll, Act.put, List.setIfInBounds_toArray, List.set_cons_zero, List.set_cons_succ]) (hCont (gb141) _ ⟨hHeld, (by (with_reducible repeat (first | refine blk_drewN ?_ _ | refine blk_drew ?_ | refine blk_alloc ?_ _)); exact BK137.out), (by (with_reducible repeat (first | refine blk_drewN ?_ _ | refine blk_drew ?_ | refine blk_alloc ?_ _)); exact BK141.out), GW141.out, GE141.out, NB137_141.out, NB141_137.out, (by repeat (first | (with_reducible first | exact HB.out | apply below_alloc | apply pw_below_drewN | apply below_drew1 | refine below_set ?_ GE137.out | refine below_set ?_ GE141.out) | exact HB.out))⟩)
  ·
   skip
   refine box_step ?hg (N := 4) ?hd (cs := #[.int .i64 0, .int .i64 0, .int .u8 0, .slice none 0 0]) (t := 139) ?hr ?_; (case hd => rfl); (case hg => rfl); (case hr => first | (go_simp; done) | (go_simp; rfl))
   intro gb141 hg w7 hbox hb
   have n0_ := Aside0.mk (blk_below (g := gb137) (o := .cells #[.int .i64 0, .int .i64 0, .int .u8 0, .slice none 0 0] 139 (0, 0)) (by (with_reducible repeat (first | refine blk_drewN ?_ _ | refine blk_drew ?_ | refine blk_alloc ?_ _)); exact BK137.out) hb)
   have n1_ := Aside0.mk (below_step (by repeat (first | (with_reducible first | exact HB.out | apply below_alloc | apply pw_below_drewN | apply below_drew1 | refine below_set ?_ GE137.out) | exact HB.out)) hb)
   have n2_ := Aside0.mk (hbox)
   have n3_ := Aside0.mk ((by rw [hg]; exact (below_size (by repeat (first | (with_reducible first | exact HB.out | apply below_alloc | apply pw_below_drewN | apply below_drew1 | refine below_set ?_ GE137.out) | exact HB.out))) : w.heap.size ≤ gb141))
   have n4_ := Aside0.mk ((by rw [hg]; exact (below_size (by repeat (first | (with_reducible first | exact HB.out | apply below_alloc | apply pw_below_drewN | apply below_drew1 | refine below_set ?_ GE137.out) | exact HB.out))) : w.heap.size ≤ gb141))
   have n5_ := Aside0.mk ((by rw [hg]; exact Nat.ne_of_lt (blk_lt (g := gb137) (o := .cells #[.int .i64 0, .int .i64 0, .int .u8 0, .slice none 0 0] 139 (0, 0)) (by (with_reducible repeat (first | refine blk_drewN ?_ _ | refine blk_drew ?_ | refine blk_alloc ?_ _)); exact BK137.out)) : gb137 ≠ gb141))
   have n6_ := Aside0.mk ((by rw [hg]; exact Nat.ne_of_gt (blk_lt (g := gb137) (o := .cells #[.int .i64 0, .int .i64 0, .int .u8 0, .slice none 0 0] 139 (0, 0)) (by (with_reducible repeat (first | refine blk_drewN ?_ _ | refine blk_drew ?_ | refine blk_alloc ?_ _)); exact BK137.out)) : gb141 ≠ gb137))
   clear BK137
   clear HB
   have BK137 := n0_
   have HB := n1_
   have BK141 := n2_
   have GW141 := n3_
   have GE141 := n4_
   have NB137_141 := n5_
   have NB141_137 := n6_
   clear n0_ n1_ n2_ n3_ n4_ n5_ n6_
   clear hb hbox hg
   refine hK.out _ _ (((HB.out.cell (World.block_lt_of_cell? w _ hw140_0)).trans hw140_0)) (fun hHeld => ?_)
   clear hK K
   refine norm_ (a' := ?_) ?_ ?_
   rotate_left
   ·
    show Act.put _ (some 4) _ = _
    simp only [Act.put, List.setIfInBounds_toArray, List.set_cons_zero, List.set_cons_succ, i64_w, i32_w]
    rfl
   refine one_ (i := 1) (N := some 7) #[true, true, true, false, true, true, true, false, true, false] rfl rfl (one_of HT_.out (by kernel_rfl)) (by decide) (fun K hK => ?_)
   refine goes_ Try.func191 (by kernel_rfl) rfl #[.slice (some ad140) l0.length c0, .int .i64 0] (by rfl) rfl rfl (by (try simp only [List.map_toArray, List.map_cons, List.map_nil]); first | done | rfl | (simp only [List.length_drop, List.length_take]; rfl)) ?_
   with_reducible refine (impl_getLow.calls _ _ l0 0 t138 _ ?side1 ?side2 A2.out).mono ?_
   (case side1 => repeat (first | exact (Kd.C_below HR0.out HB.out) | (with_reducible refine Kd.C_alloc ?_ _) | (with_reducible refine Kd.C_drewN ?_ _) | (with_reducible refine Kd.C_drew ?_)))
   (case side2 => exact HC0.out)
   rintro e w' ⟨rfl, ⟨nd, rfl⟩⟩
   refine ⟨_, rfl, ?_⟩
   refine hK.out _ _ (((HB.out.cell (World.block_lt_of_cell? w _ hw140_0)).trans hw140_0)) (fun hHeld => ?_)
   clear hK K
   refine norm_ (a' := ?_) ?_ ?_
   rotate_left
   ·
    show Act.put _ (some 7) _ = _
    simp only [Act.put, List.setIfInBounds_toArray, List.set_cons_zero, List.set_cons_succ, i64_w, i32_w]
    rfl
   refine one_ (i := 3) (N := some 9) #[true, true, true, true, true, true, true, false, true, false] rfl rfl (one_of HT_.out (by kernel_rfl)) (by decide) (fun K hK => ?_)
   refine goes_ Try.func191 (by kernel_rfl) rfl #[.slice (some ad140) l0.length c0, .int .i64 4] (by rfl) rfl rfl (by (try simp only [List.map_toArray, List.map_cons, List.map_nil]); first | done | rfl | (simp only [List.length_drop, List.length_take]; rfl)) ?_
   with_reducible refine (impl_getLow.calls _ _ l0 4 t139 _ ?side1 ?side2 A3.out).mono ?_
   (case side1 => repeat (first | exact (Kd.C_below HR0.out (by repeat (first | (with_reducible first | exact HB.out | apply below_alloc | apply pw_below_drewN | apply below_drew1 | refine below_set ?_ GE137.out | refine below_set ?_ GE141.out) | exact HB.out))) | (with_reducible refine Kd.C_alloc ?_ _) | (with_reducible refine Kd.C_drewN ?_ _) | (with_reducible refine Kd.C_drew ?_)))
   (case side2 => exact HC0.out)
   rintro e w' ⟨rfl, ⟨nd, rfl⟩⟩
   refine ⟨_, rfl, ?_⟩
   refine hK.out _ _ (((HB.out.cell (World.block_lt_of_cell? w _ hw140_0)).trans hw140_0)) (fun hHeld => ?_)
   clear hK K
   refine norm_ (a' := ?_) ?_ ?_
   rotate_left
   ·
    show Act.put _ (some 9) _ = _
    simp only [Act.put, List.setIfInBounds_toArray, List.set_cons_zero, List.set_cons_succ, i64_w, i32_w]
    rfl
   refine pure_ (i := 7) (N := some 13) (v := ?_) (a' := ?_) #[true, true, true, true, true, true, true, true, true, false] rfl rfl (any_of HT_.out (by kernel_rfl)) (fun _ _ _ h => h) (Or.inl ⟨by rfl, ?_⟩) ?_ ?_
   rotate_left
   ·
    intro w'
    go_simp
    with_reducible rfl
   rotate_left
   ·
    simp only [Act.put, List.setIfInBounds_toArray, List.set_cons_zero, List.set_cons_succ, i64_w, i32_w]
    rfl
   exact norm_ (by simp only [putAll, Act.put, List.setIfInBounds_toArray, List.set_cons_zero, List.set_cons_succ]) (hCont (gb141) _ ⟨hHeld, (by (with_reducible repeat (first | refine blk_drewN ?_ _ | refine blk_drew ?_ | refine blk_alloc ?_ _)); exact BK137.out), (by (with_reducible repeat (first | refine blk_drewN ?_ _ | refine blk_drew ?_ | refine blk_alloc ?_ _)); exact BK141.out), GW141.out, GE141.out, NB137_141.out, NB141_137.out, (by repeat (first | (with_reducible first | exact HB.out | apply below_alloc | apply pw_below_drewN | apply below_drew1 | refine below_set ?_ GE137.out | refine below_set ?_ GE141.out) | exact HB.out))⟩)
 rintro gb141 w8 ⟨hS_, h0_, h1_, h2_, h3_, h4_, h5_, h6_⟩
 have n0_ : Aside0 (w8.heap[gb137]? = some (.cells #[.int .i64 0, .int .i64 0, .int .u8 0, .slice none 0 0] 139 (0, 0))) := ⟨h0_⟩
 have n1_ : Aside0 (w8.heap[gb141]? = some (.cells #[.int .i64 0, .int .i64 0, .int .u8 0, .slice none 0 0] 139 (0, 0))) := ⟨h1_⟩
 have n2_ : Aside0 (w.heap.size ≤ gb141) := ⟨h2_⟩
 have n3_ : Aside0 (w.heap.size ≤ gb141) := ⟨h3_⟩
 have n4_ : Aside0 (gb137 ≠ gb141) := ⟨h4_⟩
 have n5_ : Aside0 (gb141 ≠ gb137) := ⟨h5_⟩
 have n6_ : Aside0 (Below w.heap.size w w8) := ⟨h6_⟩
 clear BK137
 clear HB
 clear h0_ h1_ h2_ h3_ h4_ h5_ h6_
 have BK137 := n0_
 have BK141 := n1_
 have GW141 := n2_
 have GE141 := n3_
 have NB137_141 := n4_
 have NB141_137 := n5_
 have HB := n6_
 clear n0_ n1_ n2_ n3_ n4_ n5_ n6_
 have hHeld : w8.cell? ⟨ad140.block, ad140.off + 8, none⟩ = some (.int .u8 (rd l0 8)) := hS_
 refine norm_ (a' := ?_) ?_ ?_
 rotate_left
 ·
  simp only [putAll, Act.put, List.setIfInBounds_toArray, List.set_cons_zero, List.set_cons_succ]
  rfl
 refine one_ (i := 9) (N := none) #[true, true, true, true, true, true, true, true, true, true] rfl rfl (one_of HT_.out (by kernel_rfl)) (by decide) (fun K hK => ?_)
 have hs9 : w8.cell? ⟨gb141, 0, none⟩ = some (.int .i64 0) := (blk_cell BK141.out 0).trans rfl
 have hfs9 := blk_frozen BK141.out 0
 have hns9_0 := NB137_141.out
 have hms9_0 := NB141_137.out
 have hs10 : w8.cell? ⟨gb141, 1, none⟩ = some (.int .i64 0) := (blk_cell BK141.out 1).trans rfl
 have hfs10 := blk_frozen BK141.out 1
 have hns10_0 := NB137_141.out
 have hms10_0 := NB141_137.out
 have hs11 : w8.cell? ⟨gb141, 2, none⟩ = some (.int .u8 0) := (blk_cell BK141.out 2).trans rfl
 have hfs11 := blk_frozen BK141.out 2
 have hns11_0 := NB137_141.out
 have hms11_0 := NB141_137.out
 have hs12 : w8.cell? ⟨gb141, 3, none⟩ = some (.slice none 0 0) := (blk_cell BK141.out 3).trans rfl
 have hfs12 := blk_frozen BK141.out 3
 have hns12_0 := NB137_141.out
 have hms12_0 := NB141_137.out
 refine skip_ (w1 := ?_) (by rfl) rfl ?_ ?_
 rotate_left
 ·
  go_simp
  rfl
 refine hK.out _ _ (((cell_far (p := ⟨gb141, _, none⟩) (by first | exact Nat.ne_of_lt (Nat.lt_of_lt_of_le (by have := World.block_lt_of_cell? _ _ hw140_0; first | rwa [add_block] at this | exact this) GW141.out) | (rw [add_block]; exact Nat.ne_of_lt (Nat.lt_of_lt_of_le (by have := World.block_lt_of_cell? _ _ hw140_0; first | rwa [add_block] at this | exact this) GW141.out)) | (show (Addr.add _ _).block ≠ _; rw [add_block]; exact Nat.ne_of_lt (Nat.lt_of_lt_of_le (by have := World.block_lt_of_cell? _ _ hw140_0; first | rwa [add_block] at this | exact this) GW141.out)) | (dsimp only; exact Nat.ne_of_lt (Nat.lt_of_lt_of_le (by have := World.block_lt_of_cell? _ _ hw140_0; first | rwa [add_block] at this | exact this) GW141.out))) _).trans (((cell_far (p := ⟨gb141, _, none⟩) (by first | exact Nat.ne_of_lt (Nat.lt_of_lt_of_le (by have := World.block_lt_of_cell? _ _ hw140_0; first | rwa [add_block] at this | exact this) GW141.out) | (rw [add_block]; exact Nat.ne_of_lt (Nat.lt_of_lt_of_le (by have := World.block_lt_of_cell? _ _ hw140_0; first | rwa [add_block] at this | exact this) GW141.out)) | (show (Addr.add _ _).block ≠ _; rw [add_block]; exact Nat.ne_of_lt (Nat.lt_of_lt_of_le (by have := World.block_lt_of_cell? _ _ hw140_0; first | rwa [add_block] at this | exact this) GW141.out)) | (dsimp only; exact Nat.ne_of_lt (Nat.lt_of_lt_of_le (by have := World.block_lt_of_cell? _ _ hw140_0; first | rwa [add_block] at this | exact this) GW141.out))) _).trans (((cell_far (p := ⟨gb141, _, none⟩) (by first | exact Nat.ne_of_lt (Nat.lt_of_lt_of_le (by have := World.block_lt_of_cell? _ _ hw140_0; first | rwa [add_block] at this | exact this) GW141.out) | (rw [add_block]; exact Nat.ne_of_lt (Nat.lt_of_lt_of_le (by have := World.block_lt_of_cell? _ _ hw140_0; first | rwa [add_block] at this | exact this) GW141.out)) | (show (Addr.add _ _).block ≠ _; rw [add_block]; exact Nat.ne_of_lt (Nat.lt_of_lt_of_le (by have := World.block_lt_of_cell? _ _ hw140_0; first | rwa [add_block] at this | exact this) GW141.out)) | (dsimp only; exact Nat.ne_of_lt (Nat.lt_of_lt_of_le (by have := World.block_lt_of_cell? _ _ hw140_0; first | rwa [add_block] at this | exact this) GW141.out))) _).trans (((cell_far (p := ⟨gb141, _, none⟩) (by first | exact Nat.ne_of_lt (Nat.lt_of_lt_of_le (by have := World.block_lt_of_cell? _ _ hw140_0; first | rwa [add_block] at this | exact this) GW141.out) | (rw [add_block]; exact Nat.ne_of_lt (Nat.lt_of_lt_of_le (by have := World.block_lt_of_cell? _ _ hw140_0; first | rwa [add_block] at this | exact this) GW141.out)) | (show (Addr.add _ _).block ≠ _; rw [add_block]; exact Nat.ne_of_lt (Nat.lt_of_lt_of_le (by have := World.block_lt_of_cell? _ _ hw140_0; first | rwa [add_block] at this | exact this) GW141.out)) | (dsimp only; exact Nat.ne_of_lt (Nat.lt_of_lt_of_le (by have := World.block_lt_of_cell? _ _ hw140_0; first | rwa [add_block] at this | exact this) GW141.out))) _).trans (hHeld))))))))) (fun hHeld => ?_)
 clear hK K
 refine done_ (done_of HT_.out (by kernel_rfl)) ?_
 have RD := Aside0.mk (show Read3 w gb137 gb141 t138 t139 (rd l0 8) _ from ⟨blk_far (blk_far (blk_far (blk_far BK137.out NB137_141.out _) NB137_141.out _) NB137_141.out _) NB137_141.out _, blk_put (blk_put (blk_put (blk_put BK141.out 0 (.int .i64 t138) rfl) 1 (.int .i64 t139) rfl) 2 (.int .u8 (rd l0 8)) rfl) 3 (.slice none 0 0) rfl, NB137_141.out, GW137.out, GW141.out, below_set (below_set (below_set (below_set HB.out GE141.out) GE141.out) GE141.out) GE141.out⟩)
 revert RD
 generalize ((((w8.setCell ⟨gb141, 0, none⟩ (.int .i64 t138)).setCell ⟨gb141, 1, none⟩ (.int .i64 t139)).setCell ⟨gb141, 2, none⟩ (.int .u8 (rd l0 8))).setCell ⟨gb141, 3, none⟩ (.slice none 0 0)) = w9
 intro RD
 clear hs9 hfs9 hns9_0 hms9_0 hs10 hfs10 hns10_0 hms10_0 hs11 hfs11 hns11_0 hms11_0 hs12 hfs12 hns12_0 hms12_0 HB GW137 GE137 GW141 GE141 NB137_141 NB141_137 hS_ BK137 BK141 HW_ HT_ qi140 p140 q140 hu139
 obtain ⟨hg, hs, hne, hwg, hws, hb⟩ := RD.out
 obtain ⟨ad9, e9, x9⟩ := Kd.at_int HR0.out 9 (by omega) (by have := HLen.out; omega)
 obtain rfl := Option.some.inj e9
 replace x9 := (hb.cell (World.block_lt_of_cell? w _ x9)).trans x9
 simp only [show (9 : Int).toNat = 9 from rfl, Go.Addr.add, Nat.reduceEqDiff, ↓reduceIte] at x9
 have z0 := (blk_cell hg 0).trans rfl
 have z1 := (blk_cell hg 1).trans rfl
 have z2 := (blk_cell hg 2).trans rfl
 have z3 := (blk_cell hg 3).trans rfl
 have f0 := blk_frozen hg 0
 have f1 := blk_frozen hg 1
 have f2 := blk_frozen hg 2
 have f3 := blk_frozen hg 3
 have y0 := (blk_cell hs 0).trans rfl
 have y1 := (blk_cell hs 1).trans rfl
 have y2 := (blk_cell hs 2).trans rfl
 have y3 := (blk_cell hs 3).trans rfl
 have q3 := blk_frozen hs 3
 have HNE := Aside0.mk hne
 have L9 : (9 : Int) < (l0.length : Int) := by have := HLen.out; omega
 clear hg hs e9
 obtain ⟨m, hm⟩ : ∃ m, rd l0 9 = m := ⟨_, rfl⟩
 have HM := Aside0.mk hm
 have R9' := R9.out
 rw [hm] at x9 R9'
 clear hm R9 hw140_0 hwg hws hb hne
 obtain ⟨r9, r9'⟩ := R9'
 have GWG := Aside0.mk RD.out.2.2.2.1
 have GWS := Aside0.mk RD.out.2.2.2.2.1
 obtain ⟨mk, hmk⟩ : ∃ mk, rd l0 8 = mk := ⟨_, rfl⟩
 have HMK := Aside0.mk hmk
 rw [hmk] at y2
 have RDs := Aside0.mk (show w9.heap[gb141]? = some (.cells #[.int .i64 t138, .int .i64 t139, .int .u8 mk, .slice none 0 0] 139 (0, 0)) from by rw [← hmk]; exact RD.out.2.1)
 clear hmk
 by_cases b1 : 44 < m
 ·
  have HP := Aside0.mk (show parse E t138 t139 l0 = none from by unfold parse; rw [HM.out, if_pos b1])
  go_wp2
  refine bodyPost_ret (results_ct rfl _ _ gb137 139 #[.int .i64 0, .int .i64 0, .int .u8 0, .slice none 0 0] (0, 0) _ rfl (blk_put (blk_put (blk_put (blk_put RD.out.1 0 _ rfl) 1 _ rfl) 2 _ rfl) 3 _ rfl) Try.underlying139 rfl (by kernel_rfl)) rfl ?_
  exact secNone (HP.out) (below_set (below_set (below_set (below_set (RD.out.2.2.2.2.2) GWG.out) GWG.out) GWG.out) GWG.out)
 ·
  by_cases b2 : 1 ≤ t138 ∧ t138 ≤ 1000000
  ·
   obtain ⟨b2, b2'⟩ := b2
   have HL := Aside0.mk (piece_len HLen.out HM.out r9 (by omega))
   obtain ⟨i5, hi5, hz5⟩ := Option.map_eq_some_iff.1 info5
   simp only [Prod.mk.injEq] at hz5
   have hcut := cut_mid 36 5 .i64 .i64 Try.underlying36 hi5 1 hz5.2.1 (some ad140) l0.length c0 16 (16 + m) (by omega) (by omega) (by have := HLen.out; omega) HC0.out
   have hnc : ¬ c0 = 16 := by have := HLen.out; have := HC0.out; omega
   simp only [show (16 : Int).toNat = 16 from rfl, if_neg hnc, Nat.mul_one, Option.map_some, ← HL.out] at hcut
   have HCQ := Aside0.mk (fun (W : World) (h : Kd.C (Kd.int .u8) W (some ad140) l0.length l0) => piece_C h HC0.out HLen.out HM.out r9 (by omega))
   have HCP := Aside0.mk (fun (W : World) (h : Below w.heap.size w W) => HCQ.out W (Kd.C_below HR0.out h))
   simp only [Option.map_some] at HCP HCQ
   have HLC := Aside0.mk (show (pieceOf l0).length ≤ c0 - 16 from by rw [HL.out]; have := HC0.out; have := HLen.out; omega)
   have B44 := Aside0.mk (show m ≤ 44 from by omega)
   obtain ⟨pc, hpc⟩ : ∃ pc, pieceOf l0 = pc := ⟨_, rfl⟩
   have HPC := Aside0.mk hpc
   rw [hpc] at hcut HCP HCQ HLC
   clear hz5 hi5 hnc HL hpc b1
   have b44 : m ≤ 44 := B44.out
   have W1s := Aside0.mk (show (w9.setCell ⟨gb141, 3, none⟩ (.slice (some (ad140.add 16)) pc.length (c0 - 16))).heap[gb141]? = some (.cells #[.int .i64 t138, .int .i64 t139, .int .u8 mk, .slice (some (ad140.add 16)) pc.length (c0 - 16)] 139 (0, 0)) from blk_put RDs.out 3 _ rfl)
   have W1g := Aside0.mk (blk_far (p := ⟨gb141, 3, none⟩) RD.out.1 HNE.out (.slice (some (ad140.add 16)) pc.length (c0 - 16)))
   have W1b := Aside0.mk (below_set (w := w) RD.out.2.2.2.2.2 (j := 3) GWS.out (v := .slice (some (ad140.add 16)) pc.length (c0 - 16)))
   by_cases b3 : mk = 2 ∨ mk = 1 ∧ m = 44
   ·
    have HX1 := Aside0.mk (HX.out ⟨b2, b2'⟩ (by rw [HM.out]; exact B44.out) (by rw [HMK.out, HM.out]; exact b3))
    rw [HMK.out, HPC.out] at HX1
    have HPA := Aside0.mk (show parse E t138 t139 l0 = if E = true then some ⟨t138, t139, mk, pc⟩ else none from by
     unfold parse
     rw [HM.out, HMK.out, if_neg (by have := B44.out; omega), if_neg (by omega), if_neg (by omega), HPC.out])
    have b31 : (mk != 2) = true → (mk != 1) = false ∧ (m != 44) = false := fun h => by
     have : mk ≠ 2 := by simpa using h
     rcases b3 with h2 | ⟨h2, h3⟩
     ·
      exact absurd h2 this
     ·
      exact ⟨by simp [h2], by simp [h3]⟩
    have B31 := Aside0.mk b31
    clear b31 b3 HX
    cases hq : (mk != 2) with
    | false =>
     clear B31
     cases E with
     | false =>
      have HP := Aside0.mk (show parse false t138 t139 l0 = none from by rw [HPA.out]; rfl)
      go_wp2_with (first | (go_at_call 98; refine (impl_sector_bytes.calls k t138 t139 mk _ _ pc X _ (HCP.out _ W1b.out) HLC.out HX1.out.1).mono ?_; rintro e w2 ⟨v, rfl, hR_, hb_⟩; obtain ⟨A2, c2, rfl, hl_, hC_⟩ := Kd.R_reads hR_; have HC2 := Aside0.mk hC_; have HL2 := Aside0.mk hl_; have B2 := Aside0.mk (below_then W1b.out W1b.out.size hb_); have BG := Aside0.mk (blk_below W1g.out hb_); have BS := Aside0.mk (blk_below W1s.out hb_); clear hR_ hb_ hl_ hC_ z0 z1 z2 z3 f0 f1 f2 f3 y0 y1 y2 y3 q3 x9; have z0 := (blk_cell BG.out 0).trans rfl; have z1 := (blk_cell BG.out 1).trans rfl; have z2 := (blk_cell BG.out 2).trans rfl; have z3 := (blk_cell BG.out 3).trans rfl; have f0 := blk_frozen BG.out 0; have f1 := blk_frozen BG.out 1; have f2 := blk_frozen BG.out 2; have f3 := blk_frozen BG.out 3; have y0 := (blk_cell BS.out 0).trans rfl; have y1 := (blk_cell BS.out 1).trans rfl; have y2 := (blk_cell BS.out 2).trans rfl; have y3 := (blk_cell BS.out 3).trans rfl) | (go_at_call 192; refine (slices_Equal_byte_byte.calls k A2 c2 X (some ad140) c0 l0 _ _ HC2.out HL2.out (Kd.C_below HR0.out B2.out) HC0.out HX1.out.2).mono ?_; rintro e w3 ⟨rfl, ⟨nd, rfl⟩⟩) | go_in)
      refine bodyPost_ret (results_ct rfl _ _ gb137 139 #[.int .i64 0, .int .i64 0, .int .u8 0, .slice none 0 0] (0, 0) _ rfl (blk_put (blk_put (blk_put (blk_put (show (w2.drewN nd).heap[gb137]? = _ from BG.out) 0 _ rfl) 1 _ rfl) 2 _ rfl) 3 _ rfl) Try.underlying139 rfl (by kernel_rfl)) rfl ?_
      exact secNone (HP.out) (below_set (below_set (below_set (below_set (pw_below_drewN B2.out nd) GWG.out) GWG.out) GWG.out) GWG.out)
     | true =>
      have HP := Aside0.mk (show parse true t138 t139 l0 = some ⟨t138, t139, mk, pc⟩ from by rw [HPA.out]; rfl)
      go_wp2_with (first | (go_at_call 98; refine (impl_sector_bytes.calls k t138 t139 mk _ _ pc X _ (HCP.out _ W1b.out) HLC.out HX1.out.1).mono ?_; rintro e w2 ⟨v, rfl, hR_, hb_⟩; obtain ⟨A2, c2, rfl, hl_, hC_⟩ := Kd.R_reads hR_; have HC2 := Aside0.mk hC_; have HL2 := Aside0.mk hl_; have B2 := Aside0.mk (below_then W1b.out W1b.out.size hb_); have BG := Aside0.mk (blk_below W1g.out hb_); have BS := Aside0.mk (blk_below W1s.out hb_); clear hR_ hb_ hl_ hC_ z0 z1 z2 z3 f0 f1 f2 f3 y0 y1 y2 y3 q3 x9; have z0 := (blk_cell BG.out 0).trans rfl; have z1 := (blk_cell BG.out 1).trans rfl; have z2 := (blk_cell BG.out 2).trans rfl; have z3 := (blk_cell BG.out 3).trans rfl; have f0 := blk_frozen BG.out 0; have f1 := blk_frozen BG.out 1; have f2 := blk_frozen BG.out 2; have f3 := blk_frozen BG.out 3; have y0 := (blk_cell BS.out 0).trans rfl; have y1 := (blk_cell BS.out 1).trans rfl; have y2 := (blk_cell BS.out 2).trans rfl; have y3 := (blk_cell BS.out 3).trans rfl) | (go_at_call 192; refine (slices_Equal_byte_byte.calls k A2 c2 X (some ad140) c0 l0 _ _ HC2.out HL2.out (Kd.C_below HR0.out B2.out) HC0.out HX1.out.2).mono ?_; rintro e w3 ⟨rfl, ⟨nd, rfl⟩⟩) | go_in)
      refine bodyPost_ret (results_ct rfl _ _ gb137 139 #[.int .i64 t138, .int .i64 t139, .int .u8 mk, .slice (some (ad140.add 16)) pc.length (c0 - 16)] (0, 0) _ rfl (blk_put (blk_put (blk_put (blk_put (show (w2.drewN nd).heap[gb137]? = _ from BG.out) 0 _ rfl) 1 _ rfl) 2 _ rfl) 3 _ rfl) Try.underlying139 rfl (by kernel_rfl)) rfl ?_
      rw [HP.out]
      have hb4 := below_set (j := 3) (v := .slice (some (ad140.add 16)) pc.length (c0 - 16)) (below_set (j := 2) (v := .int .u8 mk) (below_set (j := 1) (v := .int .i64 t139) (below_set (j := 0) (v := .int .i64 t138) (pw_below_drewN B2.out nd) GWG.out) GWG.out) GWG.out) GWG.out
      exact ⟨_, _, rfl, HLC.out, HCQ.out, hb4⟩
    | true =>
     obtain ⟨b32, b33⟩ := B31.out hq
     clear B31
     cases E with
     | false =>
      have HP := Aside0.mk (show parse false t138 t139 l0 = none from by rw [HPA.out]; rfl)
      go_wp2_with (first | (go_at_call 98; refine (impl_sector_bytes.calls k t138 t139 mk _ _ pc X _ (HCP.out _ W1b.out) HLC.out HX1.out.1).mono ?_; rintro e w2 ⟨v, rfl, hR_, hb_⟩; obtain ⟨A2, c2, rfl, hl_, hC_⟩ := Kd.R_reads hR_; have HC2 := Aside0.mk hC_; have HL2 := Aside0.mk hl_; have B2 := Aside0.mk (below_then W1b.out W1b.out.size hb_); have BG := Aside0.mk (blk_below W1g.out hb_); have BS := Aside0.mk (blk_below W1s.out hb_); clear hR_ hb_ hl_ hC_ z0 z1 z2 z3 f0 f1 f2 f3 y0 y1 y2 y3 q3 x9; have z0 := (blk_cell BG.out 0).trans rfl; have z1 := (blk_cell BG.out 1).trans rfl; have z2 := (blk_cell BG.out 2).trans rfl; have z3 := (blk_cell BG.out 3).trans rfl; have f0 := blk_frozen BG.out 0; have f1 := blk_frozen BG.out 1; have f2 := blk_frozen BG.out 2; have f3 := blk_frozen BG.out 3; have y0 := (blk_cell BS.out 0).trans rfl; have y1 := (blk_cell BS.out 1).trans rfl; have y2 := (blk_cell BS.out 2).trans rfl; have y3 := (blk_cell BS.out 3).trans rfl) | (go_at_call 192; refine (slices_Equal_byte_byte.calls k A2 c2 X (some ad140) c0 l0 _ _ HC2.out HL2.out (Kd.C_below HR0.out B2.out) HC0.out HX1.out.2).mono ?_; rintro e w3 ⟨rfl, ⟨nd, rfl⟩⟩) | go_in)
      refine bodyPost_ret (results_ct rfl _ _ gb137 139 #[.int .i64 0, .int .i64 0, .int .u8 0, .slice none 0 0] (0, 0) _ rfl (blk_put (blk_put (blk_put (blk_put (show (w2.drewN nd).heap[gb137]? = _ from BG.out) 0 _ rfl) 1 _ rfl) 2 _ rfl) 3 _ rfl) Try.underlying139 rfl (by kernel_rfl)) rfl ?_
      exact secNone (HP.out) (below_set (below_set (below_set (below_set (pw_below_drewN B2.out nd) GWG.out) GWG.out) GWG.out) GWG.out)
     | true =>
      have HP := Aside0.mk (show parse true t138 t139 l0 = some ⟨t138, t139, mk, pc⟩ from by rw [HPA.out]; rfl)
      go_wp2_with (first | (go_at_call 98; refine (impl_sector_bytes.calls k t138 t139 mk _ _ pc X _ (HCP.out _ W1b.out) HLC.out HX1.out.1).mono ?_; rintro e w2 ⟨v, rfl, hR_, hb_⟩; obtain ⟨A2, c2, rfl, hl_, hC_⟩ := Kd.R_reads hR_; have HC2 := Aside0.mk hC_; have HL2 := Aside0.mk hl_; have B2 := Aside0.mk (below_then W1b.out W1b.out.size hb_); have BG := Aside0.mk (blk_below W1g.out hb_); have BS := Aside0.mk (blk_below W1s.out hb_); clear hR_ hb_ hl_ hC_ z0 z1 z2 z3 f0 f1 f2 f3 y0 y1 y2 y3 q3 x9; have z0 := (blk_cell BG.out 0).trans rfl; have z1 := (blk_cell BG.out 1).trans rfl; have z2 := (blk_cell BG.out 2).trans rfl; have z3 := (blk_cell BG.out 3).trans rfl; have f0 := blk_frozen BG.out 0; have f1 := blk_frozen BG.out 1; have f2 := blk_frozen BG.out 2; have f3 := blk_frozen BG.out 3; have y0 := (blk_cell BS.out 0).trans rfl; have y1 := (blk_cell BS.out 1).trans rfl; have y2 := (blk_cell BS.out 2).trans rfl; have y3 := (blk_cell BS.out 3).trans rfl) | (go_at_call 192; refine (slices_Equal_byte_byte.calls k A2 c2 X (some ad140) c0 l0 _ _ HC2.out HL2.out (Kd.C_below HR0.out B2.out) HC0.out HX1.out.2).mono ?_; rintro e w3 ⟨rfl, ⟨nd, rfl⟩⟩) | go_in)
      refine bodyPost_ret (results_ct rfl _ _ gb137 139 #[.int .i64 t138, .int .i64 t139, .int .u8 mk, .slice (some (ad140.add 16)) pc.length (c0 - 16)] (0, 0) _ rfl (blk_put (blk_put (blk_put (blk_put (show (w2.drewN nd).heap[gb137]? = _ from BG.out) 0 _ rfl) 1 _ rfl) 2 _ rfl) 3 _ rfl) Try.underlying139 rfl (by kernel_rfl)) rfl ?_
      rw [HP.out]
      have hb4 := below_set (j := 3) (v := .slice (some (ad140.add 16)) pc.length (c0 - 16)) (below_set (j := 2) (v := .int .u8 mk) (below_set (j := 1) (v := .int .i64 t139) (below_set (j := 0) (v := .int .i64 t138) (pw_below_drewN B2.out nd) GWG.out) GWG.out) GWG.out) GWG.out
      exact ⟨_, _, rfl, HLC.out, HCQ.out, hb4⟩
   ·
    have HP := Aside0.mk (show parse E t138 t139 l0 = none from by
     unfold parse
     rw [HM.out, HMK.out, if_neg (by have := B44.out; omega), if_neg (by omega), if_pos (by omega)])
    have hq : (mk != 2) = true := by simp; omega
    by_cases b4 : mk = 1
    ·
     have b5 : (mk != 1) = false := by simp [b4]
     have b6 : (m != 44) = true := by simp; omega
     clear b3 b4 HX
     have n1 := HNE.out
     have n2 : gb141 ≠ gb137 := fun h => HNE.out h.symm
     go_wp2
     refine bodyPost_ret (results_ct rfl _ _ gb137 139 #[.int .i64 0, .int .i64 0, .int .u8 0, .slice none 0 0] (0, 0) _ rfl (blk_put (blk_put (blk_put (blk_put W1g.out 0 _ rfl) 1 _ rfl) 2 _ rfl) 3 _ rfl) Try.underlying139 rfl (by kernel_rfl)) rfl ?_
     exact secNone (HP.out) (below_set (below_set (below_set (below_set (W1b.out) GWG.out) GWG.out) GWG.out) GWG.out)
    ·
     have b5 : (mk != 1) = true := by simp [b4]
     clear b3 b4 HX
     have n1 := HNE.out
     have n2 : gb141 ≠ gb137 := fun h => HNE.out h.symm
     go_wp2
     refine bodyPost_ret (results_ct rfl _ _ gb137 139 #[.int .i64 0, .int .i64 0, .int .u8 0, .slice none 0 0] (0, 0) _ rfl (blk_put (blk_put (blk_put (blk_put W1g.out 0 _ rfl) 1 _ rfl) 2 _ rfl) 3 _ rfl) Try.underlying139 rfl (by kernel_rfl)) rfl ?_
     exact secNone (HP.out) (below_set (below_set (below_set (below_set (W1b.out) GWG.out) GWG.out) GWG.out) GWG.out)
  ·
   have HP := Aside0.mk (show parse E t138 t139 l0 = none from by unfold parse; rw [HM.out, if_neg b1, if_pos b2])
   by_cases b3 : 1 ≤ t138
   ·
    have b4 : ¬ t138 ≤ 1000000 := fun h => b2 ⟨b3, h⟩
    clear b2
    go_wp2
    refine bodyPost_ret (results_ct rfl _ _ gb137 139 #[.int .i64 0, .int .i64 0, .int .u8 0, .slice none 0 0] (0, 0) _ rfl (blk_put (blk_put (blk_put (blk_put RD.out.1 0 _ rfl) 1 _ rfl) 2 _ rfl) 3 _ rfl) Try.underlying139 rfl (by kernel_rfl)) rfl ?_
    exact secNone (HP.out) (below_set (below_set (below_set (below_set (RD.out.2.2.2.2.2) GWG.out) GWG.out) GWG.out) GWG.out)
   ·
    clear b2
    go_wp2
    refine bodyPost_ret (results_ct rfl _ _ gb137 139 #[.int .i64 0, .int .i64 0, .int .u8 0, .slice none 0 0] (0, 0) _ rfl (blk_put (blk_put (blk_put (blk_put RD.out.1 0 _ rfl) 1 _ rfl) 2 _ rfl) 3 _ rfl) Try.underlying139 rfl (by kernel_rfl)) rfl ?_
    exact secNone (HP.out) (below_set (below_set (below_set (below_set (RD.out.2.2.2.2.2) GWG.out) GWG.out) GWG.out) GWG.out)
/-- what impl.sectorOf comes to -/
def flat (r : Option S139) : Int × Int × Int × List Int × Bool := ((r.getD z139).f0, (r.getD z139).f1, (r.getD z139).f2, (r.getD z139).f3, r.isSome)
def impl_sectorOf.f (k : Nat) (l0 : List Int) : Option (Int × Int × Int × List Int × Bool) :=
 (impl_getLow.f l0 0).bind fun ep => (impl_getLow.f l0 4).bind fun nu => if l0.length = 64 ∧ 0 ≤ rd l0 9 ∧ rd l0 9 ≤ 255 then (if (parse true ep nu l0).isNone = true then some (flat none) else (impl_sector_bytes.f k ep nu (rd l0 8) (pieceOf l0)).bind fun X => (slices_Equal_byte_byte.f k X l0).bind fun E => some (flat (parse E ep nu l0))) else none
theorem impl_sectorOf.mono : ∀ a0 k, LeO (impl_sectorOf.f k a0) (impl_sectorOf.f (k + 1) a0) := by
 intro a0 k
 unfold impl_sectorOf.f
 refine LeO.bind (LeO.refl _) fun ep => LeO.bind (LeO.refl _) fun nu => LeO.ite (LeO.ite (LeO.refl _) ?_) (LeO.refl _)
 exact LeO.bind (impl_sector_bytes.mono _ _ _ _ _) fun X => LeO.bind (slices_Equal_byte_byte.mono _ _ _) fun E => LeO.refl _
theorem parse_none {E : Bool} {ep nu : Int} {b : List Int} (h : (parse true ep nu b).isNone = true) : parse E ep nu b = none := by
 unfold parse at h ⊢
 split
 ·
  rfl
 ·
  split
  ·
   rfl
  ·
   split
   ·
    rfl
   ·
    rename_i h1 h2 h3
    rw [if_neg h1, if_neg h2, if_neg h3] at h
    simp at h
theorem parse_some {ep nu : Int} {b : List Int} (h1 : 1 ≤ ep ∧ ep ≤ 1000000) (h2 : rd b 9 ≤ 44) (h3 : rd b 8 = 2 ∨ rd b 8 = 1 ∧ rd b 9 = 44) : (parse true ep nu b).isNone = false := by
 unfold parse
 rw [if_neg (by omega), if_neg (by omega), if_neg (by omega)]
 rfl
set_option maxHeartbeats 4000000 in
theorem impl_sectorOf.calls (k : Nat) (ok : Nat → Prop) (A0 : Option Addr) (c0 : Nat) (l0 : List Int) (r1 r2 r3 : Int) (r4 : List Int) (r5 : Bool) (w : World) (hv : Kd.V (Kd.int .u8) 5 w w.heap.size ok (.slice A0 l0.length c0) l0) (h : impl_sectorOf.f k l0 = some (r1, r2, r3, r4, r5)) :
  Calls Try.prog 158 #[.slice A0 l0.length c0] w fun e w' => ∃ v3_ : Value, e = .returned (.tuple #[.agg #[.int .i64 r1, .int .i64 r2, .int .u8 r3, v3_], .bool r5]) ∧ Kd.V (Kd.int .u8) 5 w' w.heap.size (fun k_ => ok k_ ∨ w.heap.size ≤ k_) v3_ r4 ∧ Below w.heap.size w w' := by
 obtain ⟨_, hc0, hF⟩ := Kd.V_at hv
 obtain ⟨ep, e0, h⟩ := Option.bind_eq_some_iff.1 h
 obtain ⟨nu, e4, h⟩ := Option.bind_eq_some_iff.1 h
 split at h
 ·
  rename_i hl
  obtain ⟨hl, h9, h9'⟩ := hl
  have key : ∃ X E, (1 ≤ ep ∧ ep ≤ 1000000 → rd l0 9 ≤ 44 → (rd l0 8 = 2 ∨ rd l0 8 = 1 ∧ rd l0 9 = 44) → impl_sector_bytes.f k ep nu (rd l0 8) (pieceOf l0) = some X ∧ slices_Equal_byte_byte.f k X l0 = some E) ∧ flat (parse E ep nu l0) = (r1, r2, r3, r4, r5) := by
   split at h
   ·
    rename_i hn
    exact ⟨[], true, (fun q1 q2 q3 => by rw [parse_some q1 q2 q3] at hn; cases hn), (by rw [parse_none hn]; exact Option.some.inj h)⟩
   ·
    obtain ⟨X, eX, h⟩ := Option.bind_eq_some_iff.1 h
    obtain ⟨E, eE, h⟩ := Option.bind_eq_some_iff.1 h
    exact ⟨X, E, fun _ _ _ => ⟨eX, eE⟩, Option.some.inj h⟩
  obtain ⟨X, E, hX, hr⟩ := key
  refine (sectorOf_walk A0 c0 l0 ep nu w (Kd.F_now hF) hc0 hl e0 e4 h9 h9' k X E hX).mono fun e w' ⟨A, c, he, hlc, hC, hb⟩ => ?_
  simp only [flat, Prod.mk.injEq] at hr
  obtain ⟨q1, q2, q3, q4, q5⟩ := hr
  rw [q1, q2, q3, q4, q5] at he
  rw [q4] at hlc hC
  refine ⟨_, he, ⟨A, c, rfl, hlc, ?_⟩, hb⟩
  exact Kd.F_mono (Kd.F_below (Kd.F_imp hF (fun W hW => hC W hW)) hb) (fun k hk => Or.inl hk)
 ·
  cases h
end Go.Proofs.Ytchmmnlmgkocoaa.L
