/- impl.idAt and slices.Clone at rows of points; conditions: what their arguments' cells hold. -/
import Derived.Test.YtchmmnlmgkocoaaF0
import Derived.Test.YtchmmnlmgkocoaaHW
import Derived.LoopTactic
set_option linter.unusedVariables false
set_option linter.unusedSimpArgs false
namespace Go.Proofs.Ytchmmnlmgkocoaa.F
open Go.Proofs.Ytchmmnlmgkocoaa.H (S81 z81 k81 k81_open k81_openM k81_mk k81_mkM rd_T81 at_T81)
open Go.RowKit Go.Proofs.YtchmmnlmgkocoaaW.PrintWords Go.Proofs.YtchmmnlmgkocoaaW.PrintLast Go.Proofs.YtchmmnlmgkocoaaW.PrintMore
def impl_Pt.f (l : List S81) : Option (List S81) := if l.length < 8796093022208 then some l else none
theorem impl_Pt.calls (A0 : Option Addr) (c0 : Nat) (l0 : List S81) (r : List S81) (w : World) (hr0 : Kd.C k81 w A0 l0.length l0) (hc0 : l0.length ≤ c0) (h : impl_Pt.f l0 = some r) :
    Calls Try.prog 108 #[.slice A0 l0.length c0] w fun e w' => ∃ v0_ : Value, e = .returned v0_ ∧ Kd.R k81 81 w' w.heap.size (fun _ => True) v0_ r ∧ Below w.heap.size w w' := by
  unfold impl_Pt.f at h
  split at h
  · obtain rfl := Option.some.inj h
    rename_i hl
    exact H.clonePts hr0 hl
  · cases h
/-- the first entry of that number -/
def idx (a : Int) : List S110 → Nat → Int
  | [], _ => -1
  | x :: t, i => if x.f0 = a then (i : Int) else idx a t (i + 1)
def impl_idAt.f (l0 : List S110) (a1 : Int) : Option Int := some (idx a1 l0 0)
theorem idx_hit (a : Int) : ∀ (l : List S110) (s i : Nat) (h : i < l.length), (∀ j (hj : j < i), (l[j]'(by omega)).f0 ≠ a) → l[i].f0 = a → idx a l s = ((s + i : Nat) : Int)
  | [], _, _, h, _, _ => by simp at h
  | x :: t, s, 0, h, _, hx => by
    have : x.f0 = a := hx
    simp [idx, this]
  | x :: t, s, i + 1, h, hm, hx => by
    have h0 : x.f0 ≠ a := hm 0 (by omega)
    rw [idx, if_neg h0, idx_hit a t (s + 1) i (by simpa using h) (fun j hj => hm (j + 1) (by omega)) (by simpa using hx)]
    omega
theorem idx_miss (a : Int) : ∀ (l : List S110) (s : Nat), (∀ j (hj : j < l.length), l[j].f0 ≠ a) → idx a l s = -1
  | [], _, _ => rfl
  | x :: t, s, hm => by
    have h0 : x.f0 ≠ a := hm 0 (by simp)
    rw [idx, if_neg h0, idx_miss a t (s + 1) (fun j hj => hm (j + 1) (by simpa using hj))]
set_option maxHeartbeats 2000000 in
/-- the closure: is it that number? -/
theorem idPred {W : World} {x y a : Int} {v : Value} {B : Nat} (h1 : v.oneCell' = true) (hB : W.cell? ⟨B, 0, none⟩ = some (.int .i64 a)) :
    Calls Try.prog 141 #[.agg #[.int .i64 x, .int .i64 y, v], .pointer (some ⟨B, 0, none⟩)] W fun e w' => e = .returned (.bool (x == a)) ∧ Below W.heap.size W w' := by
  have hb0 := below_alloc (Below.refl W.heap.size W) (Obj.cells #[.int .i64 x, .int .i64 y, v] 110)
  have hB2 := (hb0.cell (p := ⟨B, 0, none⟩) (World.block_lt_of_cell? W _ hB)).trans hB
  go_enter Try.func141, Try.ntmps141
  go_wp2
  go_ret
  exact ⟨rfl, hb0⟩
set_option maxHeartbeats 4000000 in
theorem idxFunc {w : World} {A0 : Option Addr} {c0 : Nat} {l0 : List S110} {a : Int} {B : Nat} (hr0 : Kd.C k110 w A0 l0.length l0) (hB : w.cell? ⟨B, 0, none⟩ = some (.int .i64 a)) :
    Calls Try.prog 140 #[.slice A0 l0.length c0, .func (.func 141) #[] #[.pointer (some ⟨B, 0, none⟩)]] w fun e w' => e = .returned (.int .i64 (idx a l0 0)) ∧ Below w.heap.size w w' := by
  have hn := hr0.2.1
  have HR := Aside0.mk hr0
  have HBB := Aside0.mk hB
  clear hr0 hB
  go_enter Try.func140, Try.ntmps140
  go_wp2
  go_loopg [5, 8] l0.length (fun gg _ s8 wr => ∃ kk : Nat, kk ≤ l0.length ∧ l0.length - kk ≤ gg ∧ s8 = .int .i64 kk ∧ Aside0 (Below w.heap.size w wr) ∧ Aside0 (∀ j (hj : j < kk) (hl : j < l0.length), l0[j].f0 ≠ a))
  case atStart => exact ⟨0, Nat.zero_le _, by omega, rfl, ⟨Below.refl _ w⟩, ⟨fun j hj => absurd hj (Nat.not_lt_zero _)⟩⟩
  case round =>
    obtain ⟨kk, hkk, hg, rfl, BW, A⟩ := hrel
    by_cases hlt : kk < l0.length
    · have hltz : (kk : Int) < (l0.length : Int) := by omega
      obtain ⟨ad, A2, c2, rfl, h0, h1, h2, _, _⟩ := at_T110 HR.out (kk : Int) (by omega) (by omega)
      have e0 : rd_T110 l0 (kk : Int) = l0[kk] := by simp [rd_T110, List.getD_eq_getElem?_getD, List.getElem?_eq_getElem hlt]
      rw [e0] at h0 h1 h2
      replace h0 := (BW.out.cell (World.block_lt_of_cell? w _ h0)).trans h0
      replace h1 := (BW.out.cell (World.block_lt_of_cell? w _ h1)).trans h1
      replace h2 := (BW.out.cell (World.block_lt_of_cell? w _ h2)).trans h2
      simp only [Int.toNat_natCast] at h0 h1 h2
      have hp := fun (W : World) (hW : Below w.heap.size w W) => idPred (W := W) (x := l0[kk].f0) (y := l0[kk].f1.f0) (a := a) (v := .slice A2 l0[kk].f1.f1.length c2) (B := B) rfl ((hW.cell (World.block_lt_of_cell? w _ HBB.out)).trans HBB.out)
      obtain ⟨x, hx⟩ : ∃ x, l0[kk].f0 = x := ⟨_, rfl⟩
      rw [hx] at h0 hp
      generalize l0[kk].f1.f0 = y at h1 hp
      generalize l0[kk].f1.f1.length = m at h2 hp
      have HX := Aside0.mk hx
      clear hx e0
      by_cases hq : x = a
      · have hp1 : ∀ (W : World), Below w.heap.size w W → Calls Try.prog 141 #[.agg #[.int .i64 x, .int .i64 y, .slice A2 m c2], .pointer (some ⟨B, 0, none⟩)] W fun e w' => e = .returned (.bool true) ∧ Below W.heap.size W w' := by
          intro W hW
          have := hp W hW
          rw [show (x == a) = true by simpa using hq] at this
          exact this
        have HP := Aside0.mk hp1
        have HQ := Aside0.mk hq
        clear hp hp1 hq
        go_wp2_with fail
        refine (HP.out _ BW.out).mono ?_
        rintro e w' ⟨rfl, hb'⟩
        go_wp2
        go_ret
        refine ⟨?_, below_then BW.out BW.out.size hb'⟩
        rw [idx_hit a l0 0 kk hlt (fun j hj => A.out j hj (by omega)) (HX.out.trans HQ.out), Nat.zero_add]
        rfl
      · have hp1 : ∀ (W : World), Below w.heap.size w W → Calls Try.prog 141 #[.agg #[.int .i64 x, .int .i64 y, .slice A2 m c2], .pointer (some ⟨B, 0, none⟩)] W fun e w' => e = .returned (.bool false) ∧ Below W.heap.size W w' := by
          intro W hW
          have := hp W hW
          rw [show (x == a) = false by simpa using hq] at this
          exact this
        have HP := Aside0.mk hp1
        have HQ := Aside0.mk hq
        clear hp hp1 hq
        go_wp2_with fail
        refine (HP.out _ BW.out).mono ?_
        rintro e w' ⟨rfl, hb'⟩
        go_wp2
        go_roundg (l0.length - (kk + 1))
        case measure => omega
        case rel =>
          refine ⟨kk + 1, by omega, Nat.le_refl _, ?_, ⟨below_then BW.out BW.out.size hb'⟩, ⟨fun j hj hl => ?_⟩⟩
          · simp
          · by_cases hjk : j < kk
            · exact A.out j hjk hl
            · obtain rfl : j = kk := by omega
              rw [HX.out]
              exact HQ.out
    · have hltz : ¬ (kk : Int) < (l0.length : Int) := by omega
      have d1 : decide ((kk : Int) < (l0.length : Int)) = false := decide_eq_false hltz
      have d2 : decide (kk < l0.length) = false := decide_eq_false hlt
      go_wp2
      go_ret
      refine ⟨?_, BW.out⟩
      rw [idx_miss a l0 0 (fun j hj => A.out j (by omega) hj)]
      rfl
set_option maxHeartbeats 2000000 in
theorem impl_idAt.calls (A0 : Option Addr) (c0 : Nat) (l0 : List S110) (a1 : Int) (r : Int) (w : World) (hr0 : Kd.C k110 w A0 l0.length l0) (hc0 : l0.length ≤ c0) (h : impl_idAt.f l0 a1 = some r) :
    Calls Try.prog 68 #[.slice A0 l0.length c0, .int .i64 a1] w fun e w' => e = .returned (.int .i64 r) ∧ Below w.heap.size w w' := by
  obtain rfl := Option.some.inj h
  clear h
  have hb0 := below_alloc (Below.refl w.heap.size w) (Obj.cells #[.int .i64 a1] 3)
  have HC := Aside0.mk (Kd.C_below hr0 hb0)
  have HB := Aside0.mk hb0
  have HN := Aside0.mk (show (w.alloc (Obj.cells #[.int .i64 a1] 3)).cell? ⟨w.heap.size, 0, none⟩ = some (.int .i64 a1) from (blk_cell (blk_new w _) 0).trans rfl)
  clear hr0 hc0 hb0
  go_enter Try.func68, Try.ntmps68
  go_wp2_with fail
  refine (idxFunc HC.out HN.out).mono ?_
  rintro e w' ⟨rfl, hb'⟩
  go_wp2
  go_ret
  exact ⟨rfl, below_then HB.out HB.out.size hb'⟩
end Go.Proofs.Ytchmmnlmgkocoaa.F
