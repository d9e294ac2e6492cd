/- laws.FnExactHull's row holds: true, and the argument reads as it did; condition: none. -/
import Derived.Test.YtchmmnlmgkocoaaRows
import Derived.Test.YtchmmnlmgkocoaaXW
import Derived.WalkKit
import Derived.ProofKit
import Derived.OpenShut
import Derived.ShutString
import Derived.ChangeOld
import Derived.Below
import Derived.SizedLaws
import Derived.Deep.SlicePairs
set_option linter.unusedVariables false
namespace Go.Proofs.Ytchmmnlmgkocoaa.fnExactHull
open Go.ChangeShapes Go.WideShapes Go.ChangeAt Go.RowKit Go.Proofs.Ytchmmnlmgkocoaa.H Go.Proofs.YtchmmnlmgkocoaaW.PrintWords
theorem own : ownKnob Try.prog.godebug = none := by kernel_rfl
theorem laidOut : laidOutB Try.prog = true := by kernel_rfl
/-- a row of pairs that cells hold -/
theorem row149 {w : World} {a : Addr} {len : Nat} {V0 V1 : Nat → Value} (hn : len ≤ 9223372036854775807)
    (h : ∀ i, i < len → ∃ x y, w.cell? (a.add (i * 2)) = some (.int .i64 x) ∧ w.cell? (a.add (i * 2 + 1)) = some (.int .i64 y)) :
    ∃ l : List S149, l.length = len ∧ Kd.C k149 w (some a) len l := by
  induction len with
  | zero => exact ⟨[], rfl, rfl, by omega, fun h => absurd h (Nat.lt_irrefl 0)⟩
  | succ n ih =>
    obtain ⟨l, hl, hC⟩ := ih (by omega) (fun i hi => h i (by omega))
    obtain ⟨x, y, hx, hy⟩ := h n (by omega)
    refine ⟨l ++ [⟨x, y⟩], by simp [hl], by simp [hl], hn, fun _ => ⟨a, rfl, fun j p hj => ?_⟩⟩
    by_cases hjn : j < n
    · rw [List.getElem?_append_left (by omega)] at hj
      obtain ⟨ad, e, hc⟩ := hC.2.2 (by omega)
      obtain rfl := Option.some.inj e
      exact hc j p hj
    · have hlt := (List.getElem?_eq_some_iff.1 hj).1
      simp at hlt
      obtain rfl : j = n := by omega
      rw [List.getElem?_append_right (by omega), hl, Nat.sub_self] at hj
      obtain rfl : (⟨x, y⟩ : S149) = p := by simpa using hj
      refine ⟨[.int .i64 x, .int .i64 y], rfl, k149_mk w ⟨x, y⟩, fun i u hu => ?_⟩
      match i, hu with
      | 0, hu => obtain rfl := Option.some.inj hu; exact hx
      | 1, hu => obtain rfl := Option.some.inj hu; exact hy
      | _ + 2, hu => simp at hu
set_option maxRecDepth 100000 in
theorem lifted (os : Os) (started : os.Started) (H : Type) (enc : TypeId × Value → H) :
    ReturnsInHanded {} Try.checked os 7 .any (Rows.fnExactHullSpec.pre6 enc Try.prog Try.f7 Rows.fnExactHullRow.domain false) (Rows.fnExactHullSpec.post enc Try.prog Try.f7 false true false false) := by
  refine returnsInHanded_of_change_sized (C := Try.checked) own started (by kernel_rfl) Try.func7
    (ChangeSpec.witness6 (enc := enc) (C := Try.checked) false ⟨#[], #[.slice none 0 0], []⟩ 8 (by kernel_rfl) (by kernel_rfl) (by kernel_rfl) (by kernel_rfl)) ?_
  intro W base args ds gs before hval0 hW hcnd hsz0 _
  have hval : ∀ (j : Nat) t v, Try.f7.params[j]? = some t → args[j]? = some v → Value.okWide Try.prog W .any base t v := hval0
  have hW' := hW
  obtain ⟨p, q, hA0, hV, rfl, hfz, hnd⟩ := hW
  have hA : DataW.TrodAll enc Try.prog W 0 (fun _ => true) true Try.f7.params.toList args.toList ds p := hA0
  rw [Try.params7] at hA hval
  obtain ⟨v0, vs0, d0, ds0, p0, q0, hargs, rfl, rfl, h0, r0⟩ := trodAll_cons hA
  obtain ⟨rfl, rfl, rfl⟩ := trodAll_nil r0
  obtain rfl : args = #[v0] := by cases args; simp_all
  obtain ⟨rfl, rfl⟩ := trodVars_none hV
  obtain ⟨a0, len0, cap0, rfl⟩ := okWide_slice Try.underlying70 (hval 0 70 v0 rfl rfl)
  have k0 := h0
  have lt0 : ∀ x ∈ p0, x.block < W.heap.size := by obtain ⟨m, hm⟩ := k0; exact DataW.trod_lt m _ _ _ hm
  obtain ⟨l, hl, hC, hcap, hn⟩ : ∃ l : List S149, l.length = len0 ∧ Kd.C k149 W a0 len0 l ∧ len0 ≤ cap0 ∧ len0 ≤ 9223372036854775807 := by
    obtain ⟨fuel, hf⟩ := h0
    rcases Deep.open_slice_pairs Try.underlying70 Try.underlying149 (by kernel_rfl) rfl rfl (by kernel_rfl) (by kernel_rfl) hf with ⟨hcs, _⟩ | ⟨a, len, cap, m, n, V0, V1, D0, D1, P0, P1, hcs, _, hlc, hm, hmm, _, hx⟩
    · simp [Value.cells] at hcs
      obtain ⟨rfl, rfl, rfl⟩ := hcs
      exact ⟨[], rfl, Kd.C_nil _ _, Nat.le_refl _, by omega⟩
    · simp [Value.cells] at hcs
      obtain ⟨rfl, rfl, rfl⟩ := hcs
      have hb : len0 ≤ 9223372036854775807 := by simp only [maxLen] at hm; omega
      have hlm : len0 ≤ m := by rw [hmm]; split <;> omega
      obtain ⟨l, hl, hC⟩ := row149 (V0 := V0) (V1 := V1) hb (fun i hi => by
        obtain ⟨e0, e1, t0, t1⟩ := hx i (by omega)
        obtain ⟨x, ex, _⟩ := DataW.trod_int Try.underlying3 t0
        obtain ⟨y, ey, _⟩ := DataW.trod_int Try.underlying3 t1
        have f0 : V0 i = .int .i64 x := by simpa using ex
        have f1 : V1 i = .int .i64 y := by simpa using ey
        rw [f0] at e0
        rw [f1] at e1
        exact ⟨x, y, e0, e1⟩)
      exact ⟨l, hl, hC, hlc, hb⟩
  subst hl
  clear hA0 hval0 hsz0
  refine (Go.Proofs.Ytchmmnlmgkocoaa.H.exactHull_walk a0 cap0 l W hC hcap hn).mono fun e W' ⟨he, bel⟩ => ?_
  subst he
  exact ⟨_, rfl, _, _, _, [], _, [], hW', trodAll_mk1 (shut_bool Try.underlying4 _), (trodAll_cons_mk (Below.trod laidOut (by kernel_rfl) (of_decide_eq_true (by kernel_rfl)) k0 bel lt0) trodAll_mk0), rfl, bel.frame _, fun h => by cases h⟩
theorem over : Rows.fnExactHullRow.holds Try.pinned (OpenSpec.ofChange Rows.fnExactHullSpec) :=
  OpenClaim.holds_of_wide 7 Try.f7 rfl rfl rfl rfl rfl rfl rfl ⟨rfl, rfl, rfl, rfl, rfl⟩ rfl rfl rfl rfl rfl (by kernel_rfl) Try.func7 (by kernel_rfl)
    (of_decide_eq_true (by kernel_rfl)) (by unfold Func.isWrapper; first | (rw [if_pos (by decide +kernel)]; kernel_rfl) | (rw [if_neg (by decide +kernel)]; exact ⟨rfl, rfl⟩))
    (fun os started H enc _ => lifted os started H enc)
theorem proved : Rows.FnExactHullSaid := over
#print axioms proved
end Go.Proofs.Ytchmmnlmgkocoaa.fnExactHull
namespace Go.Proofs.Ytchmmnlmgkocoaa
/-- The row, under a short name, for the claim. -/
theorem fnExactHull_holds : Rows.FnExactHullSaid := fnExactHull.proved
end Go.Proofs.Ytchmmnlmgkocoaa
