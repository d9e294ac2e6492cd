/- laws.FnExactLogOpen's row holds: true, and the argument reads as it did; condition: none. -/
import Derived.Test.YtchmmnlmgkocoaaRows
import Derived.Test.YtchmmnlmgkocoaaLX
import Derived.WalkKit
import Derived.ProofKit
import Derived.OpenShut
import Derived.ShutString
import Derived.ChangeOld
import Derived.Below
import Derived.SizedLaws
import Derived.Deep.SlicePairs
import Derived.Test.YtchmmnlmgkocoaaO0
set_option linter.unusedVariables false
namespace Go.Proofs.Ytchmmnlmgkocoaa.fnExactLogOpen
open Go.ChangeShapes Go.WideShapes Go.ChangeAt Go.RowKit Go.Proofs.Ytchmmnlmgkocoaa.L Go.Proofs.Ytchmmnlmgkocoaa.O Go.Proofs.YtchmmnlmgkocoaaW.PrintWords
theorem own : ownKnob Try.prog.godebug = none := by kernel_rfl
theorem laidOut : laidOutB Try.prog = true := by kernel_rfl
section
variable {H : Type} {enc : TypeId × Value → H} {w : World} {base : Nat} {spare : Nat → Bool} {held : Bool}
theorem opens3 : Opens enc Try.prog w base spare held 3 (Kd.int .i64) (fun _ => True) := opens_mono (opens_int Try.underlying3) (fun _ _ => trivial)
theorem wf_u8 {n : Int} (h : (Lit.int .u8 n).wf = true) : 0 ≤ n ∧ n ≤ 255 := by
  simp [Lit.wf, IntKind.min, IntKind.max, IntKind.bits, IntKind.signed] at h
  omega
theorem opens5 : Opens enc Try.prog w base spare held 5 (Kd.int .u8) (fun n => 0 ≤ n ∧ n ≤ 255) := opens_mono (opens_int Try.underlying5) (fun _ h => wf_u8 h)
theorem opens36 : Opens enc Try.prog w base spare held 36 (Kd.slice 5 (Kd.int .u8)) (fun l => l.length ≤ 9223372036854775807 ∧ Byt l) := opens_slice 5 Try.underlying36 (by kernel_rfl) opens5
theorem opens177 : Opens enc Try.prog w base spare held 177 k177 (fun x => x.f1.length ≤ 9223372036854775807 ∧ Byt x.f1) :=
  opens_mono (opens_iso (fun x : S177 => (x.f0, x.f1)) (fun p => ⟨p.1, p.2⟩) (fun _ => rfl) (opens_pair Try.underlying177 (by kernel_rfl) rfl rfl (by kernel_rfl) (by kernel_rfl) opens3 opens36)) (fun _ h => h.2)
theorem opens37 : Opens enc Try.prog w base spare held 37 (Kd.slice 177 k177) (fun l => l.length ≤ 9223372036854775807 ∧ ∀ x ∈ l, x.f1.length ≤ 9223372036854775807 ∧ Byt x.f1) := opens_slice 177 Try.underlying37 (by kernel_rfl) opens177
theorem opens39 : Opens enc Try.prog w base spare held 39 (Kd.pair (Kd.slice 5 (Kd.int .u8)) (Kd.slice 177 k177)) (fun x => (x.1.length ≤ 9223372036854775807 ∧ Byt x.1) ∧ (x.2.length ≤ 9223372036854775807 ∧ ∀ y ∈ x.2, y.f1.length ≤ 9223372036854775807 ∧ Byt y.f1)) :=
  opens_pair Try.underlying39 (by kernel_rfl) rfl rfl (by kernel_rfl) (by kernel_rfl) opens36 opens37
end
set_option maxRecDepth 100000 in
theorem lifted (os : Os) (started : os.Started) (H : Type) (enc : TypeId × Value → H) :
    ReturnsInHanded {} Try.checked os 5 .any (Rows.fnExactLogOpenSpec.pre6 enc Try.prog Try.f5 Rows.fnExactLogOpenRow.domain false) (Rows.fnExactLogOpenSpec.post enc Try.prog Try.f5 false true false false) := by
  refine returnsInHanded_of_change_sized (C := Try.checked) own started (by kernel_rfl) Try.func5
    (ChangeSpec.witness6 (enc := enc) (C := Try.checked) false ⟨#[], #[.agg #[.slice none 0 0, .slice none 0 0], .int .i64 0, .int .i64 0], []⟩ 8 (by kernel_rfl) (by kernel_rfl) (by kernel_rfl) (by kernel_rfl)) ?_
  intro W base args ds gs before hval0 hW hcnd hsz0 _
  have hval : ∀ (j : Nat) t v, Try.f5.params[j]? = some t → args[j]? = some v → Value.okWide Try.prog W .any base t v := hval0
  have hW' := hW
  obtain ⟨p, q, hA0, hV, rfl, hfz, hnd⟩ := hW
  have hA : DataW.TrodAll enc Try.prog W 0 (fun _ => true) true Try.f5.params.toList args.toList ds p := hA0
  rw [Try.params5] at hA hval
  obtain ⟨v0, vs0, d0, ds0, p0, q0, hargs, rfl, rfl, h0, r0⟩ := trodAll_cons hA
  obtain ⟨v1, vs1, d1, ds1, p1, q1, rfl, rfl, rfl, h1, r1⟩ := trodAll_cons r0
  obtain ⟨v2, vs2, d2, ds2, p2, q2, rfl, rfl, rfl, h2, r2⟩ := trodAll_cons r1
  obtain ⟨rfl, rfl, rfl⟩ := trodAll_nil r2
  obtain rfl : args = #[v0, v1, v2] := by cases args; simp_all
  obtain ⟨rfl, rfl⟩ := trodVars_none hV
  obtain ⟨cs0, rfl, _⟩ := okWide_struct Try.underlying39 (hval 0 39 v0 rfl rfl)
  obtain ⟨a1, rfl⟩ := okWide_int Try.underlying3 (hval 1 3 v1 rfl rfl)
  obtain ⟨a2, rfl⟩ := okWide_int Try.underlying3 (hval 2 3 v2 rfl rfl)
  have k0 := h0
  have k1 := h1
  have k2 := h2
  have lt0 : ∀ x ∈ p0, x.block < W.heap.size := by obtain ⟨m, hm⟩ := k0; exact DataW.trod_lt m _ _ _ hm
  have lt1 : ∀ x ∈ p1, x.block < W.heap.size := by obtain ⟨m, hm⟩ := k1; exact DataW.trod_lt m _ _ _ hm
  have lt2 : ∀ x ∈ p2, x.block < W.heap.size := by obtain ⟨m, hm⟩ := k2; exact DataW.trod_lt m _ _ _ hm
  obtain ⟨A0, c0, A1, c1, b, q, rfl, hc0, hC0, hc1, hC1, hb, hyb, hq, hyq⟩ : ∃ A0 c0 A1 c1, ∃ (b : List Int) (q : List S177), cs0 = #[.slice A0 b.length c0, .slice A1 q.length c1] ∧ b.length ≤ c0 ∧ Kd.C (Kd.int .u8) W A0 b.length b ∧ q.length ≤ c1 ∧ Kd.C k177 W A1 q.length q ∧ b.length ≤ 9223372036854775807 ∧ Byt b ∧ q.length ≤ 9223372036854775807 ∧ ∀ y ∈ q, y.f1.length ≤ 9223372036854775807 ∧ Byt y.f1 := by
    obtain ⟨fuel, hf⟩ := h0
    obtain ⟨⟨b, q⟩, ⟨ca, cb, hcs, ⟨A0, c0, rfl, hc0, hC0⟩, ⟨A1, c1, rfl, hc1, hC1⟩⟩, ⟨hb, hyb⟩, hq, hyq⟩ := opens39 _ _ _ hf
    refine ⟨A0, c0, A1, c1, b, q, ?_, hc0, hC0, hc1, hC1, hb, hyb, hq, hyq⟩
    have : cs0.toList = [.slice A0 b.length c0, .slice A1 q.length c1] := by simpa [Value.cells] using hcs
    exact Array.toList_inj.1 this
  clear hA0 hval0 hsz0
  refine (Go.Proofs.Ytchmmnlmgkocoaa.L.exactOpen A0 A1 c0 c1 b q a1 a2 W hC0 hc0 hC1 hc1 hb hq (fun x hx => (hyq x hx).1) ⟨hyb, fun x hx => (hyq x hx).2⟩).mono fun e W' ⟨he, bel⟩ => ?_
  subst he
  exact ⟨_, rfl, _, _, _, [], _, [], hW', trodAll_mk1 (shut_bool Try.underlying4 _), (trodAll_cons_mk (Below.trod laidOut (by kernel_rfl) (of_decide_eq_true (by kernel_rfl)) k0 bel lt0) (trodAll_cons_mk (Below.trod laidOut (by kernel_rfl) (of_decide_eq_true (by kernel_rfl)) k1 bel lt1) (trodAll_cons_mk (Below.trod laidOut (by kernel_rfl) (of_decide_eq_true (by kernel_rfl)) k2 bel lt2) trodAll_mk0))), rfl, bel.frame _, fun h => by cases h⟩
theorem over : Rows.fnExactLogOpenRow.holds Try.pinned (OpenSpec.ofChange Rows.fnExactLogOpenSpec) :=
  OpenClaim.holds_of_wide 5 Try.f5 rfl rfl rfl rfl rfl rfl rfl ⟨rfl, rfl, rfl, rfl, rfl⟩ rfl rfl rfl rfl rfl (by kernel_rfl) Try.func5 (by kernel_rfl)
    (of_decide_eq_true (by kernel_rfl)) (by unfold Func.isWrapper; first | (rw [if_pos (by decide +kernel)]; kernel_rfl) | (rw [if_neg (by decide +kernel)]; exact ⟨rfl, rfl⟩))
    (fun os started H enc _ => lifted os started H enc)
theorem proved : Rows.FnExactLogOpenSaid := over
#print axioms proved
end Go.Proofs.Ytchmmnlmgkocoaa.fnExactLogOpen
namespace Go.Proofs.Ytchmmnlmgkocoaa
/-- The row, under a short name, for the claim. -/
theorem fnExactLogOpen_holds : Rows.FnExactLogOpenSaid := fnExactLogOpen.proved
end Go.Proofs.Ytchmmnlmgkocoaa
