/- laws.FnExactFind's row holds: true, and the argument reads as it did; condition: none. -/
import Derived.Test.YtchmmnlmgkocoaaRows
import Derived.Test.YtchmmnlmgkocoaaFX
import Derived.WalkKit
import Derived.ProofKit
import Derived.OpenShut
import Derived.ShutString
import Derived.ChangeOld
import Derived.Below
import Derived.SizedLaws
import Derived.Deep.SlicePairs
import Derived.Test.YtchmmnlmgkocoaaO0
set_option linter.unusedVariables false
namespace Go.Proofs.Ytchmmnlmgkocoaa.fnExactFind
open Go.ChangeShapes Go.WideShapes Go.ChangeAt Go.RowKit Go.Proofs.Ytchmmnlmgkocoaa.F Go.Proofs.Ytchmmnlmgkocoaa.O Go.Proofs.YtchmmnlmgkocoaaW.PrintWords
theorem own : ownKnob Try.prog.godebug = none := by kernel_rfl
theorem laidOut : laidOutB Try.prog = true := by kernel_rfl
section
variable {H : Type} {enc : TypeId × Value → H} {w : World} {base : Nat} {spare : Nat → Bool} {held : Bool}
theorem opens3 : Opens enc Try.prog w base spare held 3 (Kd.int .i64) (fun _ => True) := opens_mono (opens_int Try.underlying3) (fun _ _ => trivial)
theorem opens149 : Opens enc Try.prog w base spare held 149 k149 (fun _ => True) :=
  opens_mono (opens_iso (fun x : S149 => (x.f0, x.f1)) (fun p => ⟨p.1, p.2⟩) (fun _ => rfl) (opens_pair Try.underlying149 (by kernel_rfl) rfl rfl (by kernel_rfl) (by kernel_rfl) opens3 opens3)) (fun _ _ => trivial)
theorem opens70 : Opens enc Try.prog w base spare held 70 (Kd.slice 149 k149) (fun l => l.length ≤ 9223372036854775807) := opens_mono (opens_slice 149 Try.underlying70 (by kernel_rfl) opens149) (fun _ h => h.1)
theorem opens104 : Opens enc Try.prog w base spare held 104 (Kd.slice 70 (Kd.slice 149 k149)) (fun s => s.length ≤ 9223372036854775807 ∧ ∀ r ∈ s, r.length ≤ 9223372036854775807) := opens_slice 70 Try.underlying104 (by kernel_rfl) opens70
theorem opens106 : Opens enc Try.prog w base spare held 106 k106 (fun x => x.f1.length ≤ 9223372036854775807 ∧ ∀ r ∈ x.f1, r.length ≤ 9223372036854775807) :=
  opens_mono (opens_iso (fun x : S106 => (x.f0, x.f1)) (fun p => ⟨p.1, p.2⟩) (fun _ => rfl) (opens_pair Try.underlying106 (by kernel_rfl) rfl rfl (by kernel_rfl) (by kernel_rfl) opens3 opens104)) (fun _ h => h.2)
theorem opens108 : Opens enc Try.prog w base spare held 108 k108 (fun x => x.f1.f1.length ≤ 9223372036854775807 ∧ ∀ r ∈ x.f1.f1, r.length ≤ 9223372036854775807) :=
  opens_mono (opens_iso (fun x : S108 => (x.f0, x.f1)) (fun p => ⟨p.1, p.2⟩) (fun _ => rfl) (opens_pair Try.underlying108 (by kernel_rfl) rfl rfl (by kernel_rfl) (by kernel_rfl) opens3 opens106)) (fun _ h => h.2)
theorem opens22 : Opens enc Try.prog w base spare held 22 (Kd.slice 108 k108) (fun s => s.length ≤ 9223372036854775807 ∧ Small s) := opens_slice 108 Try.underlying22 (by kernel_rfl) opens108
end
set_option maxRecDepth 100000 in
theorem lifted (os : Os) (started : os.Started) (H : Type) (enc : TypeId × Value → H) :
    ReturnsInHanded {} Try.checked os 3 .any (Rows.fnExactFindSpec.pre6 enc Try.prog Try.f3 Rows.fnExactFindRow.domain false) (Rows.fnExactFindSpec.post enc Try.prog Try.f3 false true false false) := by
  refine returnsInHanded_of_change_sized (C := Try.checked) own started (by kernel_rfl) Try.func3
    (ChangeSpec.witness6 (enc := enc) (C := Try.checked) false ⟨#[], #[.slice none 0 0, .int .i64 0], []⟩ 8 (by kernel_rfl) (by kernel_rfl) (by kernel_rfl) (by kernel_rfl)) ?_
  intro W base args ds gs before hval0 hW hcnd hsz0 _
  have hval : ∀ (j : Nat) t v, Try.f3.params[j]? = some t → args[j]? = some v → Value.okWide Try.prog W .any base t v := hval0
  have hW' := hW
  obtain ⟨p, q, hA0, hV, rfl, hfz, hnd⟩ := hW
  have hA : DataW.TrodAll enc Try.prog W 0 (fun _ => true) true Try.f3.params.toList args.toList ds p := hA0
  rw [Try.params3] at hA hval
  obtain ⟨v0, vs0, d0, ds0, p0, q0, hargs, rfl, rfl, h0, r0⟩ := trodAll_cons hA
  obtain ⟨v1, vs1, d1, ds1, p1, q1, rfl, rfl, rfl, h1, r1⟩ := trodAll_cons r0
  obtain ⟨rfl, rfl, rfl⟩ := trodAll_nil r1
  obtain rfl : args = #[v0, v1] := by cases args; simp_all
  obtain ⟨rfl, rfl⟩ := trodVars_none hV
  obtain ⟨a0, len0, cap0, rfl⟩ := okWide_slice Try.underlying22 (hval 0 22 v0 rfl rfl)
  obtain ⟨a1, rfl, wf1⟩ := okWide_int Try.underlying3 (hval 1 3 v1 rfl rfl)
  have k0 := h0
  have k1 := h1
  have lt0 : ∀ x ∈ p0, x.block < W.heap.size := by obtain ⟨m, hm⟩ := k0; exact DataW.trod_lt m _ _ _ hm
  have lt1 : ∀ x ∈ p1, x.block < W.heap.size := by obtain ⟨m, hm⟩ := k1; exact DataW.trod_lt m _ _ _ hm
  obtain ⟨l, hl, hC, hcap, hn, hsm⟩ : ∃ l : List S108, l.length = len0 ∧ Kd.C k108 W a0 l.length l ∧ l.length ≤ cap0 ∧ l.length ≤ 9223372036854775807 ∧ Small l := by
    obtain ⟨fuel, hf⟩ := h0
    obtain ⟨l, ⟨A, c, hcs, hlc, hC⟩, hb, hsm⟩ := opens22 _ _ _ hf
    simp [Value.cells] at hcs
    obtain ⟨rfl, rfl, rfl⟩ := hcs
    exact ⟨l, rfl, hC, hlc, hb, hsm⟩
  subst hl
  clear hA0 hval0 hsz0
  refine (Go.Proofs.Ytchmmnlmgkocoaa.F.exactFind a0 cap0 l a1 W hC hcap hn hsm).mono fun e W' ⟨he, bel⟩ => ?_
  subst he
  exact ⟨_, rfl, _, _, _, [], _, [], hW', trodAll_mk1 (shut_bool Try.underlying4 _), (trodAll_cons_mk (Below.trod laidOut (by kernel_rfl) (of_decide_eq_true (by kernel_rfl)) k0 bel lt0) (trodAll_cons_mk (Below.trod laidOut (by kernel_rfl) (of_decide_eq_true (by kernel_rfl)) k1 bel lt1) trodAll_mk0)), rfl, bel.frame _, fun h => by cases h⟩
theorem over : Rows.fnExactFindRow.holds Try.pinned (OpenSpec.ofChange Rows.fnExactFindSpec) :=
  OpenClaim.holds_of_wide 3 Try.f3 rfl rfl rfl rfl rfl rfl rfl ⟨rfl, rfl, rfl, rfl, rfl⟩ rfl rfl rfl rfl rfl (by kernel_rfl) Try.func3 (by kernel_rfl)
    (of_decide_eq_true (by kernel_rfl)) (by unfold Func.isWrapper; first | (rw [if_pos (by decide +kernel)]; kernel_rfl) | (rw [if_neg (by decide +kernel)]; exact ⟨rfl, rfl⟩))
    (fun os started H enc _ => lifted os started H enc)
theorem proved : Rows.FnExactFindSaid := over
#print axioms proved
end Go.Proofs.Ytchmmnlmgkocoaa.fnExactFind
namespace Go.Proofs.Ytchmmnlmgkocoaa
/-- The row, under a short name, for the claim. -/
theorem fnExactFind_holds : Rows.FnExactFindSaid := fnExactFind.proved
end Go.Proofs.Ytchmmnlmgkocoaa
