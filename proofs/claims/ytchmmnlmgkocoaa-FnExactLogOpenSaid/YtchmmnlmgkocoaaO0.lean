/- What a law's argument holds, read as a kind's value: whole numbers, rows, structs of two parts; conditions: those of each lemma. -/
import Derived.Test.YtchmmnlmgkocoaaWMore
import Derived.ChangeOld
import Derived.ChangeSame
import Derived.OpenShut
import Derived.Deep.SlicePairs
set_option linter.unusedVariables false
namespace Go.Proofs.Ytchmmnlmgkocoaa.O
open Go.ChangeShapes Go.WideShapes Go.RowKit Go.Proofs.YtchmmnlmgkocoaaW.PrintWords Go.Proofs.YtchmmnlmgkocoaaW.PrintLast Go.Proofs.YtchmmnlmgkocoaaW.PrintMore
section
variable {H : Type} (enc : TypeId × Value → H) (P : Program) (w : World) (base : Nat) (spare : Nat → Bool) (held : Bool)
/-- whatever is handed over at a type reads as a value of the kind that is right -/
def Opens {α : Type} (t : TypeId) (d : Kd α) (ok : α → Prop) : Prop := ∀ fuel cs x, DataW.trod enc P w base spare held fuel t cs = some x → ∃ v, d.K w v cs ∧ ok v
end
section
variable {H : Type} {enc : TypeId × Value → H} {P : Program} {w : World} {base : Nat} {spare : Nat → Bool} {held : Bool}
theorem opens_int {k : IntKind} {t : TypeId} (ht : P.underlying t = some (.int k)) : Opens enc P w base spare held t (Kd.int k) (fun n => (Lit.int k n).wf = true) := by
 intro fuel cs x h
 obtain ⟨n, rfl, _, hw⟩ := DataW.trod_int ht h
 exact ⟨n, rfl, hw⟩
theorem opens_mono {α : Type} {t : TypeId} {d : Kd α} {ok ok' : α → Prop} (h : Opens enc P w base spare held t d ok) (hk : ∀ x, ok x → ok' x) : Opens enc P w base spare held t d ok' := by
 intro fuel cs x hx
 obtain ⟨v, h1, h2⟩ := h fuel cs x hx
 exact ⟨v, h1, hk v h2⟩
theorem opens_iso {α β : Type} {t : TypeId} {d : Kd α} {ok : α → Prop} (f : β → α) (g : α → β) (hg : ∀ x, f (g x) = x) (h : Opens enc P w base spare held t d ok) : Opens enc P w base spare held t (Kd.iso d f) (fun y => ok (f y)) := by
 intro fuel cs x hx
 obtain ⟨v, h1, h2⟩ := h fuel cs x hx
 refine ⟨g v, ?_, ?_⟩
 ·
  show d.K w (f (g v)) cs
  rw [hg]; exact h1
 ·
  show ok (f (g v))
  rw [hg]; exact h2
theorem opens_pair {α β : Type} {t : TypeId} {f0 f1 : Field} {a : Kd α} {b : Kd β} {oka : α → Prop} {okb : β → Prop} (ht : P.underlying t = some (.struct #[f0, f1])) (ct : P.cellsOf t = a.sz + b.sz) (o0 : f0.offset = 0) (o1 : f1.offset = a.sz)
  (c0 : P.cellsOf f0.type = a.sz) (c1 : P.cellsOf f1.type = b.sz) (ha : Opens enc P w base spare held f0.type a oka) (hb : Opens enc P w base spare held f1.type b okb) :
  Opens enc P w base spare held t (Kd.pair a b) (fun x => oka x.1 ∧ okb x.2) := by
 intro fuel cs x h
 obtain ⟨y0, y1, n, _, hl, h0, h1⟩ := trod_struct2 ht h
 rw [o0, c0, List.drop_zero] at h0
 rw [o1, c1, List.take_of_length_le (by rw [List.length_drop, hl, ct]; omega)] at h1
 obtain ⟨u, hu, ou⟩ := ha _ _ _ h0
 obtain ⟨v, hv, ov⟩ := hb _ _ _ h1
 exact ⟨(u, v), ⟨_, _, (List.take_append_drop _ _).symm, hu, hv⟩, ou, ov⟩
theorem opens_row {α : Type} {e : TypeId} {d : Kd α} {ok : α → Prop} (ce : P.cellsOf e = d.sz) (hd : Opens enc P w base spare held e d ok) {a : Addr} :
  ∀ len : Nat, len ≤ 9223372036854775807 → (∀ i, i < len → ∃ n cs' x, w.cells? base (a.add (i * P.cellsOf e)) (P.cellsOf e) = some cs' ∧ DataW.trod enc P w base spare held n e cs' = some x) → ∃ l : List α, l.length = len ∧ d.C w (some a) len l ∧ ∀ x ∈ l, ok x
 | 0, _, _ => ⟨[], rfl, ⟨rfl, by omega, fun h => absurd h (Nat.lt_irrefl 0)⟩, by simp⟩
 | m + 1, hn, h => by
  obtain ⟨l, hl, hC, hk⟩ := opens_row ce hd m (by omega) (fun i hi => h i (by omega))
  obtain ⟨n, cs', x, h1, h2⟩ := h m (by omega)
  obtain ⟨v, hv, ov⟩ := hd _ _ _ h2
  rw [ce] at h1
  obtain ⟨_, hlen, hcell⟩ := World.cells?_some h1
  refine ⟨l ++ [v], by simp [hl], ⟨by simp [hl], hn, fun _ => ⟨a, rfl, fun j p hj => ?_⟩⟩, ?_⟩
  ·
   by_cases hjm : j < m
   ·
    rw [List.getElem?_append_left (by omega)] at hj
    obtain ⟨ad, e, hc⟩ := hC.2.2 (by omega)
    obtain rfl := Option.some.inj e
    exact hc j p hj
   ·
    have hlt := (List.getElem?_eq_some_iff.1 hj).1
    simp at hlt
    obtain rfl : j = m := by omega
    rw [List.getElem?_append_right (by omega), hl, Nat.sub_self] at hj
    obtain rfl : v = p := by simpa using hj
    refine ⟨cs', hlen, hv, fun i u hu => ?_⟩
    have hi : i < d.sz := by
     have := (List.getElem?_eq_some_iff.1 hu).1
     omega
    have := hcell i hi
    rw [hu, add_add] at this
    exact this
  ·
   intro x hx
   rcases List.mem_append.1 hx with hx | hx
   ·
    exact hk x hx
   ·
    obtain rfl : x = v := by simpa using hx
    exact ov
theorem opens_slice {α : Type} {t e : TypeId} (e' : Nat) {d : Kd α} {ok : α → Prop} (ht : P.underlying t = some (.slice e)) (ce : P.cellsOf e = d.sz) (hd : Opens enc P w base spare held e d ok) :
  Opens enc P w base spare held t (Kd.slice e' d) (fun l => l.length ≤ 9223372036854775807 ∧ ∀ x ∈ l, ok x) := by
 intro fuel cs x h
 rcases Deep.open_slice ht h with ⟨rfl, _⟩ | ⟨a, len, cap, m, n, D, Pl, rfl, _, hlc, hm, hmm, _, hx⟩
 ·
  exact ⟨[], ⟨none, 0, rfl, Nat.le_refl _, Kd.C_nil d w⟩, by simp⟩
 ·
  have hlm : len ≤ m := by rw [hmm]; split <;> omega
  have hb : len ≤ 9223372036854775807 := by simp only [maxLen] at hm; omega
  obtain ⟨l, hl, hC, hk⟩ := opens_row (a := a) ce hd len hb (fun i hi => by
   obtain ⟨cs', h1, h2⟩ := hx i (by omega)
   exact ⟨n, cs', _, h1, h2⟩)
  subst hl
  exact ⟨l, ⟨some a, cap, rfl, hlc, hC⟩, hb, hk⟩
end
end Go.Proofs.Ytchmmnlmgkocoaa.O
