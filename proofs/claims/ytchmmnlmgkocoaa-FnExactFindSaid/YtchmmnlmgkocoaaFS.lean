/- Rows of rows whose inner rows are apart, as a kind; conditions: those of each lemma. -/
import Derived.Test.YtchmmnlmgkocoaaH0
namespace Go.Proofs.Ytchmmnlmgkocoaa.F
open Go.RowKit Go.Proofs.YtchmmnlmgkocoaaW.PrintWords Go.Proofs.YtchmmnlmgkocoaaW.PrintLast Go.Proofs.YtchmmnlmgkocoaaW.PrintMore
/-- a row as an element, its own elements apart -/
def sliceS {α : Type} (e : Nat) (d : Kd α) : Kd (List α) where
  sz := 1
  E := e :: d.E
  K := (Kd.slice e d).K
  M := fun w base ok xs cs => ∃ v, cs = [v] ∧ Kd.S d e w base ok v xs
  K_len := (Kd.slice e d).K_len
  K_one := (Kd.slice e d).K_one
  K_below := (Kd.slice e d).K_below
  K_of_M := by
    rintro w base ok x cs ⟨v, rfl, h⟩
    exact Kd.K_of_M (Kd.slice e d) ⟨v, rfl, Kd.S_R h⟩
  M_mono := by
    rintro w base ok ok' x cs hok ⟨v, rfl, h⟩
    exact ⟨v, rfl, Kd.S_mono h hok⟩
  M_bound := by
    rintro w base ok x cs ⟨v, rfl, h⟩
    exact ⟨v, rfl, Kd.S_bound h⟩
  M_move := by
    rintro w w1 base ok x cs hm ⟨v, rfl, h⟩
    exact ⟨v, rfl, Kd.S_move h hm⟩
  M_lower := by
    rintro w base base' ok x cs hb ⟨v, rfl, h⟩
    exact ⟨v, rfl, Kd.S_lower h hb⟩
/-- a row of before, a row of since: the first without the second's blocks -/
theorem parted {α β : Type} {d : Kd α} {d' : Kd β} {e e' : Nat} {w : World} {base base' N : Nat} {u v : Value} {xs : List α} {ys : List β} {ok : Nat → Prop} (h : Kd.S d e w base (fun k => ok k ∧ k < N) u xs) (h' : Kd.S d' e' w base' (fun k => N ≤ k) v ys) :
    ∃ okg : Nat → Prop, Kd.S d e w base (fun k => (fun _ => True) k ∧ ¬ okg k) u xs ∧ Kd.S d' e' w base' okg v ys ∧ ∀ k, okg k → some k ≠ u.ownBlock := by
  refine ⟨fun k => N ≤ k, Kd.S_mono h (fun k hk => ⟨trivial, fun h2 => by have := hk.2; omega⟩), h', fun k hk e => ?_⟩
  have := ((Kd.S_R h).1 k e.symm).2
  omega
end Go.Proofs.Ytchmmnlmgkocoaa.F
