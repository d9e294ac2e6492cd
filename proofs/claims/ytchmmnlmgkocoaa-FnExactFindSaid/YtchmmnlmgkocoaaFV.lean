/- Rows of rows of the law's own, by the range of blocks that they lie in, and its calls over them; conditions: those of each lemma. -/
import Derived.Test.YtchmmnlmgkocoaaFT
set_option linter.unusedVariables false
set_option linter.unusedSimpArgs false
namespace Go.Proofs.Ytchmmnlmgkocoaa.F
open Go.Proofs.Ytchmmnlmgkocoaa.H (S81 z81 k81 k81_open k81_openM k81_mk k81_mkM rd_T81 at_T81 w64 rd_at)
open Go.RowKit Go.Proofs.YtchmmnlmgkocoaaW.PrintWords Go.Proofs.YtchmmnlmgkocoaaW.PrintLast Go.Proofs.YtchmmnlmgkocoaaW.PrintMore
/-- a row told apart, in blocks of that range -/
def OwnS {α : Type} (d : Kd α) (e : Nat) (w : World) (base lo hi : Nat) (A : Option Addr) (c : Nat) (xs : List α) : Prop := hi ≤ w.heap.size ∧ Kd.S d e w base (fun k => lo ≤ k ∧ k < hi) (.slice A xs.length c) xs
section
variable {α : Type} {d : Kd α} {e : Nat} {W w w1 : World} {base lo hi : Nat} {A : Option Addr} {c : Nat} {xs : List α} {v : Value}
theorem ownS_new (h : Kd.S d e w1 w.heap.size (fun _ => True) v xs) (hb : base ≤ w.heap.size) : ∃ A c lo hi, v = .slice A xs.length c ∧ w.heap.size ≤ lo ∧ OwnS d e w1 base lo hi A c xs := by
  obtain ⟨A, c, rfl, hl, _⟩ := Kd.S_reads h
  exact ⟨A, c, _, _, rfl, Nat.le_refl _, Nat.le_refl _, Kd.S_lower (Kd.S_mono (Kd.S_bound h) (fun k hk => ⟨hk.2.1, hk.2.2.1⟩)) hb⟩
theorem ownS_below (h : OwnS d e w base lo hi A c xs) (hb : Below w.heap.size w w1) : OwnS d e w1 base lo hi A c xs := ⟨Nat.le_trans h.1 hb.size, Kd.S_below h.2 hb⟩
theorem ownS_alloc (h : OwnS d e w base lo hi A c xs) (o : Obj) : OwnS d e (w.alloc o) base lo hi A c xs := ownS_below h (below_alloc (Below.refl _ _) o)
theorem ownS_drew (h : OwnS d e w base lo hi A c xs) : OwnS d e w.drew base lo hi A c xs := ⟨h.1, Kd.S_drew h.2⟩
theorem ownS_drewN (h : OwnS d e w base lo hi A c xs) (m : Nat) : OwnS d e (w.drewN m) base lo hi A c xs := ⟨h.1, Kd.S_drewN h.2 m⟩
theorem ownS_far (h : OwnS d e w base lo hi A c xs) {p : Addr} (hp : hi ≤ p.block) (u : Value) : OwnS d e (w.setCell p u) base lo hi A c xs := by
  refine ⟨?_, Kd.S_far h.2 (fun k hk => by omega) u⟩
  have : (w.setCell p u).heap.size = w.heap.size := by simp [World.setCell]
  rw [this]; exact h.1
theorem ownS_kept {lo' hi' : Nat} (h : OwnS d e w base lo hi A c xs) (hk : Kept w w1 (fun k => lo' ≤ k ∧ k < hi')) (hd : hi ≤ lo' ∨ hi' ≤ lo) : OwnS d e w1 base lo hi A c xs :=
  ⟨Nat.le_trans h.1 hk.1, Kd.S_kept h.2 hk (fun k h1 h2 => by omega)⟩
theorem ownS_le {lo2 : Nat} (h : OwnS d e w base lo hi A c xs) (h2 : w.heap.size ≤ lo2) : hi ≤ lo2 := Nat.le_trans h.1 h2
theorem ownS_reads (h : OwnS d e w base lo hi A c xs) : d.C w A xs.length xs := (Kd.S_reads' h.2).2.2
theorem ownS_cap (h : OwnS d e w base lo hi A c xs) : xs.length ≤ c := (Kd.S_reads' h.2).2.1
end
/-- a row of entries; the rings of a shape -/
abbrev OwnE (w : World) (base lo hi : Nat) (A : Option Addr) (c : Nat) (xs : List S110) : Prop := OwnS k110 110 w base lo hi A c xs
abbrev OwnR (w : World) (base lo hi : Nat) (A : Option Addr) (c : Nat) (xs : List (List S81)) : Prop := OwnS (Kd.slice 81 k81) 72 w base lo hi A c xs
section
variable {W w : World}
theorem cToE {k : Nat} {A0 : Option Addr} {c0 : Nat} {l : List S108} {xs : List S110} (hr : Kd.C k108 W A0 l.length l) (hc : l.length ≤ c0) (h : laws_toEntryS.f k l = some xs) (hB : Below W.heap.size W w) :
    Calls Try.prog 12 #[.slice A0 l.length c0] w fun e w' => ∃ A c lo hi, e = .returned (.slice A xs.length c) ∧ w.heap.size ≤ lo ∧ OwnE w' W.heap.size lo hi A c xs ∧ Below W.heap.size W w' ∧ Below w.heap.size w w' :=
  (laws_toEntryS.calls k A0 c0 l xs w (Kd.C_below hr hB) hc h).mono fun e w' ⟨v, he, hR, hb⟩ => by
    obtain ⟨A, c, lo, hi, rfl, hlo, ho⟩ := ownS_new hR hB.size
    exact ⟨A, c, lo, hi, he, hlo, ho, below_step hB hb, hb⟩
theorem cSpecFind {k : Nat} {A0 : Option Addr} {c0 lo hi : Nat} {l : List S110} {a r1 : Int} {r2 : List (List S81)} {r3 : Bool} (ho : OwnE w W.heap.size lo hi A0 c0 l) (h : spec_Find.f k l a = some (r1, r2, r3)) (hB : Below W.heap.size W w) :
    Calls Try.prog 11 #[.slice A0 l.length c0, .int .i64 a] w fun e w' => ∃ A c lo hi, e = .returned (.tuple #[.agg #[.int .i64 r1, .slice A r2.length c], .bool r3]) ∧ w.heap.size ≤ lo ∧ OwnR w' W.heap.size lo hi A c r2 ∧ Below W.heap.size W w' ∧ Below w.heap.size w w' :=
  (spec_Find.calls k A0 c0 l a r1 r2 r3 w (ownS_reads ho) (ownS_cap ho) h).mono fun e w' ⟨v, he, hR, hb⟩ => by
    obtain ⟨A, c, lo, hi, rfl, hlo, ho⟩ := ownS_new hR hB.size
    exact ⟨A, c, lo, hi, he, hlo, ho, below_step hB hb, hb⟩
theorem cFind {k : Nat} {A0 : Option Addr} {c0 lo hi : Nat} {l : List S110} {a r1 : Int} {r2 : List (List S81)} {r3 : Bool} (ho : OwnE w W.heap.size lo hi A0 c0 l) (h : impl_Find.f k l a = some (r1, r2, r3)) (hB : Below W.heap.size W w) :
    Calls Try.prog 13 #[.slice A0 l.length c0, .int .i64 a] w fun e w' => ∃ A c lo hi, e = .returned (.tuple #[.agg #[.int .i64 r1, .slice A r2.length c], .bool r3]) ∧ w.heap.size ≤ lo ∧ OwnR w' W.heap.size lo hi A c r2 ∧ Below W.heap.size W w' ∧ Below w.heap.size w w' :=
  (impl_Find.calls k A0 c0 l a r1 r2 r3 w (ownS_reads ho) (ownS_cap ho) h).mono fun e w' ⟨v, he, hR, hb⟩ => by
    obtain ⟨A, c, lo, hi, rfl, hlo, ho⟩ := ownS_new hR hB.size
    exact ⟨A, c, lo, hi, he, hlo, ho, below_step hB hb, hb⟩
theorem cEqShape {k : Nat} {A0 A1 : Option Addr} {c0 c1 lo0 hi0 lo1 hi1 : Nat} {r : Int} {l : List (List S81)} (h0 : OwnR w W.heap.size lo0 hi0 A0 c0 l) (h1 : OwnR w W.heap.size lo1 hi1 A1 c1 l) (h : laws_eqShape.f k r l r l = some true) (hB : Below W.heap.size W w) :
    Calls Try.prog 14 #[.agg #[.int .i64 r, .slice A0 l.length c0], .agg #[.int .i64 r, .slice A1 l.length c1]] w fun e w' => e = .returned (.bool true) ∧ Below W.heap.size W w' ∧ Below w.heap.size w w' :=
  (laws_eqShape.calls k r A0 c0 l r A1 c1 l true w (ownS_reads h0) (ownS_cap h0) (ownS_reads h1) (ownS_cap h1) h).mono fun e w' ⟨he, hb⟩ => ⟨he, below_step hB hb, hb⟩
theorem cEqE {k : Nat} {A0 A1 : Option Addr} {c0 c1 lo0 hi0 lo1 hi1 : Nat} {l : List S110} (h0 : OwnE w W.heap.size lo0 hi0 A0 c0 l) (h1 : OwnE w W.heap.size lo1 hi1 A1 c1 l) (h : laws_eqEntryS.f k l l = some true) (hB : Below W.heap.size W w) :
    Calls Try.prog 15 #[.slice A0 l.length c0, .slice A1 l.length c1] w fun e w' => e = .returned (.bool true) ∧ Below W.heap.size W w' ∧ Below w.heap.size w w' :=
  (laws_eqEntryS.calls k A0 c0 l A1 c1 l true w (ownS_reads h0) (ownS_cap h0) (ownS_reads h1) (ownS_cap h1) h).mono fun e w' ⟨he, hb⟩ => ⟨he, below_step hB hb, hb⟩
theorem cMarkE {A0 : Option Addr} {c0 lo hi : Nat} {l : List S110} (h0 : OwnE w W.heap.size lo hi A0 c0 l) (h1 : 1 + (tot l : Int) ≤ 1000000000) (hB : Below W.heap.size W w) :
    Calls Try.prog 16 #[.slice A0 l.length c0, .int .i64 1] w fun e w' => e = .returned (.int .i64 (1 + (tot l : Int))) ∧ Kept w w' (fun k => lo ≤ k ∧ k < hi) ∧ Below W.heap.size W w' :=
  markEntryS_walk l h1 h0.2 hB
theorem cMarkShape {A0 : Option Addr} {c0 lo hi : Nat} {r : Int} {l : List (List S81)} (h0 : OwnR w W.heap.size lo hi A0 c0 l) (h1 : 1 + 2 * (cnt l : Int) ≤ 1000000000) (hB : Below W.heap.size W w) :
    Calls Try.prog 17 #[.agg #[.int .i64 r, .slice A0 l.length c0], .int .i64 1] w fun e w' => e = .returned (.int .i64 (1 + 2 * (cnt l : Int))) ∧ OwnR w' W.heap.size lo hi A0 c0 (markSS 1 l) ∧ Kept w w' (fun k => lo ≤ k ∧ k < hi) ∧ Below W.heap.size W w' :=
  (markShape_walk r l 1 (by omega) h1 h0.2 hB).mono fun e w' ⟨he, hS, hk, hb⟩ => ⟨he, ⟨Nat.le_trans h0.1 hk.1, by rw [markSS_len]; exact hS⟩, hk, hb⟩
theorem cHeldShape {k : Nat} {A0 : Option Addr} {c0 lo hi n : Nat} {r m : Int} {l : List (List S81)} (h0 : OwnR w W.heap.size lo hi A0 c0 l) (hn : l.length = n) (h : laws_heldShape.f k r l 1 = some m) (hB : Below W.heap.size W w) :
    Calls Try.prog 18 #[.agg #[.int .i64 r, .slice A0 n c0], .int .i64 1] w fun e w' => e = .returned (.int .i64 m) ∧ Below W.heap.size W w' ∧ Below w.heap.size w w' := by
  subst hn
  exact (laws_heldShape.calls k r A0 c0 l 1 m w (ownS_reads h0) (ownS_cap h0) h).mono fun e w' ⟨he, hb⟩ => ⟨he, below_step hB hb, hb⟩
end
end Go.Proofs.Ytchmmnlmgkocoaa.F
