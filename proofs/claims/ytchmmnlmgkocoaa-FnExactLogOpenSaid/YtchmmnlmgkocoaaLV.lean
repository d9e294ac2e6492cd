/- Disks and rows of rows of the law's own, by the range of blocks that they lie in, and its calls over them; conditions: those of each lemma. -/
import Derived.Test.YtchmmnlmgkocoaaLN
import Derived.Test.YtchmmnlmgkocoaaL8
import Derived.Test.YtchmmnlmgkocoaaL9
set_option linter.unusedVariables false
set_option linter.unusedSimpArgs false
namespace Go.Proofs.Ytchmmnlmgkocoaa.L
open Go.RowKit Go.Proofs.YtchmmnlmgkocoaaW.PrintWords Go.Proofs.YtchmmnlmgkocoaaW.PrintLast Go.Proofs.YtchmmnlmgkocoaaW.PrintMore
/-- a row told apart, in blocks of that range -/
def OwnS {α : Type} (d : Kd α) (e : Nat) (w : World) (base lo hi : Nat) (A : Option Addr) (c : Nat) (xs : List α) : Prop := hi ≤ w.heap.size ∧ Kd.S d e w base (fun k => lo ≤ k ∧ k < hi) (.slice A xs.length c) xs
section
variable {α : Type} {d : Kd α} {e : Nat} {W w w1 : World} {base lo hi : Nat} {A : Option Addr} {c : Nat} {xs : List α} {v : Value}
theorem ownS_new (h : Kd.S d e w1 w.heap.size (fun _ => True) v xs) (hb : base ≤ w.heap.size) : ∃ A c lo hi, v = .slice A xs.length c ∧ w.heap.size ≤ lo ∧ OwnS d e w1 base lo hi A c xs := by
 obtain ⟨A, c, rfl, hl, _⟩ := Kd.S_reads h
 exact ⟨A, c, _, _, rfl, Nat.le_refl _, Nat.le_refl _, Kd.S_lower (Kd.S_mono (Kd.S_bound h) (fun k hk => ⟨hk.2.1, hk.2.2.1⟩)) hb⟩
theorem ownS_below (h : OwnS d e w base lo hi A c xs) (hb : Below w.heap.size w w1) : OwnS d e w1 base lo hi A c xs := ⟨Nat.le_trans h.1 hb.size, Kd.S_below h.2 hb⟩
theorem ownS_alloc (h : OwnS d e w base lo hi A c xs) (o : Obj) : OwnS d e (w.alloc o) base lo hi A c xs := ownS_below h (below_alloc (Below.refl _ _) o)
theorem ownS_drew (h : OwnS d e w base lo hi A c xs) : OwnS d e w.drew base lo hi A c xs := ⟨h.1, Kd.S_drew h.2⟩
theorem ownS_drewN (h : OwnS d e w base lo hi A c xs) (m : Nat) : OwnS d e (w.drewN m) base lo hi A c xs := ⟨h.1, Kd.S_drewN h.2 m⟩
theorem ownS_far (h : OwnS d e w base lo hi A c xs) {p : Addr} (hp : hi ≤ p.block) (u : Value) : OwnS d e (w.setCell p u) base lo hi A c xs := by
 refine ⟨?_, Kd.S_far h.2 (fun k hk => by omega) u⟩
 have : (w.setCell p u).heap.size = w.heap.size := by simp [World.setCell]
 rw [this]; exact h.1
theorem ownS_kept {lo' hi' : Nat} (h : OwnS d e w base lo hi A c xs) (hk : Kept w w1 (fun k => lo' ≤ k ∧ k < hi')) (hd : hi ≤ lo' ∨ hi' ≤ lo) : OwnS d e w1 base lo hi A c xs :=
 ⟨Nat.le_trans h.1 hk.1, Kd.S_kept h.2 hk (fun k h1 h2 => by omega)⟩
theorem ownS_le {lo2 : Nat} (h : OwnS d e w base lo hi A c xs) (h2 : w.heap.size ≤ lo2) : hi ≤ lo2 := Nat.le_trans h.1 h2
theorem ownS_reads (h : OwnS d e w base lo hi A c xs) : d.C w A xs.length xs := (Kd.S_reads' h.2).2.2
theorem ownS_cap (h : OwnS d e w base lo hi A c xs) : xs.length ≤ c := (Kd.S_reads' h.2).2.1
end
abbrev OwnR (w : World) (base lo hi : Nat) (A : Option Addr) (c : Nat) (xs : List (List Int)) : Prop := OwnS (Kd.slice 5 (Kd.int .u8)) 36 w base lo hi A c xs
section
variable {W w : World}
theorem cSz {k : Nat} {A0 A1 : Option Addr} {c0 c1 : Nat} {b : List Int} {q : List S177} {t : Int} (hr0 : Kd.C (Kd.int .u8) W A0 b.length b) (hc0 : b.length ≤ c0) (hr1 : Kd.C k177 W A1 q.length q) (hc1 : q.length ≤ c1) (h : laws_szDisk.f k b q 1048576 = some t) (hB : Below W.heap.size W w) :
  Calls Try.prog 19 #[.agg #[.slice A0 b.length c0, .slice A1 q.length c1], .int .i64 1048576] w fun e w' => e = .returned (.int .i64 t) ∧ Below W.heap.size W w' ∧ Below w.heap.size w w' :=
 (laws_szDisk.calls k A0 c0 b A1 c1 q 1048576 t w (Kd.C_below hr0 hB) hc0 (Kd.C_below hr1 hB) hc1 h).mono fun e w' ⟨he, hb⟩ => ⟨he, below_step hB hb, hb⟩
theorem cToD {k : Nat} {A0 A1 : Option Addr} {c0 c1 : Nat} {b b' : List Int} {q : List S177} {q' : List S142} (hr0 : Kd.C (Kd.int .u8) W A0 b.length b) (hc0 : b.length ≤ c0) (hr1 : Kd.C k177 W A1 q.length q) (hc1 : q.length ≤ c1) (h : laws_toDisk.f k b q = some (b', q')) (hB : Below W.heap.size W w) :
  Calls Try.prog 21 #[.agg #[.slice A0 b.length c0, .slice A1 q.length c1]] w fun e w' => ∃ A c B d lo hi, e = .returned (.agg #[.slice A b'.length c, .slice B q'.length d]) ∧ w.heap.size ≤ lo ∧ OwnD w' W.heap.size lo hi A c b' B d q' ∧ Below W.heap.size W w' ∧ Below w.heap.size w w' :=
 (laws_toDisk.calls k A0 c0 b A1 c1 q b' q' w (Kd.C_below hr0 hB) hc0 (Kd.C_below hr1 hB) hc1 h).mono fun e w' ⟨v0, v1, he, hR, hS, hb⟩ => by
  obtain ⟨A, c, B, d, lo, hi, rfl, rfl, hlo, ho⟩ := ownD_new hR hS hB.size
  exact ⟨A, c, B, d, lo, hi, he, hlo, ho, below_step hB hb, hb⟩
theorem cSpecOpen {k : Nat} {A0 A1 : Option Addr} {c0 c1 lo hi : Nat} {b : List Int} {q : List S142} {a z r1 r2 r3 r4 : Int} {r5 : List (List Int)} {r6 : Bool} (ho : OwnD w W.heap.size lo hi A0 c0 b A1 c1 q) (h : spec_LogOpen.f k b q a z = some (r1, r2, r3, r4, r5, r6)) (hB : Below W.heap.size W w) :
  Calls Try.prog 31 #[.agg #[.slice A0 b.length c0, .slice A1 q.length c1], .int .i64 a, .int .i64 z] w fun e w' => ∃ A c lo hi, e = .returned (.tuple #[.agg #[.int .i64 r1, .int .i64 r2, .int .i64 r3, .int .i64 r4], .slice A r5.length c, .bool r6]) ∧ w.heap.size ≤ lo ∧ OwnR w' W.heap.size lo hi A c r5 ∧ Below W.heap.size W w' ∧ Below w.heap.size w w' :=
 (spec_LogOpen.calls k A0 c0 b A1 c1 q a z r1 r2 r3 r4 r5 r6 w (ownD_r0 ho) (ownD_c0 ho) (ownD_r1 ho) (ownD_c1 ho) h).mono fun e w' ⟨v, he, hR, hb⟩ => by
  obtain ⟨A, c, lo, hi, rfl, hlo, ho⟩ := ownS_new hR hB.size
  exact ⟨A, c, lo, hi, he, hlo, ho, below_step hB hb, hb⟩
theorem cOpen {k : Nat} {A0 A1 : Option Addr} {c0 c1 lo hi : Nat} {b : List Int} {q : List S142} {a z r1 r2 r3 r4 : Int} {r5 : List (List Int)} {r6 : Bool} (ho : OwnD w W.heap.size lo hi A0 c0 b A1 c1 q) (h : impl_LogOpen.f k b q a z = some (r1, r2, r3, r4, r5, r6)) (hB : Below W.heap.size W w) :
  Calls Try.prog 32 #[.agg #[.slice A0 b.length c0, .slice A1 q.length c1], .int .i64 a, .int .i64 z] w fun e w' => ∃ A c lo hi, e = .returned (.tuple #[.agg #[.int .i64 r1, .int .i64 r2, .int .i64 r3, .int .i64 r4], .slice A r5.length c, .bool r6]) ∧ w.heap.size ≤ lo ∧ OwnR w' W.heap.size lo hi A c r5 ∧ Below W.heap.size W w' ∧ Below w.heap.size w w' :=
 (impl_LogOpen.calls k A0 c0 b A1 c1 q a z r1 r2 r3 r4 r5 r6 w (ownD_r0 ho) (ownD_c0 ho) (ownD_r1 ho) (ownD_c1 ho) h).mono fun e w' ⟨v, he, hR, hb⟩ => by
  obtain ⟨A, c, lo, hi, rfl, hlo, ho⟩ := ownS_new hR hB.size
  exact ⟨A, c, lo, hi, he, hlo, ho, below_step hB hb, hb⟩
theorem cEqLog {r1 r2 r3 r4 : Int} (h : laws_eqLog.f r1 r2 r3 r4 r1 r2 r3 r4 = some true) (hB : Below W.heap.size W w) :
  Calls Try.prog 26 #[.agg #[.int .i64 r1, .int .i64 r2, .int .i64 r3, .int .i64 r4], .agg #[.int .i64 r1, .int .i64 r2, .int .i64 r3, .int .i64 r4]] w fun e w' => e = .returned (.bool true) ∧ Below W.heap.size W w' ∧ Below w.heap.size w w' :=
 (laws_eqLog.calls r1 r2 r3 r4 r1 r2 r3 r4 true w h).mono fun e w' ⟨he, hb⟩ => ⟨he, below_step hB hb, hb⟩
theorem cEqSS {k : Nat} {A0 A1 : Option Addr} {c0 c1 lo0 hi0 lo1 hi1 : Nat} {l : List (List Int)} (h0 : OwnR w W.heap.size lo0 hi0 A0 c0 l) (h1 : OwnR w W.heap.size lo1 hi1 A1 c1 l) (h : laws_eqByteSS.f k l l = some true) (hB : Below W.heap.size W w) :
  Calls Try.prog 33 #[.slice A0 l.length c0, .slice A1 l.length c1] w fun e w' => e = .returned (.bool true) ∧ Below W.heap.size W w' ∧ Below w.heap.size w w' :=
 (laws_eqByteSS.calls k A0 c0 l A1 c1 l true w (ownS_reads h0) (ownS_cap h0) (ownS_reads h1) (ownS_cap h1) h).mono fun e w' ⟨he, hb⟩ => ⟨he, below_step hB hb.below, hb.below⟩
theorem cEqD {k : Nat} {A0 A1 B0 B1 : Option Addr} {c0 c1 d0 d1 lo0 hi0 lo1 hi1 : Nat} {b : List Int} {q : List S142} (h0 : OwnD w W.heap.size lo0 hi0 A0 c0 b A1 c1 q) (h1 : OwnD w W.heap.size lo1 hi1 B0 d0 b B1 d1 q) (h : laws_eqDisk.f k b q b q = some true) (hB : Below W.heap.size W w) :
  Calls Try.prog 25 #[.agg #[.slice A0 b.length c0, .slice A1 q.length c1], .agg #[.slice B0 b.length d0, .slice B1 q.length d1]] w fun e w' => e = .returned (.bool true) ∧ Below W.heap.size W w' ∧ Below w.heap.size w w' :=
 (laws_eqDisk.calls k A0 c0 b A1 c1 q B0 d0 b B1 d1 q true w (ownD_r0 h0) (ownD_c0 h0) (ownD_r1 h0) (ownD_c1 h0) (ownD_r0 h1) (ownD_c0 h1) (ownD_r1 h1) (ownD_c1 h1) h).mono fun e w' ⟨he, hb⟩ => ⟨he, below_step hB hb, hb⟩
theorem cMarkD {A0 A1 : Option Addr} {c0 c1 lo hi : Nat} {b : List Int} {q : List S142} {m : Int} (h0 : OwnD w W.heap.size lo hi A0 c0 b A1 c1 q) (h1 : 1 + (b.length : Int) + (totW q : Int) ≤ 1000000000) (hm : 1 + (b.length : Int) + (totW q : Int) = m) (hB : Below W.heap.size W w) :
  Calls Try.prog 28 #[.agg #[.slice A0 b.length c0, .slice A1 q.length c1], .int .i64 1] w fun e w' => e = .returned (.int .i64 m) ∧ OwnD w' W.heap.size lo hi A0 c0 (markL 1 b.length) A1 c1 (markW (1 + (b.length : Int)) q) ∧ Kept w w' (fun k => lo ≤ k ∧ k < hi) ∧ Below W.heap.size W w' := by
 subst hm
 exact markDisk_walk 1 (by omega) h1 h0 hB
theorem cMarkSS {A0 : Option Addr} {c0 lo hi : Nat} {l : List (List Int)} {m : Int} (h0 : OwnR w W.heap.size lo hi A0 c0 l) (h1 : 1 + (cnt l : Int) ≤ 1000000000) (hm : 1 + (cnt l : Int) = m) (hB : Below W.heap.size W w) :
  Calls Try.prog 34 #[.slice A0 l.length c0, .int .i64 1] w fun e w' => e = .returned (.int .i64 m) ∧ OwnR w' W.heap.size lo hi A0 c0 (markSS 1 l) ∧ Kept w w' (fun k => lo ≤ k ∧ k < hi) ∧ Below W.heap.size W w' := by
 subst hm
 refine (markSS_walk l 1 (by omega) h1 h0.2 hB).mono fun e w' ⟨he, hS, hk, hb⟩ => ⟨he, ⟨Nat.le_trans h0.1 hk.1, ?_⟩, hk, hb⟩
 rw [markSS_len]
 exact hS
theorem cHeldSS {k : Nat} {A0 : Option Addr} {c0 lo hi n : Nat} {m : Int} {l : List (List Int)} (h0 : OwnR w W.heap.size lo hi A0 c0 l) (hn : l.length = n) (h : laws_heldByteSS.f k l 1 = some m) (hB : Below W.heap.size W w) :
  Calls Try.prog 35 #[.slice A0 n c0, .int .i64 1] w fun e w' => e = .returned (.int .i64 m) ∧ Below W.heap.size W w' ∧ Below w.heap.size w w' := by
 subst hn
 exact (laws_heldByteSS.calls k A0 c0 l 1 m w (ownS_reads h0) (ownS_cap h0) h).mono fun e w' ⟨he, hb⟩ => ⟨he, below_step hB hb.below, hb.below⟩
end
end Go.Proofs.Ytchmmnlmgkocoaa.L
