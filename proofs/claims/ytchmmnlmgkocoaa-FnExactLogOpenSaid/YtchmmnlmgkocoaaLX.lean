/- laws.FnExactLogOpen answers true of all arguments; conditions: what its arguments' cells hold: bytes, in rows no longer than an int tells. -/
import Derived.Test.YtchmmnlmgkocoaaLW
import Derived.Test.YtchmmnlmgkocoaaLT
set_option linter.unusedVariables false
set_option linter.unusedSimpArgs false
namespace Go.Proofs.Ytchmmnlmgkocoaa.L
open Go.RowKit Go.Proofs.YtchmmnlmgkocoaaW.PrintWords Go.Proofs.YtchmmnlmgkocoaaW.PrintLast Go.Proofs.YtchmmnlmgkocoaaW.PrintMore
def Byt0 (b : List Int) (q : List S177) : Prop := Byt b ∧ ∀ x ∈ q, Byt x.f1
theorem byt_conv {b : List Int} {q : List S177} (h : Byt0 b q) : BytD b (q.map conv) := by
 refine ⟨h.1, fun x hx => ?_⟩
 obtain ⟨y, hy, rfl⟩ := List.mem_map.1 hx
 exact h.2 y hy
theorem mid_conv {b : List Int} {q : List S177} (h : b.length + q.length + sumL q ≤ 1048576) : Mid b (q.map conv) := by
 refine ⟨by omega, by simp; omega, fun x hx => ?_⟩
 obtain ⟨y, hy, rfl⟩ := List.mem_map.1 hx
 have := sumL_mem hy
 show y.f1.length ≤ _
 omega
theorem exactOpen (A0 A1 : Option Addr) (c0 c1 : Nat) (b : List Int) (q : List S177) (a z : Int) (W : World) (hr0 : Kd.C (Kd.int .u8) W A0 b.length b) (hc0 : b.length ≤ c0) (hr1 : Kd.C k177 W A1 q.length q) (hc1 : q.length ≤ c1)
  (hb : b.length ≤ 9223372036854775807) (hq : q.length ≤ 9223372036854775807) (hx : ∀ x ∈ q, x.f1.length ≤ 9223372036854775807) (hB : Byt0 b q) :
  Calls Try.prog 5 #[.agg #[.slice A0 b.length c0, .slice A1 q.length c1], .int .i64 a, .int .i64 z] W fun e w' => e = .returned (.bool true) ∧ Below W.heap.size W w' := by
 obtain ⟨t, et, ht⟩ := szDisk_is b q hb hq hx
 obtain ⟨kz, hz⟩ := et.rounds
 by_cases h0 : t < 0
 ·
  exact open_no A0 A1 c0 c1 b q a z W kz t hr0 hc0 hr1 hc1 hz (decide_eq_true h0)
 ·
  obtain ⟨hsz, _⟩ := ht.resolve_left h0
  have hm := mid_conv hsz
  have hBD := byt_conv hB
  have htot := totW_conv q
  obtain ⟨kx, hxd⟩ := (toDisk_ev b q (by omega) (by omega) (fun x hx => by have := sumL_mem hx; omega)).rounds
  obtain ⟨ks, hs⟩ := (specOpen_ev hm hBD a z).rounds
  obtain ⟨ki, hi⟩ := (implOpen_ev hBD a z).rounds
  have hsm := logOpen_small hBD a z
  obtain ⟨r, hr⟩ : ∃ r, logOpen b (q.map conv) a z = r := ⟨_, rfl⟩
  rw [hr] at hs hi hsm
  obtain ⟨r1, r2, r3, r4, r5, r6⟩ := r
  obtain ⟨hl5, hc5⟩ := hsm
  dsimp only at hl5 hc5
  obtain ⟨ke, he⟩ := (eqByteSS_ev r5 (by omega) (fun l hl => by have := cnt_mem hl; omega)).rounds
  obtain ⟨kd, hd⟩ := (eqDisk_ev b (q.map conv) hm.1 hm.2.1 hm.2.2).rounds
  obtain ⟨kv, hv⟩ := (heldSS_ev r5 1 (by omega) (by omega) (by omega)).rounds
  exact open_walk A0 A1 c0 c1 b q (q.map conv) a z W kz kx ks ki 0 ke kd kv t r1 r2 r3 r4 r5 r6 (1 + (b.length : Int) + (totW (q.map conv) : Int)) (1 + (cnt r5 : Int)) hr0 hc0 hr1 hc1 hz (decide_eq_false h0) hxd hs hi (eqLog_is _ _ _ _) he hd (by omega) rfl (decide_eq_false (by omega))
   (by omega) rfl (decide_eq_false (by omega)) (by simp) (by simp) hv
end Go.Proofs.Ytchmmnlmgkocoaa.L
