/- slices.Grow and slices.Concat of rows of points; conditions: those of each lemma. -/
import Derived.Test.YtchmmnlmgkocoaaHD
set_option linter.unusedVariables false
set_option linter.unusedSimpArgs false
namespace Go.Proofs.Ytchmmnlmgkocoaa.H
open Go.Shelf Go.RowKit Go.Sort Go.Proofs.YtchmmnlmgkocoaaW.PrintWords Go.Proofs.YtchmmnlmgkocoaaW.PrintLast Go.Proofs.YtchmmnlmgkocoaaW.PrintMore
set_option maxHeartbeats 1000000 in
theorem growPts {w : World} (n : Int) (h0 : 0 < n) (hn : n < 8796093022208) :
    Calls Try.prog 173 #[.slice none 0 0, .int .i64 n] w fun e w' => ∃ g cap, e = .returned (.slice (some ⟨g, 0, none⟩) 0 cap) ∧ Kd.R k81 81 w' w.heap.size (fun k => w.heap.size ≤ k) (.slice (some ⟨g, 0, none⟩) 0 cap) [] ∧ Below w.heap.size w w' := by
  obtain ⟨n, rfl⟩ := Int.eq_ofNat_of_zero_le (Int.le_of_lt h0)
  have h0' : 0 < n := by omega
  have hn' : n < 8796093022208 := by omega
  clear h0 hn
  have d1 : decide ((n : Int) < 0) = false := decide_eq_false (by omega)
  have d2 : decide (0 < (n : Int)) = true := decide_eq_true (by omega)
  go_enter Try.func173, Try.ntmps173
  go_wp2_with (at_builtin; refine Kd.R_append_zeros k81 (w0 := w) w.heap.size rfl (.tmp 20) (.tmp 21) 72 3 81 (.agg #[(.int .i64 0), (.int .i64 0)]) 16 rfl Try.underlying72 Try.underlying3 info81 rfl (by decide) (by omega) (.slice none 0 0) ([] : List S81) z81 (n : Int) (fun k => w.heap.size ≤ k) rfl rfl ?hz (fun _ h => h) (Kd.R_nil _ _ _ _ _) (by omega) (Below.refl _ _) (Nat.le_refl _) ?hl ?_; (case hz => exact k81_mkM _ _ _ z81); (case hl => simp; omega); intro v1 w1 ho hb hg hat; obtain ⟨A1, c1, hv1, hl1, _⟩ := Kd.R_reads ho; subst hv1; have HO := Aside0.mk ho; have HB := Aside0.mk hb; have HLL := Aside0.mk hl1; clear ho hb hg hat hl1)
  go_ret
  have hR := HO.out
  rw [List.nil_append] at hR
  rcases R_form hR with ⟨hv, h1⟩ | ⟨g, cap, cur, hv, _⟩
  · have := congrArg List.length h1
    simp at this
    omega
  · injection hv with ha _ hc
    subst ha; subst hc
    have hT := Kd.R_take hR (m := 0) (Nat.zero_le _)
    rw [List.take_zero] at hT
    exact ⟨g, c1, rfl, hT, HB.out⟩
/-- append(v, ys...) in a loop's round: see Concat -/
theorem concat_sum (a b : List S81) : ([a, b].map List.length).sum = a.length + b.length := by simp
set_option maxHeartbeats 2000000 in
theorem concatPts {w : World} {B : Nat} {A0 A1 : Option Addr} {c0 c1 : Nat} {a b : List S81} (hb0 : w.cell? ⟨B, 0, none⟩ = some (.slice A0 a.length c0)) (hb1 : w.cell? ⟨B, 1, none⟩ = some (.slice A1 b.length c1))
    (hr0 : Kd.C k81 w A0 a.length a) (hr1 : Kd.C k81 w A1 b.length b) (hB : B < w.heap.size) (h0 : 0 < a.length) (hl : a.length + b.length < 8796093022208) :
    Calls Try.prog 115 #[.slice (some ⟨B, 0, none⟩) 2 2] w fun e w' => ∃ v : Value, e = .returned v ∧ Kd.R k81 81 w' w.heap.size (fun k => w.heap.size ≤ k) v (a ++ b) ∧ Below w.heap.size w w' := by
  have HR0 := Aside0.mk hr0
  have HR1 := Aside0.mk hr1
  clear hr0 hr1
  have hg := Aside0.mk (fun w => growPts (w := w) ((a.length : Int) + (b.length : Int)) (by omega) (by omega))
  have e1 : (0 : Int) ≤ (a.length : Int) := by omega
  have e2 : (a.length : Int) ≤ 8796093022208 := by omega
  have e3 : (0 : Int) ≤ (b.length : Int) := by omega
  have e4 : (b.length : Int) ≤ 8796093022208 := by omega
  have d1 : decide ((a.length : Int) < 0) = false := decide_eq_false (by omega)
  have d2 : decide ((a.length : Int) + (b.length : Int) < 0) = false := decide_eq_false (by omega)
  go_enter Try.func115, Try.ntmps115
  go_wp2
  refine wp_loop_rounds 3 ?_
  rw [rounds_succ]
  go_wp2
  rw [rounds_succ]
  go_wp2
  rw [rounds_succ]
  go_wp2_with fail
  refine (hg.out _).mono ?_
  rintro e w1 ⟨g, cap, rfl, hR, hb⟩
  have HO := Aside0.mk hR
  have HB := Aside0.mk hb
  have HC := Aside0.mk (And.intro hb0 hb1)
  have hc0 : w1.cell? ⟨B, 0, none⟩ = some (.slice A0 a.length c0) := (hb.cell (p := ⟨B, 0, none⟩) hB).trans hb0
  have hc1 : w1.cell? ⟨B, 1, none⟩ = some (.slice A1 b.length c1) := (hb.cell (p := ⟨B, 1, none⟩) hB).trans hb1
  clear hR hb hb0 hb1
  go_wp2
  refine wp_loop_rounds 3 ?_
  rw [rounds_succ]
  go_wp2_with (at_builtin; refine Kd.R_append_rows k81 (w0 := w) w.heap.size rfl (.tmp 31) (.tmp 32) 72 81 (.agg #[(.int .i64 0), (.int .i64 0)]) 16 rfl Try.underlying72 info81 rfl (by decide) (by omega) (.slice (some ⟨g, 0, none⟩) 0 cap) ([] : List S81) a _ _ _ (fun k => w.heap.size ≤ k) (fun _ => False) rfl rfl ?aO ?aR (fun _ _ h => h) (fun _ h => h.elim) ?aF ?aB ?aS ?aL ?_; (case aO => exact HO.out); (case aR => exact Kd.C_below HR0.out HB.out); (case aF => exact fun k hk => Nat.le_trans HB.out.size hk); (case aB => exact HB.out); (case aS => exact HB.out.size); (case aL => simp; omega); intro v1 w2 ho hb hg2 hat; rw [List.nil_append] at ho; have HO2 := Aside0.mk ho; have HB2 := Aside0.mk hb; clear ho hb hat hg2 HO)
  clear hc0 hc1 HB
  have hc0 : w2.cell? ⟨B, 0, none⟩ = some (.slice A0 a.length c0) := (HB2.out.cell (p := ⟨B, 0, none⟩) hB).trans HC.out.1
  have hc1 : w2.cell? ⟨B, 1, none⟩ = some (.slice A1 b.length c1) := (HB2.out.cell (p := ⟨B, 1, none⟩) hB).trans HC.out.2
  rw [rounds_succ]
  go_wp2_with (at_builtin; refine Kd.R_append_rows k81 (w0 := w) w.heap.size rfl (.tmp 31) (.tmp 32) 72 81 (.agg #[(.int .i64 0), (.int .i64 0)]) 16 rfl Try.underlying72 info81 rfl (by decide) (by omega) v1 a b _ _ _ (fun k => w.heap.size ≤ k) (fun _ => False) rfl rfl ?aO ?aR (fun _ _ h => h) (fun _ h => h.elim) ?aF ?aB ?aS ?aL ?_; (case aO => exact HO2.out); (case aR => exact Kd.C_below HR1.out HB2.out); (case aF => exact fun k hk => Nat.le_trans HB2.out.size hk); (case aB => exact HB2.out); (case aS => exact HB2.out.size); (case aL => omega); intro v2 w3 ho hb hg2 hat; have HO3 := Aside0.mk ho; have HB3 := Aside0.mk hb; clear ho hb hat hg2 HO2)
  clear hc0 hc1 HB2
  rw [rounds_succ]
  go_wp2
  go_ret
  exact ⟨_, rfl, HO3.out, HB3.out⟩
end Go.Proofs.Ytchmmnlmgkocoaa.H
