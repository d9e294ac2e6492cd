/- laws.markPtSS walked: rows of rows, the inner rows apart, each marked; conditions: those of each lemma. -/
import Derived.Test.YtchmmnlmgkocoaaFM
import Derived.LoopTactic
set_option linter.unusedVariables false
set_option linter.unusedSimpArgs false
namespace Go.Proofs.Ytchmmnlmgkocoaa.F
open Go.Proofs.Ytchmmnlmgkocoaa.H (S81 z81 k81 k81_open k81_openM k81_mk k81_mkM rd_T81 at_T81 w64 rd_at)
open Go.RowKit Go.Proofs.YtchmmnlmgkocoaaW.PrintWords Go.Proofs.YtchmmnlmgkocoaaW.PrintLast Go.Proofs.YtchmmnlmgkocoaaW.PrintMore
/-- the rows, the first i of them marked -/
def marked (a : Int) (s : List (List S81)) (i : Nat) : List (List S81) := markSS a (s.take i) ++ s.drop i
theorem marked_len (a : Int) (s : List (List S81)) (i : Nat) (h : i ≤ s.length) : (marked a s i).length = s.length := by simp [marked, markSS_len]; omega
theorem marked_at (a : Int) (s : List (List S81)) (i : Nat) (h : i < s.length) : (marked a s i).getD i [] = s[i] := by
  unfold marked
  rw [List.getD_eq_getElem?_getD, List.getElem?_append_right (by rw [markSS_len]; simp; omega), markSS_len]
  have : i - (s.take i).length = 0 := by simp; omega
  rw [this, List.drop_eq_getElem_cons h]
  rfl
theorem marked_step (a : Int) (s : List (List S81)) (i : Nat) (h : i < s.length) : (marked a s i).set i (markL (a + 2 * (cnt (s.take i) : Int)) s[i].length) = marked a s (i + 1) := by
  unfold marked
  rw [List.set_append_right i _ (by rw [markSS_len]; simp; omega), markSS_len]
  have : i - (s.take i).length = 0 := by simp; omega
  have ht : s.take (i + 1) = s.take i ++ [s[i]] := by rw [List.take_add_one, List.getElem?_eq_getElem h]; rfl
  rw [this, List.drop_eq_getElem_cons h, List.set_cons_zero, ht, markSS_app]
  simp [markSS]
theorem cnt_step (s : List (List S81)) (i : Nat) (h : i < s.length) : cnt (s.take (i + 1)) = cnt (s.take i) + s[i].length := by
  rw [show s.take (i + 1) = s.take i ++ [s[i]] by rw [List.take_add_one, List.getElem?_eq_getElem h]; rfl, cnt_app]; simp [cnt]
theorem cnt_take (s : List (List S81)) (i : Nat) : cnt (s.take i) ≤ cnt s := by
  have : cnt s = cnt (s.take i) + cnt (s.drop i) := by rw [← cnt_app, List.take_append_drop]
  omega
set_option maxHeartbeats 8000000 in
theorem markSS_walk {W w : World} {ok : Nat → Prop} {A0 : Option Addr} {c0 : Nat} (s : List (List S81)) (a : Int) (h0 : 1 ≤ a) (h1 : a + 2 * (cnt s : Int) ≤ 1000000000)
    (hS : Kd.S (Kd.slice 81 k81) 72 w W.heap.size ok (.slice A0 s.length c0) s) (hB : Below W.heap.size W w) :
    Calls Try.prog 72 #[.slice A0 s.length c0, .int .i64 a] w fun e w' => e = .returned (.int .i64 (a + 2 * (cnt s : Int))) ∧ Kd.S (Kd.slice 81 k81) 72 w' W.heap.size ok (.slice A0 s.length c0) (markSS a s) ∧ Kept w w' ok ∧ Below W.heap.size W w' := by
  have HS := Aside0.mk (show Kd.S (Kd.slice 81 k81) 72 w W.heap.size ok (.slice A0 s.length c0) (marked a s 0) from by simpa [marked, markSS] using hS)
  have HB := Aside0.mk hB
  have HK := Aside0.mk (Kept.refl w ok)
  have hlen : s.length ≤ 9223372036854775807 := (Kd.S_reads' hS).2.2.2.1
  clear hS hB
  go_enter Try.func72, Try.ntmps72
  go_wp2
  go_loopg [1, 5] s.length (fun gg s1 s5 wr => ∃ i : Nat, i ≤ s.length ∧ s.length - i ≤ gg ∧ s1 = .int .i64 (a + 2 * (cnt (s.take i) : Int)) ∧ s5 = .int .i64 i ∧ Aside0 (Kd.S (Kd.slice 81 k81) 72 wr W.heap.size ok (.slice A0 s.length c0) (marked a s i)) ∧ Aside0 (Kept w wr ok) ∧ Aside0 (Below W.heap.size W wr))
  case atStart => exact ⟨0, Nat.zero_le _, by omega, by simp [cnt], rfl, ⟨HS.out⟩, ⟨HK.out⟩, ⟨HB.out⟩⟩
  case round =>
    clear HS HK HB
    obtain ⟨i, hi, hg, rfl, rfl, HS, HK, HB⟩ := hrel
    by_cases hlt : i < s.length
    · have hltz : (i : Int) < (s.length : Int) := by omega
      have d1 : decide ((i : Int) < (s.length : Int)) = true := decide_eq_true hltz
      have hml := marked_len a s i hi
      obtain ⟨g, cap, hv, gb, gl, cl, HG⟩ := Kd.S_form HS.out (by omega)
      injection hv with ha hn hc
      clear hn
      subst ha; subst hc
      obtain ⟨oki, ce, hcl, hM, hcc, hfr, hoki, hH⟩ := Kd.S_elem HS.out [] (i : Int) (by omega) (by omega)
      obtain ⟨vi, rfl, hR⟩ := hM
      simp only [Int.toNat_natCast] at hR hcc hfr
      rw [marked_at a s i hlt] at hR
      obtain ⟨Ai, ci, rfl, hci, _⟩ := Kd.R_reads hR
      have hx0 : wr.cell? ⟨g, i, none⟩ = some (.slice Ai s[i].length ci) := by
        have := hcc 0 _ rfl
        simpa [show (Kd.slice 81 k81).sz = 1 from rfl] using this
      obtain ⟨k, hk⟩ := (mark_ev (a + 2 * (cnt (s.take i) : Int)) s[i] (by omega) (by have := cnt_step s i hlt; have := cnt_take s (i + 1); omega)).rounds
      have HR := Aside0.mk hR
      have HH := Aside0.mk hH
      have HM := Aside0.mk hk
      have HO := Aside0.mk hoki
      clear hR hH hk hoki hcl hcc hfr HG hml
      go_wp2_with fail
      refine (laws_markPtS.calls k oki _ s[i] _ _ _ W wr HB.out HR.out HM.out).mono ?_
      rintro e w' ⟨rfl, hR, hB, hk⟩
      have hH := Kd.H_kept HH.out hk (fun k h1 h2 h3 => h2 h3)
      have hS := Kd.H_back hH (x' := markL (a + 2 * (cnt (s.take i) : Int)) s[i].length) (okp := oki) ⟨_, rfl, Kd.R_reok rfl hR (fun k e => HR.out.1 k e)⟩ (fun k h => h)
      rw [Int.toNat_natCast, marked_step a s i hlt] at hS
      have HS2 := Aside0.mk hS
      have HB2 := Aside0.mk hB
      have HK2 := Aside0.mk (HK.out.then_ hk (fun k h => Or.inl (HO.out k h).1))
      clear hR hB hk hH hS HS HB HK HR HH
      go_wp2
      go_roundg (s.length - (i + 1))
      case measure => omega
      case rel =>
        refine ⟨i + 1, by omega, Nat.le_refl _, ?_, ?_, ⟨HS2.out⟩, ⟨HK2.out⟩, ⟨HB2.out⟩⟩
        · rw [cnt_step s i hlt]
          congr 1
          omega
        · simp
    · have hltz : ¬ (i : Int) < (s.length : Int) := by omega
      have d1 : decide ((i : Int) < (s.length : Int)) = false := decide_eq_false hltz
      have d2 : decide (i < s.length) = false := decide_eq_false hlt
      obtain rfl : i = s.length := by omega
      go_wp2
      go_ret
      refine ⟨?_, ?_, HK.out, HB.out⟩
      · rfl
      · have := HS.out
        unfold marked at this
        rw [List.take_length, List.drop_length, List.append_nil] at this
        exact this
end Go.Proofs.Ytchmmnlmgkocoaa.F
