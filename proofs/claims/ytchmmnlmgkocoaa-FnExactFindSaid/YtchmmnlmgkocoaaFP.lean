/- laws.markEntryS walked; conditions: those of each lemma. -/
import Derived.Test.YtchmmnlmgkocoaaFO
set_option linter.unusedVariables false
set_option linter.unusedSimpArgs false
namespace Go.Proofs.Ytchmmnlmgkocoaa.F
open Go.Proofs.Ytchmmnlmgkocoaa.H (S81 z81 k81 k81_open k81_openM k81_mk k81_mkM rd_T81 at_T81 w64 rd_at)
open Go.RowKit Go.Proofs.YtchmmnlmgkocoaaW.PrintWords Go.Proofs.YtchmmnlmgkocoaaW.PrintLast Go.Proofs.YtchmmnlmgkocoaaW.PrintMore
/-- how many marks -/
def tot : List S110 → Nat
  | [] => 0
  | e :: t => 2 + 2 * cnt e.f1.f1 + tot t
theorem tot_app (s t : List S110) : tot (s ++ t) = tot s + tot t := by
  induction s with
  | nil => simp [tot]
  | cons l s ih => simp only [List.cons_append, tot, ih]; omega
theorem tot_step (s : List S110) (i : Nat) (h : i < s.length) : tot (s.take (i + 1)) = tot (s.take i) + (2 + 2 * cnt s[i].f1.f1) := by
  rw [show s.take (i + 1) = s.take i ++ [s[i]] by rw [List.take_add_one, List.getElem?_eq_getElem h]; rfl, tot_app]; simp [tot]
theorem tot_take (s : List S110) (i : Nat) : tot (s.take i) ≤ tot s := by
  have : tot s = tot (s.take i) + tot (s.drop i) := by rw [← tot_app, List.take_append_drop]
  omega
theorem tot_bound (s : List S110) (i : Nat) (h : i < s.length) : tot (s.take i) + (2 + 2 * cnt s[i].f1.f1) ≤ tot s := tot_step s i h ▸ tot_take s (i + 1)
theorem wraps (T TT C : Nat) (h : T + (2 + 2 * C) ≤ TT) (h1 : 1 + (TT : Int) ≤ 1000000000) : wrap64 ((1 + (T : Int)) + 1) = 2 + (T : Int) ∧ wrap64 ((2 + (T : Int)) + 1) = 3 + (T : Int) ∧ 3 + (T : Int) + 2 * (C : Int) ≤ 1000000000 ∧ 1 ≤ 3 + (T : Int) := by
  refine ⟨?_, ?_, by omega, by omega⟩
  · rw [w64 (by omega) (by omega)]; omega
  · rw [w64 (by omega) (by omega)]; omega
set_option maxHeartbeats 16000000 in
set_option maxRecDepth 100000 in
theorem markEntryS_walk {W w : World} {ok : Nat → Prop} {A0 : Option Addr} {c0 : Nat} (es : List S110) (h1 : 1 + (tot es : Int) ≤ 1000000000)
    (hS : Kd.S k110 110 w W.heap.size ok (.slice A0 es.length c0) es) (hB : Below W.heap.size W w) :
    Calls Try.prog 16 #[.slice A0 es.length c0, .int .i64 1] w fun e w' => e = .returned (.int .i64 (1 + (tot es : Int))) ∧ Kept w w' ok ∧ Below W.heap.size W w' := by
  have HS := Aside0.mk hS
  have HB := Aside0.mk hB
  have HK := Aside0.mk (Kept.refl w ok)
  have hlen : es.length ≤ 9223372036854775807 := (Kd.S_reads' hS).2.2.2.1
  clear hS hB
  go_enter Try.func16, Try.ntmps16
  go_wp2
  go_loopg [1, 5] es.length (fun gg s1 s5 wr => ∃ (i : Nat) (fs : List S110), i ≤ es.length ∧ es.length - i ≤ gg ∧ s1 = .int .i64 (1 + (tot (es.take i) : Int)) ∧ s5 = .int .i64 i ∧ fs.length = es.length ∧ fs.drop i = es.drop i ∧ Aside0 (Kd.S k110 110 wr W.heap.size ok (.slice A0 es.length c0) fs) ∧ Aside0 (Kept w wr ok) ∧ Aside0 (Below W.heap.size W wr))
  case atStart => exact ⟨0, es, Nat.zero_le _, by omega, by simp [tot], rfl, rfl, rfl, ⟨HS.out⟩, ⟨HK.out⟩, ⟨HB.out⟩⟩
  case round =>
    clear HS HK HB
    obtain ⟨i, fs, hi, hg, rfl, rfl, hfl, hfd, HS, HK, HB⟩ := hrel
    by_cases hlt : i < es.length
    · have hltz : (i : Int) < (es.length : Int) := by omega
      have d1 : decide ((i : Int) < (es.length : Int)) = true := decide_eq_true hltz
      have d2 : decide (i < es.length) = true := decide_eq_true hlt
      have hif : i < fs.length := by omega
      have hfi : fs[i] = es[i] := by
        have h2 : (fs.drop i)[0]? = (es.drop i)[0]? := by rw [hfd]
        simp only [List.getElem?_drop, Nat.add_zero] at h2
        rw [List.getElem?_eq_getElem hif, List.getElem?_eq_getElem hlt] at h2
        exact Option.some.inj h2
      obtain ⟨g, cap, hv, gb, gl, cl, HG⟩ := Kd.S_form HS.out (by omega)
      injection hv with ha hn hc
      clear hn
      subst ha; subst hc
      obtain ⟨w1i, w2i, hbd, hb1⟩ := wraps _ _ _ (tot_bound es i hlt) h1
      have HBD := Aside0.mk (And.intro hbd hb1)
      clear hbd hb1
      obtain ⟨A2, c2, oki, x0, x1, x2, f0, f1, _, _, _⟩ := lent HS.out i hif
      have HP := Aside0.mk (store0 HS.out i hif (1 + (tot (es.take i) : Int)))
      have GB := Aside0.mk gb
      have HFI := Aside0.mk hfi
      have HFD := Aside0.mk hfd
      clear gb hfi hfd HG
      obtain ⟨B2, b2, okj, y0, y1, y2, g0, g1, _, _, _⟩ := lent HP.out.1 i (by rw [List.length_set]; exact hif)
      obtain ⟨fs1, hf1⟩ : ∃ l, l = fs.set i ⟨1 + (tot (es.take i) : Int), fs[i].f1⟩ := ⟨_, rfl⟩
      have HF1 := Aside0.mk hf1
      have hl1 : fs1.length = fs.length := by rw [hf1, List.length_set]
      have HP1 := Aside0.mk (store1 (w := wr.setCell ⟨g, i * 3, none⟩ (.int .i64 (1 + (tot (es.take i) : Int)))) (base := W.heap.size) (ok := ok) (g := g) (n := es.length) (c := c0) (es := fs1) (by rw [hf1]; exact HP.out.1) i (by rw [hl1]; exact hif) (2 + (tot (es.take i) : Int)))
      clear hf1
      go_wp2_with fail
      have e1 : fs1[i]'(by rw [hl1]; exact hif) = ⟨1 + (tot (es.take i) : Int), fs[i].f1⟩ := by simp only [HF1.out]; exact List.getElem_set_self _
      obtain ⟨A3, c3, okk, _, _, z2, _, _, hS3, hok3, back⟩ := lent HP1.out.1 i (by rw [List.length_set, hl1]; exact hif)
      have e2 : (fs1.set i ⟨(fs1[i]'(by rw [hl1]; exact hif)).f0, ⟨2 + (tot (es.take i) : Int), (fs1[i]'(by rw [hl1]; exact hif)).f1.f1⟩⟩)[i]'(by rw [List.length_set, hl1]; exact hif) = ⟨1 + (tot (es.take i) : Int), ⟨2 + (tot (es.take i) : Int), fs[i].f1.f1⟩⟩ := by
        rw [List.getElem_set_self, e1]
      rw [e2] at z2 hS3
      simp only [e2] at back
      have y3 : ((wr.setCell ⟨g, i * 3, none⟩ (.int .i64 (1 + (tot (es.take i) : Int)))).setCell ⟨g, i * 3 + 1, none⟩ (.int .i64 (2 + (tot (es.take i) : Int)))).cell? ⟨g, i * 3 + 2, none⟩ = (wr.setCell ⟨g, i * 3, none⟩ (.int .i64 (1 + (tot (es.take i) : Int)))).cell? ⟨g, i * 3 + 2, none⟩ := World.cell?_setCell_other _ _ _ _ (by intro h; injection h with _ h2 _; omega)
      have y4 := z2.symm.trans (y3.trans y2)
      have e4 : ((fs.set i ⟨1 + (tot (es.take i) : Int), fs[i].f1⟩)[i]'(by rw [List.length_set]; exact hif)).f1.f1.length = fs[i].f1.f1.length := by rw [List.getElem_set_self]
      rw [e4] at y4
      injection y4 with y4
      injection y4 with ya _ yc
      subst ya; subst yc
      refine (markSS_walk (W := W) (ok := okk) fs[i].f1.f1 (3 + (tot (es.take i) : Int)) HBD.out.2 (by rw [HFI.out]; exact HBD.out.1) hS3 (below_set (below_set HB.out GB.out) GB.out)).mono ?_
      rintro e w' ⟨rfl, hS4, hk4, hB4⟩
      have HS4 := Aside0.mk (back w' _ hk4 hS4)
      have HB4 := Aside0.mk hB4
      have HK4 := Aside0.mk ((Kept.of_grown HP1.out.2 (Kept.of_grown HP.out.2 HK.out (S := ok) (fun k hk => Or.inl (HS.out.choose_spec.1 k (by simpa [Value.ownBlock] using hk)))) (fun k hk => Or.inl (HS.out.choose_spec.1 k (by simpa [Value.ownBlock] using hk)))).then_ hk4 (fun k h => Or.inl (hok3 k h)))
      clear hS4 hk4 hB4 back hS3 z2 y0 y1 y2 y3 x0 x1 x2
      go_wp2
      go_roundg (es.length - (i + 1))
      case measure => omega
      case rel =>
        refine ⟨i + 1, _, by omega, Nat.le_refl _, ?_, ?_, ?_, ?_, ⟨HS4.out⟩, ⟨HK4.out⟩, ⟨HB4.out⟩⟩
        · rw [tot_step es i hlt, HFI.out]
          congr 1
          omega
        · simp
        · simp [hl1, hfl]
        · simp only [HF1.out, List.set_set]
          rw [List.drop_set_of_lt (by omega)]
          have : (fs.drop i).drop 1 = (es.drop i).drop 1 := by rw [HFD.out]
          simpa [List.drop_drop, Nat.add_comm] using this
    · have hltz : ¬ (i : Int) < (es.length : Int) := by omega
      have d1 : decide ((i : Int) < (es.length : Int)) = false := decide_eq_false hltz
      have d2 : decide (i < es.length) = false := decide_eq_false hlt
      obtain rfl : i = es.length := by omega
      go_wp2
      go_ret
      refine ⟨?_, HK.out, HB.out⟩
      rfl
end Go.Proofs.Ytchmmnlmgkocoaa.F
