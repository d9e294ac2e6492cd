/- laws.markByteSS, markWriteS, markDisk walked: rows apart, each marked; conditions: those of each lemma. -/
import Derived.Test.YtchmmnlmgkocoaaLM
set_option linter.unusedVariables false
set_option linter.unusedSimpArgs false
namespace Go.Proofs.Ytchmmnlmgkocoaa.L
open Go.RowKit Go.Proofs.YtchmmnlmgkocoaaW.PrintWords Go.Proofs.YtchmmnlmgkocoaaW.PrintLast Go.Proofs.YtchmmnlmgkocoaaW.PrintMore
/-- the rows, the first i of them marked -/
def marked (a : Int) (s : List (List Int)) (i : Nat) : List (List Int) := markSS a (s.take i) ++ s.drop i
theorem marked_len (a : Int) (s : List (List Int)) (i : Nat) (h : i ≤ s.length) : (marked a s i).length = s.length := by simp [marked, markSS_len]; omega
theorem marked_at (a : Int) (s : List (List Int)) (i : Nat) (h : i < s.length) : (marked a s i).getD i [] = s[i] := by
 unfold marked
 rw [List.getD_eq_getElem?_getD, List.getElem?_append_right (by rw [markSS_len]; simp; omega), markSS_len]
 have : i - (s.take i).length = 0 := by simp; omega
 rw [this, List.drop_eq_getElem_cons h]
 rfl
theorem marked_step (a : Int) (s : List (List Int)) (i : Nat) (h : i < s.length) : (marked a s i).set i (markL (a + (cnt (s.take i) : Int)) s[i].length) = marked a s (i + 1) := by
 unfold marked
 rw [List.set_append_right i _ (by rw [markSS_len]; simp; omega), markSS_len]
 have : i - (s.take i).length = 0 := by simp; omega
 have ht : s.take (i + 1) = s.take i ++ [s[i]] := by rw [List.take_add_one, List.getElem?_eq_getElem h]; rfl
 rw [this, List.drop_eq_getElem_cons h, List.set_cons_zero, ht, markSS_app]
 simp [markSS]
theorem cnt_step (s : List (List Int)) (i : Nat) (h : i < s.length) : cnt (s.take (i + 1)) = cnt (s.take i) + s[i].length := by
 rw [show s.take (i + 1) = s.take i ++ [s[i]] by rw [List.take_add_one, List.getElem?_eq_getElem h]; rfl, cnt_app]; simp [cnt]
theorem cnt_take (s : List (List Int)) (i : Nat) : cnt (s.take i) ≤ cnt s := by
 have : cnt s = cnt (s.take i) + cnt (s.drop i) := by rw [← cnt_app, List.take_append_drop]
 omega
set_option maxHeartbeats 8000000 in
theorem markSS_walk {W w : World} {ok : Nat → Prop} {A0 : Option Addr} {c0 : Nat} (s : List (List Int)) (a : Int) (h0 : 1 ≤ a) (h1 : a + (cnt s : Int) ≤ 1000000000)
  (hS : Kd.S (Kd.slice 5 (Kd.int .u8)) 36 w W.heap.size ok (.slice A0 s.length c0) s) (hB : Below W.heap.size W w) :
  Calls Try.prog 34 #[.slice A0 s.length c0, .int .i64 a] w fun e w' => e = .returned (.int .i64 (a + (cnt s : Int))) ∧ Kd.S (Kd.slice 5 (Kd.int .u8)) 36 w' W.heap.size ok (.slice A0 s.length c0) (markSS a s) ∧ Kept w w' ok ∧ Below W.heap.size W w' := by
 have HS := Aside0.mk (show Kd.S (Kd.slice 5 (Kd.int .u8)) 36 w W.heap.size ok (.slice A0 s.length c0) (marked a s 0) from by simpa [marked, markSS] using hS)
 have HB := Aside0.mk hB
 have HK := Aside0.mk (Kept.refl w ok)
 have hlen : s.length ≤ 9223372036854775807 := (Kd.S_reads' hS).2.2.2.1
 clear hS hB
 go_enter Try.func34, Try.ntmps34
 go_wp2
 go_loopg [1, 5] s.length (fun gg s1 s5 wr => ∃ i : Nat, i ≤ s.length ∧ s.length - i ≤ gg ∧ s1 = .int .i64 (a + (cnt (s.take i) : Int)) ∧ s5 = .int .i64 i ∧ Aside0 (Kd.S (Kd.slice 5 (Kd.int .u8)) 36 wr W.heap.size ok (.slice A0 s.length c0) (marked a s i)) ∧ Aside0 (Kept w wr ok) ∧ Aside0 (Below W.heap.size W wr))
 case atStart => exact ⟨0, Nat.zero_le _, by omega, by simp [cnt], rfl, ⟨HS.out⟩, ⟨HK.out⟩, ⟨HB.out⟩⟩
 case round =>
  clear HS HK HB
  obtain ⟨i, hi, hg, rfl, rfl, HS, HK, HB⟩ := hrel
  by_cases hlt : i < s.length
  ·
   have hltz : (i : Int) < (s.length : Int) := by omega
   have d1 : decide ((i : Int) < (s.length : Int)) = true := decide_eq_true hltz
   have hml := marked_len a s i hi
   obtain ⟨g, cap, hv, gb, gl, cl, HG⟩ := Kd.S_form HS.out (by omega)
   injection hv with ha hn hc
   clear hn
   subst ha; subst hc
   obtain ⟨oki, ce, hcl, hM, hcc, hfr, hoki, hH⟩ := Kd.S_elem HS.out [] (i : Int) (by omega) (by omega)
   obtain ⟨vi, rfl, hR⟩ := hM
   simp only [Int.toNat_natCast] at hR hcc hfr
   rw [marked_at a s i hlt] at hR
   obtain ⟨Ai, ci, rfl, hci, _⟩ := Kd.R_reads hR
   have hx0 : wr.cell? ⟨g, i, none⟩ = some (.slice Ai s[i].length ci) := by
    have := hcc 0 _ rfl
    simpa [show (Kd.slice 5 (Kd.int .u8)).sz = 1 from rfl] using this
   obtain ⟨k, hk⟩ := (mark_ev (a + (cnt (s.take i) : Int)) s[i] (by omega) (by have := cnt_step s i hlt; have := cnt_take s (i + 1); omega)).rounds
   have HR := Aside0.mk hR
   have HH := Aside0.mk hH
   have HM := Aside0.mk hk
   have HO := Aside0.mk hoki
   clear hR hH hk hoki hcl hcc hfr HG hml
   go_wp2_with fail
   refine (laws_markByteS.calls k oki _ s[i] _ _ _ W wr HB.out HR.out HM.out).mono ?_
   rintro e w' ⟨rfl, hR, hB, hk⟩
   have hH := Kd.H_kept HH.out hk (fun k h1 h2 h3 => h2 h3)
   have hS := Kd.H_back hH (x' := markL (a + (cnt (s.take i) : Int)) s[i].length) (okp := oki) ⟨_, rfl, Kd.R_reok rfl hR (fun k e => HR.out.1 k e)⟩ (fun k h => h)
   rw [Int.toNat_natCast, marked_step a s i hlt] at hS
   have HS2 := Aside0.mk hS
   have HB2 := Aside0.mk hB
   have HK2 := Aside0.mk (HK.out.then_ hk (fun k h => Or.inl (HO.out k h).1))
   clear hR hB hk hH hS HS HB HK HR HH
   go_wp2
   go_roundg (s.length - (i + 1))
   case measure => omega
   case rel =>
    refine ⟨i + 1, by omega, Nat.le_refl _, ?_, ?_, ⟨HS2.out⟩, ⟨HK2.out⟩, ⟨HB2.out⟩⟩
    ·
     rw [cnt_step s i hlt]
     congr 1
     omega
    ·
     simp
  ·
   have hltz : ¬ (i : Int) < (s.length : Int) := by omega
   have d1 : decide ((i : Int) < (s.length : Int)) = false := decide_eq_false hltz
   have d2 : decide (i < s.length) = false := decide_eq_false hlt
   obtain rfl : i = s.length := by omega
   go_wp2
   go_ret
   refine ⟨?_, ?_, HK.out, HB.out⟩
   ·
    rfl
   ·
    have := HS.out
    unfold marked at this
    rw [List.take_length, List.drop_length, List.append_nil] at this
    exact this
/-- writes marked one behind the other; how many marks -/
def markW (a : Int) : List S142 → List S142
 | [] => []
 | x :: t => ⟨a, markL (a + 1) x.f1.length⟩ :: markW (a + 1 + (x.f1.length : Int)) t
def totW : List S142 → Nat
 | [] => 0
 | x :: t => 1 + x.f1.length + totW t
theorem totW_app (s t : List S142) : totW (s ++ t) = totW s + totW t := by
 induction s with
 | nil => simp [totW]
 | cons l s ih => simp only [List.cons_append, totW, ih]; omega
theorem markW_app (a : Int) (s t : List S142) : markW a (s ++ t) = markW a s ++ markW (a + (totW s : Int)) t := by
 induction s generalizing a with
 | nil => simp [markW, totW]
 | cons l s ih =>
  simp only [List.cons_append, markW, ih, totW]
  congr 3
  omega
theorem markW_len (a : Int) (s : List S142) : (markW a s).length = s.length := by
 induction s generalizing a with
 | nil => rfl
 | cons l s ih => simp [markW, ih]
theorem totW_step (s : List S142) (i : Nat) (h : i < s.length) : totW (s.take (i + 1)) = totW (s.take i) + (1 + s[i].f1.length) := by
 rw [show s.take (i + 1) = s.take i ++ [s[i]] by rw [List.take_add_one, List.getElem?_eq_getElem h]; rfl, totW_app]; simp [totW]
theorem totW_take (s : List S142) (i : Nat) : totW (s.take i) ≤ totW s := by
 have : totW s = totW (s.take i) + totW (s.drop i) := by rw [← totW_app, List.take_append_drop]
 omega
theorem totW_bound (s : List S142) (i : Nat) (h : i < s.length) : totW (s.take i) + (1 + s[i].f1.length) ≤ totW s := totW_step s i h ▸ totW_take s (i + 1)
def markedW (a : Int) (s : List S142) (i : Nat) : List S142 := markW a (s.take i) ++ s.drop i
theorem markedW_len (a : Int) (s : List S142) (i : Nat) (h : i ≤ s.length) : (markedW a s i).length = s.length := by simp [markedW, markW_len]; omega
theorem markedW_at (a : Int) (s : List S142) (i : Nat) (h : i < s.length) : (markedW a s i)[i]'(by rw [markedW_len a s i (by omega)]; exact h) = s[i] := by
 apply Option.some.inj
 rw [← List.getElem?_eq_getElem]
 unfold markedW
 rw [List.getElem?_append_right (by rw [markW_len]; simp; omega), markW_len]
 have : i - (s.take i).length = 0 := by simp; omega
 rw [this, List.drop_eq_getElem_cons h]
 rfl
theorem markedW_step (a : Int) (s : List S142) (i : Nat) (h : i < s.length) : (markedW a s i).set i ⟨a + (totW (s.take i) : Int), markL (a + (totW (s.take i) : Int) + 1) s[i].f1.length⟩ = markedW a s (i + 1) := by
 unfold markedW
 rw [List.set_append_right i _ (by rw [markW_len]; simp; omega), markW_len]
 have : i - (s.take i).length = 0 := by simp; omega
 have ht : s.take (i + 1) = s.take i ++ [s[i]] := by rw [List.take_add_one, List.getElem?_eq_getElem h]; rfl
 rw [this, List.drop_eq_getElem_cons h, List.set_cons_zero, ht, markW_app]
 simp [markW]
section
variable {w : World} {base g n c : Nat} {ok : Nat → Prop} {es : List S142}
theorem wstore (hS : Kd.S k142 142 w base ok (.slice (some ⟨g, 0, none⟩) n c) es) (i : Nat) (hi : i < es.length) (z : Int) :
  Kd.S k142 142 (w.setCell ⟨g, i * 2, none⟩ (.int .i64 z)) base ok (.slice (some ⟨g, 0, none⟩) n c) (es.set i ⟨z, es[i].f1⟩) ∧ w.grownBy (w.setCell ⟨g, i * 2, none⟩ (.int .i64 z)) (some g) := by
 have hn := (Kd.S_reads' hS).1
 obtain ⟨oki, ce, hcl, hM, hcc, hfr, hoki, hH⟩ := Kd.S_elem hS z142 (i : Int) (by omega) (by omega)
 rw [Int.toNat_natCast, List.getD_eq_getElem?_getD, List.getElem?_eq_getElem hi] at hM
 obtain ⟨v2, rfl, gR⟩ := k142_openM hM
 have := Kd.S_seg0 hH (by omega) (by omega) (seg := [.int .i64 z]) (j := 0) (show 0 + 1 ≤ 2 by omega) (x' := (⟨z, es[i].f1⟩ : S142)) (okp := oki) (k142_mkM w base oki ⟨z, es[i].f1⟩ gR) (fun k h => h)
 rw [Int.toNat_natCast] at this
 exact this
theorem wlent (hS : Kd.S k142 142 w base ok (.slice (some ⟨g, 0, none⟩) n c) es) (i : Nat) (hi : i < es.length) :
  ∃ (A2 : Option Addr) (c2 : Nat) (oki : Nat → Prop), w.cell? ⟨g, i * 2, none⟩ = some (.int .i64 es[i].f0) ∧ w.cell? ⟨g, i * 2 + 1, none⟩ = some (.slice A2 es[i].f1.length c2) ∧
   w.frozen? ⟨g, i * 2, none⟩ = false ∧ (Kd.int .u8).R 5 w base oki (.slice A2 es[i].f1.length c2) es[i].f1 ∧ (∀ k, oki k → ok k) ∧
   ∀ (w' : World) (s : List Int), Kept w w' oki → (Kd.int .u8).R 5 w' base oki (.slice A2 es[i].f1.length c2) s → Kd.S k142 142 w' base ok (.slice (some ⟨g, 0, none⟩) n c) (es.set i ⟨es[i].f0, s⟩) := by
 have hn := (Kd.S_reads' hS).1
 obtain ⟨oki, ce, hcl, hM, hcc, hfr, hoki, hH⟩ := Kd.S_elem hS z142 (i : Int) (by omega) (by omega)
 rw [Int.toNat_natCast] at hM hcc hfr
 rw [List.getD_eq_getElem?_getD, List.getElem?_eq_getElem hi] at hM
 obtain ⟨v2, rfl, gR⟩ := k142_openM hM
 obtain ⟨A2, c2, rfl, _, _⟩ := Kd.R_reads gR
 refine ⟨A2, c2, oki, hcc 0 _ rfl, hcc 1 _ rfl, hfr 0, gR, fun k h => (hoki k h).1, fun w' s hk hs => ?_⟩
 have := Kd.H_back (Kd.H_kept hH hk (fun k h1 h2 h3 => h2 h3)) (x' := (⟨es[i].f0, s⟩ : S142)) (okp := oki) (k142_mkM w' base oki ⟨es[i].f0, s⟩ hs) (fun k h => h)
 rw [Int.toNat_natCast] at this
 exact this
end
set_option maxHeartbeats 16000000 in
set_option maxRecDepth 100000 in
theorem markWriteS_walk {W w : World} {ok : Nat → Prop} {A0 : Option Addr} {c0 : Nat} (es : List S142) (a : Int) (h0 : 1 ≤ a) (h1 : a + (totW es : Int) ≤ 1000000000)
  (hS : Kd.S k142 142 w W.heap.size ok (.slice A0 es.length c0) es) (hB : Below W.heap.size W w) :
  Calls Try.prog 85 #[.slice A0 es.length c0, .int .i64 a] w fun e w' => e = .returned (.int .i64 (a + (totW es : Int))) ∧ Kd.S k142 142 w' W.heap.size ok (.slice A0 es.length c0) (markW a es) ∧ Kept w w' ok ∧ Below W.heap.size W w' := by
 have HS := Aside0.mk (show Kd.S k142 142 w W.heap.size ok (.slice A0 es.length c0) (markedW a es 0) from by simpa [markedW, markW] using hS)
 have HB := Aside0.mk hB
 have HK := Aside0.mk (Kept.refl w ok)
 have hlen : es.length ≤ 9223372036854775807 := (Kd.S_reads' hS).2.2.2.1
 clear hS hB
 go_enter Try.func85, Try.ntmps85
 go_wp2
 go_loopg [1, 5] es.length (fun gg s1 s5 wr => ∃ i : Nat, i ≤ es.length ∧ es.length - i ≤ gg ∧ s1 = .int .i64 (a + (totW (es.take i) : Int)) ∧ s5 = .int .i64 i ∧ Aside0 (Kd.S k142 142 wr W.heap.size ok (.slice A0 es.length c0) (markedW a es i)) ∧ Aside0 (Kept w wr ok) ∧ Aside0 (Below W.heap.size W wr))
 case atStart => exact ⟨0, Nat.zero_le _, by omega, by simp [totW], rfl, ⟨HS.out⟩, ⟨HK.out⟩, ⟨HB.out⟩⟩
 case round =>
  clear HS HK HB
  obtain ⟨i, hi, hg, rfl, rfl, HS, HK, HB⟩ := hrel
  by_cases hlt : i < es.length
  ·
   have hltz : (i : Int) < (es.length : Int) := by omega
   have d1 : decide ((i : Int) < (es.length : Int)) = true := decide_eq_true hltz
   have d2 : decide (i < es.length) = true := decide_eq_true hlt
   have hml := markedW_len a es i hi
   have hif : i < (markedW a es i).length := by omega
   have HFI := Aside0.mk (markedW_at a es i hlt)
   obtain ⟨g, cap, hv, gb, gl, cl, HG⟩ := Kd.S_form HS.out (by omega)
   injection hv with ha hn hc
   clear hn
   subst ha; subst hc
   obtain ⟨T, hT⟩ : ∃ T : Int, a + (totW (es.take i) : Int) = T := ⟨_, rfl⟩
   have hbd := totW_bound es i hlt
   have t1 : 1 ≤ T := by omega
   have t2 : T + 1 + (es[i].f1.length : Int) ≤ 1000000000 := by omega
   have HT := Aside0.mk hT
   have HT2 := Aside0.mk t2
   clear hbd t2
   rw [hT]
   obtain ⟨A2, c2, oki, x0, x1, f0, _, _, _⟩ := wlent HS.out i hif
   have HP := Aside0.mk (wstore HS.out i hif T)
   have GB := Aside0.mk gb
   have t3 : T ≤ 1000000000 := by have := HT2.out; omega
   clear gb HG hT
   obtain ⟨fs1, hf1⟩ : ∃ l, l = (markedW a es i).set i ⟨T, (markedW a es i)[i].f1⟩ := ⟨_, rfl⟩
   have HF1 := Aside0.mk hf1
   have hl1 : fs1.length = es.length := by rw [hf1, List.length_set, hml]
   have HS1 := Aside0.mk (show Kd.S k142 142 (wr.setCell ⟨g, i * 2, none⟩ (.int .i64 T)) W.heap.size ok (.slice (some ⟨g, 0, none⟩) es.length c0) fs1 from by rw [hf1]; exact HP.out.1)
   obtain ⟨B2, b2, okj, y0, y1, _, gR, hok, back⟩ := wlent HS1.out i (by rw [hl1]; exact hlt)
   have e1 : fs1[i]'(by rw [hl1]; exact hlt) = ⟨T, es[i].f1⟩ := by
    simp only [HF1.out]
    rw [List.getElem_set_self, HFI.out]
   rw [e1] at y0 y1 gR
   simp only [e1] at back
   have HR := Aside0.mk gR
   have HBK := Aside0.mk back
   have HOK := Aside0.mk hok
   obtain ⟨k, hk⟩ := (mark_ev (T + 1) es[i].f1 (by omega) HT2.out).rounds
   have HMK := Aside0.mk hk
   clear hf1 gR back hok hk e1
   go_wp2_with fail
   refine (laws_markByteS.calls k okj _ es[i].f1 _ _ _ W _ (below_set HB.out GB.out) HR.out HMK.out).mono ?_
   rintro e w' ⟨rfl, hR, hB, hk⟩
   have hS4 := HBK.out w' _ hk (Kd.R_reok rfl hR (fun k e => HR.out.1 k e))
   have e5 : fs1.set i ⟨T, markL (T + 1) es[i].f1.length⟩ = markedW a es (i + 1) := by
    rw [HF1.out, List.set_set, ← HT.out, markedW_step a es i hlt]
   rw [e5] at hS4
   have HS4 := Aside0.mk hS4
   have HB4 := Aside0.mk hB
   have HK4 := Aside0.mk ((Kept.of_grown HP.out.2 HK.out (S := ok) (fun k hk => Or.inl (HS.out.choose_spec.1 k (by simpa [Value.ownBlock] using hk)))).then_ hk (fun k h => Or.inl (HOK.out k h)))
   clear hS4 hk hB hR
   go_wp2
   go_roundg (es.length - (i + 1))
   case measure => omega
   case rel =>
    refine ⟨i + 1, by omega, Nat.le_refl _, ?_, ?_, ⟨HS4.out⟩, ⟨HK4.out⟩, ⟨HB4.out⟩⟩
    ·
     rw [totW_step es i hlt, ← HT.out]
     congr 1
     omega
    ·
     simp
  ·
   have hltz : ¬ (i : Int) < (es.length : Int) := by omega
   have d1 : decide ((i : Int) < (es.length : Int)) = false := decide_eq_false hltz
   have d2 : decide (i < es.length) = false := decide_eq_false hlt
   obtain rfl : i = es.length := by omega
   go_wp2
   go_ret
   refine ⟨?_, ?_, HK.out, HB.out⟩
   ·
    rfl
   ·
    have := HS.out
    unfold markedW at this
    rw [List.take_length, List.drop_length, List.append_nil] at this
    exact this
/-- a disk of the call's own, in blocks of that range -/
def OwnD (w : World) (base lo hi : Nat) (A0 : Option Addr) (c0 : Nat) (b : List Int) (A1 : Option Addr) (c1 : Nat) (q : List S142) : Prop :=
 hi ≤ w.heap.size ∧ (Kd.int .u8).R 5 w base (fun k => lo ≤ k ∧ k < hi) (.slice A0 b.length c0) b ∧ Kd.S k142 142 w base (fun k => (lo ≤ k ∧ k < hi) ∧ some k ≠ (Value.slice A0 b.length c0).ownBlock) (.slice A1 q.length c1) q
section
variable {w w1 : World} {base lo hi : Nat} {A0 A1 : Option Addr} {c0 c1 : Nat} {b : List Int} {q : List S142} {v0 v1 : Value}
theorem ownD_new (h0 : (Kd.int .u8).R 5 w1 w.heap.size (fun _ => True) v0 b) (h1 : Kd.S k142 142 w1 w.heap.size (fun k_ => some k_ ≠ v0.ownBlock) v1 q) (hb : base ≤ w.heap.size) :
  ∃ A0 c0 A1 c1 lo hi, v0 = .slice A0 b.length c0 ∧ v1 = .slice A1 q.length c1 ∧ w.heap.size ≤ lo ∧ OwnD w1 base lo hi A0 c0 b A1 c1 q := by
 obtain ⟨A0, c0, rfl, _, _⟩ := Kd.R_reads h0
 obtain ⟨A1, c1, rfl, _, _⟩ := Kd.S_reads h1
 exact ⟨A0, c0, A1, c1, _, _, rfl, rfl, Nat.le_refl _, Nat.le_refl _, Kd.R_lower (Kd.R_mono (Kd.R_bound h0) (fun k hk => ⟨hk.2.1, hk.2.2.1⟩)) hb, Kd.S_lower (Kd.S_mono (Kd.S_bound h1) (fun k hk => ⟨⟨hk.2.1, hk.2.2.1⟩, hk.1⟩)) hb⟩
theorem ownD_below (h : OwnD w base lo hi A0 c0 b A1 c1 q) (hb : Below w.heap.size w w1) : OwnD w1 base lo hi A0 c0 b A1 c1 q := ⟨Nat.le_trans h.1 hb.size, Kd.R_below h.2.1 hb, Kd.S_below h.2.2 hb⟩
theorem ownD_alloc (h : OwnD w base lo hi A0 c0 b A1 c1 q) (o : Obj) : OwnD (w.alloc o) base lo hi A0 c0 b A1 c1 q := ownD_below h (below_alloc (Below.refl _ _) o)
theorem ownD_drew (h : OwnD w base lo hi A0 c0 b A1 c1 q) : OwnD w.drew base lo hi A0 c0 b A1 c1 q := ownD_below h (below_drew (Below.refl _ _))
theorem ownD_drewN (h : OwnD w base lo hi A0 c0 b A1 c1 q) (m : Nat) : OwnD (w.drewN m) base lo hi A0 c0 b A1 c1 q := ownD_below h (pw_below_drewN (Below.refl _ _) m)
theorem ownD_far (h : OwnD w base lo hi A0 c0 b A1 c1 q) {p : Addr} (hp : hi ≤ p.block) (u : Value) : OwnD (w.setCell p u) base lo hi A0 c0 b A1 c1 q := by
 refine ⟨?_, Kd.R_far h.2.1 (fun k hk => by omega) u, Kd.S_far h.2.2 (fun k hk => by omega) u⟩
 have : (w.setCell p u).heap.size = w.heap.size := by simp [World.setCell]
 rw [this]; exact h.1
theorem ownD_le {lo2 : Nat} (h : OwnD w base lo hi A0 c0 b A1 c1 q) (h2 : w.heap.size ≤ lo2) : hi ≤ lo2 := Nat.le_trans h.1 h2
theorem ownD_r0 (h : OwnD w base lo hi A0 c0 b A1 c1 q) : (Kd.int .u8).C w A0 b.length b := (Kd.R_reads' h.2.1).2.2
theorem ownD_r1 (h : OwnD w base lo hi A0 c0 b A1 c1 q) : k142.C w A1 q.length q := (Kd.S_reads' h.2.2).2.2
theorem ownD_c0 (h : OwnD w base lo hi A0 c0 b A1 c1 q) : b.length ≤ c0 := (Kd.R_reads' h.2.1).2.1
theorem ownD_c1 (h : OwnD w base lo hi A0 c0 b A1 c1 q) : q.length ≤ c1 := (Kd.S_reads' h.2.2).2.1
end
set_option maxHeartbeats 8000000 in
set_option maxRecDepth 100000 in
theorem markDisk_walk {W w : World} {lo hi : Nat} {A0 A1 : Option Addr} {c0 c1 : Nat} {b : List Int} {q : List S142} (a : Int) (h0 : 1 ≤ a) (h1 : a + (b.length : Int) + (totW q : Int) ≤ 1000000000)
  (hO : OwnD w W.heap.size lo hi A0 c0 b A1 c1 q) (hB : Below W.heap.size W w) :
  Calls Try.prog 28 #[.agg #[.slice A0 b.length c0, .slice A1 q.length c1], .int .i64 a] w fun e w' => e = .returned (.int .i64 (a + (b.length : Int) + (totW q : Int))) ∧ OwnD w' W.heap.size lo hi A0 c0 (markL a b.length) A1 c1 (markW (a + (b.length : Int)) q) ∧ Kept w w' (fun k => lo ≤ k ∧ k < hi) ∧ Below W.heap.size W w' := by
 have HO := Aside0.mk (ownD_alloc hO (.cells #[.slice A0 b.length c0, .slice A1 q.length c1] 45))
 have HB := Aside0.mk (below_alloc hB (.cells #[.slice A0 b.length c0, .slice A1 q.length c1] 45))
 have HLT := Aside0.mk hO.1
 obtain ⟨k, hk⟩ := (mark_ev a b h0 (by omega)).rounds
 have HMK := Aside0.mk hk
 have HT := Aside0.mk (Kd.R_tight rfl (ownD_alloc hO (.cells #[.slice A0 b.length c0, .slice A1 q.length c1] 45)).2.1)
 obtain ⟨a2, ha2⟩ : ∃ a2, a + (b.length : Int) = a2 := ⟨_, rfl⟩
 rw [ha2] at hk h1
 rw [ha2]
 have HA2 := Aside0.mk ha2
 have g0 : 1 ≤ a2 := by omega
 clear hO hB hk ha2
 rw [HA2.out] at HMK
 go_enter Try.func28, Try.ntmps28
 go_wp2_with fail
 refine (laws_markByteS.calls k _ _ b _ _ _ W _ HB.out HT.out HMK.out).mono ?_
 rintro e w' ⟨rfl, hR, hB, hk⟩
 have hR2 := Kd.R_reok rfl hR (ok := fun k => some k = (Value.slice A0 b.length c0).ownBlock) (fun k e => e.symm)
 have hS2 := Kd.S_kept HO.out.2.2 hk (fun k h e => h.2 e)
 have BK := blk_kept (blk_new w (.cells #[.slice A0 b.length c0, .slice A1 q.length c1] 45)) hk (fun e => by
  have := (HO.out.2.1.1 w.heap.size e.symm).2
  have := HLT.out
  omega)
 have y1 := (blk_cell BK 1).trans rfl
 have y0 := (blk_cell BK 0).trans rfl
 have HR2 := Aside0.mk hR2
 have HS2 := Aside0.mk hS2
 have HB2 := Aside0.mk hB
 have HK2 := Aside0.mk hk
 have HL := Aside0.mk (markL_len a b.length)
 clear hR hR2 hS2 hB hk BK
 go_wp2_with fail
 refine (markWriteS_walk q a2 g0 h1 HS2.out HB2.out).mono ?_
 rintro e w2 ⟨rfl, hS, hk, hB⟩
 have hR3 := Kd.R_kept HR2.out hk (fun k e h => h.2 e)
 have HK3 := Aside0.mk (((Kept.alloc (Kept.refl w (fun k => lo ≤ k ∧ k < hi)) (.cells #[.slice A0 b.length c0, .slice A1 q.length c1] 45)).then_ HK2.out (fun k e => Or.inl (HO.out.2.1.1 k e.symm))).then_ hk (fun k h => Or.inl h.1))
 have HO3 := Aside0.mk (show OwnD w2 W.heap.size lo hi A0 c0 (markL a b.length) A1 c1 (markW a2 q) from by
  refine ⟨Nat.le_trans HLT.out HK3.out.1, ?_, ?_⟩
  ·
   rw [HL.out]
   exact Kd.R_mono hR3 (fun k e => HO.out.2.1.1 k e.symm)
  ·
   rw [HL.out, markW_len]
   exact hS)
 have HB3 := Aside0.mk hB
 clear hS hk hB hR3
 go_wp2
 go_ret
 exact ⟨rfl, HO3.out, HK3.out, HB3.out⟩
end Go.Proofs.Ytchmmnlmgkocoaa.L
