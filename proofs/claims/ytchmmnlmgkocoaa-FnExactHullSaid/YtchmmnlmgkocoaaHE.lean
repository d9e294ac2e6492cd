/- impl.Hull comes to impl_Hull.f; condition: what its argument's cells hold. -/
import Derived.Test.YtchmmnlmgkocoaaHG
import Derived.Test.YtchmmnlmgkocoaaH3
import Derived.IntWalk
set_option linter.unusedVariables false
set_option linter.unusedSimpArgs false
namespace Go.Proofs.Ytchmmnlmgkocoaa.H
open Go.Shelf Go.RowKit Go.Sort Go.Proofs.YtchmmnlmgkocoaaW.PrintWords Go.Proofs.YtchmmnlmgkocoaaW.PrintLast Go.Proofs.YtchmmnlmgkocoaaW.PrintMore
/-- the points in order, each once -/
def sortedPts (l : List S81) : List S81 := comp (l.mergeSort lePt)
def impl_Hull.f (k : Nat) (l0 : List S81) : Option (List S81) :=
  (impl_areRight.f k l0).bind fun t => if t = true then
    (if l0.length < 8796093022 then
      (if (sortedPts l0).length < 2 then some (sortedPts l0) else
        (impl_chainOf.f k (sortedPts l0)).bind fun low => (impl_chainOf.f k (sortedPts l0).reverse).bind fun high =>
          if 1 < low.length ∧ 0 < high.length ∧ low.length + high.length < 8796093022208 then some (low.dropLast ++ high.dropLast) else none)
      else none)
    else some []
theorem impl_Hull.mono : ∀ a0 k, LeO (impl_Hull.f k a0) (impl_Hull.f (k + 1) a0) := by
  intro a0 k
  unfold impl_Hull.f
  refine LeO.bind (impl_areRight.mono _ _) fun t => LeO.ite (LeO.ite (LeO.ite (LeO.refl _) (LeO.bind (impl_chainOf.mono _ _) fun _ => LeO.bind (impl_chainOf.mono _ _) fun _ => LeO.refl _)) (LeO.refl _)) (LeO.refl _)
theorem low_take (n : Nat) (l : List S81) (h : l.length = n) : l.take (n - 1) = l.dropLast := by rw [List.dropLast_eq_take, h]
section
variable {w : World} {base : Nat} {ok : Nat → Prop} {v : Value} {xs : List S81}
theorem comp_short (h : xs.length < 2) : comp xs = xs := by
  match xs, h with
  | [], _ => rfl
  | [a], _ => rfl
  | _ :: _ :: _, h => simp at h; omega
theorem compactPts (h : Kd.R k81 81 w base ok v xs) (hn : xs.length ≤ 4611686018427387904) (hbw : base ≤ w.heap.size) :
    Calls Try.prog 111 #[v] w fun e w' => ∃ v' : Value, e = .returned v' ∧ Kd.R k81 81 w' base ok v' (comp xs) ∧ Below base w w' := by
  rcases R_form h with ⟨rfl, rfl⟩ | ⟨g, cap, cur, rfl, hok, hb, hh, h1, h2, h3, h4⟩
  · exact compact_nil.mono fun e w' ⟨he, hw⟩ => ⟨_, he, by subst hw; exact h, by subst hw; exact Below.refl _ _⟩
  · by_cases hl : xs.length < 2
    · exact (compact_short hl).mono fun e w' ⟨he, hw⟩ => ⟨_, he, by subst hw; rw [comp_short hl]; exact h, by subst hw; exact Below.refl _ _⟩
    · exact (compact_long h (by omega) hn hbw hb).mono fun e w' ⟨he, hR, hB⟩ => ⟨_, he, hR, hB⟩
theorem clipAny (h : Kd.R k81 81 w base ok v xs) :
    Calls Try.prog 112 #[v] w fun e w' => ∃ v' : Value, e = .returned v' ∧ Kd.V k81 81 w base ok v' xs ∧ w' = w := by
  rcases R_form h with ⟨rfl, rfl⟩ | ⟨g, cap, cur, rfl, hok, hb, hh, h1, h2, h3, h4⟩
  · exact clipNil.mono fun e w' ⟨he, hw⟩ => ⟨_, he, Kd.V_mk (A := none) (c := 0) (Nat.zero_le _) (Kd.R_F h), hw⟩
  · exact (clipPts h1).mono fun e w' ⟨he, hw⟩ => ⟨_, he, Kd.V_mk (Nat.le_refl _) (Kd.R_F h), hw⟩
theorem V_of_R {base' : Nat} (h : Kd.R k81 81 w base ok v xs) : Kd.V k81 81 w base' (fun k => base ≤ k) v xs := by
  obtain ⟨A, c, rfl, hl, _⟩ := Kd.R_reads h
  exact Kd.V_mk hl (Kd.R_F (Kd.R_mono (Kd.R_bound h) (fun k hk => hk.2.1)))
end
set_option maxHeartbeats 4000000 in
set_option maxRecDepth 100000 in
/-- the last region: both chains but their last points, one behind the other -/
theorem impl_Hull.calls (k : Nat) (A0 : Option Addr) (c0 : Nat) (l0 : List (S81)) (r : List (S81)) (w : World) (hr0 : Kd.C k81 w A0 l0.length l0) (hc0 : l0.length ≤ c0) (h : impl_Hull.f k l0 = some r) :
    Calls Try.prog 45 #[.slice A0 l0.length c0] w fun e w' => ∃ v0_ : Value, e = .returned (v0_) ∧ Kd.V k81 81 w' w.heap.size (fun k_ => w.heap.size ≤ k_) v0_ r ∧ Below w.heap.size w w' := by
  obtain ⟨t, hA, h⟩ := Option.bind_eq_some_iff.1 h
  have HA := Aside0.mk hA
  have HR := Aside0.mk hr0
  have HC := Aside0.mk hc0
  clear hA hr0 hc0
  cases t with
  | false =>
    rw [if_neg (by decide)] at h
    obtain rfl := Option.some.inj h
    clear h
    go_enter Try.func45, Try.ntmps45
    go_wp2_with fail
    refine (impl_areRight.calls k _ _ l0 false _ HR.out HC.out HA.out).mono ?_
    rintro e w' ⟨rfl, hd⟩
    go_wp2
    go_ret
    exact ⟨_, rfl, V_of_R (base := w.heap.size) (ok := fun _ => True) (Kd.R_nil _ _ _ _ _), hd⟩
  | true =>
    rw [if_pos rfl] at h
    by_cases hbig : l0.length < 8796093022
    · rw [if_pos hbig] at h
      go_enter Try.func45, Try.ntmps45
      go_wp2_with fail
      refine (impl_areRight.calls k _ _ l0 true _ HR.out HC.out HA.out).mono ?_
      rintro e w1 ⟨rfl, hB1⟩
      have HB1 := Aside0.mk hB1
      clear hB1
      go_wp2_with fail
      refine (clonePts (Kd.C_below HR.out HB1.out) (by omega)).mono ?_
      rintro e w2 ⟨v1, rfl, hR, hB⟩
      have HO := Aside0.mk (Kd.R_lower hR HB1.out.size)
      have HB2 := Aside0.mk (below_then HB1.out HB1.out.size hB)
      clear hR hB HB1
      go_wp2_with fail
      refine (sortPts HO.out (by omega) HB2.out.size).mono ?_
      rintro e w3 ⟨rfl, hR, hB⟩
      have HO3 := Aside0.mk hR
      have HB3 := Aside0.mk (HB2.out.trans hB)
      clear hR hB HO HB2
      go_wp2_with fail
      refine (compactPts HO3.out (by rw [List.length_mergeSort]; omega) HB3.out.size).mono ?_
      rintro e w4 ⟨v2, rfl, hR, hB⟩
      have HO4 := Aside0.mk (show Kd.R k81 81 w4 w.heap.size (fun _ => True) v2 (sortedPts l0) from hR)
      have HB4 := Aside0.mk (HB3.out.trans hB)
      have hsl : (sortedPts l0).length ≤ l0.length := by
        have := comp_length (l0.mergeSort lePt)
        rw [List.length_mergeSort] at this
        exact this
      clear hR hB HO3 HB3
      generalize sortedPts l0 = s at h HO4 hsl
      obtain ⟨As, cs, rfl, hcs, _⟩ := Kd.R_reads HO4.out
      by_cases h2 : s.length < 2
      · rw [if_pos h2] at h
        obtain rfl := Option.some.inj h
        clear h
        have d1 : decide ((s.length : Int) < 2) = true := decide_eq_true (by omega)
        have d2 : decide (s.length < 2) = true := decide_eq_true h2
        go_wp2_with fail
        refine (clipAny (ok := fun k => w.heap.size ≤ k) (Kd.R_mono (Kd.R_bound HO4.out) (fun k hk => hk.2.1))).mono ?_
        rintro e w5 ⟨v3, rfl, hV, rfl⟩
        have HV := Aside0.mk hV
        go_wp2
        go_ret
        exact ⟨_, rfl, HV.out, HB4.out⟩
      · rw [if_neg h2] at h
        obtain ⟨low, hlow, h⟩ := Option.bind_eq_some_iff.1 h
        obtain ⟨high, hhigh, h⟩ := Option.bind_eq_some_iff.1 h
        have HLOW := Aside0.mk hlow
        have HHIGH := Aside0.mk hhigh
        clear hlow hhigh
        by_cases hg : 1 < low.length ∧ 0 < high.length ∧ low.length + high.length < 8796093022208
        · rw [if_pos hg] at h
          obtain rfl := Option.some.inj h
          clear h
          obtain ⟨g1, g2, g3⟩ := hg
          have d1 : decide ((s.length : Int) < 2) = false := decide_eq_false (by omega)
          have d2 : decide (s.length < 2) = false := decide_eq_false h2
          go_wp2_with fail
          refine (impl_chainOf.calls k _ _ s low _ (Kd.R_reads' HO4.out).2.2 hcs HLOW.out).mono ?_
          rintro e w5 ⟨v5, rfl, hR, hB⟩
          have HL := Aside0.mk (Kd.R_bound hR)
          have HO5 := Aside0.mk (Kd.R_below HO4.out hB)
          have HB5 := Aside0.mk (below_then HB4.out HB4.out.size hB)
          have HT := Aside0.mk (Kd.R_lt HO4.out)
          have HW := Aside0.mk HB4.out.size
          clear hR hB HO4 HB4
          go_wp2_with fail
          refine (reversePts HO5.out (by omega) HB5.out.size).mono ?_
          rintro e w6 ⟨rfl, hR, hB, hG⟩
          have HO6 := Aside0.mk hR
          have HB6 := Aside0.mk (HB5.out.trans hB)
          have HL6 := Aside0.mk (Kd.R_mono (ok' := fun k => w.heap.size ≤ k) (Kd.R_lower (base' := w.heap.size) (Kd.R_grown HL.out hG (fun k hk he => by have := HT.out k he.symm; have := hk.2.1; omega)) HW.out) (fun k hk => Nat.le_trans HW.out hk.2.1))
          clear hR hB hG HO5 HB5 HL HT HW
          go_wp2_with fail
          have hrl : s.reverse.length = s.length := List.length_reverse
          have hcon := impl_chainOf.calls k _ cs s.reverse high w6 (Kd.R_reads' HO6.out).2.2 (by rw [hrl]; exact hcs) HHIGH.out
          rw [hrl] at hcon
          refine hcon.mono ?_
          clear hcon
          rintro e w7 ⟨v7, rfl, hR, hB⟩
          have HH := Aside0.mk (Kd.R_lower hR HB6.out.size)
          have HL7 := Aside0.mk (Kd.R_below HL6.out hB)
          have HB7 := Aside0.mk (below_then HB6.out HB6.out.size hB)
          clear hR hB HO6 HB6 HL6 hrl
          go_wp2_with fail
          obtain ⟨Al, cl, rfl, hcl, hcl2⟩ := Kd.R_reads HL7.out
          obtain ⟨Ah, ch, rfl, hch, hch2⟩ := Kd.R_reads HH.out
          have HLT := Aside0.mk (low_take low.length low rfl)
          have HHT := Aside0.mk (low_take high.length high rfl)
          have i1 : (0 : Int) ≤ (low.length : Int) - 1 := by omega
          have i2 : (0 : Int) ≤ (high.length : Int) - 1 := by omega
          have i11 : (1 : Int) ≤ (low.length : Int) := by omega
          have i12 : (1 : Int) ≤ (high.length : Int) := by omega
          have i3 : ((low.length : Int) - 1).toNat = low.length - 1 := by omega
          have i4 : ((high.length : Int) - 1).toNat = high.length - 1 := by omega
          have i5 : (low.length : Int) - 1 ≤ (cl : Int) := by omega
          have i6 : (high.length : Int) - 1 ≤ (ch : Int) := by omega
          have i7 : low.length - 1 ≤ cl := by omega
          have i8 : high.length - 1 ≤ ch := by omega
          have i9 : IntKind.i64.wrap ((low.length : Int) - 1) = (low.length : Int) - 1 := IntWalk.i64_in _ (by omega)
          have i10 : IntKind.i64.wrap ((high.length : Int) - 1) = (high.length : Int) - 1 := IntWalk.i64_in _ (by omega)
          refine start_ (n := 13) (S := fun w' => True) (ds := []) #[false, false, false, false, false, false, false, false, false, false, false, false, false] (by kernel_rfl) rfl rfl trivial (fun hHeld => ?_)
          refine pure_ (i := 0) (N := some 26) (v := ?_) (a' := ?_) #[true, false, false, false, false, false, false, false, false, false, false, false, false] rfl rfl (by kernel_rfl) (fun _ _ _ h => h) (Or.inl ⟨by rfl, ?_⟩) ?_ ?_
          rotate_left
          · intro w'
            go_simp
            with_reducible rfl
          rotate_left
          · simp only [Act.put, List.setIfInBounds_toArray, List.set_cons_zero, List.set_cons_succ, i64_w, i32_w]
            rfl
          refine pure_ (i := 1) (N := some 27) (v := ?_) (a' := ?_) #[true, true, false, false, false, false, false, false, false, false, false, false, false] rfl rfl (by kernel_rfl) (fun _ _ _ h => h) (Or.inl ⟨by rfl, ?_⟩) ?_ ?_
          rotate_left
          · intro w'
            go_simp
            with_reducible rfl
          rotate_left
          · simp only [Act.put, List.setIfInBounds_toArray, List.set_cons_zero, List.set_cons_succ, i64_w, i32_w]
            rfl
          refine pure_ (i := 2) (N := some 28) (v := ?_) (a' := ?_) #[true, true, true, false, false, false, false, false, false, false, false, false, false] rfl rfl (by kernel_rfl) (fun _ _ _ h => h) (Or.inl ⟨by rfl, ?_⟩) ?_ ?_
          rotate_left
          · intro w'
            go_simp
            with_reducible rfl
          rotate_left
          · simp only [Act.put, List.setIfInBounds_toArray, List.set_cons_zero, List.set_cons_succ, i64_w, i32_w]
            rfl
          refine pure_ (i := 3) (N := some 29) (v := ?_) (a' := ?_) #[true, true, true, true, false, false, false, false, false, false, false, false, false] rfl rfl (by kernel_rfl) (fun _ _ _ h => h) (Or.inl ⟨by rfl, ?_⟩) ?_ ?_
          rotate_left
          · intro w'
            go_simp
            with_reducible rfl
          rotate_left
          · simp only [Act.put, List.setIfInBounds_toArray, List.set_cons_zero, List.set_cons_succ, i64_w, i32_w]
            rfl
          refine pure_ (i := 4) (N := some 30) (v := ?_) (a' := ?_) #[true, true, true, true, true, false, false, false, false, false, false, false, false] rfl rfl (by kernel_rfl) (fun _ _ _ h => h) (Or.inl ⟨by rfl, ?_⟩) ?_ ?_
          rotate_left
          · intro w'
            go_simp
            with_reducible rfl
          rotate_left
          · simp only [Act.put, List.setIfInBounds_toArray, List.set_cons_zero, List.set_cons_succ, i64_w, i32_w]
            rfl
          refine pure_ (i := 5) (N := some 31) (v := ?_) (a' := ?_) #[true, true, true, true, true, true, false, false, false, false, false, false, false] rfl rfl (by kernel_rfl) (fun _ _ _ h => h) (Or.inl ⟨by rfl, ?_⟩) ?_ ?_
          rotate_left
          · intro w'
            go_simp
            with_reducible rfl
          rotate_left
          · simp only [Act.put, List.setIfInBounds_toArray, List.set_cons_zero, List.set_cons_succ, i64_w, i32_w]
            rfl
          refine pure_ (i := 6) (N := some 32) (v := ?_) (a' := ?_) #[true, true, true, true, true, true, true, false, false, false, false, false, false] rfl rfl (by kernel_rfl) (fun _ _ _ h => h) (Or.inl ⟨by rfl, ?_⟩) ?_ ?_
          rotate_left
          · intro w'
            go_simp
            with_reducible rfl
          rotate_left
          · simp only [Act.put, List.setIfInBounds_toArray, List.set_cons_zero, List.set_cons_succ, i64_w, i32_w]
            rfl
          refine pure_ (i := 7) (N := some 33) (v := ?_) (a' := ?_) #[true, true, true, true, true, true, true, true, false, false, false, false, false] rfl rfl (by kernel_rfl) (fun _ _ _ h => h) (Or.inl ⟨by rfl, ?_⟩) ?_ ?_
          rotate_left
          · intro w'
            go_simp
            with_reducible rfl
          rotate_left
          · simp only [Act.put, List.setIfInBounds_toArray, List.set_cons_zero, List.set_cons_succ, i64_w, i32_w]
            rfl
          refine pure_ (i := 8) (N := some 34) (v := ?_) (a' := ?_) #[true, true, true, true, true, true, true, true, true, false, false, false, false] rfl rfl (by kernel_rfl) (fun _ _ _ h => h) (Or.inl ⟨by rfl, ?_⟩) ?_ ?_
          rotate_left
          · intro w'
            go_simp
            with_reducible rfl
          rotate_left
          · simp only [Act.put, List.setIfInBounds_toArray, List.set_cons_zero, List.set_cons_succ, i64_w, i32_w]
            rfl
          refine pure_ (i := 9) (N := some 35) (v := ?_) (a' := ?_) #[true, true, true, true, true, true, true, true, true, true, false, false, false] rfl rfl (by kernel_rfl) (fun _ _ _ h => h) (Or.inl ⟨by rfl, ?_⟩) ?_ ?_
          rotate_left
          · intro w'
            go_simp
            with_reducible rfl
          rotate_left
          · simp only [Act.put, List.setIfInBounds_toArray, List.set_cons_zero, List.set_cons_succ, i64_w, i32_w]
            rfl
          refine one_ (i := 10) (N := some 36) #[true, true, true, true, true, true, true, true, true, true, true, false, false] rfl rfl (by kernel_rfl) (by decide) (fun K hK => ?_)
          have HB8 := Aside0.mk (below_drew1 HB7.out)
          have HL8 := Aside0.mk (Kd.C_drew (show Kd.C k81 w7 Al low.dropLast.length low.dropLast from by rw [← HLT.out]; exact (Kd.R_reads' (Kd.R_take HL7.out (m := low.length - 1) (by omega))).2.2))
          have HH8 := Aside0.mk (Kd.C_drew (show Kd.C k81 w7 Ah high.dropLast.length high.dropLast from by rw [← HHT.out]; exact (Kd.R_reads' (Kd.R_take HH.out (m := high.length - 1) (by omega))).2.2))
          generalize w7.drew = w8 at HB8 HL8 HH8 hHeld hK ⊢
          refine event_step (v := .slice (some ⟨w8.heap.size, 0, none⟩) 2 2) (w1 := w8.alloc (.cells #[.slice Al (low.length - 1) cl, .slice Ah (high.length - 1) ch] 72)) (by rfl) (by first | (go_simp; done) | (go_simp; rfl)) ?_
          refine hK.out _ _ trivial (fun hHeld => ?_)
          clear hK K
          refine norm_ (a' := ?_) ?_ ?_
          rotate_left
          · show Act.put _ (some 36) _ = _
            simp only [Act.put, List.setIfInBounds_toArray, List.set_cons_zero, List.set_cons_succ, i64_w, i32_w]
            rfl
          refine one_ (i := 11) (N := some 37) #[true, true, true, true, true, true, true, true, true, true, true, true, false] rfl rfl (by kernel_rfl) (by decide) (fun K hK => ?_)
          refine goes_ Try.func115 (by kernel_rfl) rfl #[.slice (some ⟨w8.heap.size, 0, none⟩) 2 2] (by rfl) rfl rfl (by (try simp only [List.map_toArray, List.map_cons, List.map_nil]); first | done | rfl) ?_
          have e0 : low.dropLast.length = low.length - 1 := List.length_dropLast
          have e1 : high.dropLast.length = high.length - 1 := List.length_dropLast
          have hc := concatPts (w := w8.alloc (.cells #[.slice Al (low.length - 1) cl, .slice Ah (high.length - 1) ch] 72)) (B := w8.heap.size) (a := low.dropLast) (b := high.dropLast) (c0 := cl) (c1 := ch) (by rw [e0]; go_simp) (by rw [e1]; go_simp) (Kd.C_alloc HL8.out _) (Kd.C_alloc HH8.out _) (by simp) (by omega) (by omega)
          refine hc.mono ?_
          clear hc
          rintro e w9 ⟨v9, rfl, hR, hB⟩
          refine ⟨_, rfl, ?_⟩
          have HF := Aside0.mk (V_of_R (base' := w.heap.size) hR)
          have HB9 := Aside0.mk (below_then (HB8.out.alloc HB8.out.size _) (by have := HB8.out.size; simp; omega) hB)
          have HS := Aside0.mk (show w.heap.size ≤ (w8.alloc (.cells #[.slice Al (low.length - 1) cl, .slice Ah (high.length - 1) ch] 72)).heap.size from by have := HB8.out.size; simp; omega)
          clear hR hB
          refine hK.out _ _ trivial (fun hHeld => ?_)
          clear hK K
          refine norm_ (a' := ?_) ?_ ?_
          rotate_left
          · show Act.put _ (some 37) _ = _
            simp only [Act.put, List.setIfInBounds_toArray, List.set_cons_zero, List.set_cons_succ, i64_w, i32_w]
            rfl
          refine pure_ (i := 12) (N := some 2) (v := ?_) (a' := ?_) #[true, true, true, true, true, true, true, true, true, true, true, true, true] rfl rfl (by kernel_rfl) (fun _ _ _ h => h) (Or.inl ⟨by rfl, ?_⟩) ?_ ?_
          rotate_left
          · intro w'
            go_simp
            with_reducible rfl
          rotate_left
          · simp only [Act.put, List.setIfInBounds_toArray, List.set_cons_zero, List.set_cons_succ, i64_w, i32_w]
            rfl
          refine done_ (by kernel_rfl) ?_
          go_wp2
          go_ret
          exact ⟨_, rfl, Kd.V_mono HF.out (fun k hk => Nat.le_trans HS.out hk), HB9.out⟩
        · rw [if_neg hg] at h
          cases h
    · rw [if_neg hbig] at h
      cases h
end Go.Proofs.Ytchmmnlmgkocoaa.H
