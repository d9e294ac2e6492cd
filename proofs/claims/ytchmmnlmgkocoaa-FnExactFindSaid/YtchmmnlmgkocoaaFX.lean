/- laws.FnExactFind answers true of all arguments; conditions: what its arguments' cells hold, and that no row is longer than an int tells. -/
import Derived.Test.YtchmmnlmgkocoaaFW
set_option linter.unusedVariables false
set_option linter.unusedSimpArgs false
namespace Go.Proofs.Ytchmmnlmgkocoaa.F
open Go.Proofs.Ytchmmnlmgkocoaa.H (S81 z81 k81 k81_open k81_openM k81_mk k81_mkM rd_T81 at_T81 w64 rd_at)
open Go.RowKit Go.Proofs.YtchmmnlmgkocoaaW.PrintWords Go.Proofs.YtchmmnlmgkocoaaW.PrintLast Go.Proofs.YtchmmnlmgkocoaaW.PrintMore
theorem cnt_conv (s : List (List S149)) : cnt (s.map convL) = pts s := by
  induction s with
  | nil => rfl
  | cons l s ih => simp [cnt, pts, ih, convL]
theorem pts_mem {l : List S149} {s : List (List S149)} (h : l ∈ s) : l.length ≤ pts s := by
  induction s with
  | nil => cases h
  | cons x s ih =>
    rw [pts]
    rcases List.mem_cons.1 h with rfl | h
    · omega
    · have := ih h; omega
theorem size_mem {e : S108} {s : List S108} (h : e ∈ s) : e.f1.f1.length + pts e.f1.f1 ≤ size s := by
  induction s with
  | nil => cases h
  | cons x s ih =>
    rw [size]
    rcases List.mem_cons.1 h with rfl | h
    · omega
    · have := ih h; omega
theorem tot_conv (s : List S108) : tot (s.map convE) ≤ 2 * (s.length + size s) := by
  induction s with
  | nil => simp [tot]
  | cons e s ih =>
    rw [List.map_cons, tot, size, List.length_cons, show (convE e).f1.f1 = e.f1.f1.map convL from rfl, cnt_conv]
    omega
theorem few_of {s : List S108} (h : s.length + size s ≤ 1048576) : Few s :=
  ⟨by omega, fun e he => ⟨by have := size_mem he; omega, fun l hl => by have := size_mem he; have := pts_mem hl; omega⟩⟩
theorem few_conv {s : List S108} (h : Few s) : Few' (s.map convE) := by
  refine ⟨by simpa using h.1, fun e he => ?_⟩
  obtain ⟨x, hx, rfl⟩ := List.mem_map.1 he
  refine ⟨by simpa [convE] using (h.2 x hx).1, fun l hl => ?_⟩
  obtain ⟨y, hy, rfl⟩ := List.mem_map.1 hl
  simpa [convL] using (h.2 x hx).2 y hy
theorem cnt_tot {e : S110} {s : List S110} (h : e ∈ s) : 2 * cnt e.f1.f1 ≤ tot s := by
  induction s with
  | nil => cases h
  | cons x s ih =>
    rw [tot]
    rcases List.mem_cons.1 h with rfl | h
    · omega
    · have := ih h; omega
theorem cnt_mem {l : List S81} {s : List (List S81)} (h : l ∈ s) : l.length ≤ cnt s := by
  induction s with
  | nil => cases h
  | cons x s ih =>
    rw [cnt]
    rcases List.mem_cons.1 h with rfl | h
    · omega
    · have := ih h; omega
set_option maxHeartbeats 8000000 in
set_option maxRecDepth 100000 in
theorem find_no (A0 : Option Addr) (c0 : Nat) (l : List S108) (a : Int) (W : World) (kz : Nat) (t : Int) (hr0 : Kd.C k108 W A0 l.length l) (hc0 : l.length ≤ c0)
    (hT : laws_szEntryS.f kz l 1048576 = some t) (c3b0 : decide (t < 0) = true) :
    Calls Try.prog 3 #[.slice A0 l.length c0, .int .i64 a] W fun e w' => e = .returned (.bool true) ∧ Below W.heap.size W w' := by
  have HR0 := Aside0.mk hr0
  have HC0 := Aside0.mk hc0
  have HT := Aside0.mk hT
  clear hr0 hc0 hT
  have HB := Aside0.mk (Below.refl W.heap.size W)
  go_enter Try.func3, Try.ntmps3
  go_wp2_with (first | ((with_reducible refine gate_callee (f := 10) rfl ?_); refine goesL_ (some 18) rfl rfl Try.func10 (by kernel_rfl) rfl #[.slice A0 l.length c0, .int .i64 1048576] rfl (by (try simp only [List.map_toArray, List.map_cons, List.map_nil]); first | done | rfl | (simp only [List.length_drop, List.length_take]; rfl)) ?_; refine (laws_szEntryS.calls kz A0 c0 l 1048576 t _ (by repeat (first | exact HR0.out | (with_reducible refine Kd.C_alloc ?_ _) | (with_reducible refine Kd.C_drewN ?_ _) | (with_reducible refine Kd.C_drew ?_))) HC0.out HT.out).mono ?_; rintro e wn ⟨rfl, hb_⟩; refine ⟨_, rfl, ?_⟩; have hB_ := below_step (by repeat (first | (with_reducible first | exact HB.out | apply below_alloc | apply pw_below_drewN | apply below_drew1) | exact HB.out)) hb_; clear HB; have HB := Aside0.mk hB_; clear hB_ hb_; skip))
  go_ret
  exact ⟨rfl, (by repeat (first | (with_reducible first | exact HB.out | apply below_alloc | apply pw_below_drewN | apply below_drew1) | exact HB.out))⟩
theorem exactFind (A0 : Option Addr) (c0 : Nat) (l : List S108) (a : Int) (W : World) (hr0 : Kd.C k108 W A0 l.length l) (hc0 : l.length ≤ c0) (hn : l.length ≤ 9223372036854775807) (hs : Small l) :
    Calls Try.prog 3 #[.slice A0 l.length c0, .int .i64 a] W fun e w' => e = .returned (.bool true) ∧ Below W.heap.size W w' := by
  obtain ⟨t, et, ht⟩ := szEntryS_is l hn hs
  obtain ⟨kz, hz⟩ := et.rounds
  by_cases h0 : t < 0
  · exact find_no A0 c0 l a W kz t hr0 hc0 hz (decide_eq_true h0)
  · obtain ⟨hsz, _⟩ := ht.resolve_left h0
    have hfew := few_of hsz
    have hfew2 := few_conv hfew
    have htot := tot_conv l
    obtain ⟨kx, hx⟩ := (toEntryS_ev l hfew).rounds
    obtain ⟨r1, r2, r3, eI, eS, hl2, hb2, hmem⟩ := find_ev (l.map convE) a hfew2
    obtain ⟨ki, hi⟩ := eI.rounds
    obtain ⟨ks, hsf⟩ := eS.rounds
    have hc2 : 2 * cnt r2 ≤ 2097152 := by
      rcases hmem with rfl | ⟨e, he, rfl⟩
      · simp [cnt]
      · have := cnt_tot he; omega
    obtain ⟨ke, he⟩ := (eqShape_ev r1 r2 hl2 hb2).rounds
    obtain ⟨kee, hee⟩ := (eqEntryS_ev (l.map convE) hfew2.1 hfew2.2).rounds
    obtain ⟨kv, hv⟩ := (heldSS_ev r2 1 (by omega) (by omega) (by omega)).rounds
    generalize hT : tot (l.map convE) = T at htot
    generalize hC : cnt r2 = C at hc2 hv
    refine find_walk A0 c0 l a W kz kx ks ki t r1 r2 r3 (l.map convE) ke kee kv (1 + (T : Int)) (1 + 2 * (C : Int)) hr0 hc0 hz (decide_eq_false h0) hx hsf hi he hee (by rw [hT]; omega) (by rw [hT]) (decide_eq_false (by omega))
      (by rw [hC]; omega) (by rw [hC]) (decide_eq_false (by omega)) (by simp) (by simp) ?_
    unfold laws_heldShape.f
    rw [hv]
    simp only [Option.bind_some]
    rw [if_neg (by omega)]
end Go.Proofs.Ytchmmnlmgkocoaa.F
