/- laws.markShape and laws.markEntryS walked; conditions: those of each lemma. -/
import Derived.Test.YtchmmnlmgkocoaaFN
set_option linter.unusedVariables false
set_option linter.unusedSimpArgs false
namespace Go.Proofs.Ytchmmnlmgkocoaa.F
open Go.Proofs.Ytchmmnlmgkocoaa.H (S81 z81 k81 k81_open k81_openM k81_mk k81_mkM rd_T81 at_T81 w64 rd_at)
open Go.RowKit Go.Proofs.YtchmmnlmgkocoaaW.PrintWords Go.Proofs.YtchmmnlmgkocoaaW.PrintLast Go.Proofs.YtchmmnlmgkocoaaW.PrintMore
set_option maxHeartbeats 8000000 in
theorem markShape_walk {W w : World} {ok : Nat → Prop} {A0 : Option Addr} {c0 : Nat} (kind : Int) (s : List (List S81)) (a : Int) (h0 : 1 ≤ a) (h1 : a + 2 * (cnt s : Int) ≤ 1000000000)
    (hS : Kd.S (Kd.slice 81 k81) 72 w W.heap.size ok (.slice A0 s.length c0) s) (hB : Below W.heap.size W w) :
    Calls Try.prog 17 #[.agg #[.int .i64 kind, .slice A0 s.length c0], .int .i64 a] w fun e w' => e = .returned (.int .i64 (a + 2 * (cnt s : Int))) ∧ Kd.S (Kd.slice 81 k81) 72 w' W.heap.size ok (.slice A0 s.length c0) (markSS a s) ∧ Kept w w' ok ∧ Below W.heap.size W w' := by
  have HS := Aside0.mk (Kd.S_mono (Kd.S_bound hS) (ok' := fun k => ok k ∧ k < w.heap.size) (fun k hk => ⟨hk.1, hk.2.2.1⟩))
  have HB := Aside0.mk hB
  clear hS hB
  go_enter Try.func17, Try.ntmps17
  go_wp2_with fail
  refine (markSS_walk s a h0 h1 (Kd.S_alloc HS.out _) (below_alloc HB.out _)).mono ?_
  rintro e w' ⟨rfl, hS, hk, hB⟩
  have HS2 := Aside0.mk (Kd.S_mono hS (ok' := ok) (fun k hk => hk.1))
  have HB2 := Aside0.mk hB
  have HK2 := Aside0.mk ((Kept.alloc (Kept.refl w ok) (Obj.cells #[.int .i64 kind, .slice A0 s.length c0] 26)).then_ hk (fun k h => Or.inl h.1))
  clear hS hk hB HS HB
  go_wp2
  go_ret
  exact ⟨rfl, HS2.out, HK2.out, HB2.out⟩
section
variable {w : World} {base g n c : Nat} {ok : Nat → Prop} {es : List S110}
theorem store0 (hS : Kd.S k110 110 w base ok (.slice (some ⟨g, 0, none⟩) n c) es) (i : Nat) (hi : i < es.length) (z : Int) :
    Kd.S k110 110 (w.setCell ⟨g, i * 3, none⟩ (.int .i64 z)) base ok (.slice (some ⟨g, 0, none⟩) n c) (es.set i ⟨z, es[i].f1⟩) ∧ w.grownBy (w.setCell ⟨g, i * 3, none⟩ (.int .i64 z)) (some g) := by
  have hn := (Kd.S_reads' hS).1
  obtain ⟨oki, ce, hcl, hM, hcc, hfr, hoki, hH⟩ := Kd.S_elem hS z110 (i : Int) (by omega) (by omega)
  rw [Int.toNat_natCast, List.getD_eq_getElem?_getD, List.getElem?_eq_getElem hi] at hM
  obtain ⟨v2, rfl, gR⟩ := k110_openM hM
  have := Kd.S_seg0 hH (by omega) (by omega) (seg := [.int .i64 z]) (j := 0) (show 0 + 1 ≤ 3 by omega) (x' := (⟨z, es[i].f1⟩ : S110)) (okp := oki) (k110_mkM w base oki ⟨z, es[i].f1⟩ gR) (fun k h => h)
  rw [Int.toNat_natCast] at this
  exact this
theorem store1 (hS : Kd.S k110 110 w base ok (.slice (some ⟨g, 0, none⟩) n c) es) (i : Nat) (hi : i < es.length) (z : Int) :
    Kd.S k110 110 (w.setCell ⟨g, i * 3 + 1, none⟩ (.int .i64 z)) base ok (.slice (some ⟨g, 0, none⟩) n c) (es.set i ⟨es[i].f0, ⟨z, es[i].f1.f1⟩⟩) ∧ w.grownBy (w.setCell ⟨g, i * 3 + 1, none⟩ (.int .i64 z)) (some g) := by
  have hn := (Kd.S_reads' hS).1
  obtain ⟨oki, ce, hcl, hM, hcc, hfr, hoki, hH⟩ := Kd.S_elem hS z110 (i : Int) (by omega) (by omega)
  rw [Int.toNat_natCast, List.getD_eq_getElem?_getD, List.getElem?_eq_getElem hi] at hM
  obtain ⟨v2, rfl, gR⟩ := k110_openM hM
  have := Kd.S_seg0 hH (by omega) (by omega) (seg := [.int .i64 z]) (j := 1) (show 1 + 1 ≤ 3 by omega) (x' := (⟨es[i].f0, ⟨z, es[i].f1.f1⟩⟩ : S110)) (okp := oki) (k110_mkM w base oki ⟨es[i].f0, ⟨z, es[i].f1.f1⟩⟩ gR) (fun k h => h)
  rw [Int.toNat_natCast] at this
  exact this
theorem lent (hS : Kd.S k110 110 w base ok (.slice (some ⟨g, 0, none⟩) n c) es) (i : Nat) (hi : i < es.length) :
    ∃ (A2 : Option Addr) (c2 : Nat) (oki : Nat → Prop), w.cell? ⟨g, i * 3, none⟩ = some (.int .i64 es[i].f0) ∧ w.cell? ⟨g, i * 3 + 1, none⟩ = some (.int .i64 es[i].f1.f0) ∧ w.cell? ⟨g, i * 3 + 2, none⟩ = some (.slice A2 es[i].f1.f1.length c2) ∧
      w.frozen? ⟨g, i * 3, none⟩ = false ∧ w.frozen? ⟨g, i * 3 + 1, none⟩ = false ∧ Kd.S (Kd.slice 81 k81) 72 w base oki (.slice A2 es[i].f1.f1.length c2) es[i].f1.f1 ∧ (∀ k, oki k → ok k) ∧
      ∀ (w' : World) (s : List (List S81)), Kept w w' oki → Kd.S (Kd.slice 81 k81) 72 w' base oki (.slice A2 es[i].f1.f1.length c2) s → Kd.S k110 110 w' base ok (.slice (some ⟨g, 0, none⟩) n c) (es.set i ⟨es[i].f0, ⟨es[i].f1.f0, s⟩⟩) := by
  have hn := (Kd.S_reads' hS).1
  obtain ⟨oki, ce, hcl, hM, hcc, hfr, hoki, hH⟩ := Kd.S_elem hS z110 (i : Int) (by omega) (by omega)
  rw [Int.toNat_natCast] at hM hcc hfr
  rw [List.getD_eq_getElem?_getD, List.getElem?_eq_getElem hi] at hM
  obtain ⟨v2, rfl, gR⟩ := k110_openM hM
  obtain ⟨A2, c2, rfl, _, _⟩ := Kd.S_reads gR
  refine ⟨A2, c2, oki, hcc 0 _ rfl, hcc 1 _ rfl, hcc 2 _ rfl, hfr 0, hfr 1, gR, fun k h => (hoki k h).1, fun w' s hk hs => ?_⟩
  have := Kd.H_back (Kd.H_kept hH hk (fun k h1 h2 h3 => h2 h3)) (x' := (⟨es[i].f0, ⟨es[i].f1.f0, s⟩⟩ : S110)) (okp := oki) (k110_mkM w' base oki ⟨es[i].f0, ⟨es[i].f1.f0, s⟩⟩ hs) (fun k h => h)
  rw [Int.toNat_natCast] at this
  exact this
end
end Go.Proofs.Ytchmmnlmgkocoaa.F
