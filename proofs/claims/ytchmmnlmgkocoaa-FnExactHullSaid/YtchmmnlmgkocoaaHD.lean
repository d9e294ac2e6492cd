/- slices.Compact and slices.Concat over rows of points; conditions: those of each lemma. -/
import Derived.Test.YtchmmnlmgkocoaaHS
import Derived.Test.YtchmmnlmgkocoaaH1
import Derived.Outline
set_option linter.unusedVariables false
set_option linter.unusedSimpArgs false
namespace Go.Proofs.Ytchmmnlmgkocoaa.H
open Go.Shelf Go.RowKit Go.Sort Go.Proofs.YtchmmnlmgkocoaaW.PrintWords Go.Proofs.YtchmmnlmgkocoaaW.PrintLast Go.Proofs.YtchmmnlmgkocoaaW.PrintMore
attribute [local go_sem high] eqA81
def eqP (x p : S81) : Bool := x.f0 == p.f0 && x.f1 == p.f1
/-- what is kept behind p -/
def cpt : S81 → List S81 → List S81
  | _, [] => []
  | p, x :: t => if eqP x p then cpt x t else x :: cpt x t
def comp : List S81 → List S81
  | [] => []
  | x :: t => x :: cpt x t
theorem cpt_snoc (x : S81) : ∀ (l : List S81) (p : S81), cpt p (l ++ [x]) = cpt p l ++ (if eqP x ((p :: l).getLast (by simp)) then [] else [x])
  | [], p => by
    show (if eqP x p then ([] : List S81) else [x]) = _
    by_cases h : eqP x p = true
    · rw [if_pos h, if_pos (by exact h)]; rfl
    · rw [if_neg h, if_neg (by exact h)]; rfl
  | y :: l, p => by
    have ih := cpt_snoc x l y
    simp only [List.cons_append, cpt]
    rw [ih]
    by_cases h : eqP y p = true
    · rw [if_pos h, if_pos h]; rfl
    · rw [if_neg h, if_neg h]; rfl
theorem comp_take (xs : List S81) (k : Nat) (h0 : 0 < k) (h : k < xs.length) : comp (xs.take (k + 1)) = comp (xs.take k) ++ (if eqP xs[k] xs[k - 1] then [] else [xs[k]]) := by
  rw [List.take_succ_eq_append_getElem h]
  cases xs with
  | nil => simp at h
  | cons a t =>
    obtain ⟨j, rfl⟩ : ∃ j, k = j + 1 := ⟨k - 1, by omega⟩
    simp only [List.take_succ_cons, List.cons_append, comp]
    rw [cpt_snoc]
    have e : (a :: List.take j t).getLast (by simp) = (a :: t)[j + 1 - 1]'(by omega) := by
      rw [List.getLast_eq_getElem]
      have hl : (List.take j t).length = j := by rw [List.length_take]; simp at h; omega
      simp only [List.length_cons, hl, Nat.add_sub_cancel]
      cases j with
      | zero => rfl
      | succ i => simp
    rw [e]
theorem comp_length (xs : List S81) : (comp xs).length ≤ xs.length := by
  have : ∀ (l : List S81) (p : S81), (cpt p l).length ≤ l.length := by
    intro l
    induction l with
    | nil => intro p; simp [cpt]
    | cons x l ih =>
      intro p
      simp only [cpt]
      split
      · have := ih x; simp; omega
      · have := ih x; simp; omega
  cases xs with
  | nil => simp [comp]
  | cons a t => have := this t a; simp [comp]; omega
theorem compact_short {w : World} {g n cap : Nat} (h : n < 2) :
    Calls Try.prog 111 #[.slice (some ⟨g, 0, none⟩) n cap] w fun e w' => e = .returned (.slice (some ⟨g, 0, none⟩) n cap) ∧ w' = w := by
  have h1 : decide (n < 2) = true := decide_eq_true h
  have h2 : decide ((n : Int) < 2) = true := decide_eq_true (by omega)
  go_enter Try.func111, Try.ntmps111
  go_wp2
  go_ret
  exact ⟨rfl, rfl⟩
theorem compact_nil {w : World} :
    Calls Try.prog 111 #[.slice none 0 0] w fun e w' => e = .returned (.slice none 0 0) ∧ w' = w := by
  go_enter Try.func111, Try.ntmps111
  go_wp2
  go_ret
  exact ⟨rfl, rfl⟩
theorem R_cell {w : World} {base g cap n : Nat} {ok : Nat → Prop} {xs : List S81} (h : Kd.R k81 81 w base ok (.slice (some ⟨g, 0, none⟩) n cap) xs) (i : Nat) (hi : i < xs.length) :
    w.cell? ⟨g, i * 2, none⟩ = some (.int .i64 xs[i].f0) ∧ w.cell? ⟨g, i * 2 + 1, none⟩ = some (.int .i64 xs[i].f1) ∧ w.frozen? ⟨g, i * 2, none⟩ = false ∧ w.frozen? ⟨g, i * 2 + 1, none⟩ = false := by
  rcases R_form h with ⟨h0, rfl⟩ | ⟨g', cap', cur, hv, hok, hb, hh, h1, h2, h3, h4⟩
  · simp at hi
  · injection hv with ha hn hc
    injection ha with ha
    injection ha with ha
    subst ha; subst hn; subst hc
    have hs : xs.length * 2 ≤ cur.size := by rw [h3]; exact Nat.mul_le_mul_right _ h1
    have h5 := (cells_take (flatS_length xs) hs).1 h4
    have a0 := h5 (i * 2) (by omega)
    have a1 := h5 (i * 2 + 1) (by omega)
    rw [flatS_at xs _ (by omega)] at a0 a1
    rw [show i * 2 / 2 = i by omega, show i * 2 % 2 = 0 by omega, List.getD_eq_getElem?_getD, List.getElem?_eq_getElem hi] at a0
    rw [show (i * 2 + 1) / 2 = i by omega, show (i * 2 + 1) % 2 = 1 by omega, List.getD_eq_getElem?_getD, List.getElem?_eq_getElem hi] at a1
    refine ⟨?_, ?_, ?_, ?_⟩
    · rw [World.cell?]; simp only [hh]; simpa [encS] using a0
    · rw [World.cell?]; simp only [hh]; simpa [encS] using a1
    · rw [World.frozen?]; simp [hh]
    · rw [World.frozen?]; simp [hh]
theorem R_len {w : World} {base g cap n : Nat} {ok : Nat → Prop} {xs : List S81} (h : Kd.R k81 81 w base ok (.slice (some ⟨g, 0, none⟩) n cap) xs) : n = xs.length ∧ n ≤ cap ∧ n ≤ 9223372036854775807 := by
  have := Kd.R_reads' h
  exact ⟨this.1, this.2.1, by rw [this.1]; exact this.2.2.2.1⟩
theorem set_block {w : World} {g : Nat} {cur : Array Value} {e : TypeId} {fr : Nat × Nat} (hh : w.heap[g]? = some (.cells cur e fr)) (off : Nat) (u : Value) : (w.setCell ⟨g, off, none⟩ u).heap[g]? = some (.cells (cur.setIfInBounds off u) e fr) := by
  simp only [World.setCell, Array.getElem?_modify, if_pos, hh]
  rfl
/-- A store behind a row's end. -/
theorem R_behind {w : World} {base g cap n : Nat} {ok : Nat → Prop} {xs : List S81} (h : Kd.R k81 81 w base ok (.slice (some ⟨g, 0, none⟩) n cap) xs) (off : Nat) (ho : n * 2 ≤ off) (u : Value) :
    Kd.R k81 81 (w.setCell ⟨g, off, none⟩ u) base ok (.slice (some ⟨g, 0, none⟩) n cap) xs := by
  have hn := (R_len h).1
  rcases R_form h with ⟨h0, rfl⟩ | ⟨g', cap', cur, hv, hok, hb, hh, h1, h2, h3, h4⟩
  · cases h0
  · injection hv with ha _ hc
    injection ha with ha
    injection ha with ha
    subst ha; subst hc; subst hn
    refine R_of_form hok hb (set_block hh off u) h1 h2 (by simpa using h3) ?_
    have hs : xs.length * 2 ≤ cur.size := by rw [h3]; exact Nat.mul_le_mul_right _ h1
    rw [cells_take (flatS_length xs) (by simpa using hs)]
    intro t ht
    rw [Array.getElem?_setIfInBounds_ne (by omega)]
    exact (cells_take (flatS_length xs) hs).1 h4 t ht
theorem R_behinds {base g cap n : Nat} {ok : Nat → Prop} {xs : List S81} : ∀ (vs : List Value) (off : Nat) (w : World), n * 2 ≤ off → Kd.R k81 81 w base ok (.slice (some ⟨g, 0, none⟩) n cap) xs →
    Kd.R k81 81 (w.setCells g off vs) base ok (.slice (some ⟨g, 0, none⟩) n cap) xs
  | [], _, _, _, h => h
  | v :: vs, off, w, ho, h => R_behinds vs (off + 1) _ (by omega) (R_behind h off ho v)
theorem below_sets {base g : Nat} (hb : base ≤ g) {w0 : World} : ∀ (vs : List Value) (off : Nat) (w : World), Below base w0 w → Below base w0 (w.setCells g off vs)
  | [], _, _, h => h
  | v :: vs, off, w, h => below_sets hb vs (off + 1) _ (h.setCell hb v)
/-- An element is stored. -/
theorem R_put2 {w : World} {base g cap n : Nat} {ok : Nat → Prop} {xs : List S81} (h : Kd.R k81 81 w base ok (.slice (some ⟨g, 0, none⟩) n cap) xs) (i : Nat) (hi : i < n) (x y : Int) :
    Kd.R k81 81 ((w.setCell ⟨g, i * 2, none⟩ (.int .i64 x)).setCell ⟨g, i * 2 + 1, none⟩ (.int .i64 y)) base ok (.slice (some ⟨g, 0, none⟩) n cap) (xs.set i ⟨x, y⟩) := by
  have hn := (R_len h).1
  rcases R_form h with ⟨h0, rfl⟩ | ⟨g', cap', cur, hv, hok, hb, hh, h1, h2, h3, h4⟩
  · cases h0
  · injection hv with ha _ hc
    injection ha with ha
    injection ha with ha
    subst ha; subst hc; subst hn
    have hs : xs.length * 2 ≤ cur.size := by rw [h3]; exact Nat.mul_le_mul_right _ h1
    have hl : (xs.set i ⟨x, y⟩).length = xs.length := List.length_set
    have hb2 := set_block (set_block hh (i * 2) (.int .i64 x)) (i * 2 + 1) (.int .i64 y)
    have := R_of_form (xs := xs.set i ⟨x, y⟩) (cap := cap) hok hb hb2 (by omega) h2 (by simpa using h3) (by
      rw [cells_take (flatS_length _) (by simp; omega)]
      intro t ht
      rw [hl] at ht
      have h5 := (cells_take (flatS_length xs) hs).1 h4 t ht
      rw [flatS_at _ t (by omega)] at h5 ⊢
      rw [List.getD_eq_getElem?_getD, List.getElem?_set] at *
      by_cases ha : t = i * 2 + 1
      · subst ha
        rw [show (i * 2 + 1) / 2 = i by omega, show (i * 2 + 1) % 2 = 1 by omega, if_pos rfl, if_pos hi]
        rw [Array.getElem?_setIfInBounds_self_of_lt (by simp; omega)]
        rfl
      · rw [Array.getElem?_setIfInBounds_ne (by omega)]
        by_cases hb : t = i * 2
        · subst hb
          rw [show i * 2 / 2 = i by omega, show i * 2 % 2 = 0 by omega, if_pos rfl, if_pos hi]
          rw [Array.getElem?_setIfInBounds_self_of_lt (by omega)]
          rfl
        · rw [Array.getElem?_setIfInBounds_ne (by omega), if_neg (by omega)]
          exact h5)
    rwa [hl] at this
theorem run_clear (w : World) (g o m c : Nat) (ty : TypeId) (hm : 0 < m) (hc : ∀ j, j < m * 2 → (w.cell? ⟨g, o + j, none⟩).isSome = true) (hf : ∀ j, j < m * 2 → w.frozen? ⟨g, o + j, none⟩ = false) :
    (Builtin.clear_ #[72] ty #[.slice (some ⟨g, o, none⟩) m c]).run Try.prog w = .ok (.tuple #[]) (w.setCells g o (List.replicate (m * 2) (.int .i64 0))) := by
  have hz : (Builtin.zeroCells (Value.agg #[.int .i64 0, .int .i64 0]).cells m).toList = List.replicate (m * 2) (.int .i64 0) := by
    apply List.ext_getElem
    · simp [Builtin.zeroCells, Value.cells]
    · intro i h1 h2
      simp only [Builtin.zeroCells, Value.cells]
      simp only [Array.toList_map, List.getElem_map, List.getElem_replicate, Array.getElem_toList, Array.getElem_range]
      rcases (show i % 2 = 0 ∨ i % 2 = 1 by omega) with h | h <;> simp [h]
  have hv : ∀ w, (zeroValue 81).run Try.prog w = .ok (.agg #[.int .i64 0, .int .i64 0]) w := fun w => by kernel_rfl
  have hst := run_storeCells_cells (P := Try.prog) g o (List.replicate (m * 2) (.int .i64 0)) 0 w (by simpa using hc) (by simpa using hf) (by intro v hv'; rw [List.eq_of_mem_replicate hv']; rfl)
  simp only [Nat.add_zero] at hst
  obtain ⟨m, rfl⟩ : ∃ q, m = q + 1 := ⟨m - 1, by omega⟩
  simp [Builtin.clear_, run_underlying Try.underlying72, hv, hz, hst]
theorem take_set {α : Type} (l : List α) (i : Nat) (x : α) (h : i < l.length) : (l.set i x).take (i + 1) = l.take i ++ [x] := by
  rw [List.take_succ_eq_append_getElem (by simpa using h), List.take_set_of_le (Nat.le_refl _)]
  simp
set_option maxHeartbeats 4000000 in
set_option maxRecDepth 100000 in
theorem compact_long {w : World} {base g cap : Nat} {ok : Nat → Prop} {xs : List S81} {n : Nat} (h : Kd.R k81 81 w base ok (.slice (some ⟨g, 0, none⟩) n cap) xs) (hn : 2 ≤ n) (hN : n ≤ 4611686018427387904) (hbw : base ≤ w.heap.size) (hbg : base ≤ g) :
    Calls Try.prog 111 #[.slice (some ⟨g, 0, none⟩) n cap] w fun e w' => e = .returned (.slice (some ⟨g, 0, none⟩) (comp xs).length cap) ∧ Kd.R k81 81 w' base ok (.slice (some ⟨g, 0, none⟩) (comp xs).length cap) (comp xs) ∧ Below base w w' := by
  have HL := Aside0.mk (R_len h)
  have HR := Aside0.mk h
  have hcap := HL.out.2.1
  clear h
  have d1 : decide (n < 2) = false := decide_eq_false (by omega)
  have d2 : decide ((n : Int) < 2) = false := decide_eq_false (by omega)
  go_enter Try.func111, Try.ntmps111
  go_wp2
  go_loopw [3] (fun s3 wr => ∃ j : Nat, j + 1 ≤ n ∧ s3 = .int .i64 ((j : Int) + 1) ∧ Aside0 (comp (xs.take (j + 1)) = xs.take (j + 1)) ∧ ∃ m, wr = w.drewN m) (fun s3 _ => n - (intOf s3).toNat)
  case atStart =>
    refine ⟨0, by omega, rfl, ⟨?_⟩, 0, rfl⟩
    cases xs with
    | nil => rfl
    | cons a t => rfl
  case round =>
    obtain ⟨j, hj, rfl, hk, m, rfl⟩ := hrel
    by_cases hlt : j + 1 < n
    · have hx1 : j + 1 < xs.length := by have := HL.out.1; omega
      have hx0 : j < xs.length := by omega
      have hct := comp_take xs (j + 1) (by omega) hx1
      obtain ⟨c10, c11, _, _⟩ := R_cell HR.out (j + 1) hx1
      obtain ⟨c00, c01, _, _⟩ := R_cell HR.out j hx0
      simp only [Nat.add_sub_cancel] at hct
      generalize hp : xs[j + 1] = p at c10 c11 hct
      generalize hq : xs[j] = q at c00 c01 hct
      have HC := Aside0.mk hct
      have Hp := Aside0.mk hp
      clear hp hq hct
      have b1 : decide ((j : Int) + 1 < n) = true := decide_eq_true (by omega)
      by_cases heq : eqP p q = true
      · have heb : (p.f0 == q.f0 && p.f1 == q.f1) = true := heq
        have HE := Aside0.mk heq
        clear heq
        go_wp2
        go_quiet (fail)
        go_wp2
        clear c10 c11 c00 c01 heb
        have hC0 : Aside0 (comp (xs.take (j + 1 + 0 + 1)) = xs.take (j + 1)) := ⟨by have := HC.out; rw [if_pos HE.out, List.append_nil] at this; rw [Nat.add_zero, this, hk.out]⟩
        clear HC HE hk
        go_loopw [3, 5] (fun s3 s5 wr => ∃ (i kk : Nat) (ys : List S81), i + 1 ≤ n - (j + 1) ∧ s5 = .int .i64 ((i : Int) + 1) ∧ s3 = .int .i64 (kk : Int) ∧ kk ≤ j + 1 + i ∧ Aside0 (comp (xs.take (j + 1 + i + 1)) = ys.take kk) ∧ Aside0 (ys.length = n ∧ ∀ t, j + 1 + i ≤ t → ys[t]? = xs[t]?) ∧ Aside0 (Kd.R k81 81 wr base ok (.slice (some ⟨g, 0, none⟩) n cap) ys) ∧ Aside0 (Below base w wr)) (fun _ s5 _ => n - (intOf s5).toNat)
        case atStart =>
          refine ⟨0, j + 1, xs, by omega, rfl, by go_num, by omega, hC0, ⟨HL.out.1.symm, fun _ _ => rfl⟩, ⟨Kd.R_drewN HR.out _⟩, ⟨pw_below_drewN (Below.refl _ _) _⟩⟩
        case round =>
          obtain ⟨i, kk, ys, hi, rfl, rfl, hkk, hC, hY, hRy, hB⟩ := hrel
          by_cases hlt2 : i + 1 < n - (j + 1)
          · have hy1 : j + 1 + i + 1 < ys.length := by have := hY.out.1; omega
            have hy0 : j + 1 + i < ys.length := by omega
            have hyk : kk < ys.length := by omega
            have hxl : j + 1 + i + 1 < xs.length := by have := HL.out.1; omega
            have hct := comp_take xs (j + 1 + i + 1) (by omega) hxl
            simp only [Nat.add_sub_cancel] at hct
            have e1 : ys[j + 1 + i + 1] = xs[j + 1 + i + 1] := by
              have := hY.out.2 (j + 1 + i + 1) (by omega)
              rw [List.getElem?_eq_getElem hy1, List.getElem?_eq_getElem hxl] at this
              exact Option.some.inj this
            have e0 : ys[j + 1 + i] = xs[j + 1 + i]'(by omega) := by
              have := hY.out.2 (j + 1 + i) (by omega)
              rw [List.getElem?_eq_getElem hy0, List.getElem?_eq_getElem (by omega)] at this
              exact Option.some.inj this
            obtain ⟨c10, c11, _, _⟩ := R_cell hRy.out (j + 1 + i + 1) hy1
            obtain ⟨c00, c01, _, _⟩ := R_cell hRy.out (j + 1 + i) hy0
            obtain ⟨k0, k1, f0, f1⟩ := R_cell hRy.out kk hyk
            rw [e1] at c10 c11
            rw [e0] at c00 c01
            have hP : Aside0 (xs[j + 1 + i + 1]? = some xs[j + 1 + i + 1]) := ⟨List.getElem?_eq_getElem hxl⟩
            generalize xs[j + 1 + i + 1] = p2 at c10 c11 hct hP
            generalize xs[j + 1 + i] = q2 at c00 c01 hct
            generalize ys[kk] = o2 at k0 k1
            have HC := Aside0.mk hct
            clear hct e1 e0
            rw [show (j + 1 + i + 1) * 2 = (j + 1) * 2 + (i + 1) * 2 by omega] at c10 c11
            rw [show (j + 1 + i) * 2 = (j + 1) * 2 + i * 2 by omega] at c00 c01
            have b2 : decide ((i : Int) + 1 < ((n - (j + 1) : Nat) : Int)) = true := decide_eq_true (by omega)
            by_cases heq : eqP p2 q2 = true
            · have heb : (p2.f0 == q2.f0 && p2.f1 == q2.f1) = true := heq
              have HE := Aside0.mk heq
              clear heq
              go_wp2
              go_quiet (fail)
              go_wp2
              go_roundw
              case rel =>
                refine ⟨i + 1, kk, ys, by omega, by go_num, rfl, by omega, ⟨?_⟩, ⟨hY.out.1, fun t ht => hY.out.2 t (by omega)⟩, ⟨Kd.R_drewN hRy.out _⟩, ⟨pw_below_drewN hB.out _⟩⟩
                have := HC.out
                rw [if_pos HE.out, List.append_nil, hC.out] at this
                exact this
              case measure => simp [intOf]; omega
            · have heb : (p2.f0 == q2.f0 && p2.f1 == q2.f1) = false := by simpa [eqP] using heq
              have hen : (!(p2.f0 == q2.f0) || (!(p2.f1 == q2.f1))) = true := by rw [← Bool.not_and, heb]; rfl
              have HE := Aside0.mk heq
              clear heq
              go_wp2
              go_quiet (fail)
              go_wp2
              go_roundw
              case rel =>
                refine ⟨i + 1, kk + 1, ys.set kk p2, by omega, by go_num, by go_num, by omega, ⟨?_⟩, ⟨by rw [List.length_set]; exact hY.out.1, fun t ht => ?_⟩, ⟨R_put2 (Kd.R_drewN hRy.out _) kk (by have := hY.out.1; omega) p2.f0 p2.f1⟩, ⟨((pw_below_drewN hB.out _).setCell hbg _).setCell hbg _⟩⟩
                · have := HC.out
                  rw [if_neg HE.out, hC.out] at this
                  rw [take_set _ _ _ hyk]
                  exact this
                · rw [List.getElem?_set_ne (by omega)]
                  exact hY.out.2 t (by omega)
              case measure => simp [intOf]; omega
          · have hkn : kk < n := by omega
            have b2 : decide ((i : Int) + 1 < ((n - (j + 1) : Nat) : Int)) = false := decide_eq_false (by omega)
            have hlen : ∀ t, t < (n - kk) * 2 → kk * 2 + t = (kk + t / 2) * 2 + t % 2 := fun t _ => by omega
            have hcl : ∀ ty, (Builtin.clear_ #[72] ty #[.slice (some ⟨g, kk * 2, none⟩) (n - kk) (cap - kk)]).run Try.prog wr = .ok (.tuple #[]) (wr.setCells g (kk * 2) (List.replicate ((n - kk) * 2) (.int .i64 0))) := fun ty =>
              run_clear wr g (kk * 2) (n - kk) (cap - kk) ty (by omega) (fun t ht => by
                have hi2 : kk + t / 2 < ys.length := by have := hY.out.1; omega
                obtain ⟨a0, a1, _, _⟩ := R_cell hRy.out _ hi2
                rw [hlen t ht]
                rcases (show t % 2 = 0 ∨ t % 2 = 1 by omega) with h | h
                · rw [h, Nat.add_zero, a0]; rfl
                · rw [h, a1]; rfl) (fun t ht => by
                have hi2 : kk + t / 2 < ys.length := by have := hY.out.1; omega
                obtain ⟨_, _, a0, a1⟩ := R_cell hRy.out _ hi2
                rw [hlen t ht]
                rcases (show t % 2 = 0 ∨ t % 2 = 1 by omega) with h | h
                · rw [h, Nat.add_zero, a0]
                · rw [h, a1])
            have hcx : comp xs = ys.take kk := by
              have := hC.out
              rw [List.take_of_length_le (by have := HL.out.1; omega)] at this
              exact this
            have hcl2 : (comp xs).length = kk := by rw [hcx, List.length_take]; have := hY.out.1; omega
            have hfin := Aside0.mk (And.intro hcl2 (And.intro (R_behinds (List.replicate ((n - kk) * 2) (.int .i64 0)) (kk * 2) wr (Nat.le_refl _) (Kd.R_take hRy.out (by have := hY.out.1; omega : kk ≤ ys.length))) (below_sets hbg (List.replicate ((n - kk) * 2) (.int .i64 0)) (kk * 2) wr hB.out)))
            rw [← hcx] at hfin
            clear hcx hcl2 hlen
            go_wp2
            go_ret
            obtain ⟨e1, e2, e3⟩ := hfin.out
            exact ⟨by rw [e1]; rfl, by rw [e1]; exact e2, e3⟩
      · have heb : (p.f0 == q.f0 && p.f1 == q.f1) = false := by simpa [eqP] using heq
        have HE := Aside0.mk heq
        clear heq
        go_wp2
        go_quiet (fail)
        go_wp2
        go_roundw
        case rel =>
          refine ⟨j + 1, by omega, by go_num, ⟨?_⟩, _, rfl⟩
          have := HC.out
          rw [if_neg HE.out, hk.out] at this
          rw [this, List.take_succ_eq_append_getElem hx1, Hp.out]
        case measure => simp [intOf]; omega
    · have b1 : decide ((j : Int) + 1 < n) = false := decide_eq_false (by omega)
      have hcx : comp xs = xs := by
        have := hk.out
        rwa [List.take_of_length_le (by have := HL.out.1; omega)] at this
      have hfin := Aside0.mk (And.intro hcx HL.out.1)
      clear hcx
      go_wp2
      go_ret
      obtain ⟨e1, e2⟩ := hfin.out
      rw [e1, ← e2]
      exact ⟨rfl, Kd.R_drewN HR.out _, pw_below_drewN (Below.refl _ _) _⟩
end Go.Proofs.Ytchmmnlmgkocoaa.H
