/- slices.SortFunc, Reverse over a row of points of the call's own; conditions: those of each lemma. -/
import Derived.Test.YtchmmnlmgkocoaaHB
import Derived.Shelf.SlGeneric
import Derived.Ground.SlsfProg
import Derived.Ground.SlgnProg
import Derived.Shelf.SlicesQ.Reverse
set_option linter.unusedVariables false
set_option linter.unusedSimpArgs false
namespace Go.Proofs
open Go.Shelf
def Try.sortPt_ren : Go.Shelf.Ren := ⟨fun | 6 => 109 | 15 => 170 | 14 => 169 | 28 => 202 | 29 => 203 | 20 => 194 | 21 => 195 | 22 => 196 | 23 => 197 | 24 => 198 | 25 => 199 | 26 => 200 | 27 => 201 | 46 => 214 | 47 => 215 | 48 => 216 | 49 => 217 | 50 => 218 | 57 => 226 | n => n, fun | 22 => 72 | 24 => 81 | 25 => 152 | 3 => 3 | 39 => 145 | 0 => 0 | 53 => 212 | 55 => 223 | 4 => 4 | 46 => 215 | 45 => 214 | 50 => 219 | 5 => 5 | 9 => 9 | 66 => 230 | 70 => 234 | 76 => 241 | 77 => 242 | n => n, fun | n => n⟩
theorem Try.sortPt : Go.Proofs.SlLaysF0.n6 Try.prog Try.sortPt_ren := {
  mixed := by kernel_rfl
  f6 := ⟨Try.f109.name, by decide, Try.func109.trans (congrArg some (by kernel_rfl))⟩
  f14 := ⟨Try.f169.name, by decide, Try.func169.trans (congrArg some (by kernel_rfl))⟩
  f15 := Try.func170.trans (congrArg some (by kernel_rfl))
  f20 := ⟨Try.f194.name, by decide, Try.func194.trans (congrArg some (by kernel_rfl))⟩
  f21 := ⟨Try.f195.name, by decide, Try.func195.trans (congrArg some (by kernel_rfl))⟩
  f22 := ⟨Try.f196.name, by decide, Try.func196.trans (congrArg some (by kernel_rfl))⟩
  f23 := ⟨Try.f197.name, by decide, Try.func197.trans (congrArg some (by kernel_rfl))⟩
  f24 := ⟨Try.f198.name, by decide, Try.func198.trans (congrArg some (by kernel_rfl))⟩
  f25 := ⟨Try.f199.name, by decide, Try.func199.trans (congrArg some (by kernel_rfl))⟩
  f26 := ⟨Try.f200.name, by decide, Try.func200.trans (congrArg some (by kernel_rfl))⟩
  f27 := ⟨Try.f201.name, by decide, Try.func201.trans (congrArg some (by kernel_rfl))⟩
  f28 := Try.func202.trans (congrArg some (by kernel_rfl))
  f29 := Try.func203.trans (congrArg some (by kernel_rfl))
  f46 := ⟨Try.f214.name, by decide, Try.func214.trans (congrArg some (by kernel_rfl))⟩
  f47 := Try.func215.trans (congrArg some (by kernel_rfl))
  f48 := Try.func216.trans (congrArg some (by kernel_rfl))
  f49 := ⟨Try.f217.name, by decide, Try.func217.trans (congrArg some (by kernel_rfl))⟩
  f50 := ⟨Try.f218.name, by decide, Try.func218.trans (congrArg some (by kernel_rfl))⟩
  f57 := ⟨Try.f226.name, by decide, Try.func226.trans (congrArg some (by kernel_rfl))⟩
  t0 := Try.underlying0
  a0 := Try.isAgg0
  z0 := Try.sizeOf0
  v0 := Try.zeroValue0
  t3 := Try.underlying3
  a3 := Try.isAgg3
  z3 := Try.sizeOf3
  v3 := Try.zeroValue3
  t4 := Try.underlying4
  a4 := Try.isAgg4
  z4 := Try.sizeOf4
  v4 := Try.zeroValue4
  t5 := Try.underlying5
  a5 := Try.isAgg5
  z5 := Try.sizeOf5
  v5 := Try.zeroValue5
  t9 := Try.underlying9
  a9 := Try.isAgg9
  z9 := Try.sizeOf9
  v9 := Try.zeroValue9
  t22 := Try.underlying72
  a22 := Try.isAgg72
  z22 := Try.sizeOf72
  v22 := Try.zeroValue72
  t25 := Try.underlying152
  a25 := Try.isAgg152
  z25 := Try.sizeOf152
  v25 := Try.zeroValue152
  t39 := Try.underlying145
  a39 := Try.isAgg145
  z39 := Try.sizeOf145
  v39 := Try.zeroValue145
  t45 := Try.underlying214
  a45 := Try.isAgg214
  z45 := Try.sizeOf214
  v45 := Try.zeroValue214
  t46 := Try.underlying215
  a46 := Try.isAgg215
  z46 := Try.sizeOf215
  v46 := Try.zeroValue215
  t50 := Try.underlying219
  a50 := Try.isAgg219
  z50 := Try.sizeOf219
  v50 := Try.zeroValue219
  t53 := Try.underlying212
  a53 := Try.isAgg212
  z53 := Try.sizeOf212
  v53 := Try.zeroValue212
  t55 := Try.underlying223
  a55 := Try.isAgg223
  z55 := Try.sizeOf223
  v55 := Try.zeroValue223
  t66 := Try.underlying230
  a66 := Try.isAgg230
  z66 := Try.sizeOf230
  v66 := Try.zeroValue230
  t70 := Try.underlying234
  a70 := Try.isAgg234
  z70 := Try.sizeOf234
  v70 := Try.zeroValue234
  t76 := Try.underlying241
  a76 := Try.isAgg241
  z76 := Try.sizeOf241
  v76 := Try.zeroValue241
  t77 := Try.underlying242
  a77 := Try.isAgg242
  z77 := Try.sizeOf242
  v77 := Try.zeroValue242 }
def Try.revPt_ren : Go.Shelf.Ren := ⟨fun | 35 => 114 | n => n, fun | 22 => 72 | 23 => 81 | 3 => 3 | 4 => 4 | 0 => 0 | n => n, fun | n => n⟩
theorem Try.revPt : Go.Proofs.SlLaysE0.n35 Try.prog Try.revPt_ren := {
  mixed := by kernel_rfl
  f35 := ⟨Try.f114.name, by decide, Try.func114.trans (congrArg some (by kernel_rfl))⟩
  t0 := Try.underlying0
  a0 := Try.isAgg0
  z0 := Try.sizeOf0
  v0 := Try.zeroValue0
  t3 := Try.underlying3
  a3 := Try.isAgg3
  z3 := Try.sizeOf3
  v3 := Try.zeroValue3
  t4 := Try.underlying4
  a4 := Try.isAgg4
  z4 := Try.sizeOf4
  v4 := Try.zeroValue4
  t22 := Try.underlying72
  a22 := Try.isAgg72
  z22 := Try.sizeOf72
  v22 := Try.zeroValue72 }
end Go.Proofs
namespace Go.Proofs.Ytchmmnlmgkocoaa.H
open Go.Shelf Go.RowKit Go.Sort Go.Proofs.YtchmmnlmgkocoaaW.PrintWords Go.Proofs.YtchmmnlmgkocoaaW.PrintLast Go.Proofs.YtchmmnlmgkocoaaW.PrintMore
theorem flatK_at (d : Array S81) (t : Nat) (h : t < d.size * 2) : (flatK encS 2 d)[t]! = (encS (d.toList.getD (t / 2) z81))[t % 2]! := by
  rw [get_flatK _ _ _ _ h]
  have : d[t / 2]! = d.toList.getD (t / 2) z81 := by
    rw [getElem!_pos d (t / 2) (by omega), List.getD_eq_getElem?_getD, List.getElem?_eq_getElem (by simpa using (by omega : t / 2 < d.size))]
    simp
  rw [this]
theorem holds_of_form {w : World} {g : Nat} {cur : Array Value} {xs : List S81} {fr : TypeId} (hh : w.heap[g]? = some (.cells cur fr (0, 0))) (hs : xs.length * 2 ≤ cur.size) (h4 : cur.toList.take (xs.length * 2) = flatS xs) : HoldsK encS 2 w g 0 xs.toArray := by
  intro j hj
  rw [size_flatK, List.size_toArray] at hj
  rw [flatK_at _ _ (by simpa using hj)]
  have h5 := (cells_take (flatS_length xs) hs).1 h4 j hj
  rw [flatS_at xs j hj] at h5
  rw [Nat.zero_add]
  constructor
  · rw [World.cell?]
    simp only [hh]
    simpa using h5
  · rw [World.frozen?]
    simp [hh]
theorem form_of_put {w : World} {g n : Nat} {cur : Array Value} {os : Array Obj} {xs : List S81} {fr : TypeId} (hh : w.heap[g]? = some (.cells cur fr (0, 0))) (hs : xs.length * 2 ≤ cur.size) :
    ∃ cur', (sortWorldK encS 2 w g 0 n xs.toArray os).heap[g]? = some (.cells cur' fr (0, 0)) ∧ cur'.size = cur.size ∧ cur'.toList.take (xs.length * 2) = flatS xs := by
  refine ⟨putCells id 0 (flatK encS 2 xs.toArray) cur, ?_, by simp [putCells], ?_⟩
  · have hlt : g < w.heap.size := (Array.getElem?_eq_some_iff.1 hh).1
    show ((w.heap.modify g (onCells (putCells id 0 (flatK encS 2 xs.toArray)))) ++ os)[g]? = _
    rw [Array.getElem?_append_left (by simpa using hlt), Array.getElem?_modify, if_pos rfl, hh]
    rfl
  · rw [cells_take (flatS_length xs) (by simpa [putCells] using hs)]
    intro t ht
    rw [flatS_at xs t ht]
    have hf := flatK_at xs.toArray t (by simpa using ht)
    simp only [putCells]
    rw [Array.getElem?_mapIdx, Array.getElem?_eq_getElem (by omega)]
    simp only [Option.map_some]
    rw [if_pos ⟨Nat.zero_le _, by simpa using ht⟩, Nat.sub_zero, hf]
    rfl
theorem below_put {w : World} {g n base : Nat} {os : Array Obj} {xs : List S81} (hb : base ≤ g) (hbw : base ≤ w.heap.size) : Below base w (sortWorldK encS 2 w g 0 n xs.toArray os) := by
  refine ⟨rfl, rfl, rfl, ?_, fun k hk => ?_⟩
  · show w.heap.size ≤ ((w.heap.modify g (onCells (putCells id 0 (flatK encS 2 xs.toArray)))) ++ os).size
    rw [Array.size_append, Array.size_modify]
    exact Nat.le_add_right _ _
  · show ((w.heap.modify g (onCells (putCells id 0 (flatK encS 2 xs.toArray)))) ++ os)[k]? = _
    have hlt : k < w.heap.size := by omega
    rw [Array.getElem?_append_left (by simpa using hlt), Array.getElem?_modify, if_neg (by omega)]
theorem grown_put {w : World} {g n : Nat} {os : Array Obj} {xs : List S81} : w.grownBy (sortWorldK encS 2 w g 0 n xs.toArray os) (some g) := by
  refine ⟨rfl, rfl, rfl, ?_, fun k hk hne => ?_⟩
  · show w.heap.size ≤ ((w.heap.modify g (onCells (putCells id 0 (flatK encS 2 xs.toArray)))) ++ os).size
    rw [Array.size_append, Array.size_modify]
    exact Nat.le_add_right _ _
  · show ((w.heap.modify g (onCells (putCells id 0 (flatK encS 2 xs.toArray)))) ++ os)[k]? = _
    have hne' : g ≠ k := fun h => hne (by rw [h])
    rw [Array.getElem?_append_left (by simpa using hk), Array.getElem?_modify, if_neg hne']
theorem sortPts {w : World} {base : Nat} {ok : Nat → Prop} {v : Value} {xs : List S81} (h : Kd.R k81 81 w base ok v xs) (hn : xs.length < 4611686018427387904) (hbw : base ≤ w.heap.size) :
    Calls Try.prog 109 #[v, .func (.func 110) #[] #[]] w fun e w' => e = .returned (.tuple #[]) ∧ Kd.R k81 81 w' base ok v (xs.mergeSort lePt) ∧ Below base w w' := by
  have eg : ∀ args w, (callFunc 110 args).run Try.prog w = .ok (.enter 110 args) w := enters_of Try.func110 (by kernel_rfl) rfl
  rcases R_form h with ⟨rfl, rfl⟩ | ⟨g, cap, cur, rfl, hok, hb, hh, h1, h2, h3, h4⟩
  · have hc := AnyF.slices_SortFunc_none Try.sortPt none 0 (.func (.func 110) #[] #[]) w
    change Calls Try.prog 109 _ _ _ at hc
    exact hc.mono fun e w' ⟨he, hw⟩ => ⟨he, by subst hw; simpa using h, by subst hw; exact Below.refl _ _⟩
  · have hlt : g < w.heap.size := (Array.getElem?_eq_some_iff.1 hh).1
    have hH := holds_of_form (xs := xs) hh (by rw [h3]; exact Nat.mul_le_mul_right _ h1) h4
    have hc := AnyQ.slices_SortFunc_total Try.sortPt 2 Try.isAgg81 Try.sizeOf81 encS (fun _ => rfl) (fun x v hv => by simp [encS] at hv; rcases hv with rfl | rfl <;> rfl) cfS swoS 110 #[] g 0 cap xs.toArray w eg (laysS g 0 _ w) hH hlt (by simpa using hn) totS
    change Calls Try.prog 109 _ _ _ at hc
    rw [List.size_toArray] at hc
    refine hc.mono fun e w' ⟨he, n, os, hw⟩ => ?_
    have e1 : (fun x y => !ltOf cfS y x) = lePt := by funext x y; exact not_ltS x y
    rw [e1] at hw
    subst hw
    have hl : (xs.mergeSort lePt).length = xs.length := List.length_mergeSort _
    obtain ⟨cur', hc1, hc2, hc3⟩ := form_of_put (n := n) (os := os) (xs := xs.mergeSort lePt) hh (by rw [hl, h3]; exact Nat.mul_le_mul_right _ h1)
    refine ⟨he, ?_, below_put hb hbw⟩
    have hR := R_of_form (xs := xs.mergeSort lePt) (cap := cap) hok hb hc1 (by omega) h2 (by omega) hc3
    rwa [hl] at hR

theorem clonePts {w : World} {A : Option Addr} {c : Nat} {l : List S81} (hr : Kd.C k81 w A l.length l) (hl : l.length < 8796093022208) :
    Calls Try.prog 108 #[.slice A l.length c] w fun e w' => ∃ v : Value, e = .returned v ∧ Kd.R k81 81 w' w.heap.size (fun _ => True) v l ∧ Below w.heap.size w w' := by
  have q22 : ∀ (w : World) (a : Option Addr) (n c n' c' : Nat), (binOp .eql 72 (.slice a n c) (.slice none n' c')).run Try.prog w = .ok (.bool a.isNone) w := fun w a n c n' c' => Lib.run_eql_slice_nil w _ _ a n c n' c' Try.underlying72
  have HR := Aside0.mk hr
  clear hr
  cases A with
  | none =>
    have h0 : l = [] := by
      rcases Nat.eq_zero_or_pos l.length with h | h
      · exact List.eq_nil_of_length_eq_zero h
      · obtain ⟨ad, e, _⟩ := HR.out.2.2 h
        cases e
    subst h0
    clear HR
    go_enter Try.func108, Try.ntmps108
    go_wp2
    go_ret
    exact ⟨_, rfl, Kd.R_nil _ _ _ _ _, Below.refl _ _⟩
  | some ad =>
    go_enter Try.func108, Try.ntmps108
    go_wp2_with (at_builtin; refine Kd.R_append_rows k81 (w0 := w) w.heap.size rfl (.tmp 5) (.tmp 6) 72 81 (.agg #[(.int .i64 0), (.int .i64 0)]) 16 rfl Try.underlying72 info81 rfl (by decide) (by omega) (.slice (some ⟨w.heap.size, 0, none⟩) 0 0) ([] : List S81) l _ _ _ (fun _ => True) (fun _ => False) rfl rfl ?aO ?aR (fun _ _ h => h) (fun _ h => h.elim) ?aF ?aB ?aS ?aL ?_; (case aO => exact R_of_form (xs := []) (cap := 0) (cur := #[]) trivial (Nat.le_refl _) (by simpa using heap_alloc_new w (.cells #[] 81)) (Nat.le_refl _) (by simp [maxLen]) rfl rfl); (case aR => exact Kd.C_alloc HR.out _); (case aF => exact fun _ _ => trivial); (case aB => exact below_alloc (Below.refl _ _) _); (case aS => exact (by simp)); (case aL => simp; omega); intro v1 w1 ho hb hg hat; have HO := Aside0.mk ho; have HB := Aside0.mk hb; clear ho hb hg hat)
    go_ret
    exact ⟨_, rfl, HO.out, HB.out⟩
theorem reversePts {w : World} {base : Nat} {ok : Nat → Prop} {v : Value} {xs : List S81} (h : Kd.R k81 81 w base ok v xs) (hn : xs.length < 4611686018427387904) (hbw : base ≤ w.heap.size) :
    Calls Try.prog 114 #[v] w fun e w' => e = .returned (.tuple #[]) ∧ Kd.R k81 81 w' base ok v xs.reverse ∧ Below base w w' ∧ w.grownBy w' v.ownBlock := by
  rcases R_form h with ⟨rfl, rfl⟩ | ⟨g, cap, cur, rfl, hok, hb, hh, h1, h2, h3, h4⟩
  · have hc := AnyQ.slices_Reverse_empty Try.revPt none 0 w
    change Calls Try.prog 114 _ _ _ at hc
    exact hc.mono fun e w' ⟨he, hw⟩ => ⟨he, by subst hw; simpa using h, by subst hw; exact Below.refl _ _, by subst hw; exact World.grownBy.refl _ _⟩
  · have hlt : g < w.heap.size := (Array.getElem?_eq_some_iff.1 hh).1
    have hH := holds_of_form (xs := xs) hh (by rw [h3]; exact Nat.mul_le_mul_right _ h1) h4
    have hc := AnyQ.slices_Reverse Try.revPt 2 Try.isAgg81 Try.sizeOf81 encS (fun _ => rfl) (fun x v hv => by simp [encS] at hv; rcases hv with rfl | rfl <;> rfl) g 0 cap xs.toArray w hH (by simp; omega)
    change Calls Try.prog 114 _ _ _ at hc
    rw [List.size_toArray] at hc
    refine hc.mono fun e w' ⟨he, n, hw⟩ => ?_
    have hl : xs.reverse.length = xs.length := List.length_reverse
    have hw2 : w' = sortWorldK encS 2 w g 0 n xs.reverse.toArray #[] := by
      rw [hw, sortWorldK, grow_empty]
      simp
    subst hw2
    obtain ⟨cur', hc1, hc2, hc3⟩ := form_of_put (n := n) (os := #[]) (xs := xs.reverse) hh (by rw [hl, h3]; exact Nat.mul_le_mul_right _ h1)
    refine ⟨he, ?_, below_put hb hbw, grown_put⟩
    have hR := R_of_form (xs := xs.reverse) (cap := cap) hok hb hc1 (by omega) h2 (by omega) hc3
    rwa [hl] at hR
theorem clipPts {w : World} {g n cap : Nat} (h : n ≤ cap) :
    Calls Try.prog 112 #[.slice (some ⟨g, 0, none⟩) n cap] w fun e w' => e = .returned (.slice (some ⟨g, 0, none⟩) n n) ∧ w' = w := by
  go_enter Try.func112, Try.ntmps112
  go_wp2
  go_ret
  exact ⟨rfl, rfl⟩
theorem clipNil {w : World} :
    Calls Try.prog 112 #[.slice none 0 0] w fun e w' => e = .returned (.slice none 0 0) ∧ w' = w := by
  go_enter Try.func112, Try.ntmps112
  go_wp2
  go_ret
  exact ⟨rfl, rfl⟩
end Go.Proofs.Ytchmmnlmgkocoaa.H
