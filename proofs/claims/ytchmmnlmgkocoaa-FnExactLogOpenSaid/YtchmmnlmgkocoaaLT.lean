/- FnExactLogOpen's sizes, copies and likeness, plainly; conditions: those of each lemma. -/
import Derived.Test.YtchmmnlmgkocoaaLS
import Derived.Test.YtchmmnlmgkocoaaLN
set_option linter.unusedVariables false
set_option linter.unusedSimpArgs false
namespace Go.Proofs.Ytchmmnlmgkocoaa.L
open Go.RowKit Go.Proofs.YtchmmnlmgkocoaaW.PrintWords Go.Proofs.YtchmmnlmgkocoaaW.PrintLast Go.Proofs.YtchmmnlmgkocoaaW.PrintMore
theorem rd177_at (xs : List S177) (i : Nat) (h : i < xs.length) : rd_T177 xs (i : Int) = xs[i] := by
 simp [rd_T177, List.getD_eq_getElem?_getD, List.getElem?_eq_getElem h]
theorem rdL2_at (xs : List (List Int)) (i : Nat) (h : i < xs.length) : rd_L2 xs (i : Int) = xs[i] := by
 simp [rd_L2, List.getD_eq_getElem?_getD, List.getElem?_eq_getElem h]
def conv (x : S177) : S142 := ⟨x.f0, x.f1⟩
def sumL : List S177 → Nat
 | [] => 0
 | x :: t => x.f1.length + sumL t
theorem sumL_mem {x : S177} {s : List S177} (h : x ∈ s) : x.f1.length ≤ sumL s := by
 induction s with
 | nil => cases h
 | cons y s ih =>
  rw [sumL]
  rcases List.mem_cons.1 h with rfl | h
  ·
   omega
  ·
   have := ih h; omega
theorem totW_conv (s : List S177) : totW (s.map conv) = s.length + sumL s := by
 induction s with
 | nil => rfl
 | cons x s ih => simp only [List.map_cons, totW, sumL, List.length_cons, ih, conv]; omega
theorem szB_is (l : List Int) (a : Int) (h0 : 0 ≤ a) (h1 : a ≤ 2000000) (hl : l.length ≤ 9223372036854775807) : ∃ t, laws_szByteS.f l a = some t ∧ (t < 0 ∨ (t = a - (l.length : Int) ∧ 0 ≤ t)) := by
 unfold laws_szByteS.f
 rw [w64 (by omega) (by omega)]
 by_cases h : a - (l.length : Int) < 0
 ·
  exact ⟨-1, by rw [if_pos h], Or.inl (by omega)⟩
 ·
  exact ⟨_, by rw [if_neg h], Or.inr ⟨rfl, by omega⟩⟩
theorem szDisk_is (b : List Int) (q : List S177) (hb : b.length ≤ 9223372036854775807) (hq : q.length ≤ 9223372036854775807) (hx : ∀ x ∈ q, x.f1.length ≤ 9223372036854775807) :
  ∃ t, Ev (fun k => laws_szDisk.f k b q 1048576) t ∧ (t < 0 ∨ (b.length + q.length + sumL q ≤ 1048576 ∧ 0 ≤ t)) := by
 have loop : ∀ (d i : Nat) (x : Int), i + d = q.length → 0 ≤ x → x ≤ 2000000 → ∃ t, Ev (fun k => laws_szWriteS.l0 k q x (i : Int)) t ∧ (t < 0 ∨ (t = x - (sumL (q.drop i) : Int) ∧ 0 ≤ t)) := by
  intro d
  induction d with
  | zero =>
   intro i x hd h0 h1
   refine ⟨x, Ev.step (f := fun _ => some x) (fun k => ?_) (Ev.now _), Or.inr ⟨?_, h0⟩⟩
   ·
    simp only [laws_szWriteS.l0]
    rw [if_neg (by omega)]
   ·
    rw [List.drop_eq_nil_of_le (by omega)]
    simp [sumL]
  | succ d ih =>
   intro i x hd h0 h1
   have hi : i < q.length := by omega
   obtain ⟨t, et, ht⟩ := szB_is q[i].f1 x h0 h1 (hx _ (List.getElem_mem hi))
   by_cases hn : t < 0
   ·
    refine ⟨-1, Ev.step (f := fun _ => some (-1)) (fun k => ?_) (Ev.now _), Or.inl (by omega)⟩
    simp only [laws_szWriteS.l0, laws_szWrite.f]
    rw [if_pos (by omega), if_pos (by omega), rd177_at _ _ hi, et]
    simp only [Option.bind_some, if_pos hn, if_pos (show (-1 : Int) < 0 by omega)]
   ·
    obtain ⟨e, _⟩ := ht.resolve_left hn
    obtain ⟨t2, e2, h2⟩ := ih (i + 1) t (by omega) (by omega) (by omega)
    refine ⟨t2, Ev.step (fun k => ?_) e2, ?_⟩
    ·
     simp only [laws_szWriteS.l0, laws_szWrite.f]
     rw [if_pos (by omega), if_pos (by omega), rd177_at _ _ hi, et]
     simp only [Option.bind_some, if_neg hn]
     rw [w64 (by omega) (by omega)]
     rfl
    ·
     rcases h2 with h2 | ⟨h2, h3⟩
     ·
      exact Or.inl h2
     ·
      refine Or.inr ⟨?_, h3⟩
      rw [List.drop_eq_getElem_cons hi, sumL, h2, e]
      omega
 obtain ⟨t, et, ht⟩ := szB_is b 1048576 (by omega) (by omega) hb
 unfold laws_szDisk.f
 rw [et]
 simp only [Option.bind_some]
 by_cases hn : t < 0
 ·
  simp only [if_pos hn]
  exact ⟨-1, Ev.now _, Or.inl (by omega)⟩
 ·
  simp only [if_neg hn]
  obtain ⟨e, _⟩ := ht.resolve_left hn
  unfold laws_szWriteS.f
  rw [w64 (by omega) (by omega)]
  by_cases hm : t - (q.length : Int) < 0
  ·
   simp only [if_pos hm, Option.bind_some, if_pos (show (-1 : Int) < 0 by omega)]
   exact ⟨-1, Ev.now _, Or.inl (by omega)⟩
  ·
   simp only [if_neg hm]
   obtain ⟨t2, e2, h2⟩ := loop q.length 0 (t - (q.length : Int)) (by omega) (by omega) (by omega)
   by_cases hk : t2 < 0
   ·
    refine ⟨-1, Ev.bind e2 ?_, Or.inl (by omega)⟩
    rw [if_pos hk]
    exact Ev.now _
   ·
    obtain ⟨e3, h3⟩ := h2.resolve_left hk
    refine ⟨t2, Ev.bind e2 ?_, Or.inr ⟨?_, h3⟩⟩
    ·
     rw [if_neg hk]
     exact Ev.now _
    ·
     rw [List.drop_zero] at e3
     omega
/-- one more place filled -/
theorem fill {α β : Type} (f : α → β) (l : List α) (z : β) (i d : Nat) (hi : i < l.length) : ((l.map f).take i ++ List.replicate (d + 1) z).set i (f l[i]) = (l.map f).take (i + 1) ++ List.replicate d z := by
 rw [List.set_append_right i _ (by simp; omega)]
 have e1 : i - ((l.map f).take i).length = 0 := by simp; omega
 rw [e1, List.replicate_succ, List.set_cons_zero, List.take_add_one, List.getElem?_eq_getElem (by simpa using hi)]
 simp
theorem toByteS_ev (l : List Int) (hl : l.length ≤ 2000000) : Ev (fun k => laws_toByteS.f k l) l := by
 have : ∀ (d i : Nat), i + d = l.length → Ev (fun k => laws_toByteS.l0 k l ((l.map id).take i ++ List.replicate d 0) (i : Int)) (l.map id) := by
  intro d
  induction d with
  | zero =>
   intro i hd
   refine Ev.step (f := fun _ => some (l.map id)) (fun k => ?_) (Ev.now _)
   simp only [laws_toByteS.l0]
   rw [if_neg (by omega), List.take_of_length_le (by simp; omega)]
   simp
  | succ d ih =>
   intro i hd
   have hi : i < l.length := by omega
   refine Ev.step (fun k => ?_) (ih (i + 1) (by omega))
   simp only [laws_toByteS.l0]
   rw [if_pos (by omega), if_pos (by omega), if_pos (by simp; omega), rd_at _ _ hi, w64 (by omega) (by omega), Int.toNat_natCast, show l[i] = id l[i] from rfl, fill id l 0 i d hi]
   rfl
 have h := this l.length 0 (by omega)
 unfold laws_toByteS.f
 simp only [Int.toNat_natCast, show (0 : Int) ≤ (l.length : Int) from by omega, show l.length ≤ 281474976710656 from by omega, if_true]
 simpa using h
theorem toWriteS_ev (l : List S177) (hl : l.length ≤ 2000000) (hx : ∀ x ∈ l, x.f1.length ≤ 2000000) : Ev (fun k => laws_toWriteS.f k l) (l.map conv) := by
 have : ∀ (d i : Nat), i + d = l.length → Ev (fun k => laws_toWriteS.l0 k l ((l.map conv).take i ++ List.replicate d z142) (i : Int)) (l.map conv) := by
  intro d
  induction d with
  | zero =>
   intro i hd
   refine Ev.step (f := fun _ => some (l.map conv)) (fun k => ?_) (Ev.now _)
   simp only [laws_toWriteS.l0]
   rw [if_neg (by omega), List.take_of_length_le (by simp; omega)]
   simp
  | succ d ih =>
   intro i hd
   have hi : i < l.length := by omega
   refine Ev.step (f := fun k => (laws_toByteS.f k l[i].f1).bind fun t => laws_toWriteS.l0 k l (((l.map conv).take i ++ List.replicate (d + 1) z142).set i ⟨l[i].f0, t⟩) ((i + 1 : Nat) : Int)) (fun k => ?_) (Ev.bind (toByteS_ev l[i].f1 (hx _ (List.getElem_mem hi))) ?_)
   ·
    simp only [laws_toWriteS.l0, laws_toWrite.f]
    rw [if_pos (by omega), if_pos (by omega), rd177_at _ _ hi]
    cases laws_toByteS.f k l[i].f1 with
    | none => rfl
    | some t =>
     simp only [Option.bind_some]
     rw [if_pos (by simp; omega), w64 (by omega) (by omega), Int.toNat_natCast]
     rfl
   ·
    have h := ih (i + 1) (by omega)
    rw [← fill conv l z142 i d hi] at h
    exact h
 have h := this l.length 0 (by omega)
 unfold laws_toWriteS.f
 simp only [Int.toNat_natCast, show (0 : Int) ≤ (l.length : Int) from by omega, show l.length ≤ 8796093022208 from by omega, if_true]
 simpa using h
theorem toDisk_ev (b : List Int) (q : List S177) (hb : b.length ≤ 2000000) (hq : q.length ≤ 2000000) (hx : ∀ x ∈ q, x.f1.length ≤ 2000000) : Ev (fun k => laws_toDisk.f k b q) (b, q.map conv) := by
 unfold laws_toDisk.f
 exact Ev.bind (toByteS_ev b hb) (Ev.bind (toWriteS_ev q hq hx) (Ev.now _))
theorem eqByteS_ev (l : List Int) (hl : l.length ≤ 2000000) : Ev (fun k => laws_eqByteS.f k l l) true := by
 have : ∀ (d i : Nat), i + d = l.length → Ev (fun k => laws_eqByteS.l0 k l l (i : Int)) true := by
  intro d
  induction d with
  | zero =>
   intro i hd
   refine Ev.step (f := fun _ => some true) (fun k => ?_) (Ev.now _)
   simp only [laws_eqByteS.l0]
   rw [if_neg (by omega)]
  | succ d ih =>
   intro i hd
   refine Ev.step (fun k => ?_) (ih (i + 1) (by omega))
   simp only [laws_eqByteS.l0]
   rw [if_pos (by omega), if_pos (by omega), if_pos (by omega), if_pos trivial, w64 (by omega) (by omega)]
   rfl
 have h := this l.length 0 (by omega)
 simpa [laws_eqByteS.f] using h
theorem eqWriteS_ev (q : List S142) (hq : q.length ≤ 2000000) (hx : ∀ x ∈ q, x.f1.length ≤ 2000000) : Ev (fun k => laws_eqWriteS.f k q q) true := by
 have : ∀ (d i : Nat), i + d = q.length → Ev (fun k => laws_eqWriteS.l0 k q q (i : Int)) true := by
  intro d
  induction d with
  | zero =>
   intro i hd
   refine Ev.step (f := fun _ => some true) (fun k => ?_) (Ev.now _)
   simp only [laws_eqWriteS.l0]
   rw [if_neg (by omega)]
  | succ d ih =>
   intro i hd
   have hi : i < q.length := by omega
   refine Ev.step (f := fun k => (laws_eqByteS.f k q[i].f1 q[i].f1).bind fun t => if t = true then laws_eqWriteS.l0 k q q ((i + 1 : Nat) : Int) else some false) (fun k => ?_) (Ev.bind (eqByteS_ev q[i].f1 (hx _ (List.getElem_mem hi))) (ih (i + 1) (by omega)))
   simp only [laws_eqWriteS.l0, laws_eqWrite.f]
   rw [if_pos (by omega), if_pos (by omega), if_pos (by omega), rd142_at _ _ hi, if_pos trivial, w64 (by omega) (by omega)]
   cases laws_eqByteS.f k q[i].f1 q[i].f1 with
   | none => rfl
   | some t => cases t <;> rfl
 have h := this q.length 0 (by omega)
 simpa [laws_eqWriteS.f] using h
theorem eqDisk_ev (b : List Int) (q : List S142) (hb : b.length ≤ 2000000) (hq : q.length ≤ 2000000) (hx : ∀ x ∈ q, x.f1.length ≤ 2000000) : Ev (fun k => laws_eqDisk.f k b q b q) true := by
 unfold laws_eqDisk.f
 refine Ev.bind (eqByteS_ev b hb) ?_
 simp only [if_true]
 refine Ev.bind (eqWriteS_ev q hq hx) ?_
 simp only [if_true]
 exact Ev.now _
theorem eqLog_is (a b c d : Int) : laws_eqLog.f a b c d a b c d = some true := by simp [laws_eqLog.f]
theorem eqByteSS_ev (s : List (List Int)) (hl : s.length ≤ 2000000) (hb : ∀ l ∈ s, l.length ≤ 2000000) : Ev (fun k => laws_eqByteSS.f k s s) true := by
 have : ∀ (d i : Nat), i + d = s.length → Ev (fun k => laws_eqByteSS.l0 k s s (i : Int)) true := by
  intro d
  induction d with
  | zero =>
   intro i hd
   refine Ev.step (f := fun _ => some true) (fun k => ?_) (Ev.now _)
   simp only [laws_eqByteSS.l0]
   rw [if_neg (by omega)]
  | succ d ih =>
   intro i hd
   have hi : i < s.length := by omega
   refine Ev.step (f := fun k => (laws_eqByteS.f k s[i] s[i]).bind fun t => if t = true then laws_eqByteSS.l0 k s s ((i + 1 : Nat) : Int) else some false) (fun k => ?_) (Ev.bind (eqByteS_ev s[i] (hb _ (List.getElem_mem hi))) (ih (i + 1) (by omega)))
   simp only [laws_eqByteSS.l0]
   rw [if_pos (by omega), if_pos (by omega), if_pos (by omega), rdL2_at _ _ hi, w64 (by omega) (by omega)]
   rfl
 have h := this s.length 0 (by omega)
 simpa [laws_eqByteSS.f] using h
/-- how much a scan has gathered -/
def Fit2 (num : Int) (st : St) : Prop := (cnt st.recs : Int) + (st.opn.length : Int) ≤ 44 * num
theorem fit2_step {r : Option S139} {num : Int} {st : St} (hf : Fit2 num st) (hr : ∀ s, r = some s → s.f3.length ≤ 44) : Fit2 (num + 1) (stepS r num st) := by
 unfold Fit2 at hf ⊢
 unfold stepS
 split
 ·
  dsimp only; omega
 ·
  cases r with
  | none => dsimp only; omega
  | some s =>
   have := hr s rfl
   dsimp only
   split
   ·
    simp only [cnt_app, cnt, List.length_append, List.length_nil]; omega
   ·
    simp only [List.length_append]; omega
theorem run_fit2 {b : List Int} {q : List S142} (hB : BytD b q) {a z : Int} (h : canOpen b q a z = true) : ∀ (d : Nat) (x : Int) (st : St), x + d = z + 1 → a ≤ x → Fit2 (x - a) st → Fit2 (z + 1 - a) (run (getS b q) a d x st)
 | 0, x, st, hd, ha, hf => by rw [show z + 1 - a = x - a by omega]; exact hf
 | d + 1, x, st, hd, ha, hf => by
  obtain ⟨hx, hdk, ha0, hz⟩ := isSec_of h ha (show x ≤ z by omega)
  obtain ⟨hsl, hsb⟩ := sector_ok hdk hB x hx
  have hfit := fit2_step (r := getS b q x) (num := x - a) (st := st) hf (fun s hs => (sec_facts hsb hsl hs).2.2.2)
  exact run_fit2 hB h d (x + 1) _ (by omega) (by omega) (by rw [show x + 1 - a = x - a + 1 by omega]; exact hfit)
theorem cnt_mem {l : List Int} {s : List (List Int)} (h : l ∈ s) : l.length ≤ cnt s := by
 induction s with
 | nil => cases h
 | cons x s ih =>
  rw [cnt]
  rcases List.mem_cons.1 h with rfl | h
  ·
   omega
  ·
   have := ih h; omega
theorem logOpen_small {b : List Int} {q : List S142} (hB : BytD b q) (a z : Int) : (logOpen b q a z).2.2.2.2.1.length ≤ 400 ∧ cnt (logOpen b q a z).2.2.2.2.1 ≤ 17600 := by
 unfold logOpen
 by_cases h : canOpen b q a z = true
 ·
  rw [if_pos h]
  split
  ·
   simp [cnt]
  ·
   have hz : a ≤ z := by
    simp only [canOpen, Bool.and_eq_true, decide_eq_true_eq] at h
    exact h.2.1
   obtain ⟨_, _, ha0, hz9⟩ := isSec_of h (Int.le_refl a) hz
   have h1 := scan_fit hB h
   have h2 : Fit2 (z + 1 - a) (scan b q a z) := run_fit2 hB h (z + 1 - a).toNat a st0 (by omega) (by omega) (by simp [Fit2, st0, cnt])
   have := h1.1
   unfold Fit2 at h2
   dsimp only
   omega
 ·
  rw [if_neg h]
  simp [cnt]
end Go.Proofs.Ytchmmnlmgkocoaa.L
