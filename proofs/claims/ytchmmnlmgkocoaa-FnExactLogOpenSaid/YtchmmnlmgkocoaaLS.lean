/- A log opened: both programs come to the same scan; conditions: those of each lemma. -/
import Derived.Test.YtchmmnlmgkocoaaLR
set_option linter.unusedVariables false
set_option linter.unusedSimpArgs false
namespace Go.Proofs.Ytchmmnlmgkocoaa.L
open Go.RowKit Go.Proofs.YtchmmnlmgkocoaaW.PrintWords Go.Proofs.YtchmmnlmgkocoaaW.PrintLast Go.Proofs.YtchmmnlmgkocoaaW.PrintMore
/-- the bytes of a disk and its writes are bytes -/
def BytD (b : List Int) (q : List S142) : Prop := Byt b ∧ ∀ x ∈ q, Byt x.f1
theorem lastOf_mem (a : Int) (q : List S142) (l : List Int) (h : lastOf a q = some l) : ∃ x ∈ q, l = x.f1 := by
 induction q with
 | nil => cases h
 | cons x q ih =>
  rw [lastOf] at h
  cases hq : lastOf a q with
  | some m =>
   rw [hq] at h
   obtain rfl : m = l := by simpa using h
   obtain ⟨y, hy, e⟩ := ih hq
   exact ⟨y, List.mem_cons_of_mem _ hy, e⟩
  | none =>
   rw [hq] at h
   by_cases e : x.f0 = a
   ·
    rw [if_pos e] at h
    exact ⟨x, List.mem_cons_self, by simpa using h.symm⟩
   ·
    rw [if_neg e] at h
    cases h
theorem sector_ok {b : List Int} {q : List S142} (hd : diskOk b q = true) (hB : BytD b q) (a : Int) (ha : isSec b a = true) : (sector b q a).length = 64 ∧ Byt (sector b q a) := by
 obtain ⟨h64, h1, h400, hq⟩ := diskOk_parts hd
 have ha : 0 ≤ a ∧ a ≤ secs b - 1 := by simpa [isSec] using ha
 unfold sector
 cases hl : lastOf a q with
 | some l =>
  obtain ⟨x, hx, rfl⟩ := lastOf_mem a q l hl
  obtain ⟨j, hj, rfl⟩ := List.getElem_of_mem hx
  exact ⟨(hq j hj).2.2, hB.2 _ hx⟩
 | none =>
  have hlen : ((a + 1) * 64) ≤ (b.length : Int) := by unfold secs at ha; omega
  refine ⟨?_, byt_drop (byt_take hB.1 _) _⟩
  simp only [Option.getD_none, List.length_drop, List.length_take]
  omega
/-- how a scan stands -/
structure St where
 most : Int
 next : Int
 recs : List (List Int)
 ends : List Int
 opn : List Int
 least : Int
 inside : Int
 over : Bool
def most' (r : Option S139) (m : Int) : Int := match r with
 | none => m
 | some s => if s.f0 > m then s.f0 else m
def bad (r : Option S139) (num : Int) (st : St) : Bool := st.over || match r with
 | none => true
 | some s => !decide (s.f1 = num) || (decide (s.f0 < st.least) || (decide (st.inside > 0) && s.f0 != st.inside))
def stepS (r : Option S139) (num : Int) (st : St) : St :=
 if bad r num st = true then { st with most := most' r st.most, over := true }
 else match r with
  | none => st
  | some s => if s.f2 = 2 then ⟨most' r st.most, num + 1, st.recs ++ [st.opn ++ s.f3], st.ends ++ [num + 1], [], s.f0, 0, false⟩
   else ⟨most' r st.most, st.next, st.recs, st.ends, st.opn ++ s.f3, s.f0, s.f0, false⟩
/-- d sectors more, from a on -/
def run (get : Int → Option S139) (first : Int) : Nat → Int → St → St
 | 0, _, st => st
 | d + 1, a, st => run get first d (a + 1) (stepS (get a) (a - first) st)
def st0 : St := ⟨0, 0, [], [], [], 1, 0, false⟩
def getS (b : List Int) (q : List S142) (a : Int) : Option S139 := sec (sector b q a)
def scan (b : List Int) (q : List S142) (a z : Int) : St := run (getS b q) a (z + 1 - a).toNat a st0
/-- bounds that a scan keeps -/
def Fit (num : Int) (st : St) : Prop := (st.recs.length : Int) ≤ num ∧ (st.ends.length : Int) ≤ num ∧ (st.opn.length : Int) ≤ 44 * num ∧ 0 ≤ st.most ∧ st.most ≤ 1000000
theorem piece_le {b : List Int} (hb : Byt b) (hl : b.length = 64) (h : rd b 9 ≤ 44) : (pieceOf b).length ≤ 44 := by
 have r9 := byt_rd hb 9
 rw [piece_len hl rfl r9.1 h]
 omega
theorem sec_facts {b : List Int} (hb : Byt b) (hl : b.length = 64) {s : S139} (h : sec b = some s) : 1 ≤ s.f0 ∧ s.f0 ≤ 1000000 ∧ (s.f2 = 1 ∨ s.f2 = 2) ∧ s.f3.length ≤ 44 := by
 obtain ⟨h1, h2, h3, h4, h5, h6⟩ := sec_some h
 exact ⟨h1, h2, h4, by rw [h5]; exact piece_le hb hl h6⟩
theorem fit_step {r : Option S139} {num : Int} {st : St} (hn : 0 ≤ num) (hf : Fit num st) (hr : ∀ s, r = some s → 1 ≤ s.f0 ∧ s.f0 ≤ 1000000 ∧ (s.f2 = 1 ∨ s.f2 = 2) ∧ s.f3.length ≤ 44) : Fit (num + 1) (stepS r num st) := by
 obtain ⟨f1, f2, f3, f4, f5⟩ := hf
 have hm : 0 ≤ most' r st.most ∧ most' r st.most ≤ 1000000 := by
  unfold most'
  cases r with
  | none => exact ⟨f4, f5⟩
  | some s =>
   have := hr s rfl
   dsimp only
   split <;> omega
 unfold stepS
 split
 ·
  exact ⟨by show (st.recs.length : Int) ≤ _; omega, by show (st.ends.length : Int) ≤ _; omega, by show (st.opn.length : Int) ≤ _; omega, hm.1, hm.2⟩
 ·
  cases r with
  | none =>
   dsimp only
   exact ⟨by omega, by omega, by omega, f4, f5⟩
  | some s =>
   have := hr s rfl
   dsimp only
   split
   ·
    exact ⟨by simp; omega, by simp; omega, by simp; omega, hm.1, hm.2⟩
   ·
    exact ⟨by show (st.recs.length : Int) ≤ _; omega, by show (st.ends.length : Int) ≤ _; omega, by simp; omega, hm.1, hm.2⟩
theorem isSec_of {b : List Int} {q : List S142} {a z x : Int} (h : canOpen b q a z = true) (h1 : a ≤ x) (h2 : x ≤ z) : isSec b x = true ∧ diskOk b q = true ∧ 0 ≤ a ∧ z ≤ 399 := by
 simp only [canOpen, Bool.and_eq_true, decide_eq_true_eq] at h
 obtain ⟨h3, h4, h5, h6⟩ := h
 have h5 : 0 ≤ z ∧ z ≤ secs b - 1 := by simpa [isSec] using h5
 have := (diskOk_parts h6).2.2.1
 refine ⟨?_, h6, h3, by omega⟩
 simp only [isSec, Bool.and_eq_true, decide_eq_true_eq]
 omega
theorem mx_most (r : Option S139) (m : Int) (s : S139) (h : r = some s) : mx (m + 1) (s.f0 + 1) = most' r m + 1 := by
 subst h
 unfold mx most'
 dsimp only
 split <;> split <;> omega
theorem logOf_ev {b : List Int} {q : List S142} (hB : BytD b q) (a z : Int) (h : canOpen b q a z = true) :
  Ev (fun k => impl_logOf.f k b q a z) (a, z, (scan b q a z).next, (scan b q a z).most + 1, (scan b q a z).recs, (scan b q a z).ends) := by
 have loop : ∀ (d : Nat) (x : Int) (st : St), x + d = z + 1 → a ≤ x → Fit (x - a) st → Ev (fun k => impl_logOf.l0 k a z st.recs st.ends st.opn st.least st.inside st.over x b q a z st.next (st.most + 1)) (a, z, (run (getS b q) a d x st).next, (run (getS b q) a d x st).most + 1, (run (getS b q) a d x st).recs, (run (getS b q) a d x st).ends) := by
  intro d
  induction d with
  | zero =>
   intro x st hd ha hf
   refine Ev.step (f := fun _ => some (a, z, st.next, st.most + 1, st.recs, st.ends)) (fun k => ?_) (Ev.now _)
   simp only [impl_logOf.l0]
   rw [if_neg (by omega)]
  | succ d ih =>
   intro x st hd ha hf
   obtain ⟨hx, hdk, ha0, hz⟩ := isSec_of h ha (show x ≤ z by omega)
   obtain ⟨hsl, hsb⟩ := sector_ok hdk hB x hx
   have hrd : impl_ReadSector.f b q x = some (sector b q x, true) := by simp [impl_ReadSector.f, readSec, hx, hdk]
   have hfit := fit_step (r := getS b q x) (num := x - a) (st := st) (by omega) hf (fun s hs => sec_facts hsb hsl hs)
   have hnext := ih (x + 1) (stepS (getS b q x) (x - a) st) (by omega) (by omega) (by rw [show x + 1 - a = x - a + 1 by omega]; exact hfit)
   have w1 : wrap64 (x + 1) = x + 1 := w64 (by omega) (by omega)
   have w2 : wrap64 (x - a) = x - a := w64 (by omega) (by omega)
   have w3 : wrap64 (x - a + 1) = x - a + 1 := w64 (by omega) (by omega)
   obtain ⟨f1, f2, f3, f4, f5⟩ := hf
   show Ev _ (a, z, (run (getS b q) a d (x + 1) (stepS (getS b q x) (x - a) st)).next, (run (getS b q) a d (x + 1) (stepS (getS b q x) (x - a) st)).most + 1, (run (getS b q) a d (x + 1) (stepS (getS b q x) (x - a) st)).recs, (run (getS b q) a d (x + 1) (stepS (getS b q x) (x - a) st)).ends)
   -- the sector read
   refine Ev.step (f := fun k => (impl_sectorOf.f k (sector b q x)).bind fun bt => if bt.2.2.2.2 = true then impl_logOf.j1 k a z st.recs st.ends st.opn st.least st.inside st.over x bt.2.2.2.2 b q a z st.next (mx (st.most + 1) (wrap64 (bt.1 + 1))) bt.1 bt.2.1 bt.2.2.1 bt.2.2.2.1 else impl_logOf.j1 k a z st.recs st.ends st.opn st.least st.inside st.over x bt.2.2.2.2 b q a z st.next (st.most + 1) bt.1 bt.2.1 bt.2.2.1 bt.2.2.2.1) (fun k => ?_) ?_
   ·
    simp only [impl_logOf.l0]
    rw [if_pos (by omega), hrd]
    rfl
   refine Ev.bind (sectorOf_ev hsb hsl) ?_
   -- over: on with the next sector
   have onward : ∀ s0 s1 s2 s3, bad (getS b q x) (x - a) st = true → Ev (fun k => impl_logOf.j2 k a z st.recs st.ends st.opn st.least st.inside true x b q a z st.next (most' (getS b q x) st.most + 1) s0 s1 s2 s3) (a, z, (run (getS b q) a d (x + 1) (stepS (getS b q x) (x - a) st)).next, (run (getS b q) a d (x + 1) (stepS (getS b q x) (x - a) st)).most + 1, (run (getS b q) a d (x + 1) (stepS (getS b q x) (x - a) st)).recs, (run (getS b q) a d (x + 1) (stepS (getS b q x) (x - a) st)).ends) := by
    intro s0 s1 s2 s3 hbad
    refine Ev.step (fun k => ?_) hnext
    simp only [impl_logOf.j2, if_true, w1, stepS, hbad]
   cases hr : getS b q x with
   | none =>
    have hs : sec (sector b q x) = none := hr
    have hbad : bad (getS b q x) (x - a) st = true := by rw [hr]; unfold bad; simp
    have hm : most' (getS b q x) st.most = st.most := by rw [hr]; rfl
    rw [← hr]
    rw [hs]
    have on := onward 0 0 0 [] hbad
    rw [hm] at on
    refine Ev.step (f := fun k => impl_logOf.j2 k a z st.recs st.ends st.opn st.least st.inside true x b q a z st.next (st.most + 1) 0 0 0 []) (fun k => ?_) on
    simp only [flat, Option.isSome, Option.getD_none, z139, Bool.false_eq_true, if_false, impl_logOf.j1]
    split <;> rfl
   | some s =>
    have hs : sec (sector b q x) = some s := hr
    obtain ⟨e0, e1, e2, e3⟩ := sec_facts hsb hsl hs
    rw [← hr]
    rw [hs]
    have wm : mx (st.most + 1) (wrap64 (s.f0 + 1)) = most' (getS b q x) st.most + 1 := by rw [w64 (by omega) (by omega)]; exact mx_most _ _ s hr
    simp only [flat, Option.isSome, Option.getD_some, if_true, wm]
    -- the tests
    refine Ev.step (f := fun k => impl_logOf.j2 k a z st.recs st.ends st.opn st.least st.inside (bad (getS b q x) (x - a) st) x b q a z st.next (most' (getS b q x) st.most + 1) s.f0 s.f1 s.f2 s.f3) (fun k => ?_) ?_
    ·
     simp only [impl_logOf.j1, if_true, w2]
     rw [hr]
     unfold bad
     dsimp only
     by_cases c1 : st.over = true
     ·
      rw [if_pos c1, c1]; rfl
     ·
      rw [if_neg c1, show st.over = false by simpa using c1]
      by_cases c2 : s.f1 = x - a
      ·
       rw [if_pos c2, decide_eq_true c2]
       by_cases c3 : s.f0 < st.least
       ·
        rw [if_pos c3, decide_eq_true c3]; rfl
       ·
        rw [if_neg c3, decide_eq_false c3]
        by_cases c4 : st.inside > 0
        ·
         rw [if_pos c4, decide_eq_true c4]; simp
        ·
         rw [if_neg c4, decide_eq_false c4]; simp
      ·
       rw [if_neg c2, decide_eq_false c2]; rfl
    cases hbad : bad (getS b q x) (x - a) st with
    | true => exact onward _ _ _ _ hbad
    | false =>
     have hst : stepS (getS b q x) (x - a) st = if s.f2 = 2 then ⟨most' (getS b q x) st.most, x - a + 1, st.recs ++ [st.opn ++ s.f3], st.ends ++ [x - a + 1], [], s.f0, 0, false⟩ else ⟨most' (getS b q x) st.most, st.next, st.recs, st.ends, st.opn ++ s.f3, s.f0, s.f0, false⟩ := by
      unfold stepS
      rw [hbad]
      simp only [Bool.false_eq_true, if_false, hr]
     refine Ev.step (fun k => ?_) hnext
     rw [hst]
     simp only [impl_logOf.j2, Bool.false_eq_true, if_false]
     rw [if_pos (by omega)]
     simp only [Option.bind_some]
     by_cases m2 : s.f2 = 2
     ·
      rw [if_pos m2, if_pos m2]
      simp only [slices_Clone_byte_byte.f]
      rw [if_pos (by simp; omega)]
      simp only [Option.bind_some]
      rw [if_pos (by omega), if_pos (by omega), w2, w3, w1]
     ·
      rw [if_neg m2, if_neg m2, w1]
 by_cases hz : a ≤ z
 ·
  have := loop (z + 1 - a).toNat a st0 (by omega) (by omega) (by unfold Fit st0; simp)
  exact this
 ·
  simp only [canOpen, Bool.and_eq_true, decide_eq_true_eq] at h
  exact absurd h.2.1 hz
/-- what a log opened comes to -/
def logOpen (b : List Int) (q : List S142) (a z : Int) : Int × Int × Int × Int × List (List Int) × Bool :=
 if canOpen b q a z = true then (if (scan b q a z).most = 1000000 then (0, 0, 0, 0, [], false) else (a, z, (scan b q a z).next, (scan b q a z).most + 1, (scan b q a z).recs, true)) else (0, 0, 0, 0, [], false)
theorem run_fit {b : List Int} {q : List S142} (hB : BytD b q) {a z : Int} (h : canOpen b q a z = true) : ∀ (d : Nat) (x : Int) (st : St), x + d = z + 1 → a ≤ x → Fit (x - a) st → Fit (z + 1 - a) (run (getS b q) a d x st)
 | 0, x, st, hd, ha, hf => by rw [show z + 1 - a = x - a by omega]; exact hf
 | d + 1, x, st, hd, ha, hf => by
  obtain ⟨hx, hdk, ha0, hz⟩ := isSec_of h ha (show x ≤ z by omega)
  obtain ⟨hsl, hsb⟩ := sector_ok hdk hB x hx
  have hfit := fit_step (r := getS b q x) (num := x - a) (st := st) (by omega) hf (fun s hs => sec_facts hsb hsl hs)
  exact run_fit hB h d (x + 1) _ (by omega) (by omega) (by rw [show x + 1 - a = x - a + 1 by omega]; exact hfit)
theorem scan_fit {b : List Int} {q : List S142} (hB : BytD b q) {a z : Int} (h : canOpen b q a z = true) : Fit (z + 1 - a) (scan b q a z) := by
 have hz : a ≤ z := by
  simp only [canOpen, Bool.and_eq_true, decide_eq_true_eq] at h
  exact h.2.1
 exact run_fit hB h (z + 1 - a).toNat a st0 (by omega) (by omega) (by unfold Fit st0; simp)
theorem implOpen_ev {b : List Int} {q : List S142} (hB : BytD b q) (a z : Int) : Ev (fun k => impl_LogOpen.f k b q a z) (logOpen b q a z) := by
 unfold impl_LogOpen.f impl_canOpen.f logOpen
 simp only [Option.bind_some]
 by_cases h : canOpen b q a z = true
 ·
  simp only [if_pos h]
  have hf := scan_fit hB h
  obtain ⟨_, _, _, f4, f5⟩ := hf
  refine Ev.bind (logOf_ev hB a z h) ?_
  dsimp only
  by_cases hm : (scan b q a z).most = 1000000
  ·
   have hm2 : (scan b q a z).most + 1 > 1000000 := by omega
   simp only [if_pos hm, if_pos hm2]
   exact Ev.now _
  ·
   have hm2 : ¬ (scan b q a z).most + 1 > 1000000 := by omega
   simp only [if_neg hm, if_neg hm2]
   exact Ev.now _
 ·
  simp only [if_neg h]
  exact Ev.now _
theorem specOpen_ev {b : List Int} {q : List S142} (hm : Mid b q) (hB : BytD b q) (a z : Int) : Ev (fun k => spec_LogOpen.f k b q a z) (logOpen b q a z) := by
 unfold spec_LogOpen.f logOpen
 simp only [Option.bind_some]
 refine Ev.bind (region_ev hm a z) ?_
 by_cases h : ¬ canOpen b q a z = true
 ·
  simp only [if_neg h]
  exact Ev.now _
 replace h : canOpen b q a z = true := Decidable.not_not.1 h
 simp only [if_pos h]
 have hscan := scan_fit hB h
 -- the scan, sector by sector
 have loop : ∀ (d : Nat) (x num : Int) (st : St), x + d = z + 1 → a ≤ x → Fit (x - a) st → (st.over = false → num = x - a) → (run (getS b q) a d x st) = scan b q a z → Ev (fun k => spec_LogOpen.l0 k z st.recs st.most (!st.over) st.least st.inside st.opn num x b q a z st.next 0) (if (scan b q a z).most = 1000000 then (0, 0, 0, 0, [], false) else (a, z, (scan b q a z).next, (scan b q a z).most + 1, (scan b q a z).recs, true)) := by
  intro d
  induction d with
  | zero =>
   intro x num st hd ha hf hnum hrun
   have e : st = scan b q a z := hrun
   rw [← e]
   obtain ⟨f1, f2, f3, f4, f5⟩ := hf
   refine Ev.step (f := fun _ => some (if st.most = 1000000 then (0, 0, 0, 0, [], false) else (a, z, st.next, st.most + 1, st.recs, true))) (fun k => ?_) (Ev.now _)
   simp only [spec_LogOpen.l0]
   rw [if_neg (by omega), w64 (by omega) (by omega)]
   split <;> rfl
  | succ d ih =>
   intro x num st hd ha hf hnum hrun
   obtain ⟨hx, hdk, ha0, hz⟩ := isSec_of h ha (show x ≤ z by omega)
   obtain ⟨hsl, hsb⟩ := sector_ok hdk hB x hx
   have hrd : readSec b q x = (sector b q x, true) := by simp [readSec, hx, hdk]
   have hfit := fit_step (r := getS b q x) (num := x - a) (st := st) (by omega) hf (fun s hs => sec_facts hsb hsl hs)
   have hnext := fun num' hn' => ih (x + 1) num' (stepS (getS b q x) (x - a) st) (by omega) (by omega) (by rw [show x + 1 - a = x - a + 1 by omega]; exact hfit) hn' hrun
   have w1 : wrap64 (x + 1) = x + 1 := w64 (by omega) (by omega)
   obtain ⟨f1, f2, f3, f4, f5⟩ := hf
   have hrs := readSec_ev hm x (by omega) (by omega)
   rw [hrd] at hrs
   refine Ev.step (f := fun k => (spec_ReadSector.f k b q x).bind fun bt => (spec_l12Read.f k bt.1).bind fun bt2 => if bt2.2.2.2.2 = true then spec_LogOpen.j1 k z st.recs st.most (!st.over) st.least st.inside st.opn num x bt2.2.2.2.2 (decide (bt2.1 > st.most)) b q a z st.next 0 bt2.1 bt2.2.1 bt2.2.2.1 bt2.2.2.2.1 else spec_LogOpen.j1 k z st.recs st.most (!st.over) st.least st.inside st.opn num x bt2.2.2.2.2 false b q a z st.next 0 bt2.1 bt2.2.1 bt2.2.2.1 bt2.2.2.2.1) (fun k => ?_) ?_
   ·
    simp only [spec_LogOpen.l0]
    rw [if_pos (by omega)]
   refine Ev.bind hrs ?_
   refine Ev.bind (l12Read_ev hsb hsl) ?_
   have onward : ∀ s0 s1 s2 s3, bad (getS b q x) (x - a) st = true → Ev (fun k => spec_LogOpen.j3 k z st.recs (most' (getS b q x) st.most) (!st.over) st.least st.inside st.opn num x true b q a z st.next 0 s0 s1 s2 s3) (if (scan b q a z).most = 1000000 then (0, 0, 0, 0, [], false) else (a, z, (scan b q a z).next, (scan b q a z).most + 1, (scan b q a z).recs, true)) := by
    intro s0 s1 s2 s3 hbad
    refine Ev.step (fun k => ?_) (hnext num (fun ho => by simp [stepS, hbad] at ho))
    simp only [spec_LogOpen.j3, if_true, w1, stepS, hbad, Bool.not_true]
   cases hr : getS b q x with
   | none =>
    have hs : sec (sector b q x) = none := hr
    have hbad : bad (getS b q x) (x - a) st = true := by rw [hr]; unfold bad; simp
    have hmm : most' (getS b q x) st.most = st.most := by rw [hr]; rfl
    rw [hs]
    have on := onward 0 0 false [] hbad
    rw [hmm] at on
    refine Ev.step (f := fun k => spec_LogOpen.j2 k z st.recs st.most (!st.over) st.least st.inside st.opn num x false b q a z st.next 0 0 0 false []) (fun k => ?_) (Ev.step (fun k => ?_) on)
    ·
     simp only [part, Bool.false_eq_true, if_false, spec_LogOpen.j1]
    ·
     simp only [spec_LogOpen.j2, Bool.false_eq_true, if_false]
     split <;> rfl
   | some s =>
    have hs : sec (sector b q x) = some s := hr
    obtain ⟨e0, e1, e2, e3⟩ := sec_facts hsb hsl hs
    rw [hs]
    simp only [part, if_true]
    have hmm : most' (getS b q x) st.most = if s.f0 > st.most then s.f0 else st.most := by rw [hr]; rfl
    refine Ev.step (f := fun k => spec_LogOpen.j2 k z st.recs (most' (getS b q x) st.most) (!st.over) st.least st.inside st.opn num x true b q a z st.next 0 s.f0 s.f1 (s.f2 == 1) s.f3) (fun k => ?_) ?_
    ·
     simp only [spec_LogOpen.j1]
     rw [hmm]
     by_cases c : s.f0 > st.most
     ·
      rw [if_pos c]
      exact if_pos (decide_eq_true c)
     ·
      rw [if_neg c]
      exact if_neg (fun h_ => c (of_decide_eq_true h_))
    refine Ev.step (f := fun k => spec_LogOpen.j3 k z st.recs (most' (getS b q x) st.most) (!st.over) st.least st.inside st.opn num x (bad (getS b q x) (x - a) st) b q a z st.next 0 s.f0 s.f1 (s.f2 == 1) s.f3) (fun k => ?_) ?_
    ·
     simp only [spec_LogOpen.j2, if_true]
     rw [hr]
     unfold bad
     dsimp only
     by_cases c1 : st.over = true
     ·
      rw [c1]; rfl
     ·
      have c1' : st.over = false := by simpa using c1
      rw [c1', hnum c1']
      simp only [Bool.not_false, if_true]
      by_cases c2 : s.f1 = x - a
      ·
       rw [if_pos c2, decide_eq_true c2]
       by_cases c3 : s.f0 < st.least
       ·
        rw [if_pos c3, decide_eq_true c3]; rfl
       ·
        rw [if_neg c3, decide_eq_false c3]
        by_cases c4 : st.inside > 0
        ·
         rw [if_pos c4, decide_eq_true c4]; simp
        ·
         rw [if_neg c4, decide_eq_false c4]; simp
      ·
       rw [if_neg c2, decide_eq_false c2]; rfl
    cases hbad : bad (getS b q x) (x - a) st with
    | true => exact onward _ _ _ _ hbad
    | false =>
     have hov : st.over = false := by
      unfold bad at hbad
      cases ho : st.over with
      | false => rfl
      | true => rw [ho] at hbad; simp at hbad
     have hnum' := hnum hov
     have hst : stepS (getS b q x) (x - a) st = if s.f2 = 2 then ⟨most' (getS b q x) st.most, x - a + 1, st.recs ++ [st.opn ++ s.f3], st.ends ++ [x - a + 1], [], s.f0, 0, false⟩ else ⟨most' (getS b q x) st.most, st.next, st.recs, st.ends, st.opn ++ s.f3, s.f0, s.f0, false⟩ := by
      unfold stepS
      rw [hbad]
      simp only [Bool.false_eq_true, if_false, hr]
     have w2 : wrap64 (num + 1) = num + 1 := w64 (by omega) (by omega)
     refine Ev.step (fun k => ?_) (hnext (num + 1) (fun _ => by omega))
     rw [hst]
     simp only [spec_LogOpen.j3, Bool.false_eq_true, if_false]
     rw [if_pos (by omega)]
     simp only [Option.bind_some, List.nil_append]
     by_cases m2 : s.f2 = 2
     ·
      rw [if_pos m2, if_neg (by simp [m2]), if_pos (by simp; omega), if_pos (by omega), w2, w1, hov, hnum']
     ·
      rw [if_neg m2, if_pos (by simp; omega), w2, w1, hov]
 have hz : a ≤ z := by
  simp only [canOpen, Bool.and_eq_true, decide_eq_true_eq] at h
  exact h.2.1
 exact loop (z + 1 - a).toNat a 0 st0 (by omega) (by omega) (by unfold Fit st0; simp) (fun _ => by omega) rfl
end Go.Proofs.Ytchmmnlmgkocoaa.L
