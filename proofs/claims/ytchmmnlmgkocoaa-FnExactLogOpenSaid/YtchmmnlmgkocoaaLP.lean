/- A log sector's bytes: what the two programs make and read of them, plainly; conditions: those of each lemma. -/
import Derived.Test.YtchmmnlmgkocoaaLM
import Derived.Test.YtchmmnlmgkocoaaL5
import Derived.Test.YtchmmnlmgkocoaaL6
import Derived.Test.YtchmmnlmgkocoaaLC
set_option linter.unusedVariables false
set_option linter.unusedSimpArgs false
namespace Go.Proofs.Ytchmmnlmgkocoaa.L
open Go.RowKit Go.Proofs.YtchmmnlmgkocoaaW.PrintWords Go.Proofs.YtchmmnlmgkocoaaW.PrintLast Go.Proofs.YtchmmnlmgkocoaaW.PrintMore
/-- four bytes, the lowest first -/
def le4 (n : Int) : List Int := [n % 256, n / 256 % 256, n / 65536 % 256, n / 16777216 % 256]
theorem le4_len (n : Int) : (le4 n).length = 4 := rfl
theorem u64_in {x : Int} (h0 : 0 ≤ x) (h1 : x < 18446744073709551616) : IntKind.u64.wrap x = x := by
 simp [IntKind.wrap, IntKind.bits, IntKind.signed]
 omega
theorem putLow_ev (l : List Int) (n : Int) (h0 : 0 ≤ n) (h1 : n < 9223372036854775808) (hl : l.length ≤ 1000000) : Ev (fun k => impl_putLow.f k l n 4) (l ++ le4 n) := by
 have s0 : shr .i64 n 0 % 256 = n % 256 := by simp [shr]
 have s1 : shr .i64 n 8 % 256 = n / 256 % 256 := by simp [shr, IntKind.bits]
 have s2 : shr .i64 n 16 % 256 = n / 65536 % 256 := by simp [shr, IntKind.bits]
 have s3 : shr .i64 n 24 % 256 = n / 16777216 % 256 := by simp [shr, IntKind.bits]
 unfold impl_putLow.f
 refine Ev.step (f := fun k => impl_putLow.l0 k (l ++ [n % 256]) n 4 1) (fun k => ?_) (Ev.step (f := fun k => impl_putLow.l0 k (l ++ [n % 256] ++ [n / 256 % 256]) n 4 2) (fun k => ?_) (Ev.step (f := fun k => impl_putLow.l0 k (l ++ [n % 256] ++ [n / 256 % 256] ++ [n / 65536 % 256]) n 4 3) (fun k => ?_) (Ev.step (f := fun k => impl_putLow.l0 k (l ++ [n % 256] ++ [n / 256 % 256] ++ [n / 65536 % 256] ++ [n / 16777216 % 256]) n 4 4) (fun k => ?_) (Ev.step (f := fun _ => some (l ++ le4 n)) (fun k => ?_) (Ev.now _)))))
 ·
  simp only [impl_putLow.l0]
  rw [if_pos (by omega), show IntKind.u64.wrap (wrap64 (8 * 0)) = 0 from by rw [w64 (by omega) (by omega), u64_in (by omega) (by omega)]; rfl, if_pos (by omega), if_pos (by omega), s0, show wrap64 (0 + 1) = 1 from by rw [w64 (by omega) (by omega)]; rfl]
 ·
  simp only [impl_putLow.l0]
  rw [if_pos (by omega), show IntKind.u64.wrap (wrap64 (8 * 1)) = 8 from by rw [w64 (by omega) (by omega), u64_in (by omega) (by omega)]; rfl, if_pos (by omega), if_pos (by simp; omega), s1, show wrap64 (1 + 1) = 2 from by rw [w64 (by omega) (by omega)]; rfl]
 ·
  simp only [impl_putLow.l0]
  rw [if_pos (by omega), show IntKind.u64.wrap (wrap64 (8 * 2)) = 16 from by rw [w64 (by omega) (by omega), u64_in (by omega) (by omega)]; rfl, if_pos (by omega), if_pos (by simp; omega), s2, show wrap64 (2 + 1) = 3 from by rw [w64 (by omega) (by omega)]; rfl]
 ·
  simp only [impl_putLow.l0]
  rw [if_pos (by omega), show IntKind.u64.wrap (wrap64 (8 * 3)) = 24 from by rw [w64 (by omega) (by omega), u64_in (by omega) (by omega)]; rfl, if_pos (by omega), if_pos (by simp; omega), s3, show wrap64 (3 + 1) = 4 from by rw [w64 (by omega) (by omega)]; rfl]
 ·
  simp only [impl_putLow.l0]
  rw [if_neg (by omega)]
  simp [le4]
theorem l8Bytes_ev (n : Int) (h0 : 0 ≤ n) (h1 : n < 9223372036854775808) : Ev (fun k => spec_l8Bytes.f k n 4) (le4 n) := by
 have d2 : n / 256 / 256 = n / 65536 := by omega
 have d3 : n / 65536 / 256 = n / 16777216 := by omega
 unfold spec_l8Bytes.f
 rw [u64_in h0 (by omega)]
 refine Ev.step (f := fun k => spec_l8Bytes.l0 k 4 [n % 256] (n / 256) 1) (fun k => ?_) (Ev.step (f := fun k => spec_l8Bytes.l0 k 4 [n % 256, n / 256 % 256] (n / 65536) 2) (fun k => ?_) (Ev.step (f := fun k => spec_l8Bytes.l0 k 4 [n % 256, n / 256 % 256, n / 65536 % 256] (n / 16777216) 3) (fun k => ?_) (Ev.step (f := fun k => spec_l8Bytes.l0 k 4 (le4 n) (n / 16777216 / 256) 4) (fun k => ?_) (Ev.step (f := fun _ => some (le4 n)) (fun k => ?_) (Ev.now _)))))
 ·
  simp only [spec_l8Bytes.l0]
  rw [if_pos (by omega), if_pos (by simp), show wrap64 (0 + 1) = 1 from by rw [w64 (by omega) (by omega)]; rfl]
  rfl
 ·
  simp only [spec_l8Bytes.l0]
  rw [if_pos (by omega), if_pos (by simp), show wrap64 (1 + 1) = 2 from by rw [w64 (by omega) (by omega)]; rfl, d2]
  rfl
 ·
  simp only [spec_l8Bytes.l0]
  rw [if_pos (by omega), if_pos (by simp), show wrap64 (2 + 1) = 3 from by rw [w64 (by omega) (by omega)]; rfl, d3]
  rfl
 ·
  simp only [spec_l8Bytes.l0]
  rw [if_pos (by omega), if_pos (by simp), show wrap64 (3 + 1) = 4 from by rw [w64 (by omega) (by omega)]; rfl]
  rfl
 ·
  simp only [spec_l8Bytes.l0]
  rw [if_neg (by omega)]
/-- bytes -/
def Byt (l : List Int) : Prop := ∀ x ∈ l, 0 ≤ x ∧ x ≤ 255
theorem byt_rd {l : List Int} (h : Byt l) (i : Int) : 0 ≤ rd l i ∧ rd l i ≤ 255 := by
 unfold rd
 rw [List.getD_eq_getElem?_getD]
 by_cases hi : i.toNat < l.length
 ·
  rw [List.getElem?_eq_getElem hi]
  exact h _ (List.getElem_mem _)
 ·
  rw [List.getElem?_eq_none (by omega)]
  simp
theorem byt_app {l m : List Int} (h : Byt l) (k : Byt m) : Byt (l ++ m) := fun x hx => (List.mem_append.1 hx).elim (h x) (k x)
theorem byt_le4 (n : Int) : Byt (le4 n) := by
 intro x hx
 simp only [le4, List.mem_cons, List.not_mem_nil, or_false] at hx
 rcases hx with rfl | rfl | rfl | rfl <;> omega
theorem byt_take {l : List Int} (h : Byt l) (n : Nat) : Byt (l.take n) := fun x hx => h x (List.mem_of_mem_take hx)
theorem byt_drop {l : List Int} (h : Byt l) (n : Nat) : Byt (l.drop n) := fun x hx => h x (List.mem_of_mem_drop hx)
theorem byt_zeros (n : Nat) : Byt (List.replicate n 0) := by
 intro x hx
 obtain rfl := (List.mem_replicate.1 hx).2
 omega
/-- one step of the sum -/
def sumStep (x c : Int) : Int := (Go.bits .xor .u32 x c * 16777619) % 4294967296
def sumB (l : List Int) : Int := l.foldl sumStep 2166136261
theorem sumStep_rng (x c : Int) : 0 ≤ sumStep x c ∧ sumStep x c < 4294967296 := by unfold sumStep; omega
theorem sumB_rng (l : List Int) : 0 ≤ sumB l ∧ sumB l < 4294967296 := by
 have : ∀ (l : List Int) (x : Int), 0 ≤ x ∧ x < 4294967296 → 0 ≤ l.foldl sumStep x ∧ l.foldl sumStep x < 4294967296 := by
  intro l
  induction l with
  | nil => intro x h; exact h
  | cons c l ih => intro x h; exact ih _ (sumStep_rng x c)
 exact this l _ (by omega)
theorem bits_xor_nat (k : IntKind) (j : Nat) (hj : j ≤ k.bits) (hk : ∀ n : Int, 0 ≤ n → n < 2 ^ j → k.wrap n = n) (a b : Nat) (ha : a < 2 ^ j) (hb : b < 2 ^ j) : Go.bits .xor k a b = ((a ^^^ b : Nat) : Int) := by
 have hp : 2 ^ j ≤ 2 ^ k.bits := Nat.pow_le_pow_right (by decide) hj
 have ha' : a % 2 ^ k.bits = a := Nat.mod_eq_of_lt (Nat.lt_of_lt_of_le ha hp)
 have hb' : b % 2 ^ k.bits = b := Nat.mod_eq_of_lt (Nat.lt_of_lt_of_le hb hp)
 have cast : ∀ n : Nat, n < 2 ^ j → ((n : Nat) : Int) < 2 ^ j := fun n h => by exact_mod_cast h
 simp only [Go.bits, BitVec.ofInt_natCast, BitVec.toNat_xor, BitVec.toNat_ofNat, ha', hb']
 exact hk _ (Int.natCast_nonneg _) (cast _ (Nat.xor_lt_two_pow ha hb))
theorem xor_same (x c : Int) (h0 : 0 ≤ x) (h1 : x < 4294967296) (h2 : 0 ≤ c) (h3 : c ≤ 255) : Go.bits .xor .u64 x c = Go.bits .xor .u32 x c ∧ 0 ≤ Go.bits .xor .u32 x c ∧ Go.bits .xor .u32 x c < 4294967296 := by
 obtain ⟨a, rfl⟩ := Int.eq_ofNat_of_zero_le h0
 obtain ⟨b, rfl⟩ := Int.eq_ofNat_of_zero_le h2
 have ha : a < 2 ^ 32 := by omega
 have hb : b < 2 ^ 32 := by omega
 have hx := Nat.xor_lt_two_pow ha hb
 rw [bits_xor_nat .u32 32 (by decide) (fun n h g => by rw [IntKind.wrap_u32]; omega) a b ha hb, bits_xor_nat .u64 32 (by decide) (fun n h g => u64_in h (by omega)) a b ha hb]
 exact ⟨rfl, by omega, by omega⟩
theorem sumOf_ev (l : List Int) (hb : Byt l) (hl : l.length ≤ 1000000) : Ev (fun k => impl_sumOf.f k l) (sumB l) := by
 have : ∀ (d i : Nat) (x : Int), i + d = l.length → 0 ≤ x → x < 4294967296 → Ev (fun k => impl_sumOf.l0 k x l (l.length : Int) (i : Int)) ((l.drop i).foldl sumStep x) := by
  intro d
  induction d with
  | zero =>
   intro i x hd h0 h1
   refine Ev.step (f := fun _ => some x) (fun k => ?_) ?_
   ·
    simp only [impl_sumOf.l0]
    rw [if_neg (by omega), w64 (by omega) (by omega)]
   ·
    rw [List.drop_eq_nil_of_le (by omega)]
    exact Ev.now _
  | succ d ih =>
   intro i x hd h0 h1
   have hi : i < l.length := by omega
   rw [List.drop_eq_getElem_cons hi, List.foldl_cons]
   have hr := sumStep_rng x l[i]
   refine Ev.step (fun k => ?_) (ih (i + 1) _ (by omega) hr.1 hr.2)
   have hc := hb l[i] (List.getElem_mem hi)
   simp only [impl_sumOf.l0]
   rw [if_pos (by omega), if_pos (by omega), if_pos (by omega), rd_at _ _ hi, show l[i] % 4294967296 = l[i] by omega, w64 (by omega) (by omega)]
   rfl
 have h := this l.length 0 2166136261 (by omega) (by omega) (by omega)
 simpa [impl_sumOf.f, sumB] using h
theorem l12Sum_ev (l : List Int) (hb : Byt l) (hl : l.length ≤ 1000000) : Ev (fun k => spec_l12Sum.f k l) (sumB l) := by
 have : ∀ (d i : Nat) (x : Int), i + d = l.length → 0 ≤ x → x < 4294967296 → Ev (fun k => spec_l12Sum.l0 k l x (i : Int)) ((l.drop i).foldl sumStep x) := by
  intro d
  induction d with
  | zero =>
   intro i x hd h0 h1
   refine Ev.step (f := fun _ => some x) (fun k => ?_) ?_
   ·
    simp only [spec_l12Sum.l0]
    rw [if_neg (by omega), w64 (by omega) (by omega)]
   ·
    rw [List.drop_eq_nil_of_le (by omega)]
    exact Ev.now _
  | succ d ih =>
   intro i x hd h0 h1
   have hi : i < l.length := by omega
   rw [List.drop_eq_getElem_cons hi, List.foldl_cons]
   have hr := sumStep_rng x l[i]
   refine Ev.step (fun k => ?_) (ih (i + 1) _ (by omega) hr.1 hr.2)
   have hc := hb l[i] (List.getElem_mem hi)
   obtain ⟨e, e0, e1⟩ := xor_same x l[i] h0 h1 hc.1 hc.2
   simp only [spec_l12Sum.l0]
   rw [if_pos (by omega), if_pos (by omega), rd_at _ _ hi, u64_in hc.1 (by omega), e, u64_in (by omega) (by omega), Int.tmod_eq_emod_of_nonneg (by omega), w64 (by omega) (by omega)]
   rfl
 have h := this l.length 0 2166136261 (by omega) (by omega) (by omega)
 simpa [spec_l12Sum.f, sumB] using h
/-- a log sector's bytes, without the sum and with it -/
def secHead (ep nu mk : Int) (pc : List Int) : List Int := le4 ep ++ le4 nu ++ [mk, (pc.length : Int) % 256] ++ List.replicate 6 0 ++ pc ++ List.replicate (44 - pc.length) 0
def secB (ep nu mk : Int) (pc : List Int) : List Int := secHead ep nu mk pc ++ le4 (sumB (secHead ep nu mk pc))
theorem secHead_len (ep nu mk : Int) (pc : List Int) (h : pc.length ≤ 44) : (secHead ep nu mk pc).length = 60 := by simp [secHead, le4_len]; omega
theorem secB_len (ep nu mk : Int) (pc : List Int) (h : pc.length ≤ 44) : (secB ep nu mk pc).length = 64 := by simp [secB, secHead_len _ _ _ _ h, le4_len]
theorem secHead_byt (ep nu mk : Int) (pc : List Int) (h1 : 0 ≤ mk ∧ mk ≤ 255) (h2 : Byt pc) : Byt (secHead ep nu mk pc) := by
 unfold secHead
 refine byt_app (byt_app (byt_app (byt_app (byt_app (byt_le4 _) (byt_le4 _)) ?_) (byt_zeros _)) h2) (byt_zeros _)
 intro x hx
 simp only [List.mem_cons, List.not_mem_nil, or_false] at hx
 rcases hx with rfl | rfl <;> omega
theorem sector_bytes_ev (ep nu mk : Int) (pc : List Int) (e0 : 0 ≤ ep) (e1 : ep < 9223372036854775808) (n0 : 0 ≤ nu) (n1 : nu < 9223372036854775808) (h1 : 0 ≤ mk ∧ mk ≤ 255) (h2 : Byt pc) (hl : pc.length ≤ 44) :
  Ev (fun k => impl_sector_bytes.f k ep nu mk pc) (secB ep nu mk pc) := by
 have hh := secHead_len ep nu mk pc hl
 have hs := sumB_rng (secHead ep nu mk pc)
 unfold impl_sector_bytes.f
 refine Ev.bind (putLow_ev [] ep e0 e1 (by simp)) ?_
 refine Ev.bind (putLow_ev ([] ++ le4 ep) nu n0 n1 (by simp [le4_len])) ?_
 simp only [List.nil_append, Option.bind_some]
 have c1 : (le4 ep ++ le4 nu).length + [mk, (pc.length : Int) % 256].length < 140737488355328 := by simp [le4_len]
 have l1 : ((le4 ep ++ le4 nu ++ [mk, (pc.length : Int) % 256]).length : Int) = 10 := by simp [le4_len]
 have c2 : (0 : Int) ≤ wrap64 (16 - ((le4 ep ++ le4 nu ++ [mk, (pc.length : Int) % 256]).length : Int)) := by rw [l1, w64 (by omega) (by omega)]; omega
 have e6 : (wrap64 (16 - ((le4 ep ++ le4 nu ++ [mk, (pc.length : Int) % 256]).length : Int)) : Int).toNat = 6 := by rw [l1, w64 (by omega) (by omega)]; rfl
 simp only [if_pos c1, if_pos c2, e6]
 have l2 : (le4 ep ++ le4 nu ++ [mk, (pc.length : Int) % 256] ++ List.replicate 6 0 ++ pc).length = 16 + pc.length := by simp [le4_len]; omega
 have c3 : (le4 ep ++ le4 nu ++ [mk, (pc.length : Int) % 256]).length + 6 < 140737488355328 := by simp [le4_len]
 have c4 : (le4 ep ++ le4 nu ++ [mk, (pc.length : Int) % 256] ++ List.replicate 6 0).length + pc.length < 140737488355328 := by simp [le4_len]; omega
 have c5 : (0 : Int) ≤ wrap64 (60 - ((le4 ep ++ le4 nu ++ [mk, (pc.length : Int) % 256] ++ List.replicate 6 0 ++ pc).length : Int)) := by rw [l2, w64 (by omega) (by omega)]; omega
 have e44 : (wrap64 (60 - ((le4 ep ++ le4 nu ++ [mk, (pc.length : Int) % 256] ++ List.replicate 6 0 ++ pc).length : Int)) : Int).toNat = 44 - pc.length := by rw [l2, w64 (by omega) (by omega)]; omega
 have c6 : (le4 ep ++ le4 nu ++ [mk, (pc.length : Int) % 256] ++ List.replicate 6 0 ++ pc).length + (44 - pc.length) < 140737488355328 := by rw [l2]; omega
 simp only [if_pos c3, if_pos c4, if_pos c5, e44, if_pos c6]
 refine Ev.bind (sumOf_ev (secHead ep nu mk pc) (secHead_byt _ _ _ _ h1 h2) (by omega)) ?_
 refine Ev.bind (putLow_ev (secHead ep nu mk pc) _ hs.1 (by omega) (by omega)) ?_
 exact Ev.now _
theorem l12Sector_ev (ep nu : Int) (more : Bool) (pc : List Int) (e0 : 0 ≤ ep) (e1 : ep < 9223372036854775808) (n0 : 0 ≤ nu) (n1 : nu < 9223372036854775808) (h2 : Byt pc) (hl : pc.length ≤ 44) :
  Ev (fun k => spec_l12Sector.f k ep nu more pc) (secB ep nu (if more = true then 1 else 2) pc) := by
 have key : ∀ mk : Int, (0 ≤ mk ∧ mk ≤ 255) → Ev (fun k => (spec_l12Sum.f k (secHead ep nu mk pc)).bind fun t => (spec_l8Bytes.f k t 4).bind fun t2 => if (secHead ep nu mk pc).length + t2.length < 140737488355328 then some (secHead ep nu mk pc ++ t2) else none) (secB ep nu mk pc) := by
  intro mk h1
  have hh := secHead_len ep nu mk pc hl
  have hs := sumB_rng (secHead ep nu mk pc)
  refine Ev.bind (l12Sum_ev (secHead ep nu mk pc) (secHead_byt _ _ _ _ h1 h2) (by omega)) ?_
  refine Ev.bind (l8Bytes_ev _ hs.1 (by omega)) ?_
  rw [if_pos (by rw [hh, le4_len]; omega)]
  exact Ev.now _
 unfold spec_l12Sector.f
 refine Ev.bind (l8Bytes_ev ep e0 e1) ?_
 refine Ev.bind (l8Bytes_ev nu n0 n1) ?_
 have c0 : (le4 ep).length + (le4 nu).length < 140737488355328 := by simp [le4_len]
 have c1 : ∀ mk : Int, (le4 ep ++ le4 nu).length + [mk, (pc.length : Int) % 256].length < 140737488355328 := fun mk => by simp [le4_len]
 have c3 : ∀ mk : Int, (le4 ep ++ le4 nu ++ [mk, (pc.length : Int) % 256]).length + 6 < 140737488355328 := fun mk => by simp [le4_len]
 have c4 : ∀ mk : Int, (le4 ep ++ le4 nu ++ [mk, (pc.length : Int) % 256] ++ List.replicate 6 0).length + pc.length < 140737488355328 := fun mk => by simp [le4_len]; omega
 have c5 : (0 : Int) ≤ wrap64 (44 - (pc.length : Int)) := by rw [w64 (by omega) (by omega)]; omega
 have e44 : (wrap64 (44 - (pc.length : Int)) : Int).toNat = 44 - pc.length := by rw [w64 (by omega) (by omega)]; omega
 have c6 : ∀ mk : Int, (le4 ep ++ le4 nu ++ [mk, (pc.length : Int) % 256] ++ List.replicate 6 0 ++ pc).length + (44 - pc.length) < 140737488355328 := fun mk => by simp [le4_len]; omega
 cases more with
 | true =>
  have := key 1 (by omega)
  simp only [Option.bind_some, if_pos c0, if_pos (c1 1), if_pos (c3 1), if_pos (c4 1), if_pos c5, e44, if_pos (c6 1), if_true]
  exact this
 | false =>
  have := key 2 (by omega)
  simp only [Option.bind_some, if_pos c0, if_pos (c1 2), if_pos (c3 2), if_pos (c4 2), if_pos c5, e44, if_pos (c6 2), if_false, Bool.false_eq_true]
  exact this
/-- the number of four bytes -/
def get4 (b : List Int) (i : Int) : Int := rd b i + rd b (i + 1) * 256 + rd b (i + 2) * 65536 + rd b (i + 3) * 16777216
theorem get4_rng {b : List Int} (h : Byt b) (i : Int) : 0 ≤ get4 b i ∧ get4 b i < 4294967296 := by
 have h0 := byt_rd h i
 have h1 := byt_rd h (i + 1)
 have h2 := byt_rd h (i + 2)
 have h3 := byt_rd h (i + 3)
 unfold get4
 omega
theorem wraps_i64 (n : Int) (h0 : 0 ≤ n) (h1 : n < 2 ^ 62) : IntKind.i64.wrap n = n := by rw [IntKind.wrap_i64]; omega
theorem getLow_is {b : List Int} (h : Byt b) (i : Int) (h0 : 0 ≤ i) (h1 : i + 3 < b.length) (h2 : i ≤ 1000) : impl_getLow.f b i = some (get4 b i) := by
 have r0 := byt_rd h i
 have r1 := byt_rd h (i + 1)
 have r2 := byt_rd h (i + 2)
 have r3 := byt_rd h (i + 3)
 unfold impl_getLow.f
 rw [w64 (x := i + 1) (by omega) (by omega), w64 (x := i + 2) (by omega) (by omega), w64 (x := i + 3) (by omega) (by omega)]
 rw [if_pos (by omega), if_pos (by omega), if_pos (by omega), if_pos (by omega), if_pos (by omega), if_pos (by omega), if_pos (by omega), if_pos (by omega)]
 rw [w64 (x := rd b i) (by omega) (by omega), w64 (x := rd b (i + 1)) (by omega) (by omega), w64 (x := rd b (i + 2)) (by omega) (by omega), w64 (x := rd b (i + 3)) (by omega) (by omega), w64 (x := rd b (i + 1) * 256) (by omega) (by omega), w64 (x := rd b (i + 2) * 65536) (by omega) (by omega), w64 (x := rd b (i + 3) * 16777216) (by omega) (by omega)]
 have j : ∀ (n : Nat) (x y : Int), 0 ≤ x → x < 2 ^ n → 0 ≤ y → y % 2 ^ n = 0 → y < 2 ^ 62 → x < 2 ^ 62 → Go.bits .or .i64 x y = y + x := by
  intro n x y hx hx1 hy hy1 hy2 hx2
  have := bits_join .i64 62 (by decide) wraps_i64 n y x hy hy1 hy2 hx hx1 hx2
  rw [← this]
  obtain ⟨a, rfl⟩ := Int.eq_ofNat_of_zero_le hx
  obtain ⟨c, rfl⟩ := Int.eq_ofNat_of_zero_le hy
  rw [(bits_nat .i64 62 (by decide) wraps_i64 a c (by omega) (by omega)).2, (bits_nat .i64 62 (by decide) wraps_i64 c a (by omega) (by omega)).2, Nat.or_comm]
 rw [j 8 (rd b i) (rd b (i + 1) * 256) (by omega) (by omega) (by omega) (by omega) (by omega) (by omega)]
 rw [j 16 (rd b (i + 1) * 256 + rd b i) (rd b (i + 2) * 65536) (by omega) (by omega) (by omega) (by omega) (by omega) (by omega)]
 rw [j 24 (rd b (i + 2) * 65536 + (rd b (i + 1) * 256 + rd b i)) (rd b (i + 3) * 16777216) (by omega) (by omega) (by omega) (by omega) (by omega) (by omega)]
 unfold get4
 congr 1
 omega
theorem l12Get_is {b : List Int} (h : Byt b) (i : Int) (h0 : 0 ≤ i) (h1 : i + 3 < b.length) (h2 : i ≤ 1000) : spec_l12Get.f b i = some (get4 b i) := by
 have r0 := byt_rd h i
 have r1 := byt_rd h (i + 1)
 have r2 := byt_rd h (i + 2)
 have r3 := byt_rd h (i + 3)
 unfold spec_l12Get.f
 rw [w64 (x := i + 1) (by omega) (by omega), w64 (x := i + 2) (by omega) (by omega), w64 (x := i + 3) (by omega) (by omega)]
 rw [if_pos (by omega), if_pos (by omega), if_pos (by omega), if_pos (by omega), if_pos (by omega), if_pos (by omega), if_pos (by omega), if_pos (by omega)]
 rw [w64 (x := rd b i) (by omega) (by omega), w64 (x := rd b (i + 1)) (by omega) (by omega), w64 (x := rd b (i + 2)) (by omega) (by omega), w64 (x := rd b (i + 3)) (by omega) (by omega), w64 (x := rd b (i + 1) * 256) (by omega) (by omega), w64 (x := rd b (i + 2) * 65536) (by omega) (by omega), w64 (x := rd b (i + 3) * 16777216) (by omega) (by omega)]
 rw [w64 (x := rd b i + rd b (i + 1) * 256) (by omega) (by omega), w64 (x := rd b i + rd b (i + 1) * 256 + rd b (i + 2) * 65536) (by omega) (by omega), w64 (by omega) (by omega)]
 rfl
end Go.Proofs.Ytchmmnlmgkocoaa.L
