/- Parts of the proof that the law of this seat holds: PuG2, Da, Db, Dc. -/
import Derived.Test.YtkafbmanmffliaaGBIpc
import Derived.StillTailTactics
import Derived.Deep.QuietTactic
import Derived.BigQuiet
import Derived.Lib.JoinLaws
set_option linter.unusedVariables false
set_option linter.unusedSimpArgs false
/- Plain: sums, differences and products of lists of digits. -/
namespace Go.Proofs.Ytkafbmanmffliaa.PuG
open Go Go.RowKit YtkafbmanmffliaaW.PrintWords YtkafbmanmffliaaW.PrintLast YtkafbmanmffliaaW.PrintMore Q Bg
theorem bp_succ (i : Nat) : bp (i + 1) = 4294967296 * bp i := rfl
theorem drop_of {l m : List Int} {i : Nat} (hi : i < l.length) (hm : l.length = m.length) (h : l.drop i = m.drop i) : l[i] = m[i]'(by omega) := by
 have h1 := List.drop_eq_getElem_cons hi
 have h2 := List.drop_eq_getElem_cons (show i < m.length by omega)
 rw [h1, h2] at h
 injection h
theorem drop_of' {l m : List Int} {i : Nat} (hi : i < l.length) (hm : l.length = m.length) (h : l.drop i = m.drop i) : l.drop (i + 1) = m.drop (i + 1) := by
 have h1 := List.drop_eq_getElem_cons hi
 have h2 := List.drop_eq_getElem_cons (show i < m.length by omega)
 rw [h1, h2] at h
 injection h
theorem sub_f {x y b : Int} (hx0 : 0 ≤ x) (hx : x < 4294967296) (hy0 : 0 ≤ y) (hy : y < 4294967296) (hb0 : 0 ≤ b) (hb : b ≤ 1) :
  ∃ d o, bits_Sub32.f x y b = some (d, o) ∧ d = x - y - b + 4294967296 * o ∧ 0 ≤ d ∧ d < 4294967296 ∧ 0 ≤ o ∧ o ≤ 1 := by
 refine ⟨_, _, by unfold bits_Sub32.f; rw [if_pos ⟨hx0, hx, hy0, hy, hb0, hb⟩], ?_⟩
 unfold Bw.subB
 split <;> omega
theorem add_f {x y b : Int} (hx0 : 0 ≤ x) (hx : x < 4294967296) (hy0 : 0 ≤ y) (hy : y < 4294967296) (hb0 : 0 ≤ b) (hb : b ≤ 1) :
  ∃ d o, bits_Add32.f x y b = some (d, o) ∧ d + 4294967296 * o = x + y + b ∧ 0 ≤ d ∧ d < 4294967296 ∧ 0 ≤ o ∧ o ≤ 1 := by
 refine ⟨_, _, rfl, ?_⟩
 rw [w64 hx0 (by omega), w64 hy0 (by omega), w64 hb0 (by omega), w64 (n := x + y) (by omega) (by omega), w64 (n := x + y + b) (by omega) (by omega)]
 omega
theorem take_loop {us vs : List Int} (hu : Dig us) (hv : Dig vs) (t : Int) (ht0 : 0 ≤ t) (ht : t < 4294967296) (hl : us.length < 1073741824) (hvl : vs.length < us.length) :
  ∀ (d i : Nat) (k : Nat) (x : List Int) (c b : Int), i + d = us.length → d < k → x.length = us.length → Dig x → x.drop i = us.drop i → 0 ≤ c → c < 4294967296 → 0 ≤ b → b ≤ 1 → (vs.length < i → c = 0) →
   val (x.take i) = val (us.take i) - t * val (vs.take i) + bp i * (c + b) →
   ∃ y o, impl_takeTimes.l0 k x vs t c b (us.length : Int) (i : Int) = some (decide (o > 0), y) ∧ y.length = us.length ∧ Dig y ∧ 0 ≤ o ∧ o ≤ 1 ∧ val y = val us - t * val vs + bp us.length * o := by
 intro d
 induction d with
 | zero =>
  intro i k x c b hi hk hx hd hdr c0 c1 b0 b1 hc he
  obtain ⟨k, rfl⟩ : ∃ m, k = m + 1 := ⟨k - 1, by omega⟩
  obtain rfl : i = us.length := by omega
  refine ⟨x, b, ?_, hx, hd, b0, b1, ?_⟩
  ·simp only [impl_takeTimes.l0]
   rw [if_neg (by omega)]
  ·rw [val_take_all (by omega), val_take_all (by omega), val_take_all (by omega), hc (by omega), Int.zero_add] at he
   exact he
 | succ d ih =>
  intro i k x c b hi hk hx hd hdr c0 c1 b0 b1 hc he
  obtain ⟨k, rfl⟩ : ∃ m, k = m + 1 := ⟨k - 1, by omega⟩
  have hui := hu.at i (by omega)
  have hxi : x[i] = us[i] := drop_of (by omega) hx hdr
  have hdr' : x.drop (i + 1) = us.drop (i + 1) := drop_of' (by omega) hx hdr
  have su := val_take_succ (l := us) i (by omega)
  simp only [impl_takeTimes.l0]
  rw [if_pos (by omega)]
  by_cases hiv : i < vs.length
  ·have hvi := hv.at i hiv
   have hp := prod ht0 ht hvi.1 hvi.2
   have sv := val_take_succ (l := vs) i hiv
   rw [if_pos (by omega), if_pos (by omega), if_pos (by omega), rd_at i (by omega), rd_at i hiv, hxi, w64 ht0 (by omega), w64 hvi.1 (by omega), w64 hp.1 (by omega), w64 (n := c + t * vs[i]) (by omega) (by omega), Int.toNat_natCast, wi (by omega) (by omega)]
   obtain ⟨m, hm⟩ : ∃ m, m = c + t * vs[i] := ⟨_, rfl⟩
   rw [← hm]
   obtain ⟨y, o, f1, f2, f3, f4, f5, f6⟩ := sub_f (x := us[i]) (y := m % 4294967296) (b := b) hui.1 hui.2 (by omega) (by omega) b0 b1
   rw [f1, Option.bind_some]
   refine ih (i + 1) k _ _ _ (by omega) (by omega) (by simpa using hx) (hd.set i f3 f4) (by rw [drop_set_succ]; exact hdr') (by omega) (by omega) f5 f6 (by omega) ?_
   rw [val_take_set i (by omega), he, su, sv, f2, bp_succ]
   have e := Int.mul_ediv_add_emod m 4294967296
   generalize m / 4294967296 = q at *
   generalize m % 4294967296 = s at *
   grind
  ·have sv : val (vs.take (i + 1)) = val (vs.take i) := by rw [val_take_all (by omega), val_take_all (by omega)]
   rw [if_neg (by omega), if_pos (by omega), if_pos (by omega), rd_at i (by omega), hxi, Int.toNat_natCast, wi (by omega) (by omega)]
   obtain ⟨y, o, f1, f2, f3, f4, f5, f6⟩ := sub_f (x := us[i]) (y := c % 4294967296) (b := b) hui.1 hui.2 (by omega) (by omega) b0 b1
   rw [f1, Option.bind_some]
   refine ih (i + 1) k _ _ _ (by omega) (by omega) (by simpa using hx) (hd.set i f3 f4) (by rw [drop_set_succ]; exact hdr') (by omega) (by omega) f5 f6 (by omega) ?_
   rw [val_take_set i (by omega), he, su, sv, f2, bp_succ]
   have e1 : c % 4294967296 = c := by omega
   have e2 : c / 4294967296 = 0 := by omega
   rw [e1, e2]
   grind
theorem take_ok {us vs : List Int} (hu : Dig us) (hv : Dig vs) (t : Int) (ht0 : 0 ≤ t) (ht : t < 4294967296) (hl : us.length < 1073741824) (hvl : vs.length < us.length) (k : Nat) (hk : us.length < k) :
  ∃ y o, impl_takeTimes.f k us vs t = some (decide (o > 0), y) ∧ y.length = us.length ∧ Dig y ∧ 0 ≤ o ∧ o ≤ 1 ∧ val y = val us - t * val vs + bp us.length * o := by
 unfold impl_takeTimes.f
 exact take_loop hu hv t ht0 ht hl hvl us.length 0 k us 0 0 (by omega) hk rfl hu rfl (by omega) (by omega) (by omega) (by omega) (by omega) (by simp [val])
theorem give_loop {us vs : List Int} (hu : Dig us) (hv : Dig vs) (hl : us.length < 1073741824) (hvl : vs.length ≤ us.length) :
  ∀ (d i : Nat) (k : Nat) (x : List Int) (c : Int), i + d = us.length → d < k → x.length = us.length → Dig x → x.drop i = us.drop i → 0 ≤ c → c ≤ 1 →
   val (x.take i) + bp i * c = val (us.take i) + val (vs.take i) →
   ∃ y o, impl_giveBack.l0 k x vs c (us.length : Int) (i : Int) = some y ∧ y.length = us.length ∧ Dig y ∧ 0 ≤ o ∧ o ≤ 1 ∧ val y + bp us.length * o = val us + val vs := by
 intro d
 induction d with
 | zero =>
  intro i k x c hi hk hx hd hdr c0 c1 he
  obtain ⟨k, rfl⟩ : ∃ m, k = m + 1 := ⟨k - 1, by omega⟩
  obtain rfl : i = us.length := by omega
  refine ⟨x, c, ?_, hx, hd, c0, c1, ?_⟩
  ·simp only [impl_giveBack.l0]
   rw [if_neg (by omega)]
  ·rw [val_take_all (by omega), val_take_all (by omega), val_take_all (by omega)] at he
   exact he
 | succ d ih =>
  intro i k x c hi hk hx hd hdr c0 c1 he
  obtain ⟨k, rfl⟩ : ∃ m, k = m + 1 := ⟨k - 1, by omega⟩
  have hui := hu.at i (by omega)
  have hxi : x[i] = us[i] := drop_of (by omega) hx hdr
  have hdr' : x.drop (i + 1) = us.drop (i + 1) := drop_of' (by omega) hx hdr
  have su := val_take_succ (l := us) i (by omega)
  simp only [impl_giveBack.l0]
  rw [if_pos (by omega)]
  by_cases hiv : i < vs.length
  ·have hvi := hv.at i hiv
   have sv := val_take_succ (l := vs) i hiv
   rw [if_pos (by omega), if_pos (by omega), if_pos (by omega), rd_at i (by omega), rd_at i hiv, hxi, Int.toNat_natCast, wi (by omega) (by omega)]
   obtain ⟨y, o, f1, f2, f3, f4, f5, f6⟩ := add_f (x := us[i]) (y := vs[i]) (b := c) hui.1 hui.2 hvi.1 hvi.2 c0 c1
   rw [f1, Option.bind_some]
   refine ih (i + 1) k _ _ (by omega) (by omega) (by simpa using hx) (hd.set i f3 f4) (by rw [drop_set_succ]; exact hdr') f5 f6 ?_
   rw [val_take_set i (by omega), su, sv, bp_succ]
   grind
  ·have sv : val (vs.take (i + 1)) = val (vs.take i) := by rw [val_take_all (by omega), val_take_all (by omega)]
   rw [if_neg (by omega), if_pos (by omega), if_pos (by omega), rd_at i (by omega), hxi, Int.toNat_natCast, wi (by omega) (by omega)]
   obtain ⟨y, o, f1, f2, f3, f4, f5, f6⟩ := add_f (x := us[i]) (y := 0) (b := c) hui.1 hui.2 (by omega) (by omega) c0 c1
   rw [f1, Option.bind_some]
   refine ih (i + 1) k _ _ (by omega) (by omega) (by simpa using hx) (hd.set i f3 f4) (by rw [drop_set_succ]; exact hdr') f5 f6 ?_
   rw [val_take_set i (by omega), su, sv, bp_succ]
   grind
theorem give_ok {us vs : List Int} (hu : Dig us) (hv : Dig vs) (hl : us.length < 1073741824) (hvl : vs.length ≤ us.length) (k : Nat) (hk : us.length < k) :
  ∃ y o, impl_giveBack.f k us vs = some y ∧ y.length = us.length ∧ Dig y ∧ 0 ≤ o ∧ o ≤ 1 ∧ val y + bp us.length * o = val us + val vs := by
 unfold impl_giveBack.f
 exact give_loop hu hv hl hvl us.length 0 k us 0 (by omega) hk rfl hu rfl (by omega) (by omega) (by simp [val])
theorem add_loop {xa xb : List Int} (ha : Dig xa) (hb : Dig xb) (n : Nat) (hla : xa.length < n) (hlb : xb.length < n) (hn : n < 1073741824) (k0 : Nat) (hk0 : n < k0) :
  ∀ (d i : Nat) (k : Nat) (x : List Int) (c : Int), i + d = n → k0 + d < k → x.length = n → Dig x → 0 ≤ c → c ≤ 1 → (xa.length < i → xb.length < i → c = 0) →
   val (x.take i) + bp i * c = val (xa.take i) + val (xb.take i) →
   ∃ y, impl_addMag.l0 k xa xb x c (n : Int) (i : Int) = some y ∧ y.length ≤ n ∧ Dig y ∧ Trim y ∧ val y = val xa + val xb := by
 intro d
 induction d with
 | zero =>
  intro i k x c hi hk hx hd c0 c1 hc he
  obtain ⟨k, rfl⟩ : ∃ m, k = m + 1 := ⟨k - 1, by omega⟩
  obtain rfl : i = n := by omega
  rw [val_take_all (by omega), val_take_all (by omega), val_take_all (by omega), hc (by omega) (by omega)] at he
  obtain ⟨q, g1, g2, g3, g4, g5⟩ := trimmed_all x k (by omega) (by omega) hd
  refine ⟨q, ?_, by omega, g4, g3, by rw [g2]; omega⟩
  simp only [impl_addMag.l0]
  rw [if_neg (by omega), g1]
  rfl
 | succ d ih =>
  intro i k x c hi hk hx hd c0 c1 hc he
  obtain ⟨k, rfl⟩ : ∃ m, k = m + 1 := ⟨k - 1, by omega⟩
  simp only [impl_addMag.l0]
  rw [if_pos (by omega)]
  by_cases hia : i < xa.length
  ·have hai := ha.at i hia
   have sa := val_take_succ (l := xa) i hia
   rw [if_pos (by omega), if_pos (by omega)]
   by_cases hib : i < xb.length
   ·have hbi := hb.at i hib
    have sb := val_take_succ (l := xb) i hib
    rw [if_pos (by omega), if_pos (by omega), rd_at i hia, rd_at i hib, w64 hai.1 (by omega), w64 hbi.1 (by omega), w64 (n := c + xa[i]) (by omega) (by omega), w64 (n := c + xa[i] + xb[i]) (by omega) (by omega), Int.toNat_natCast, wi (by omega) (by omega)]
    refine ih (i + 1) k _ _ (by omega) (by omega) (by simpa using hx) (hd.set i (by omega) (by omega)) (by omega) (by omega) (by omega) ?_
    rw [val_take_set i (by omega), sa, sb, bp_succ]
    have e := Int.mul_ediv_add_emod (c + xa[i] + xb[i]) 4294967296
    generalize (c + xa[i] + xb[i]) / 4294967296 = q at *
    generalize (c + xa[i] + xb[i]) % 4294967296 = s at *
    grind
   ·have sb : val (xb.take (i + 1)) = val (xb.take i) := by rw [val_take_all (by omega), val_take_all (by omega)]
    rw [if_neg (by omega), if_pos (by omega), rd_at i hia, w64 hai.1 (by omega), w64 (n := c + xa[i]) (by omega) (by omega), Int.toNat_natCast, wi (by omega) (by omega)]
    refine ih (i + 1) k _ _ (by omega) (by omega) (by simpa using hx) (hd.set i (by omega) (by omega)) (by omega) (by omega) (by omega) ?_
    rw [val_take_set i (by omega), sa, sb, bp_succ]
    have e := Int.mul_ediv_add_emod (c + xa[i]) 4294967296
    generalize (c + xa[i]) / 4294967296 = q at *
    generalize (c + xa[i]) % 4294967296 = s at *
    grind
  ·have sa : val (xa.take (i + 1)) = val (xa.take i) := by rw [val_take_all (by omega), val_take_all (by omega)]
   rw [if_neg (by omega)]
   by_cases hib : i < xb.length
   ·have hbi := hb.at i hib
    have sb := val_take_succ (l := xb) i hib
    rw [if_pos (by omega), if_pos (by omega), if_pos (by omega), rd_at i hib, w64 hbi.1 (by omega), w64 (n := c + xb[i]) (by omega) (by omega), Int.toNat_natCast, wi (by omega) (by omega)]
    refine ih (i + 1) k _ _ (by omega) (by omega) (by simpa using hx) (hd.set i (by omega) (by omega)) (by omega) (by omega) (by omega) ?_
    rw [val_take_set i (by omega), sa, sb, bp_succ]
    have e := Int.mul_ediv_add_emod (c + xb[i]) 4294967296
    generalize (c + xb[i]) / 4294967296 = q at *
    generalize (c + xb[i]) % 4294967296 = s at *
    grind
   ·have sb : val (xb.take (i + 1)) = val (xb.take i) := by rw [val_take_all (by omega), val_take_all (by omega)]
    rw [if_neg (by omega), if_pos (by omega), if_pos (by omega), Int.toNat_natCast, wi (by omega) (by omega)]
    refine ih (i + 1) k _ _ (by omega) (by omega) (by simpa using hx) (hd.set i (by omega) (by omega)) (by omega) (by omega) (by omega) ?_
    rw [val_take_set i (by omega), sa, sb, bp_succ]
    have e1 : c % 4294967296 = c := by omega
    have e2 : c / 4294967296 = 0 := by omega
    rw [e1, e2]
    grind
theorem add_ok {xa xb : List Int} (ha : Dig xa) (hb : Dig xb) (hla : xa.length < 536870912) (hlb : xb.length < 536870912) (k : Nat) (hk : 2 * (max xa.length xb.length) + 4 < k) :
  ∃ y, impl_addMag.f k xa xb = some y ∧ y.length ≤ max xa.length xb.length + 1 ∧ Dig y ∧ Trim y ∧ val y = val xa + val xb := by
 have hm : mx (xa.length : Int) (xb.length : Int) = ((max xa.length xb.length : Nat) : Int) := by unfold mx; split <;> omega
 have hM : max xa.length xb.length < 536870912 := by omega
 have h1 : xa.length ≤ max xa.length xb.length := Nat.le_max_left _ _
 have h2 : xb.length ≤ max xa.length xb.length := Nat.le_max_right _ _
 unfold impl_addMag.f
 rw [hm]
 generalize max xa.length xb.length = M at *
 have e : ((M : Nat) : Int) + 1 = ((M + 1 : Nat) : Int) := by omega
 rw [e, wi (by omega) (by omega), if_pos (by omega), Int.toNat_natCast, if_pos (by omega), Option.bind_some, List.length_replicate]
 exact add_loop ha hb (M + 1) (by omega) (by omega) (by omega) (M + 2) (by omega) (M + 1) 0 k _ 0 (by omega) (by omega) (by simp) (Dig.zeros _) (by omega) (by omega) (by omega) (by simp [val])
theorem sub_loop {xa xb : List Int} (ha : Dig xa) (hb : Dig xb) (hn : xa.length < 1073741824) (k0 : Nat) (hk0 : xa.length < k0) :
  ∀ (d i : Nat) (k : Nat) (x : List Int) (c : Int), i + d = xa.length → k0 + d < k → x.length = xa.length → Dig x → 0 ≤ c → c ≤ 1 →
   val (x.take i) = val (xa.take i) - val (xb.take i) + bp i * c →
   ∃ y o, impl_subMag.l0 k xb x c xa (xa.length : Int) (i : Int) = some y ∧ y.length ≤ xa.length ∧ Dig y ∧ Trim y ∧ 0 ≤ o ∧ o ≤ 1 ∧ val y = val xa - val (xb.take xa.length) + bp xa.length * o := by
 intro d
 induction d with
 | zero =>
  intro i k x c hi hk hx hd c0 c1 he
  obtain ⟨k, rfl⟩ : ∃ m, k = m + 1 := ⟨k - 1, by omega⟩
  obtain rfl : i = xa.length := by omega
  rw [val_take_all (by omega), val_take_all (by omega)] at he
  obtain ⟨q, g1, g2, g3, g4, g5⟩ := trimmed_all x k (by omega) (by omega) hd
  refine ⟨q, c, ?_, by omega, g4, g3, c0, c1, by rw [g2]; omega⟩
  simp only [impl_subMag.l0]
  rw [if_neg (by omega), g1]
  rfl
 | succ d ih =>
  intro i k x c hi hk hx hd c0 c1 he
  obtain ⟨k, rfl⟩ : ∃ m, k = m + 1 := ⟨k - 1, by omega⟩
  have hai := ha.at i (by omega)
  have sa := val_take_succ (l := xa) i (by omega)
  simp only [impl_subMag.l0]
  rw [if_pos (by omega), if_pos (by omega), if_pos (by omega)]
  by_cases hib : i < xb.length
  ·have hbi := hb.at i hib
   have sb := val_take_succ (l := xb) i hib
   rw [if_pos (by omega), rd_at i (by omega), rd_at i hib]
   obtain ⟨y, o, f1, f2, f3, f4, f5, f6⟩ := sub_f (x := xa[i]) (y := xb[i]) (b := c) hai.1 hai.2 hbi.1 hbi.2 c0 c1
   rw [f1, Option.bind_some, if_pos (by omega), Int.toNat_natCast, wi (by omega) (by omega)]
   refine ih (i + 1) k _ _ (by omega) (by omega) (by simpa using hx) (hd.set i f3 f4) f5 f6 ?_
   rw [val_take_set i (by omega), he, sa, sb, f2, bp_succ]
   grind
  ·have sb : val (xb.take (i + 1)) = val (xb.take i) := by rw [val_take_all (by omega), val_take_all (by omega)]
   rw [if_neg (by omega), rd_at i (by omega)]
   obtain ⟨y, o, f1, f2, f3, f4, f5, f6⟩ := sub_f (x := xa[i]) (y := 0) (b := c) hai.1 hai.2 (by omega) (by omega) c0 c1
   rw [f1, Option.bind_some, if_pos (by omega), Int.toNat_natCast, wi (by omega) (by omega)]
   refine ih (i + 1) k _ _ (by omega) (by omega) (by simpa using hx) (hd.set i f3 f4) f5 f6 ?_
   rw [val_take_set i (by omega), he, sa, sb, f2, bp_succ]
   grind
theorem sub_ok {xa xb : List Int} (ha : Dig xa) (hb : Dig xb) (tb : Trim xb) (hle : val xb ≤ val xa) (hla : xa.length < 1073741824) (k : Nat) (hk : 2 * xa.length + 3 < k) :
  ∃ y, impl_subMag.f k xa xb = some y ∧ y.length ≤ xa.length ∧ Dig y ∧ Trim y ∧ val y = val xa - val xb := by
 have hl : xb.length ≤ xa.length := by
  rcases Nat.lt_or_ge xa.length xb.length with h | h
  ·have := lt_of_len ha hb tb h; omega
  ·exact h
 unfold impl_subMag.f
 rw [if_pos (by omega), Int.toNat_natCast, if_pos (by omega)]
 obtain ⟨y, o, h1, h2, h3, h4, h5, h6, h7⟩ := sub_loop ha hb hla (xa.length + 1) (by omega) xa.length 0 k (List.replicate xa.length 0) 0 (by omega) (by omega) (by simp) (Dig.zeros _) (by omega) (by omega) (by simp [val])
 rw [val_take_all hl] at h7
 have h8 := val_lt h3
 have h9 := bp_mono h2
 have h10 : o = 0 := by
  rcases Int.lt_or_le 0 o with h | h
  ·obtain rfl : o = 1 := by omega
   omega
  ·omega
 refine ⟨y, h1, h2, h3, h4, ?_⟩
 rw [h7, h10]; omega
def Zer (l : List Int) (n : Nat) : Prop := ∀ j, n ≤ j → ∀ h : j < l.length, l[j] = 0
theorem Zer.set {l : List Int} {n : Nat} (h : Zer l n) (i : Nat) (hi : i < n) (x : Int) : Zer (l.set i x) n := by
 intro j hj hjl
 rw [List.getElem_set_ne (by omega)]
 exact h j hj (by simpa using hjl)
theorem Zer.next {l : List Int} {n : Nat} (h : Zer l n) (x : Int) : Zer (l.set n x) (n + 1) := by
 intro j hj hjl
 rw [List.getElem_set_ne (by omega)]
 exact h j (by omega) (by simpa using hjl)
theorem mul_inner {xa xb : List Int} (hb : Dig xb) (hla : xa.length < 268435456) (hlb : xb.length < 268435456) (i : Nat) (hi : i < xa.length) (a : Int) (a0 : 0 ≤ a) (a1 : a < 4294967296) (V : Int)
  (kk : Nat) (hnext : ∀ (x : List Int) (k : Nat), kk ≤ k → x.length = xa.length + xb.length → Dig x → Zer x (i + 1 + xb.length) → val x = V + a * bp i * val xb → ∃ y, impl_mulMag.l0 k xb x xa (xa.length : Int) ((i : Int) + 1) = some y ∧ y.length ≤ xa.length + xb.length ∧ Dig y ∧ Trim y ∧ val y = val xa * val xb) :
  ∀ (d j : Nat) (k : Nat) (x : List Int) (c : Int), j + d = xb.length → kk + d < k → x.length = xa.length + xb.length → Dig x → Zer x (i + xb.length) → 0 ≤ c → c < 4294967296 →
   val x + bp (i + j) * c = V + a * bp i * val (xb.take j) →
   ∃ y, impl_mulMag.l1 k xb x (i : Int) a c xa (xa.length : Int) (i : Int) xb (xb.length : Int) (j : Int) = some y ∧ y.length ≤ xa.length + xb.length ∧ Dig y ∧ Trim y ∧ val y = val xa * val xb := by
 intro d
 induction d with
 | zero =>
  intro j k x c hj hk hx hd hz c0 c1 he
  obtain ⟨k, rfl⟩ : ∃ m, k = m + 1 := ⟨k - 1, by omega⟩
  obtain rfl : j = xb.length := by omega
  simp only [impl_mulMag.l1]
  have ew : (i : Int) + (xb.length : Int) = ((i + xb.length : Nat) : Int) := by omega
  rw [if_neg (by omega), ew, wi (by omega) (by omega), if_pos (by omega), if_pos (by omega), Int.toNat_natCast, wi (by omega) (by omega), Int.emod_eq_of_lt c0 c1]
  refine hnext _ k (by omega) (by simpa using hx) (hd.set _ c0 c1) ?_ ?_
  ·have := hz.next c
   rwa [show i + 1 + xb.length = i + xb.length + 1 by omega]
  ·rw [val_set _ (by omega), hz _ (Nat.le_refl _) (by omega)]
   rw [val_take_all (Nat.le_refl _)] at he
   grind
 | succ d ih =>
  intro j k x c hj hk hx hd hz c0 c1 he
  obtain ⟨k, rfl⟩ : ∃ m, k = m + 1 := ⟨k - 1, by omega⟩
  have hbj := hb.at j (by omega)
  have hp := prod a0 a1 hbj.1 hbj.2
  have hxj := hd.at (i + j) (by omega)
  have sb := val_take_succ (l := xb) j (by omega)
  have ew : (i : Int) + (j : Int) = ((i + j : Nat) : Int) := by omega
  simp only [impl_mulMag.l1]
  rw [if_pos (by omega), if_pos (by omega), if_pos (by omega), ew, wi (n := ((i + j : Nat) : Int)) (by omega) (by omega), if_pos (by omega), if_pos (by omega), rd_at j (by omega), rd_at (i + j) (by omega), w64 a0 (by omega), w64 hbj.1 (by omega), w64 hp.1 (by omega), w64 hxj.1 (by omega), w64 (n := a * xb[j] + x[i + j]) (by omega) (by omega), w64 (n := c + (a * xb[j] + x[i + j])) (by omega) (by omega), Int.toNat_natCast, wi (by omega) (by omega)]
  obtain ⟨m, hm⟩ : ∃ m, m = c + (a * xb[j] + x[i + j]) := ⟨_, rfl⟩
  rw [← hm]
  have ej : (j : Int) + 1 = ((j + 1 : Nat) : Int) := by omega
  rw [ej]
  refine ih (j + 1) k _ _ (by omega) (by omega) (by simpa using hx) (hd.set _ (by omega) (by omega)) (hz.set _ (by omega) _) (by omega) (by omega) ?_
  rw [val_set _ (by omega), sb, ← Nat.add_assoc, bp_succ]
  have e := Int.mul_ediv_add_emod m 4294967296
  have ebp := bp_add i j
  generalize m / 4294967296 = q at *
  generalize m % 4294967296 = s at *
  rw [ebp] at he ⊢
  grind
theorem mul_outer {xa xb : List Int} (ha : Dig xa) (hb : Dig xb) (hla : xa.length < 268435456) (hlb : xb.length < 268435456) (k0 : Nat) (hk0 : xa.length + xb.length < k0) :
  ∀ (d i : Nat) (k : Nat) (x : List Int), i + d = xa.length → k0 + d * (xb.length + 2) < k → x.length = xa.length + xb.length → Dig x → Zer x (i + xb.length) → val x = val (xa.take i) * val xb →
   ∃ y, impl_mulMag.l0 k xb x xa (xa.length : Int) (i : Int) = some y ∧ y.length ≤ xa.length + xb.length ∧ Dig y ∧ Trim y ∧ val y = val xa * val xb := by
 intro d
 induction d with
 | zero =>
  intro i k x hi hk hx hd hz he
  obtain ⟨k, rfl⟩ : ∃ m, k = m + 1 := ⟨k - 1, by omega⟩
  obtain rfl : i = xa.length := by omega
  obtain ⟨q, g1, g2, g3, g4, g5⟩ := trimmed_all x k (by omega) (by omega) hd
  refine ⟨q, ?_, by omega, g4, g3, by rw [g2, he, val_take_all (Nat.le_refl _)]⟩
  simp only [impl_mulMag.l0]
  rw [if_neg (by omega), g1]
  rfl
 | succ d ih =>
  intro i k x hi hk hx hd hz he
  obtain ⟨k, rfl⟩ : ∃ m, k = m + 1 := ⟨k - 1, by omega⟩
  have hai := ha.at i (by omega)
  have sa := val_take_succ (l := xa) i (by omega)
  rw [Nat.succ_mul] at hk
  simp only [impl_mulMag.l0]
  rw [if_pos (by omega), if_pos (by omega), if_pos (by omega), rd_at i (by omega)]
  refine mul_inner hb hla hlb i (by omega) xa[i] hai.1 hai.2 (val x) (k0 + d * (xb.length + 2) + 1) ?_ xb.length 0 k x 0 (by omega) (by omega) hx hd hz (by omega) (by omega) (by simp [val])
  intro x2 k2 hk2 hx2 hd2 hz2 he2
  have e : (i : Int) + 1 = ((i + 1 : Nat) : Int) := by omega
  rw [e]
  refine ih (i + 1) k2 x2 (by omega) (by omega) hx2 hd2 hz2 ?_
  rw [he2, he, sa]
  grind
theorem mul_ok {xa xb : List Int} (ha : Dig xa) (hb : Dig xb) (hla : xa.length < 268435456) (hlb : xb.length < 268435456) (k : Nat) (hk : xa.length + xb.length + 2 + xa.length * (xb.length + 2) < k) :
  ∃ y, impl_mulMag.f k xa xb = some y ∧ y.length ≤ xa.length + xb.length ∧ Dig y ∧ Trim y ∧ val y = val xa * val xb := by
 unfold impl_mulMag.f
 have e : (xa.length : Int) + (xb.length : Int) = ((xa.length + xb.length : Nat) : Int) := by omega
 rw [e, wi (by omega) (by omega), if_pos (by omega), Int.toNat_natCast, if_pos (by omega)]
 refine mul_outer ha hb hla hlb (xa.length + xb.length + 1) (by omega) xa.length 0 k _ (by omega) (by omega) (by simp) (Dig.zeros _) ?_ (by rw [val_zeros]; simp [val])
 intro j _ h
 simp
end Go.Proofs.Ytkafbmanmffliaa.PuG

/- Digits in memory: what trimmed returns, told by its address. -/
namespace Go.Proofs.Ytkafbmanmffliaa.Da
open Go Go.RowKit YtkafbmanmffliaaW.PrintWords YtkafbmanmffliaaW.PrintLast YtkafbmanmffliaaW.PrintMore Q Bg PuG
def tl (ds : List Int) : Nat → Nat
 | 0 => 0
 | n + 1 => if rd ds (n : Int) = 0 then tl ds n else n + 1
theorem tl_le (ds : List Int) : ∀ n, tl ds n ≤ n
 | 0 => Nat.le_refl _
 | n + 1 => by
  have := tl_le ds n
  unfold tl
  split <;> omega
theorem tl_val (ds : List Int) : ∀ n, n ≤ ds.length → val (ds.take (tl ds n)) = val (ds.take n)
 | 0 => fun _ => rfl
 | n + 1 => fun hn => by
  have ih := tl_val ds n (by omega)
  unfold tl
  by_cases h : rd ds (n : Int) = 0
  ·rw [if_pos h, ih, val_take_succ n (by omega)]
   rw [rd_at n (by omega)] at h
   rw [h]; omega
  ·rw [if_neg h]
theorem tl_trim (ds : List Int) : ∀ n, n ≤ ds.length → Trim (ds.take (tl ds n))
 | 0 => fun _ => by simpa [tl] using Trim.nil
 | n + 1 => fun hn => by
  have ih := tl_trim ds n (by omega)
  unfold tl
  by_cases h : rd ds (n : Int) = 0
  ·rw [if_pos h]; exact ih
  ·rw [if_neg h]
   rw [rd_at n (by omega)] at h
   unfold Trim
   rw [List.getLast?_eq_getElem?, List.length_take, Nat.min_eq_left hn]
   simp only [Nat.add_sub_cancel]
   rw [List.getElem?_take, if_pos (by omega), List.getElem?_eq_getElem (by omega)]
   simpa using h
def lenOf : Value → Nat | .slice _ n _ => n | _ => 0
theorem infoU : (Try.prog.info? 146).map (fun i => (i.zero, i.size, i.bytes)) = some (some (.int .u32 0), 1, 4) := by kernel_rfl
theorem cut_run (A : Option Addr) (n c : Nat) (q : Int) (h0 : 0 ≤ q) (h1 : q ≤ n) (hc : n ≤ c) : ∀ W : World, (Instr.slice 108 (.slice A n c) none (some (.int .i64 q)) none).run Try.prog W = .ok (.slice A q.toNat c) W := by
 intro W
 obtain ⟨i0, hi0, _, hsz, _⟩ := info_parts infoU
 have h := (print_take_of (P := Try.prog) (Value.int .i64) 0 108 146 .i64 Try.underlying108 hi0 hsz A c (List.replicate n 0) q h0 (by simpa using h1) (by simpa using hc)).1 W
 rw [List.length_replicate, List.length_take, List.length_replicate, Nat.min_eq_left (by omega)] at h
 exact h
set_option maxHeartbeats 4000000 in
set_option maxRecDepth 100000 in
theorem trim_any (A : Option Addr) (c : Nat) (ds : List Int) (w : World) (hC : Kd.C (Kd.int .u32) w A ds.length ds) (hc : ds.length ≤ c) :
  Calls Try.prog 146 #[.slice A ds.length c] w fun e w' => e = .returned (.slice A (tl ds ds.length) c) ∧ w' = w := by
 have hu := Try.underlying108
 have hlen : ds.length ≤ 9223372036854775807 := hC.2.1
 go_enter Try.func146, Try.ntmps146
 go_wp2
 go_loop [0] (fun v => ∃ m : Nat, m ≤ ds.length ∧ v = .slice A m c ∧ Aside0 (tl ds ds.length = tl ds m)) (fun v => lenOf v)
 case atStart => exact ⟨ds.length, Nat.le_refl _, rfl, ⟨rfl⟩⟩
 case round =>
  obtain ⟨m, hm, rfl, ht⟩ := hrel
  by_cases h0 : m = 0
  ·subst h0
   go_wp2
   go_ret
   exact ⟨by rw [ht.out]; rfl, rfl⟩
  ·obtain ⟨j, rfl⟩ : ∃ j, m = j + 1 := ⟨m - 1, by omega⟩
   have e1 : IntKind.i64.wrap (((j + 1 : Nat) : Int) - 1) = (j : Int) := by
    rw [IntKind.wrap_i64]; omega
   have e2 : wrap64 (((j + 1 : Nat) : Int) - 1) = (j : Int) := by unfold wrap64; omega
   have p1 : decide (0 < j + 1) = true := by simp
   have p2 : decide (0 < ((j + 1 : Nat) : Int)) = true := decide_eq_true (by omega)
   obtain ⟨ad, e, hx⟩ := Kd.at_int hC (j : Int) (by omega) (by omega)
   cases e
   have hcut := cut_run (some ad) (j + 1) c (j : Int) (by omega) (by omega) (by omega)
   rw [Int.toNat_natCast] at hcut
   rw [Int.toNat_natCast] at hx
   by_cases hz : rd ds (j : Int) = 0
   ·have z1 : (rd ds (j : Int) == 0) = true := by simpa using hz
    go_wp2
    go_round
    case rel => exact ⟨j, by omega, rfl, ⟨by rw [ht.out]; simp [tl, hz]⟩⟩
    case measure => simp [lenOf]
   ·have z1 : (rd ds (j : Int) == 0) = false := by simpa using hz
    go_wp2
    go_ret
    exact ⟨by rw [ht.out]; simp [tl, hz], rfl⟩
end Go.Proofs.Ytkafbmanmffliaa.Da

/- A block of digits; digits taken from, and given back to, a part of it. -/
namespace Go.Proofs.Ytkafbmanmffliaa.Db
open Go Go.RowKit YtkafbmanmffliaaW.PrintWords YtkafbmanmffliaaW.PrintLast YtkafbmanmffliaaW.PrintMore Q Bg PuG
def Bk (W : World) (g : Nat) (L : List Int) : Prop := ∃ cur : Array Value, W.heap[g]? = some (.cells cur 146 (0, 0)) ∧ ∀ i : Nat, i < L.length → cur[i]? = some (.int .u32 (rd L i))
theorem Bk.cell {W : World} {g : Nat} {L : List Int} (h : Bk W g L) (i : Nat) (hi : i < L.length) : W.cell? ⟨g, i, none⟩ = some (.int .u32 (rd L i)) := by
 obtain ⟨cur, h1, h2⟩ := h
 rw [blk_cell h1 i, h2 i hi]
theorem Bk.frozen {W : World} {g : Nat} {L : List Int} (h : Bk W g L) (i : Nat) : W.frozen? ⟨g, i, none⟩ = false := by
 obtain ⟨cur, h1, h2⟩ := h
 exact blk_frozen h1 i
theorem rd_set {L : List Int} (i : Nat) (x : Int) (k : Nat) (hk : k < L.length) : rd (L.set i x) (k : Int) = if i = k then x else rd L (k : Int) := by
 rw [rd_at k (by simpa using hk), rd_at k hk, List.getElem_set]
theorem Bk.put {W : World} {g : Nat} {L : List Int} (h : Bk W g L) (i : Nat) (x : Int) : Bk (W.setCell ⟨g, i, none⟩ (.int .u32 x)) g (L.set i x) := by
 obtain ⟨cur, h1, h2⟩ := h
 refine ⟨_, blk_put h1 i _ rfl, fun k hk => ?_⟩
 rw [List.length_set] at hk
 rw [rd_set i x k hk, Array.getElem?_setIfInBounds]
 have hks := h2 k hk
 by_cases e : i = k
 ·subst e
  rw [if_pos rfl, if_pos rfl]
  have : i < cur.size := by
   rcases Nat.lt_or_ge i cur.size with h3 | h3
   ·exact h3
   ·rw [Array.getElem?_eq_none h3] at hks; cases hks
  rw [if_pos this]
 ·rw [if_neg e, if_neg e, hks]
theorem Bk.same {W W' : World} {g : Nat} {L : List Int} (h : Bk W g L) (hm : W'.heap[g]? = W.heap[g]?) : Bk W' g L := by
 obtain ⟨cur, h1, h2⟩ := h
 exact ⟨cur, hm.trans h1, h2⟩
theorem Bk.lt {W : World} {g : Nat} {L : List Int} (h : Bk W g L) : g < W.heap.size := by
 obtain ⟨cur, h1, h2⟩ := h
 exact blk_lt h1
theorem grown_set {w W : World} {p : Addr} (h : w.grownBy W (some p.block)) (u : Value) : w.grownBy (W.setCell p u) (some p.block) :=
 ⟨h.os, h.tape, h.output, by simpa [World.setCell] using h.size, fun k hk hne => (Below.heap_setCell W p u k (fun e => hne (by rw [e]))).trans (h.block k hk hne)⟩
theorem grown_refl (w : World) (r : Option Nat) : w.grownBy w r := ⟨rfl, rfl, rfl, Nat.le_refl _, fun _ _ _ => rfl⟩
def win (L : List Int) (j n : Nat) (x : List Int) : List Int := L.take j ++ x ++ L.drop (j + n)
theorem win_len {L : List Int} {j n : Nat} {x : List Int} (h : j + n ≤ L.length) (hx : x.length = n) : (win L j n x).length = L.length := by simp [win]; omega
theorem win_self {L : List Int} {j n : Nat} (h : j + n ≤ L.length) : win L j n ((L.drop j).take n) = L := by
 unfold win
 rw [List.append_assoc, ← List.drop_drop, List.take_append_drop, List.take_append_drop]
theorem win_at {L : List Int} {j n : Nat} {x : List Int} (h : j + n ≤ L.length) (hx : x.length = n) (i : Nat) (hi : i < n) : rd (win L j n x) ((j + i : Nat) : Int) = rd x (i : Int) := by
 rw [rd_at (j + i) (by rw [win_len h hx]; omega), rd_at i (by omega)]
 unfold win
 rw [List.getElem_append_left (by simp; omega), List.getElem_append_right (by simp; omega)]
 simp [Nat.min_eq_left (show j ≤ L.length by omega)]
theorem win_set {L : List Int} {j n : Nat} {x : List Int} (h : j + n ≤ L.length) (hx : x.length = n) (i : Nat) (hi : i < n) (u : Int) : (win L j n x).set (j + i) u = win L j n (x.set i u) := by
 unfold win
 rw [List.set_append_left _ _ (by simp; omega), List.set_append_right _ _ (by simp; omega)]
 simp [Nat.min_eq_left (show j ≤ L.length by omega)]
theorem sub_of {x y b d o : Int} (h : bits_Sub32.f x y b = some (d, o)) (w : World) :
  Calls Try.prog 157 #[.int .u32 x, .int .u32 y, .int .u32 b] w fun e w' => e = .returned (.tuple #[.int .u32 d, .int .u32 o]) ∧ w' = w := by
 unfold bits_Sub32.f at h
 by_cases hc : 0 ≤ x ∧ x < 4294967296 ∧ 0 ≤ y ∧ y < 4294967296 ∧ 0 ≤ b ∧ b ≤ 1
 ·rw [if_pos hc] at h
  simp only [Option.some.injEq, Prod.mk.injEq] at h
  obtain ⟨rfl, rfl⟩ := h
  obtain ⟨h0, h1, h2, h3, h4, h5⟩ := hc
  exact Bw.sub32_any x y b w h0 h1 h2 h3 h4 h5
 ·rw [if_neg hc] at h
  exact absurd h (by simp)
theorem add_of (x y b : Int) (w : World) :
  Calls Try.prog 159 #[.int .u32 x, .int .u32 y, .int .u32 b] w fun e w' => e = .returned (.tuple #[.int .u32 (IntKind.u64.wrap (IntKind.u64.wrap (IntKind.u64.wrap x + IntKind.u64.wrap y) + IntKind.u64.wrap b) % 4294967296), .int .u32 (IntKind.u64.wrap (IntKind.u64.wrap (IntKind.u64.wrap x + IntKind.u64.wrap y) + IntKind.u64.wrap b) / 4294967296 % 4294967296)]) ∧ w' = w := by
 go_enter Try.func159, Try.ntmps159
 go_wp2
 go_ret2
 exact ⟨by first | rfl | (simp; done) | (simp [*]; done), rfl⟩
set_option maxHeartbeats 4000000 in
set_option maxRecDepth 100000 in
theorem take_any (g j n cap : Nat) (L vs : List Int) (A : Option Addr) (c : Nat) (t : Int) (k : Nat) (r1 : Bool) (r2 : List Int) (w : World) (hL : Bk w g L) (hj : j + n ≤ L.length) (hn : n < 1073741824) (hv : Kd.F (Kd.int .u32) w (fun k => k ≠ g) A vs.length vs)
  (h : impl_takeTimes.l0 k ((L.drop j).take n) vs t 0 0 (n : Int) 0 = some (r1, r2)) :
  Calls Try.prog 155 #[.slice (some ⟨g, j, none⟩) n cap, .slice A vs.length c, .int .u32 t] w fun e w' => e = .returned (.bool r1) ∧ Bk w' g (win L j n r2) ∧ w.grownBy w' (some g) := by
 have hu := Try.underlying108
 have hx0 : ((L.drop j).take n).length = n := by simp; omega
 have H0 := Aside0.mk h
 have HL := Aside0.mk (show Bk w g (win L j n ((L.drop j).take n)) by rw [win_self hj]; exact hL)
 have HV := Aside0.mk hv
 clear h hL hv
 go_enter Try.func155, Try.ntmps155
 go_wp2
 go_loopg [7, 8, 12] k (fun kq v7 v8 v12 wz => ∃ (x : List Int) (x7 x8 : Int) (i : Nat), v7 = .int .u64 x7 ∧ v8 = .int .u32 x8 ∧ v12 = .int .i64 (i : Int) ∧ i ≤ n ∧ x.length = n ∧ Aside0 (impl_takeTimes.l0 kq x vs t x7 x8 (n : Int) (i : Int) = some (r1, r2)) ∧ Aside0 (Bk wz g (win L j n x)) ∧ Aside0 (w.grownBy wz (some g)) ∧ Aside0 (kq ≤ k))
 case atStart => exact ⟨_, 0, 0, 0, rfl, rfl, rfl, by omega, hx0, H0, HL, ⟨grown_refl w _⟩, ⟨Nat.le_refl _⟩⟩
 case round =>
  clear H0 hx0
  obtain ⟨x, x7, x8, i, rfl, rfl, rfl, hi, hx, HA, HB, HG, HK⟩ := hrel
  cases gk with
  | zero => exact absurd HA.out (by simp [impl_takeTimes.l0])
  | succ k1 =>
   have H := HA.out
   clear HA
   simp only [impl_takeTimes.l0] at H
   by_cases hlt : i < n
   ·have p1 : decide ((i : Int) < (n : Int)) = true := decide_eq_true (by omega)
    have hlw : j + i < (win L j n x).length := by rw [win_len hj hx]; omega
    have q1 : wr.cell? ⟨g, j + i, none⟩ = some (.int .u32 (rd x (i : Int))) := by rw [HB.out.cell (j + i) hlw, win_at hj hx i hlt]
    have q2 : wr.frozen? ⟨g, j + i, none⟩ = false := HB.out.frozen _
    have a1 : (⟨g, j, none⟩ : Addr).add i = ⟨g, j + i, none⟩ := add_at g j i
    have e0 : decide (0 ≤ (i : Int)) = true := decide_eq_true (by omega)
    rw [if_pos (by omega)] at H
    by_cases hiv : i < vs.length
    ·have p2 : decide ((i : Int) < (vs.length : Int)) = true := decide_eq_true (by omega)
     rw [if_pos (by omega), if_pos (by omega), if_pos (by omega)] at H
     obtain ⟨⟨d, o⟩, h1, h2⟩ := Option.bind_eq_some_iff.mp H
     have h3 : impl_takeTimes.l0 k1 (x.set i d) vs t ((IntKind.u64.wrap (x7 + (IntKind.u64.wrap ((IntKind.u64.wrap t) * (IntKind.u64.wrap (rd vs (i : Int))))))) / 4294967296) o (n : Int) (wrap64 ((i : Int) + 1)) = some (r1, r2) := h2
     rw [wi (by omega) (by omega)] at h3
     have HS := Aside0.mk h1
     have H3 := Aside0.mk h3
     clear H h1 h2 h3
     obtain ⟨ad, e, hy⟩ := Kd.at_int (Kd.F_now (Kd.F_grown HV.out HG.out (fun k hk e => hk (Option.some.inj e)))) (i : Int) (by omega) (by omega)
     cases e
     rw [Int.toNat_natCast] at hy
     go_wp2_with (go_at_call 157; refine (sub_of HS.out _).mono ?_; rintro e w1 ⟨rfl, rfl⟩)
     go_roundg k1
     case rel => exact ⟨x.set i d, _, _, i + 1, rfl, rfl, by go_num, by omega, by simpa using hx, ⟨H3.out⟩, ⟨by rw [← win_set hj hx i hlt]; exact HB.out.put _ _⟩, ⟨grown_set HG.out _⟩, ⟨by have := HK.out; omega⟩⟩
     case measure => have := HK.out; omega
    ·have p2 : decide ((i : Int) < (vs.length : Int)) = false := decide_eq_false (by omega)
     rw [if_neg (by omega), if_pos (by omega), if_pos (by omega)] at H
     obtain ⟨⟨d, o⟩, h1, h2⟩ := Option.bind_eq_some_iff.mp H
     have h3 : impl_takeTimes.l0 k1 (x.set i d) vs t (x7 / 4294967296) o (n : Int) (wrap64 ((i : Int) + 1)) = some (r1, r2) := h2
     rw [wi (by omega) (by omega)] at h3
     have HS := Aside0.mk h1
     have H3 := Aside0.mk h3
     clear H h1 h2 h3
     go_wp2_with (go_at_call 157; refine (sub_of HS.out _).mono ?_; rintro e w1 ⟨rfl, rfl⟩)
     go_roundg k1
     case rel => exact ⟨x.set i d, _, _, i + 1, rfl, rfl, by go_num, by omega, by simpa using hx, ⟨H3.out⟩, ⟨by rw [← win_set hj hx i hlt]; exact HB.out.put _ _⟩, ⟨grown_set HG.out _⟩, ⟨by have := HK.out; omega⟩⟩
     case measure => have := HK.out; omega
   ·obtain rfl : i = n := by omega
    have p1 : decide ((i : Int) < (i : Int)) = false := decide_eq_false (by omega)
    rw [if_neg (by omega)] at H
    simp only [Option.some.injEq, Prod.mk.injEq] at H
    obtain ⟨rfl, rfl⟩ := H
    go_wp2
    go_ret
    exact ⟨rfl, HB.out, HG.out⟩
set_option maxHeartbeats 4000000 in
set_option maxRecDepth 100000 in
theorem give_any (g j n cap : Nat) (L vs : List Int) (A : Option Addr) (c : Nat) (k : Nat) (r : List Int) (w : World) (hL : Bk w g L) (hj : j + n ≤ L.length) (hn : n < 1073741824) (hv : Kd.F (Kd.int .u32) w (fun k => k ≠ g) A vs.length vs)
  (h : impl_giveBack.l0 k ((L.drop j).take n) vs 0 (n : Int) 0 = some r) :
  Calls Try.prog 156 #[.slice (some ⟨g, j, none⟩) n cap, .slice A vs.length c] w fun e w' => e = .returned (.tuple #[]) ∧ Bk w' g (win L j n r) ∧ w.grownBy w' (some g) := by
 have hu := Try.underlying108
 have hx0 : ((L.drop j).take n).length = n := by simp; omega
 have H0 := Aside0.mk h
 have HL := Aside0.mk (show Bk w g (win L j n ((L.drop j).take n)) by rw [win_self hj]; exact hL)
 have HV := Aside0.mk hv
 clear h hL hv
 go_enter Try.func156, Try.ntmps156
 go_wp2
 go_loopg [4, 9] k (fun kq v4 v9 wz => ∃ (x : List Int) (x4 : Int) (i : Nat), v4 = .int .u32 x4 ∧ v9 = .int .i64 (i : Int) ∧ i ≤ n ∧ x.length = n ∧ Aside0 (impl_giveBack.l0 kq x vs x4 (n : Int) (i : Int) = some r) ∧ Aside0 (Bk wz g (win L j n x)) ∧ Aside0 (w.grownBy wz (some g)) ∧ Aside0 (kq ≤ k))
 case atStart => exact ⟨_, 0, 0, rfl, rfl, by omega, hx0, H0, HL, ⟨grown_refl w _⟩, ⟨Nat.le_refl _⟩⟩
 case round =>
  clear H0 hx0
  obtain ⟨x, x4, i, rfl, rfl, hi, hx, HA, HB, HG, HK⟩ := hrel
  cases gk with
  | zero => exact absurd HA.out (by simp [impl_giveBack.l0])
  | succ k1 =>
   have H := HA.out
   clear HA
   simp only [impl_giveBack.l0] at H
   by_cases hlt : i < n
   ·have p1 : decide ((i : Int) < (n : Int)) = true := decide_eq_true (by omega)
    have hlw : j + i < (win L j n x).length := by rw [win_len hj hx]; omega
    have q1 : wr.cell? ⟨g, j + i, none⟩ = some (.int .u32 (rd x (i : Int))) := by rw [HB.out.cell (j + i) hlw, win_at hj hx i hlt]
    have q2 : wr.frozen? ⟨g, j + i, none⟩ = false := HB.out.frozen _
    have a1 : (⟨g, j, none⟩ : Addr).add i = ⟨g, j + i, none⟩ := add_at g j i
    have e0 : decide (0 ≤ (i : Int)) = true := decide_eq_true (by omega)
    rw [if_pos (by omega)] at H
    by_cases hiv : i < vs.length
    ·have p2 : decide ((i : Int) < (vs.length : Int)) = true := decide_eq_true (by omega)
     rw [if_pos (by omega), if_pos (by omega), if_pos (by omega)] at H
     obtain ⟨⟨d, o⟩, h1, h2⟩ := Option.bind_eq_some_iff.mp H
     have h3 : impl_giveBack.l0 k1 (x.set i d) vs o (n : Int) (wrap64 ((i : Int) + 1)) = some r := h2
     rw [wi (by omega) (by omega)] at h3
     simp only [bits_Add32.f, Option.some.injEq, Prod.mk.injEq] at h1
     obtain ⟨rfl, rfl⟩ := h1
     have H3 := Aside0.mk h3
     clear H h2 h3
     obtain ⟨ad, e, hy⟩ := Kd.at_int (Kd.F_now (Kd.F_grown HV.out HG.out (fun k hk e => hk (Option.some.inj e)))) (i : Int) (by omega) (by omega)
     cases e
     rw [Int.toNat_natCast] at hy
     go_wp2_with (go_at_call 159; refine (add_of _ _ _ _).mono ?_; rintro e w1 ⟨rfl, rfl⟩)
     go_roundg k1
     case rel => exact ⟨_, _, i + 1, rfl, by go_num, by omega, by simpa using hx, ⟨H3.out⟩, ⟨by rw [← win_set hj hx i hlt]; exact HB.out.put _ _⟩, ⟨grown_set HG.out _⟩, ⟨by have := HK.out; omega⟩⟩
     case measure => have := HK.out; omega
    ·have p2 : decide ((i : Int) < (vs.length : Int)) = false := decide_eq_false (by omega)
     rw [if_neg (by omega), if_pos (by omega), if_pos (by omega)] at H
     obtain ⟨⟨d, o⟩, h1, h2⟩ := Option.bind_eq_some_iff.mp H
     have h3 : impl_giveBack.l0 k1 (x.set i d) vs o (n : Int) (wrap64 ((i : Int) + 1)) = some r := h2
     rw [wi (by omega) (by omega)] at h3
     simp only [bits_Add32.f, Option.some.injEq, Prod.mk.injEq] at h1
     obtain ⟨rfl, rfl⟩ := h1
     have H3 := Aside0.mk h3
     clear H h2 h3
     go_wp2_with (go_at_call 159; refine (add_of _ _ _ _).mono ?_; rintro e w1 ⟨rfl, rfl⟩)
     go_roundg k1
     case rel => exact ⟨_, _, i + 1, rfl, by go_num, by omega, by simpa using hx, ⟨H3.out⟩, ⟨by rw [← win_set hj hx i hlt]; have e : IntKind.u64.wrap 0 = 0 := rfl; rw [e, Int.add_zero]; exact HB.out.put _ _⟩, ⟨grown_set HG.out _⟩, ⟨by have := HK.out; omega⟩⟩
     case measure => have := HK.out; omega
   ·obtain rfl : i = n := by omega
    have p1 : decide ((i : Int) < (i : Int)) = false := decide_eq_false (by omega)
    rw [if_neg (by omega)] at H
    obtain rfl := Option.some.inj H
    go_wp2
    go_end0
    exact ⟨rfl, HB.out, HG.out⟩
end Go.Proofs.Ytkafbmanmffliaa.Db

/- Rows of digits that a call has made; digits times a power of two. -/
namespace Go.Proofs.Ytkafbmanmffliaa.Dc
open Go Go.RowKit YtkafbmanmffliaaW.PrintWords YtkafbmanmffliaaW.PrintLast YtkafbmanmffliaaW.PrintMore Q Bg PuG Da Db
def U (B : Nat) (W : World) (v : Value) (xs : List Int) : Prop := (Kd.int .u32).R 146 W B (fun _ => True) v xs
variable {B : Nat} {W w1 : World} {u v v1 : Value} {xs ys : List Int}
theorem U.of {ok : Nat → Prop} (h : (Kd.int .u32).R 146 W B ok v xs) : U B W v xs := Kd.R_mono h (fun _ _ => trivial)
theorem U.lt (h : U B W v xs) {k : Nat} (hk : v.ownBlock = some k) : k < W.heap.size := Kd.R_lt h k hk
theorem U.below (h : U B W v xs) (hb : Below W.heap.size W w1) : U B w1 v xs := Kd.R_below h hb
theorem U.lower {B' : Nat} (h : U B W v xs) (hb : B' ≤ B) : U B' W v xs := Kd.R_lower h hb
theorem U.slice (h : U B W v xs) : ∃ A c, v = .slice A xs.length c := Kd.R_slice h
theorem U.reads {A : Option Addr} {n c : Nat} (h : U B W (.slice A n c) xs) : n = xs.length ∧ n ≤ c ∧ (Kd.int .u32).C W A xs.length xs := Kd.R_reads' h
theorem U.take {A : Option Addr} {n c m : Nat} (h : U B W (.slice A n c) xs) (hm : m ≤ xs.length) : U B W (.slice A m c) (xs.take m) := Kd.R_take h hm
theorem U.nil_new (hB : B ≤ W.heap.size) : U B (W.alloc (.cells #[] 146)) (.slice (some ⟨W.heap.size, 0, none⟩) 0 0) [] := by
 have ho : (W.alloc (.cells #[] 146)).ownsRow B 146 1 (.slice (some ⟨W.heap.size, 0, none⟩) 0 0) ([] : List Int).length (encs (Value.int .u32) []) :=
  ⟨rfl, .inr ⟨W.heap.size, 0, #[], rfl, hB, by simpa using heap_alloc_new W _, Nat.le_refl _, by simp [maxLen], rfl, rfl⟩⟩
 exact Kd.R_of_own ho (fun _ _ => trivial)
theorem U.nil : U B W (.slice none 0 0) [] := Kd.R_nil _ _ _ _ _
theorem U.append {P : Program} {ops : Array Oper} {Q : Exit → Act → World → Prop} {rest : List Oper} {o : Oper} {a : Act} {w0 : World} (hP : P = Try.prog) (hgd : o.guard = none) (s x : Operand)
  (ho : o.op = .call { callee := .builtin .append, args := #[s, x], argTypes := #[108, 108] }) (p : Int) (hs : a.eval s = v) (hx : a.eval x = .slice (some ⟨W.heap.size, 0, none⟩) 1 1)
  (HO : U B W v xs) (HB : Below B w0 W) (hbase : B ≤ W.heap.size) (hl : xs.length ≤ 1073741824)
  (h : ∀ v1 w1, U B w1 v1 (xs ++ [p]) → Below B w0 w1 → W.grownBy w1 v.ownBlock → (v1.ownBlock = v.ownBlock ∨ ∃ b, v1.ownBlock = some b ∧ W.heap.size ≤ b) → wpList P ops Q rest (a.put o.dst v1) w1) :
  wpList P ops Q (o :: rest) a (W.alloc (.cells #[.int .u32 p] 146)) := by
 subst hP
 exact Kd.R_append (Kd.int .u32) (w0 := w0) B hgd s x 108 146 (.int .u32 0) 4 ho Try.underlying108 infoU rfl (by decide) (by omega) v xs p [.int .u32 p] (fun _ => True) (fun _ => False) hs hx rfl (fun _ hk => hk.elim) (fun _ _ => trivial) HO HB hbase (by omega) h
theorem mkU (m : Nat) (hm : m ≤ 1073741824) : ∀ W : World, (Instr.makeSlice 108 (.int .i64 0) (.int .i64 (m : Int))).run Try.prog W = .ok (.slice (some ⟨W.heap.size, 0, none⟩) 0 m) (W.alloc (.cells (madeCells #[.int .u32 0] m) 146)) := fun W =>
 run_make_room 108 146 (.int .u32 0) 4 Try.underlying108 infoU rfl .i64 .i64 m (by omega) (by omega) W
theorem U.room (m : Nat) (hm : m ≤ 1073741824) (hB : B ≤ W.heap.size) : U B (W.alloc (.cells (madeCells #[.int .u32 0] m) 146)) (.slice (some ⟨W.heap.size, 0, none⟩) 0 m) [] := by
 have ho := World.ownsRow_made (base := B) (e := 146) (size := 1) W (madeCells #[.int .u32 0] m) m hB (by simp [maxLen]; omega) (by simp [madeCells])
 exact Kd.R_of_own (xs := []) ho (fun _ _ => trivial)
theorem or_shift {c x : Int} {s : Nat} (hs : s ≤ 31) (c0 : 0 ≤ c) (c1 : c < 2 ^ s) (x0 : 0 ≤ x) (x1 : x < 4294967296) : Go.bits .or .u64 c (x * 2 ^ s) = c + x * 2 ^ s := by
 have hp : (2 : Int) ^ s ≤ 2 ^ 31 := by exact_mod_cast Nat.pow_le_pow_right (n := 2) (by decide) hs
 have hp0 : (0 : Int) < 2 ^ s := Int.pow_pos (by decide)
 have e31 : (2 : Int) ^ 31 = 2147483648 := by decide
 have h1 : x * 2 ^ s ≤ x * 2147483648 := Int.mul_le_mul_of_nonneg_left (by omega) x0
 exact bits_join_low .u64 64 (by decide) wraps_u64 s c (x * 2 ^ s) c0 c1 (by omega) (Int.mul_nonneg x0 (by omega)) (Int.mul_emod_left _ _) (by omega)
set_option maxHeartbeats 4000000 in
set_option maxRecDepth 100000 in
theorem shift_any (A : Option Addr) (c : Nat) (ds : List Int) (s : Nat) (w : World) (hC : Kd.C (Kd.int .u32) w A ds.length ds) (hc : ds.length ≤ c) (hd : Dig ds) (hl : ds.length < 1073741824) (hs : s ≤ 31) :
  Calls Try.prog 154 #[.slice A ds.length c, .int .u64 (s : Int)] w fun e w' => ∃ v r, e = .returned v ∧ U w.heap.size w' v r ∧ Dig r ∧ Trim r ∧ val r = val ds * 2 ^ s ∧ r.length ≤ ds.length + 1 ∧ Below w.heap.size w w' := by
 have hu := Try.underlying108
 have e2 : (s : Int) / 32 = 0 := by omega
 have e4 : (s : Int) % 32 = (s : Int) := by omega
 have mk := mkU (ds.length + 1) (by omega)
 rw [show ((ds.length + 1 : Nat) : Int) = (ds.length : Int) + 1 by omega] at mk
 have HC := Aside0.mk hC
 have HCC := Aside0.mk hc
 have HD := Aside0.mk hd
 clear hC hc hd
 go_enter Try.func154, Try.ntmps154
 go_wp2
 have tb := Aside0.mk (below_alloc (Below.refl w.heap.size w) (.cells (madeCells #[.int .u32 0] (ds.length + 1)) 146))
 have t0 := Aside0.mk (U.room (B := w.heap.size) (W := w) (ds.length + 1) (by omega) (Nat.le_refl _))
 have hp0 : (0 : Int) < 2 ^ s := Int.pow_pos (by decide)
 have hp1 : (2 : Int) ^ s ≤ 2147483648 := by
  have : (2 : Int) ^ s ≤ 2 ^ 31 := by exact_mod_cast Nat.pow_le_pow_right (n := 2) (by decide) hs
  have e31 : (2 : Int) ^ 31 = 2147483648 := by decide
  omega
 go_loopw [5, 6, 22] (fun v5 v6 v22 wz => ∃ (i : Nat) (ys : List Int) (cr : Int), v6 = .int .u64 cr ∧ v22 = .int .i64 (i : Int) ∧ i ≤ ds.length ∧ ys.length = i ∧ Aside0 (U w.heap.size wz v5 ys) ∧ Aside0 (Dig ys ∧ 0 ≤ cr ∧ cr < 2 ^ s ∧ val ys + bp i * cr = val (ds.take i) * 2 ^ s) ∧ Aside0 (Below w.heap.size w wz)) (fun _ _ v _ => ds.length - (intOf v).toNat)
 case atStart => exact ⟨0, [], 0, rfl, rfl, by omega, rfl, t0, ⟨Dig.nil, by omega, hp0, by simp [val]⟩, tb⟩
 case round =>
  clear t0 tb
  obtain ⟨i, ys, cr, rfl, rfl, hi, hy, HU, HF, HB⟩ := hrel
  by_cases hlt : i < ds.length
  ·have p1 : decide ((i : Int) < (ds.length : Int)) = true := decide_eq_true (by omega)
   obtain ⟨ad, e, hx⟩ := Kd.at_int (Kd.C_below HC.out HB.out) (i : Int) (by omega) (by omega)
   cases e
   rw [Int.toNat_natCast] at hx
   have hdi := HD.out.at i hlt
   rw [rd_at i hlt] at hx
   obtain ⟨x, hxx⟩ : ∃ x, x = ds[i] := ⟨_, rfl⟩
   rw [← hxx] at hx hdi
   obtain ⟨hd1, hc0, hc1, hv⟩ := HF.out
   have hm1 : x * 2 ^ s ≤ x * 2147483648 := Int.mul_le_mul_of_nonneg_left hp1 hdi.1
   have hm0 : 0 ≤ x * 2 ^ s := Int.mul_nonneg hdi.1 (by omega)
   have hm2 : x * 2 ^ s ≤ 4294967295 * 2 ^ s := Int.mul_le_mul_of_nonneg_right (by omega) (by omega)
   obtain ⟨m, hm⟩ : ∃ m, m = cr + x * 2 ^ s := ⟨_, rfl⟩
   have hor : bits BinOp.or IntKind.u64 cr (IntKind.u64.wrap (IntKind.u64.wrap x * 2 ^ s)) = m := by
    rw [w64 hdi.1 (by omega), w64 hm0 (by omega), or_shift hs hc0 hc1 hdi.1 hdi.2, hm]
   have hmB : m / 4294967296 < 2 ^ s := Int.ediv_lt_of_lt_mul (by omega) (by omega)
   have HN := Aside0.mk (show Dig (ys ++ [m % 4294967296]) ∧ 0 ≤ m / 4294967296 ∧ m / 4294967296 < 2 ^ s ∧ val (ys ++ [m % 4294967296]) + bp (i + 1) * (m / 4294967296) = val (ds.take (i + 1)) * 2 ^ s by
    refine ⟨Dig.append.2 ⟨hd1, Dig.cons.2 ⟨by omega, Dig.nil⟩⟩, by omega, hmB, ?_⟩
    rw [val_append, hy, val_take_succ i hlt, ← hxx, bp_succ]
    simp only [val]
    have e := Int.mul_ediv_add_emod m 4294967296
    generalize m / 4294967296 = q at *
    generalize m % 4294967296 = r at *
    grind)
   clear hd1 hc0 hc1 hv hm1 hm0 hm2 hm hmB HF hxx hdi
   go_wp2_with ((with_reducible refine gate_builtin (b := .append) (xs := #[.tmp 33, .tmp 36]) rfl ?_); at_builtin; refine U.append (w0 := w) rfl rfl (.tmp 33) (.tmp 36) rfl (m % 4294967296) rfl rfl HU.out HB.out HB.out.size (by omega) ?_; intro v1 w4 h1 h2 h3 h4; have n1 := Aside0.mk h1; have n2 := Aside0.mk h2; clear h1 h2 h3 h4)
   go_roundw
   case rel => exact ⟨i + 1, _, _, rfl, by go_num, by omega, by simp [hy], n1, HN, n2⟩
   case measure => simp [intOf]; omega
  ·obtain rfl : i = ds.length := by omega
   have p1 : decide ((ds.length : Int) < (ds.length : Int)) = false := decide_eq_false (by omega)
   obtain ⟨hd1, hc0, hc1, hv⟩ := HF.out
   have HN := Aside0.mk (show Dig (ys ++ [cr % 4294967296]) ∧ val (ys ++ [cr % 4294967296]) = val ds * 2 ^ s by
    have e : cr % 4294967296 = cr := by omega
    rw [e]
    refine ⟨Dig.append.2 ⟨hd1, Dig.cons.2 ⟨by omega, Dig.nil⟩⟩, ?_⟩
    rw [val_append, hy]
    rw [val_take_all (Nat.le_refl _)] at hv
    simp only [val, Int.mul_zero, Int.add_zero]
    exact hv)
   obtain ⟨zs, hzs⟩ : ∃ zs, zs = ys ++ [cr % 4294967296] := ⟨_, rfl⟩
   have hzl : zs.length = ds.length + 1 := by rw [hzs]; simp [hy]
   rw [← hzs] at HN
   have HZ := Aside0.mk hzs
   have HL := Aside0.mk hzl
   clear hd1 hc0 hc1 hv HF hzs hzl
   go_wp2_with ((with_reducible refine gate_builtin (b := .append) (xs := #[.tmp 41, .tmp 44]) rfl ?_); at_builtin; refine U.append (w0 := w) rfl rfl (.tmp 41) (.tmp 44) rfl (cr % 4294967296) rfl rfl HU.out HB.out HB.out.size (by omega) ?_; intro v1 w4 h1 h2 h3 h4; rw [← HZ.out] at h1; obtain ⟨A1, c1, hv1⟩ := U.slice h1; subst hv1; have n1 := Aside0.mk h1; have n2 := Aside0.mk h2; clear h1 h2 h3 h4)
   refine (trim_any A1 c1 zs w4 (U.reads n1.out).2.2 (U.reads n1.out).2.1).mono ?_
   rintro e w5 ⟨rfl, rfl⟩
   go_wp2
   go_ret
   have hle := tl_le zs zs.length
   have hv := tl_val zs zs.length (Nat.le_refl _)
   rw [List.take_of_length_le (Nat.le_refl _)] at hv
   exact ⟨_, _, rfl, n1.out.take hle, HN.out.1.take _, tl_trim zs zs.length (Nat.le_refl _), by rw [hv]; exact HN.out.2, by rw [List.length_take, HL.out]; omega, n2.out⟩
end Go.Proofs.Ytkafbmanmffliaa.Dc

