/- Parts of the proof that the law of this seat holds: Pa, Pe, Ex3, LwLS. -/
import Derived.Test.YtkafbmanmffliaaGVpm
import Derived.Test.YtkafbmanmffliaaGVpn
import Derived.Test.YtkafbmanmffliaaGVpo
import Derived.Deep.QuietTactic
import Derived.BigQuiet
set_option linter.unusedVariables false
set_option linter.unusedSimpArgs false
/- Plain: what a connected survey's told numbers are: heights, residuals, and the weighted residuals at a point. -/
namespace Go.Proofs.Ytkafbmanmffliaa.Pa
open Go Go.RowKit YtkafbmanmffliaaW.PrintWords Q Kc Ke Kf Gv Lo Lo2 Ex Sb
def ge (n : Nat) (l : List S32) : Nat := gcdAll (dn n l) (l.map (resN n l))
def gh (n : Nat) (l : List S32) : Nat := gcdAll (dn n l) (nuL l (rgt n l) n)
def ev (n : Nat) (l : List S32) (s : S32) : Int := resN n l s / (ge n l : Int)
def hv (n : Nat) (l : List S32) (p : Int) : Int := nu l (rgt n l) n p / (gh n l : Int)
def eD (n : Nat) (l : List S32) : Int := ((dn n l / ge n l : Nat) : Int)
def hD (n : Nat) (l : List S32) : Int := ((dn n l / gh n l : Nat) : Int)
section
variable {n : Nat} {l : List S32} (hc : Gm.connB ((n : Int) + 1) l = true)
include hc
theorem ge_facts : 0 < ge n l ∧ eD n l * (ge n l : Int) = dn n l ∧ ∀ s ∈ l, ev n l s * (ge n l : Int) = resN n l s := by
 have h1 := dn_pos hc
 have h2 := gcd_dvd (l.map (resN n l)) (dn n l)
 have h3 : 0 < ge n l := Nat.pos_of_dvd_of_pos h2.1 h1.1
 refine ⟨h3, by unfold eD; exact_mod_cast Nat.div_mul_cancel h2.1, fun s hs => ?_⟩
 unfold ev
 exact Int.ediv_mul_cancel (Int.natAbs_dvd_natAbs.1 (by rw [Int.natAbs_natCast]; exact h2.2 _ (List.mem_map.2 ⟨s, hs, rfl⟩)))
theorem eD_pos : 1 ≤ eD n l ∧ eD n l ≤ 27648 := by
 have h1 := ge_facts hc
 have h2 := dn_pos hc
 have h3 := den_small hc
 have h4 := Nat.div_le_self (dn n l) (ge n l)
 have h5 := h1.2.1
 unfold eD at h5 ⊢
 obtain ⟨q, hq⟩ : ∃ q, q = dn n l / ge n l := ⟨_, rfl⟩
 rw [← hq] at h4 h5 ⊢
 have h6 : q ≠ 0 := fun e => by rw [e] at h5; omega
 omega
theorem resL_eq : resL ((n : Int) + 1) l = l.map (ev n l) ∧ resD ((n : Int) + 1) l = eD n l := by
 unfold resL resD
 rw [if_pos hc, if_pos hc, wp_eq]
 exact ⟨by unfold lowL; rw [List.map_map]; rfl, rfl⟩
theorem res_ev (s : S32) (hs : s ∈ l) : res n l s = (ev n l s : Rat) / (eD n l : Rat) := by
 have h1 := ge_facts hc
 have h2 := dn_pos hc
 have h3 := eD_pos hc
 have e1 : resN n l s = ev n l s * (ge n l : Int) := (h1.2.2 s hs).symm
 have e2 : ((dn n l : Nat) : Int) = eD n l * (ge n l : Int) := h1.2.1.symm
 rw [res_mk hc, mkq, e1, e2, Rat.intCast_mul, Rat.intCast_mul]
 have n1 : ((ge n l : Int) : Rat) ≠ 0 := by exact_mod_cast (show (ge n l : Int) ≠ 0 by omega)
 have n2 : ((eD n l : Int) : Rat) ≠ 0 := by exact_mod_cast (show (eD n l : Int) ≠ 0 by omega)
 grind
end
def pri (n : Nat) (l : List S32) (s : S32) : S32 := ⟨s.f0, s.f1, ev n l s, s.f3⟩
def lpr (n : Nat) (l : List S32) : List S32 := l.map (pri n l)
section
variable {n : Nat} {l : List S32} (hc : Gm.connB ((n : Int) + 1) l = true)
include hc
end
end Go.Proofs.Ytkafbmanmffliaa.Pa

/- Plain: sums of weighted squares: of the told residuals, and of those of guessed heights. -/
namespace Go.Proofs.Ytkafbmanmffliaa.Pe
open Go Go.RowKit YtkafbmanmffliaaW.PrintWords Q Gn Gz Ka Kc Ke Kf Ex Sb Pa Pd
def sq3 (w e : Int) : Int := w * e * e
def oI (n : Nat) (l : List S32) (i : Nat) : Int := smI (fun s => sq3 s.f3 (ev n l s)) (l.take i)
def dd (g : Int → Int) (s : S32) : Int := s.f2 - g s.f1 + g s.f0
def tI (g : Int → Int) (l : List S32) (i : Nat) : Int := smI (fun s => sq3 s.f3 (dd g s)) (l.take i)
theorem smI_take {f : S32 → Int} {l : List S32} {i : Nat} (h : i < l.length) : smI f (l.take (i + 1)) = smI f (l.take i) + f (rd_T32 l i) := by
 rw [List.take_succ_eq_append_getElem h, smI_append]
 have e : rd_T32 l i = l[i] := by simp [rd_T32, h]
 rw [e]
 simp [smI]
theorem sq3_le {w e M : Int} (hw : 1 ≤ w) (hw3 : w ≤ 3) (hM : 0 ≤ M) (he : -M ≤ e) (he2 : e ≤ M) : 0 ≤ sq3 w e ∧ sq3 w e ≤ 3 * (M * M) ∧ -(3 * M) ≤ w * e ∧ w * e ≤ 3 * M := by
 have h1 := mulb hM hM (show Bd M e from ⟨he, he2⟩) (show Bd M e from ⟨he, he2⟩)
 have h0 := La.sq_nonneg' e
 unfold Bd at h1
 have e1 : sq3 w e = w * (e * e) := by unfold sq3; rw [Int.mul_assoc]
 rw [e1]
 obtain ⟨q, hq⟩ : ∃ q, q = e * e := ⟨_, rfl⟩
 rw [← hq] at h0 h1 ⊢
 have c3 : w = 1 ∨ w = 2 ∨ w = 3 := by omega
 rcases c3 with r | r | r <;> rw [r] <;> omega
theorem smI_le {f : S32 → Int} {M : Int} (l : List S32) (h : ∀ s ∈ l, 0 ≤ f s ∧ f s ≤ M) : 0 ≤ smI f l ∧ smI f l ≤ M * l.length := by
 induction l with
 | nil => simp [smI]
 | cons s t ih =>
  have h1 := h s (by simp)
  have h2 := ih (fun u hu => h u (by simp [hu]))
  simp only [smI, List.length_cons]
  have e : M * ((t.length + 1 : Nat) : Int) = M * (t.length : Int) + M := by push_cast; grind
  rw [e]
  omega
section
variable {n : Nat} {l : List S32} (hc : Gm.connB ((n : Int) + 1) l = true)
include hc
theorem ssq_cast : ((oI n l l.length : Int) : Rat) = ssq n l * ((eD n l : Rat) * (eD n l : Rat)) := by
 have h3 := eD_pos hc
 have n2 : ((eD n l : Int) : Rat) ≠ 0 := by exact_mod_cast (show (eD n l : Int) ≠ 0 by omega)
 unfold oI ssq
 rw [List.take_of_length_le (Nat.le_refl _), smI_cast, Rat.mul_comm, ← sm_mul]
 refine sm_congr (fun s hs => ?_)
 unfold sqr sq3
 rw [res_ev hc s hs, Rat.intCast_mul, Rat.intCast_mul]
 grind
theorem ev_le (s : S32) (hs : s ∈ l) : -13824000 ≤ ev n l s ∧ ev n l s ≤ 13824000 := by
 have h3 := eD_pos hc
 have n2 : ((eD n l : Int) : Rat) ≠ 0 := by exact_mod_cast (show (eD n l : Int) ≠ 0 by omega)
 have h1 : sqr n l s ≤ ssq n l := sm_one (fun t ht => term_nonneg (w_pos hc t ht)) s hs
 have h2 := ssq_le hc
 have hw := w_pos hc s hs
 have h4 : res n l s * res n l s ≤ ((240000 : Int) : Rat) := by
  have h5 : 1 * (res n l s * res n l s) ≤ (s.f3 : Rat) * (res n l s * res n l s) := Rat.mul_le_mul_of_nonneg_right hw (sq_nn _)
  unfold sqr at h1
  rw [Rat.one_mul] at h5
  exact Rat.le_trans h5 (Rat.le_trans h1 h2)
 rw [res_ev hc s hs] at h4
 obtain ⟨E, hE⟩ : ∃ E, E = ev n l s := ⟨_, rfl⟩
 obtain ⟨D, hD⟩ : ∃ D, D = eD n l := ⟨_, rfl⟩
 rw [← hE] at h4 ⊢
 rw [← hD] at h3 h4 n2
 have hp : (0 : Rat) < (D : Rat) := by exact_mod_cast (show 0 < D by omega)
 have h6 := Rat.mul_le_mul_of_nonneg_right h4 (Rat.le_of_lt (Rat.mul_pos hp hp))
 have e1 : (E : Rat) / (D : Rat) * ((E : Rat) / (D : Rat)) * ((D : Rat) * (D : Rat)) = (E : Rat) * (E : Rat) := by grind
 rw [e1, ← Rat.intCast_mul, ← Rat.intCast_mul, ← Rat.intCast_mul] at h6
 have h7 : E * E ≤ 240000 * (D * D) := Rat.intCast_le_intCast.1 h6
 have h8 : D * D ≤ 27648 * 27648 := La.mul_le (by omega) (by omega) (by omega) (by omega)
 constructor
 ·by_cases hlt : -13824000 ≤ E
  ·exact hlt
  ·exfalso
   have := La.mul_le (a := 13824000) (b := -E) (c := 13824000) (d := -E) (by omega) (by omega) (by omega) (by omega)
   rw [Int.neg_mul_neg] at this
   omega
 ·by_cases hlt : E ≤ 13824000
  ·exact hlt
  ·exfalso
   have := La.mul_le (a := 13824000) (b := E) (c := 13824000) (d := E) (by omega) (by omega) (by omega) (by omega)
   omega
theorem oI_le (i : Nat) : 0 ≤ oI n l i ∧ oI n l i ≤ 4586471424000000 := by
 have h := smI_le (f := fun s => sq3 s.f3 (ev n l s)) (M := 573308928000000) (l.take i) (fun s hs => by
  have hm := List.mem_of_mem_take hs
  have h1 := ev_le hc s hm
  have h2 := mem_at (conn_v hc) s hm
  have h3 := sq3_le (M := 13824000) (by omega) h2.2.2.2.2.2.2.2.2 (by omega) h1.1 h1.2
  omega)
 have hl : (l.take i).length ≤ 8 := by have := (conn_n hc).2.2; simp; omega
 unfold oI
 omega
theorem dd_le {g : Int → Int} (hg : ∀ p, 0 ≤ p → -20 ≤ g p ∧ g p ≤ 20) (s : S32) (hs : s ∈ l) : -140 ≤ dd g s ∧ dd g s ≤ 140 := by
 have h2 := mem_at (conn_v hc) s hs
 have h3 := hg s.f0 (by omega)
 have h4 := hg s.f1 (by omega)
 unfold dd
 omega
theorem tI_le {g : Int → Int} (hg : ∀ p, 0 ≤ p → -20 ≤ g p ∧ g p ≤ 20) (i : Nat) : 0 ≤ tI g l i ∧ tI g l i ≤ 470400 := by
 have h := smI_le (f := fun s => sq3 s.f3 (dd g s)) (M := 58800) (l.take i) (fun s hs => by
  have hm := List.mem_of_mem_take hs
  have h1 := dd_le hc hg s hm
  have h2 := mem_at (conn_v hc) s hm
  have h3 := sq3_le (M := 140) (by omega) h2.2.2.2.2.2.2.2.2 (by omega) h1.1 h1.2
  omega)
 have hl : (l.take i).length ≤ 8 := by have := (conn_n hc).2.2; simp; omega
 unfold tI
 omega
theorem ls_nums : 0 ≤ (ssq n l).num ∧ 1 ≤ ((ssq n l).den : Int) ∧ ((ssq n l).den : Int) ≤ 764411904 ∧ (ssq n l).num ≤ 240000 * ((ssq n l).den : Int) ∧ oI n l l.length * ((ssq n l).den : Int) = (ssq n l).num * (eD n l * eD n l) := by
 have h1 := dn_pos hc
 have h2 := den_small hc
 have h0 : 0 ≤ ssq n l := sm_nonneg (fun t ht => term_nonneg (w_pos hc t ht))
 have hm : dn n l * dn n l ≤ 27648 * 27648 := Nat.mul_le_mul (by omega) (by omega)
 have h3 := den_le (Nat.mul_pos h1.1 h1.1) (ssq_mk hc)
 have h4 := ssq_cast hc
 have h5 := ssq_le hc
 obtain ⟨q, hq⟩ : ∃ q, q = ssq n l := ⟨_, rfl⟩
 rw [← hq] at h0 h3 h4 h5 ⊢
 have e := (as_div q).1
 have n1 := (as_div q).2
 have p1 : (0 : Rat) < ((q.den : Int) : Rat) := by have := q.den_pos; exact_mod_cast (show (0 : Int) < (q.den : Int) by omega)
 have e2 : q * ((q.den : Int) : Rat) = (q.num : Rat) := by grind
 refine ⟨Rat.num_nonneg.2 h0, by omega, by omega, ?_, ?_⟩
 ·have h7 := Rat.mul_le_mul_of_nonneg_right h5 (Rat.le_of_lt p1)
  rw [e2, ← Rat.intCast_mul] at h7
  exact Rat.intCast_le_intCast.1 h7
 ·have h8 : ((oI n l l.length * (q.den : Int) : Int) : Rat) = ((q.num * (eD n l * eD n l) : Int) : Rat) := by
   rw [Rat.intCast_mul, Rat.intCast_mul, Rat.intCast_mul, h4, ← e2]
   grind
  exact_mod_cast h8
theorem ls_least (g : Int → Int) : (ssq n l).num ≤ tI g l l.length * ((ssq n l).den : Int) := by
 have h := least hc (fun p => ((g p : Int) : Rat))
 have e0 : sm (fun s : S32 => (s.f3 : Rat) * (res n l s * res n l s)) l = ssq n l := rfl
 have e1 : sm (fun s : S32 => (s.f3 : Rat) * (((s.f2 : Rat) - dif (fun p => ((g p : Int) : Rat)) s) * ((s.f2 : Rat) - dif (fun p => ((g p : Int) : Rat)) s))) l = ((tI g l l.length : Int) : Rat) := by
  unfold tI
  rw [List.take_of_length_le (Nat.le_refl _), smI_cast]
  refine sm_congr (fun s hs => ?_)
  unfold sq3 dd dif
  push_cast
  grind
 rw [e0, e1] at h
 obtain ⟨q, hq⟩ : ∃ q, q = ssq n l := ⟨_, rfl⟩
 rw [← hq] at h ⊢
 have e := (as_div q).1
 have n1 := (as_div q).2
 have p1 : (0 : Rat) < ((q.den : Int) : Rat) := by have := q.den_pos; exact_mod_cast (show (0 : Int) < (q.den : Int) by omega)
 have e2 : q * ((q.den : Int) : Rat) = (q.num : Rat) := by grind
 have h7 := Rat.mul_le_mul_of_nonneg_right h (Rat.le_of_lt p1)
 rw [e2, ← Rat.intCast_mul] at h7
 exact Rat.intCast_le_intCast.1 h7
end
end Go.Proofs.Ytkafbmanmffliaa.Pe

/- The program's SquareSumOf: what it returns. -/
namespace Go.Proofs.Ytkafbmanmffliaa.Ex3
open Go Go.RowKit YtkafbmanmffliaaW.PrintWords YtkafbmanmffliaaW.PrintLast YtkafbmanmffliaaW.PrintMore Q Bg Dd Bi Rt Rx Ra Gd Ge Hc Gs Gn Ka Ke Kf Gu Gz Ex Ex2 Sb
def part (n : Nat) (l : List S32) (i : Nat) : Rat := sm (sqr n l) (l.take i)
theorem part_succ (n : Nat) (l : List S32) (i : Nat) (h : i < l.length) : part n l (i + 1) = part n l i + sqr n l (rd_T32 l i) := by
 unfold part
 rw [List.take_succ_eq_append_getElem h, sm_append, rd_mem h]
 simp only [sm]
 grind
theorem sm_sqr {n : Nat} {l : List S32} (hc : Gm.connB ((n : Int) + 1) l = true) (s : S32) (hs : s ∈ l) : Sm 221 (sqr n l s) := by
 have hv := mem_at (conn_v hc) s hs
 have h1 : Sm 31 ((s.f3 : Int) : Rat) := sm31 (by omega)
 have h2 := sm_res hc s hs
 exact Sm.mul h1 (Sm.mul h2 h2)
theorem sm_part {n : Nat} {l : List S32} (hc : Gm.connB ((n : Int) + 1) l = true) (i : Nat) (hi : i ≤ l.length) : Sm (1 + 222 * i) (part n l i) := by
 induction i with
 | zero => exact Sm.int (i := 1) (n := 0) (by decide) (by decide)
 | succ i ih =>
  rw [part_succ _ _ _ (by omega)]
  have h2 := sm_sqr hc (rd_T32 l i) (by rw [rd_mem (by omega)]; exact List.getElem_mem _)
  exact Sm.mono (by omega) (Sm.add (ih (by omega)) h2)
theorem ssq_size {n : Nat} {l : List S32} (hc : Gm.connB ((n : Int) + 1) l = true) : (ssq n l).num.natAbs < 2 ^ 63 ∧ (ssq n l).den < 2 ^ 63 := by
 have h1 := dn_pos hc
 have h2 := den_small hc
 have h3 := sumN_le hc
 have e63 : (2 : Nat) ^ 63 = 9223372036854775808 := by decide
 have h4 : (dn n l : Int) * (dn n l : Int) ≤ 27648 * 27648 := La.mul_le (by omega) (by omega) (by omega) (by omega)
 have h5 : 0 < (dn n l : Int) * (dn n l : Int) := Int.mul_pos (by omega) (by omega)
 obtain ⟨d, hd⟩ : ∃ d, d = dn n l * dn n l := ⟨_, rfl⟩
 have hd' : (d : Int) = (dn n l : Int) * (dn n l : Int) := by rw [hd]; push_cast; rfl
 have := sm_mk (a := smI (sqN n l) l) (d := d) (k := 63) (by omega) (by omega) (by omega)
 rw [ssq_mk hc, ← hd]
 exact this
set_option maxHeartbeats 4000000 in
set_option maxRecDepth 100000 in
theorem squareSum_any (p : Int) (l : List S32) (A : Option Addr) (c : Nat) (w : World) (hr : Kd.C k32 w A l.length l) (hcl : l.length ≤ c) (hl : l.length ≤ 1048576) :
  Calls Try.prog 25 #[.agg #[.int .i64 p, .slice A l.length c]] w (Post2 w (ssq (wp p) l) (Gm.connB p l)) := by
 unfold Post2
 have hu26 := Try.underlying26
 have hu69 := Try.underlying69
 have hbx := below_alloc (Below.refl w.heap.size w) (SX p A l.length c)
 have HR := Aside0.mk (Kd.C_below hr hbx)
 have HX := Aside0.mk (heap_alloc_new w (SX p A l.length c))
 have hc0 := conn_any p l A c (w.alloc (SX p A l.length c)) HR.out hcl hl
 have HCL := Aside0.mk hcl
 have HB := Aside0.mk hbx
 clear hr hcl hl hbx
 by_cases h : Gm.connB p l = true
 ·obtain ⟨n, rfl⟩ := conn_nat h
  have hl8 := (conn_n h).2.2
  have HC := Aside0.mk h
  have HN := Aside0.mk (show okN (Gm.connB ((n : Int) + 1) l) (ssq (wp ((n : Int) + 1)) l) = (ssq n l).num by unfold okN; rw [if_pos h, wp_eq])
  have HD := Aside0.mk (show okD (Gm.connB ((n : Int) + 1) l) (ssq (wp ((n : Int) + 1)) l) = ((ssq n l).den : Int) by unfold okD; rw [if_pos h, wp_eq])
  rw [h] at hc0 HN HD
  rw [h]
  clear h
  go_enter Try.func25, Try.ntmps25
  go_wp2_with (fail)
  refine hc0.mono ?_
  rintro e w1 ⟨rfl, hb1⟩
  have HB1 := Aside0.mk (below_step HB.out hb1)
  have HBQ := Aside0.mk hb1
  clear hb1 hc0
  go_wp2_with (fail)
  refine (whole_any 0 w1 (by decide) (by decide)).mono ?_
  rintro e w2 ⟨p2, rfl, hp2, hz2, hb2⟩
  have HZ := Aside0.mk hz2
  have HB2 := Aside0.mk (below_step HBQ.out hb2)
  have hbk := blk_below HX.out HB2.out
  have c0 : w2.cell? ⟨w.heap.size, 0, none⟩ = some (.int .i64 ((n : Int) + 1)) := (blk_cell hbk 0).trans rfl
  have c1 : w2.cell? ⟨w.heap.size, 1, none⟩ = some (.slice A l.length c) := (blk_cell hbk 1).trans rfl
  have hc1 := squares_any n l HC.out A c w2 (Kd.C_below HR.out HB2.out) HCL.out
  clear hp2 hz2 hb2 hbk
  go_wp2_with (fail)
  refine hc1.mono ?_
  rintro e w3 ⟨bH, capH, usH, rfl, hH⟩
  have HH := Aside0.mk hH
  have HB3 := Aside0.mk (HB.out.trans ((below_step HB2.out hH.2.2.2).mono (by simp)))
  have t0 := Aside0.mk (show RI w3 p2 (part n l 0) from RI.below HZ.out hH.2.2.2)
  clear hc1 hH c0 c1 HZ
  go_wp2_with (fail)
  go_loopw [5, 17] (fun v5 v17 wz => ∃ (i pz : Nat), v5 = .pointer (some ⟨pz, 0, none⟩) ∧ v17 = .int .i64 (i : Int) ∧ i ≤ l.length ∧ Aside0 (RI wz pz (part n l i)) ∧ Aside0 (Below w3.heap.size w3 wz)) (fun _ v _ => l.length - (intOf v).toNat)
  case atStart => exact ⟨0, p2, rfl, rfl, by omega, t0, ⟨Below.refl _ _⟩⟩
  case round =>
   clear t0
   obtain ⟨i, pz, rfl, rfl, hi, HZ, HBZ⟩ := hrel
   by_cases hlt : i < l.length
   ·have p1 : decide ((i : Int) < (l.length : Int)) = true := decide_eq_true (by omega)
    obtain ⟨px, e0, e1, hpx⟩ := row_at (HH.out.below HBZ.out).2.1 (HH.out.below HBZ.out).2.2.1 hlt
    have hsm := sm_part HC.out i hi
    have hsq := sm_sqr HC.out (rd_T32 l i) (by rw [rd_mem hlt]; exact List.getElem_mem _)
    have hc1 := ratPlus_any pz px (part n l i) (sqr n l (rd_T32 l i)) 2000 wr HZ.out hpx (by omega) (Sm.mono (by omega) hsm) (Sm.mono (by omega) hsq)
    have HPS := Aside0.mk (part_succ n l i hlt)
    have i1 : (0 ≤ (i : Int)) = True := eq_true (by omega)
    have i2 : ((i : Int) < (l.length : Int)) = True := eq_true (by omega)
    clear hpx hsm hsq e1
    go_wp2_with (fail)
    refine hc1.mono ?_
    rintro e w4 ⟨p4, rfl, hp4, hz4, hb4⟩
    rw [← HPS.out] at hz4
    have HZ4 := Aside0.mk hz4
    have HB4 := Aside0.mk (below_step HBZ.out hb4)
    clear hc1 hp4 hz4 hb4
    go_wp2_with (fail)
    go_roundw
    case rel => exact ⟨i + 1, p4, rfl, by go_num, by omega, HZ4, HB4⟩
    case measure => simp [intOf]; omega
   ·obtain rfl : l.length = i := by omega
    have p1 : decide ((l.length : Int) < (l.length : Int)) = false := decide_eq_false (by omega)
    have hz := HZ.out
    rw [show part n l l.length = ssq n l by unfold part ssq; rw [List.take_length]] at hz
    have hs1 := single_any pz (ssq n l) wr hz (ssq_size HC.out).1 (ssq_size HC.out).2
    clear hz
    go_wp2_with (fail)
    refine hs1.mono ?_
    rintro e w5 ⟨rfl, hb5⟩
    have HB5 := Aside0.mk (below_step HB3.out (below_step HBZ.out hb5))
    clear hs1 hb5
    go_wp2_with (fail)
    go_ret3
    rw [HN.out, HD.out]
    exact ⟨rfl, HB5.out⟩
 ·have h' : Gm.connB p l = false := by simpa using h
  have HN := Aside0.mk (show okN (Gm.connB p l) (ssq (wp p) l) = 0 by unfold okN; rw [if_neg h])
  have HD := Aside0.mk (show okD (Gm.connB p l) (ssq (wp p) l) = 0 by unfold okD; rw [if_neg h])
  rw [h'] at hc0 HN HD
  rw [h']
  clear h h'
  go_enter Try.func25, Try.ntmps25
  go_wp2_with (fail)
  refine hc0.mono ?_
  rintro e w1 ⟨rfl, hb1⟩
  have HB1 := Aside0.mk (below_step HB.out hb1)
  clear hb1 hc0
  go_wp2_with (fail)
  go_ret3
  rw [HN.out, HD.out]
  exact ⟨rfl, HB1.out⟩
end Go.Proofs.Ytkafbmanmffliaa.Ex3

/- The law on the least squares, walked. -/
namespace Go.Proofs.Ytkafbmanmffliaa.LwLS
open Go Go.RowKit YtkafbmanmffliaaW.PrintWords YtkafbmanmffliaaW.PrintLast YtkafbmanmffliaaW.PrintMore Q Dd Gs Hc Ke Kf Ex Ex2 Ex3 Sb Dr Rr Pa Pe Lg
theorem guess_q (A : Option Addr) (c : Nat) (l : List Int) (hb : ∀ b ∈ l, 0 ≤ b ∧ b ≤ 255) (k : Int) (hk : 0 ≤ k) (w : World) (n : Nat) (hr : Kd.C (Kd.int .u8) w A l.length l) (hc : l.length ≤ c) :
  Calls Try.prog 26 #[.slice A l.length c, .int .i64 k] (w.drewN n) fun e w' => e = .returned (.int .i64 (gV l k)) ∧ ∃ m, w' = w.drewN m :=
 Calls.quiet_of ((guess_any A c l hb k hk (w.drewN n) (Kd.C_below hr (pw_below_drewN (Below.refl _ _) n)) hc).mono fun _ _ h => ⟨h.1, h.2.out⟩)
theorem ssq_call {n m : Nat} (hm : m = n + 1) {l : List S32} (hc : Gm.connB ((n : Int) + 1) l = true) (A : Option Addr) (c : Nat) (w : World) (hr : Kd.C k32 w A l.length l) (hcl : l.length ≤ c) :
  Calls Try.prog 25 #[.agg #[.int .i64 (m : Int), .slice A l.length c]] w fun e w' => e = .returned (.tuple #[.int .i64 (ssq n l).num, .int .i64 ((ssq n l).den : Int), .bool true]) ∧ Below w.heap.size w w' := by
 have h := squareSum_any ((n : Int) + 1) l A c w hr hcl (by have := (conn_n hc).2.2; omega)
 rw [hc, wp_eq] at h
 unfold Post2 okN okD at h
 rw [if_pos rfl, if_pos rfl] at h
 rw [show ((m : Nat) : Int) = (n : Int) + 1 by omega]
 exact h
theorem res_call {n m : Nat} (hm : m = n + 1) {l : List S32} (hc : Gm.connB ((n : Int) + 1) l = true) (A : Option Addr) (c : Nat) (w : World) (hr : Kd.C k32 w A l.length l) (hcl : l.length ≤ c) :
  Calls Try.prog 20 #[.agg #[.int .i64 (m : Int), .slice A l.length c]] w fun e w' => ∃ (A' : Option Addr) (c' : Nat), e = .returned (.tuple #[.int .i64 (eD n l), .slice A' l.length c', .bool true]) ∧ T w.heap.size w' (.slice A' l.length c') (l.map (ev n l)) ∧ Below w.heap.size w w' := by
 have h := resid_any ((n : Int) + 1) l A c w hr hcl (by have := (conn_n hc).2.2; omega)
 rw [hc, (resL_eq hc).1, (resL_eq hc).2] at h
 rw [show ((m : Nat) : Int) = (n : Int) + 1 by omega]
 refine h.mono ?_
 rintro e w' ⟨v, rfl, hT, hb⟩
 obtain ⟨A', c', rfl⟩ := Kd.R_slice hT
 rw [show (l.map (ev n l)).length = l.length by simp] at hT ⊢
 exact ⟨A', c', rfl, hT, hb⟩
set_option maxHeartbeats 8000000 in
set_option maxRecDepth 100000 in
theorem law_any (A : Option Addr) (c0 : Nat) (code : List Int) (A2 : Option Addr) (c2 : Nat) (more : List Int) (w : World) (hr : Kd.C (Kd.int .u8) w A code.length code) (hc : code.length ≤ c0) (hb : ∀ b ∈ code, 0 ≤ b ∧ b ≤ 255) (hr2 : Kd.C (Kd.int .u8) w A2 more.length more) (hc2 : more.length ≤ c2) (hb2 : ∀ b ∈ more, 0 ≤ b ∧ b ≤ 255) :
  Calls Try.prog 5 #[.slice A code.length c0, .slice A2 more.length c2] w fun e w' => e = .returned (.bool true) ∧ Below w.heap.size w w' := by
 have hu26 := Try.underlying26
 have hu32 := Try.underlying32
 obtain ⟨lb, hlb, hz⟩ := long_any A c0 code A2 c2 more w hr hc hr2 hc2
 have HR := Aside0.mk hr
 have HC := Aside0.mk hc
 have HBY := Aside0.mk hb
 have HR2 := Aside0.mk hr2
 have HC2 := Aside0.mk hc2
 have HB2Y := Aside0.mk hb2
 clear hr hc hb hr2 hc2 hlb hb2
 cases lb with
 | true =>
  go_enter Try.func5, Try.ntmps5
  go_wp2_with (fail)
  refine hz.mono ?_
  rintro e w1 ⟨rfl, hd⟩
  have HB1 := Aside0.mk (below_drawn0 hd)
  clear hz hd
  go_wp2_with (fail)
  go_ret
  exact ⟨rfl, HB1.out⟩
 | false =>
  go_enter Try.func5, Try.ntmps5
  go_wp2_with (fail)
  refine hz.mono ?_
  rintro e w1 ⟨rfl, hd⟩
  have HB1 := Aside0.mk (below_drawn0 hd)
  have hs := survey_any code HBY.out A c0 w1 (Kd.C_below HR.out HB1.out) HC.out
  clear hz hd
  go_wp2_with (fail)
  refine hs.mono ?_
  rintro e w2 ⟨p, l, v, rfl, hcn, hts, hb2⟩
  obtain ⟨n, rfl⟩ := conn_nat hcn
  obtain ⟨m, hm⟩ : ∃ m : Nat, m = n + 1 := ⟨_, rfl⟩
  rw [show ((n : Int) + 1) = (m : Int) by omega]
  obtain ⟨Av, cv, rfl⟩ := Kd.R_slice hts
  have hl8 := (conn_n hcn).2.2
  have HCN := Aside0.mk hcn
  have HM := Aside0.mk hm
  have HB2 := Aside0.mk (below_step HB1.out hb2)
  have hbx := below_alloc (Below.refl w2.heap.size w2) (.cells #[.int .i64 (m : Int), .slice Av l.length cv] 26)
  have X3 := Aside0.mk (blk_new w2 (.cells #[.int .i64 (m : Int), .slice Av l.length cv] 26))
  have L3 := Aside0.mk (Kd.C_below (Kd.R_reads' hts).2.2 hbx)
  have CV := Aside0.mk (Kd.R_reads' hts).2.1
  have HB3 := Aside0.mk (below_step HB2.out hbx)
  have hz := ssq_call hm hcn Av cv _ L3.out CV.out
  clear hs hts hb2 hbx hcn hm HR HC HBY
  go_wp2_with (fail)
  refine hz.mono ?_
  rintro e w4 ⟨rfl, hb4⟩
  have HLS := Aside0.mk (ls_nums HCN.out)
  have HLE := Aside0.mk (ls_least HCN.out (gV more))
  obtain ⟨num, hnum⟩ : ∃ q, q = (ssq n l).num := ⟨_, rfl⟩
  obtain ⟨den, hden⟩ : ∃ q, q = ((ssq n l).den : Int) := ⟨_, rfl⟩
  rw [← hnum, ← hden] at HLS HLE ⊢
  have HB4 := Aside0.mk (below_step HB3.out hb4)
  have X4 := Aside0.mk (blk_below X3.out hb4)
  have L4 := Aside0.mk (Kd.C_below L3.out hb4)
  clear hnum hden hz hb4 HB3 X3 L3
  have e0 : w4.cell? ⟨w2.heap.size, 0, none⟩ = some (.int .i64 (m : Int)) := (blk_cell X4.out 0).trans rfl
  have e1 : w4.cell? ⟨w2.heap.size, 1, none⟩ = some (.slice Av l.length cv) := (blk_cell X4.out 1).trans rfl
  have hz := res_call HM.out HCN.out Av cv _ L4.out CV.out
  go_wp2_with (fail)
  refine hz.mono ?_
  rintro e w5 ⟨AE, cE, rfl, tE, hb5⟩
  have TE := Aside0.mk tE
  have HB5 := Aside0.mk (below_step HB4.out hb5)
  have X5 := Aside0.mk (blk_below X4.out hb5)
  have L5 := Aside0.mk (Kd.C_below L4.out hb5)
  have HLOW := Aside0.mk (eD_pos HCN.out)
  obtain ⟨low, hll⟩ : ∃ d, d = eD n l := ⟨_, rfl⟩
  rw [← hll] at HLOW HLS ⊢
  have t1 : decide (low < 1) = false := decide_eq_false (by have := HLOW.out; omega)
  have t2 : decide (100000 < low) = false := decide_eq_false (by have := HLOW.out; omega)
  have t3 : decide (den < 1) = false := decide_eq_false (by have := HLS.out; omega)
  have t4 : decide (num < 0) = false := decide_eq_false (by have := HLS.out; omega)
  have t5 : ((l.length : Int) != (l.length : Int)) = false := bne_self_eq_false _
  have e1 : w5.cell? ⟨w2.heap.size, 1, none⟩ = some (.slice Av l.length cv) := (blk_cell X5.out 1).trans rfl
  clear hz tE hb5 hll X4 L4 e0
  go_wp2_with (fail)
  clear e1 t1 t2 t3 t4 t5
  have HEL := Aside0.mk (show (l.map (ev n l)).length = l.length by simp)
  go_loopw [12, 13, 14] (fun v12 v13 v14 wz => ∃ i : Nat, v14 = .int .i64 (i : Int) ∧ i ≤ l.length ∧ v12 = .int .i64 (oI n l i) ∧ v13 = .int .i64 (tI (gV more) l i) ∧ Aside0 (Below w5.heap.size w5 wz)) (fun _ _ v _ => l.length - (intOf v).toNat)
  case atStart => exact ⟨0, rfl, by omega, rfl, rfl, ⟨Below.refl _ _⟩⟩
  case round =>
   obtain ⟨i, rfl, hi, rfl, rfl, HB⟩ := hrel
   have e1 : wr.cell? ⟨w2.heap.size, 1, none⟩ = some (.slice Av l.length cv) := (blk_cell (blk_below X5.out HB.out) 1).trans rfl
   by_cases hlt : i < l.length
   ·have p1 : decide ((i : Int) < (l.length : Int)) = true := decide_eq_true (by omega)
    obtain ⟨ad, e, x0, x1, x2, x3⟩ := at_T32 (Kd.C_below L5.out HB.out) (i : Int) (by omega) (by omega)
    subst e
    rw [Int.toNat_natCast] at x0 x1 x2 x3
    have hmm : rd_T32 l i ∈ l := by rw [rd_mem hlt]; exact List.getElem_mem hlt
    have hva := mem_at (conn_v HCN.out) _ hmm
    have hes := ev_le HCN.out _ hmm
    have hds := dd_le HCN.out (g := gV more) (fun p hp => gV_le more HB2Y.out p hp) _ hmm
    have o1 := oI_le HCN.out i
    have o2 := oI_le HCN.out (i + 1)
    have s1 := tI_le HCN.out (g := gV more) (fun p hp => gV_le more HB2Y.out p hp) i
    have s2 := tI_le HCN.out (g := gV more) (fun p hp => gV_le more HB2Y.out p hp) (i + 1)
    have oe : oI n l (i + 1) = oI n l i + sq3 (rd_T32 l i).f3 (ev n l (rd_T32 l i)) := smI_take hlt
    have te : tI (gV more) l (i + 1) = tI (gV more) l i + sq3 (rd_T32 l i).f3 (dd (gV more) (rd_T32 l i)) := smI_take hlt
    obtain ⟨gE, hgE⟩ : ∃ gE, AE = some ⟨gE, 0, none⟩ := by
     obtain ⟨gE, kE, eqE, -, -⟩ := TE.out.form (by rw [HEL.out]; omega)
     injection eqE with e1' _ _
     exact ⟨gE, e1'⟩
    subst hgE
    obtain ⟨s, hs⟩ : ∃ s, s = rd_T32 l i := ⟨_, rfl⟩
    have hre : rd (l.map (ev n l)) (i : Int) = ev n l s := by rw [hs, rd_mem hlt]; simp [rd, List.getD_eq_getElem?_getD, hlt]
    rw [← hs] at x0 x1 x2 x3 hmm hva hes hds oe te
    clear hs hmm
    obtain ⟨E, hE⟩ : ∃ E, E = ev n l s := ⟨_, rfl⟩
    rw [← hE] at hes hre oe
    clear hE
    have hdd : dd (gV more) s = s.f2 - gV more s.f1 + gV more s.f0 := rfl
    obtain ⟨D, hD⟩ : ∃ D, D = dd (gV more) s := ⟨_, rfl⟩
    rw [← hD] at hdd hds te
    clear hD
    obtain ⟨f, t, ri, wt⟩ := s
    dsimp only at x0 x1 x2 x3 hva hdd oe te
    obtain ⟨y0, y1, y2, y3, y4, y5, y6, y7, y8⟩ := hva
    have g1 := gV_le more HB2Y.out t y2
    have g2 := gV_le more HB2Y.out f y0
    obtain ⟨Gt, hGt⟩ : ∃ x, x = gV more t := ⟨_, rfl⟩
    obtain ⟨Gf, hGf⟩ : ∃ x, x = gV more f := ⟨_, rfl⟩
    rw [← hGt] at g1 hdd
    rw [← hGf] at g2 hdd
    have b1 := sq3_le (M := 13824000) y7 y8 (by decide) hes.1 hes.2
    have b2 := sq3_le (M := 140) y7 y8 (by decide) hds.1 hds.2
    have c1 : sq3 wt E = wt * E * E := rfl
    have c2 : sq3 wt D = wt * D * D := rfl
    obtain ⟨O, hO⟩ : ∃ x, x = oI n l i := ⟨_, rfl⟩
    obtain ⟨O2, hO2⟩ : ∃ x, x = oI n l (i + 1) := ⟨_, rfl⟩
    obtain ⟨S, hS⟩ : ∃ x, x = tI (gV more) l i := ⟨_, rfl⟩
    obtain ⟨S2, hS2⟩ : ∃ x, x = tI (gV more) l (i + 1) := ⟨_, rfl⟩
    rw [← hO] at o1 oe ⊢
    rw [← hO2] at o2 oe
    rw [← hS] at s1 te ⊢
    rw [← hS2] at s2 te
    have HO2 := Aside0.mk hO2
    have HS2 := Aside0.mk hS2
    obtain ⟨K1, hK1⟩ : ∃ x, x = wt * E := ⟨_, rfl⟩
    obtain ⟨K2, hK2⟩ : ∃ x, x = K1 * E := ⟨_, rfl⟩
    obtain ⟨M1, hM1⟩ : ∃ x, x = wt * D := ⟨_, rfl⟩
    obtain ⟨M2, hM2⟩ : ∃ x, x = M1 * D := ⟨_, rfl⟩
    obtain ⟨D1, hD1⟩ : ∃ x, x = ri - Gt := ⟨_, rfl⟩
    rw [← hK1, ← hK2] at c1
    rw [← hM1, ← hM2] at c2
    rw [← hD1] at hdd
    rw [c1] at oe b1
    rw [c2] at te b2
    rw [← hK1] at b1
    rw [← hM1] at b2
    have u1 : wrap64 (wt * E) = K1 := by rw [← hK1]; exact Dw.wrap_id (by omega) (by omega)
    have u2 : wrap64 (K1 * E) = K2 := by rw [← hK2]; exact Dw.wrap_id (by omega) (by omega)
    have u3 : wrap64 (O + K2) = O2 := by rw [← oe]; exact Dw.wrap_id (by omega) (by omega)
    have u4 : wrap64 (ri - Gt) = D1 := by rw [← hD1]; exact Dw.wrap_id (by omega) (by omega)
    have u5 : wrap64 (D1 + Gf) = D := by rw [← hdd]; exact Dw.wrap_id (by omega) (by omega)
    have u4' : IntKind.i64.wrap (ri - Gt) = D1 := (i64_w _).trans u4
    have u5' : IntKind.i64.wrap (D1 + Gf) = D := (i64_w _).trans u5
    have u6 : wrap64 (wt * D) = M1 := by rw [← hM1]; exact Dw.wrap_id (by omega) (by omega)
    have u7 : wrap64 (M1 * D) = M2 := by rw [← hM2]; exact Dw.wrap_id (by omega) (by omega)
    have u8 : wrap64 (S + M2) = S2 := by rw [← te]; exact Dw.wrap_id (by omega) (by omega)
    have t1 : decide (100000000 < (E.natAbs : Int)) = false := decide_eq_false (by omega)
    have hab := abs_any E (by omega) (wr.alloc (.cells #[.int .i64 f, .int .i64 t, .int .i64 ri, .int .i64 wt] 32))
    have HBA := Aside0.mk (below_alloc (Below.refl wr.heap.size wr) (.cells #[.int .i64 f, .int .i64 t, .int .i64 ri, .int .i64 wt] 32))
    have HNA := Aside0.mk (heap_alloc_new wr (.cells #[.int .i64 f, .int .i64 t, .int .i64 ri, .int .i64 wt] 32))
    have ce := (((TE.out.below HB.out).below HBA.out).cell i hlt).1
    rw [hre] at ce
    have i5 : (0 ≤ (i : Int)) = True := eq_true (by omega)
    have i6 : ((i : Int) < (l.length : Int)) = True := eq_true (by omega)
    have HRE := Aside0.mk hre
    have HGT := Aside0.mk hGt
    have HGF := Aside0.mk hGf
    have HY := Aside0.mk (And.intro y0 y2)
    clear hes hds o1 o2 s1 s2 oe te hre hdd g1 g2 b1 b2 c1 c2 hO hO2 hS hS2 hK1 hK2 hM1 hM2 hD1 hGt hGf y0 y1 y2 y3 y4 y5 y6 y7 y8
    go_wp2_with (fail)
    refine hab.mono ?_
    rintro e w6 ⟨rfl, hd6⟩
    have hb6 := below_drawn0 hd6
    have HB6 := Aside0.mk (below_step (below_step HB.out HBA.out) hb6)
    have HN6 := Aside0.mk (blk_below HNA.out hb6)
    have ce := ((TE.out.below HB6.out).cell i hlt).1
    rw [HRE.out] at ce
    have k3 : w6.cell? ⟨wr.heap.size, 3, none⟩ = some (.int .i64 wt) := (blk_cell HN6.out 3).trans rfl
    clear hab hd6 hb6
    go_wp2_with (fail)
    refine start_ (n:=15) (S := fun w' => w'.cell? ⟨gE, i, none⟩ = some (.int .i64 E) ∧ w'.cell? ⟨wr.heap.size, 3, none⟩ = some (.int .i64 wt)) (ds:=[]) #[false,false,false,false,false,false,false,false,false,false,false,false,false,false,false] (by kernel_rfl) rfl rfl ⟨ce, k3⟩ (fun hHeld => ?_)
    refine pure_ (i:=0) (N:=some 82) (v:=?_) (a':=?_) #[true,false,false,false,false,false,false,false,false,false,false,false,false,false,false] rfl rfl (by kernel_rfl) (fun _ _ _ h => h) (Or.inl ⟨by rfl, ?_⟩) ?_ ?_
    rotate_left
    ·intro w'
     go_simp
     with_reducible rfl
    rotate_left
    ·simp only [Act.put, List.setIfInBounds_toArray, List.set_cons_zero, List.set_cons_succ, i64_w, i32_w]
     rfl
    refine pure_ (i:=1) (N:=some 83) (v:=?_) (a':=?_) #[true,true,false,false,false,false,false,false,false,false,false,false,false,false,false] rfl rfl (by kernel_rfl) (fun _ _ _ h => h) (Or.inl ⟨by rfl, ?_⟩) ?_ ?_
    rotate_left
    ·intro w'
     go_simp
     with_reducible rfl
    rotate_left
    ·simp only [Act.put, List.setIfInBounds_toArray, List.set_cons_zero, List.set_cons_succ, i64_w, i32_w]
     rfl
    refine pure_ (i:=3) (N:=some 85) (v:=?_) (a':=?_) #[true,true,false,true,false,false,false,false,false,false,false,false,false,false,false] rfl rfl (by kernel_rfl) (fun _ _ _ h => h) (Or.inl ⟨by rfl, ?_⟩) ?_ ?_
    rotate_left
    ·intro w'
     go_simp
     with_reducible rfl
    rotate_left
    ·simp only [Act.put, List.setIfInBounds_toArray, List.set_cons_zero, List.set_cons_succ, i64_w, i32_w]
     rfl
    refine pure_ (i:=4) (N:=some 86) (v:=?_) (a':=?_) #[true,true,false,true,true,false,false,false,false,false,false,false,false,false,false] rfl rfl (by kernel_rfl) (fun _ _ _ h => h) (Or.inl ⟨by rfl, ?_⟩) ?_ ?_
    rotate_left
    ·intro w'
     go_simp
     with_reducible rfl
    rotate_left
    ·simp only [Act.put, List.setIfInBounds_toArray, List.set_cons_zero, List.set_cons_succ, i64_w, i32_w]
     rfl
    refine pure_ (i:=5) (N:=some 87) (v:=?_) (a':=?_) #[true,true,false,true,true,true,false,false,false,false,false,false,false,false,false] rfl rfl (by kernel_rfl) (fun _ _ _ h => h) (Or.inl ⟨by rfl, ?_⟩) ?_ ?_
    rotate_left
    ·intro w'
     go_simp
     with_reducible rfl
    rotate_left
    ·simp only [Act.put, List.setIfInBounds_toArray, List.set_cons_zero, List.set_cons_succ, i64_w, i32_w]
     rfl
    refine pure_ (i:=8) (N:=some 90) (v:=?_) (a':=?_) #[true,true,false,true,true,true,false,false,true,false,false,false,false,false,false] rfl rfl (by kernel_rfl) (fun _ _ _ h => h) (Or.inl ⟨by rfl, ?_⟩) ?_ ?_
    rotate_left
    ·intro w'
     go_simp
     with_reducible rfl
    rotate_left
    ·simp only [Act.put, List.setIfInBounds_toArray, List.set_cons_zero, List.set_cons_succ, i64_w, i32_w]
     rfl
    refine pure_ (i:=9) (N:=some 91) (v:=?_) (a':=?_) #[true,true,false,true,true,true,false,false,true,true,false,false,false,false,false] rfl rfl (by kernel_rfl) (fun _ _ _ h => h) (Or.inl ⟨by rfl, ?_⟩) ?_ ?_
    rotate_left
    ·intro w'
     go_simp
     with_reducible rfl
    rotate_left
    ·simp only [Act.put, List.setIfInBounds_toArray, List.set_cons_zero, List.set_cons_succ, i64_w, i32_w]
     rfl
    refine pure_ (i:=10) (N:=some 92) (v:=?_) (a':=?_) #[true,true,false,true,true,true,false,false,true,true,true,false,false,false,false] rfl rfl (by kernel_rfl) (fun _ _ _ h => h) (Or.inl ⟨by rfl, ?_⟩) ?_ ?_
    rotate_left
    ·intro w'
     go_simp
     with_reducible rfl
    rotate_left
    ·simp only [Act.put, List.setIfInBounds_toArray, List.set_cons_zero, List.set_cons_succ, i64_w, i32_w]
     rfl
    refine take_ (i:=2) (N:=some 84) (v:=?_) (a':=?_) #[true,true,true,true,true,true,false,false,true,true,true,false,false,false,false] rfl rfl (by kernel_rfl) (fun _ _ _ h => h) (Or.inl ⟨by rfl, ?_⟩) hHeld ?_ ?_
    rotate_left
    ·rintro w' ⟨s0, s1⟩
     go_simp
     with_reducible rfl
    rotate_left
    ·simp only [Act.put, List.setIfInBounds_toArray, List.set_cons_zero, List.set_cons_succ, i64_w, i32_w]
     rfl
    refine take_ (i:=6) (N:=some 88) (v:=?_) (a':=?_) #[true,true,true,true,true,true,true,false,true,true,true,false,false,false,false] rfl rfl (by kernel_rfl) (fun _ _ _ h => h) (Or.inl ⟨by rfl, ?_⟩) hHeld ?_ ?_
    rotate_left
    ·rintro w' ⟨s0, s1⟩
     go_simp
     with_reducible rfl
    rotate_left
    ·simp only [Act.put, List.setIfInBounds_toArray, List.set_cons_zero, List.set_cons_succ, i64_w, i32_w]
     rfl
    refine pure_ (i:=7) (N:=some 89) (v:=?_) (a':=?_) #[true,true,true,true,true,true,true,true,true,true,true,false,false,false,false] rfl rfl (by kernel_rfl) (fun _ _ _ h => h) (Or.inl ⟨by rfl, ?_⟩) ?_ ?_
    rotate_left
    ·intro w'
     go_simp
     with_reducible rfl
    rotate_left
    ·simp only [Act.put, List.setIfInBounds_toArray, List.set_cons_zero, List.set_cons_succ, i64_w, i32_w]
     rfl
    refine take_ (i:=11) (N:=some 93) (v:=?_) (a':=?_) #[true,true,true,true,true,true,true,true,true,true,true,true,false,false,false] rfl rfl (by kernel_rfl) (fun _ _ _ h => h) (Or.inl ⟨by rfl, ?_⟩) hHeld ?_ ?_
    rotate_left
    ·rintro w' ⟨s0, s1⟩
     go_simp
     with_reducible rfl
    rotate_left
    ·simp only [Act.put, List.setIfInBounds_toArray, List.set_cons_zero, List.set_cons_succ, i64_w, i32_w]
     rfl
    refine pure_ (i:=12) (N:=some 94) (v:=?_) (a':=?_) #[true,true,true,true,true,true,true,true,true,true,true,true,true,false,false] rfl rfl (by kernel_rfl) (fun _ _ _ h => h) (Or.inl ⟨by rfl, ?_⟩) ?_ ?_
    rotate_left
    ·intro w'
     go_simp
     with_reducible rfl
    rotate_left
    ·simp only [Act.put, List.setIfInBounds_toArray, List.set_cons_zero, List.set_cons_succ, i64_w, i32_w]
     rfl
    refine pure_ (i:=13) (N:=some 95) (v:=?_) (a':=?_) #[true,true,true,true,true,true,true,true,true,true,true,true,true,true,false] rfl rfl (by kernel_rfl) (fun _ _ _ h => h) (Or.inl ⟨by rfl, ?_⟩) ?_ ?_
    rotate_left
    ·intro w'
     go_simp
     with_reducible rfl
    rotate_left
    ·simp only [Act.put, List.setIfInBounds_toArray, List.set_cons_zero, List.set_cons_succ, i64_w, i32_w]
     rfl
    refine pure_ (i:=14) (N:=some 12) (v:=?_) (a':=?_) #[true,true,true,true,true,true,true,true,true,true,true,true,true,true,true] rfl rfl (by kernel_rfl) (fun _ _ _ h => h) (Or.inl ⟨by rfl, ?_⟩) ?_ ?_
    rotate_left
    ·intro w'
     go_simp
     with_reducible rfl
    rotate_left
    ·simp only [Act.put, List.setIfInBounds_toArray, List.set_cons_zero, List.set_cons_succ, i64_w, i32_w]
     rfl
    refine done_ (by kernel_rfl) ?_
    clear hHeld
    obtain ⟨wq, hwq⟩ : ∃ wq, wq = w6.drew := ⟨_, rfl⟩
    have HBQ := Aside0.mk (show Below w5.heap.size w5 wq by rw [hwq]; exact below_drew HB6.out)
    have HNQ := Aside0.mk (show wq.heap[wr.heap.size]? = some (.cells #[.int .i64 f, .int .i64 t, .int .i64 ri, .int .i64 wt] 32) by rw [hwq]; exact blk_drew HN6.out)
    rw [← hwq]
    clear hwq ce k3
    have k0 : wq.cell? ⟨wr.heap.size, 0, none⟩ = some (.int .i64 f) := (blk_cell HNQ.out 0).trans rfl
    have k1 : wq.cell? ⟨wr.heap.size, 1, none⟩ = some (.int .i64 t) := (blk_cell HNQ.out 1).trans rfl
    have k2 : wq.cell? ⟨wr.heap.size, 2, none⟩ = some (.int .i64 ri) := (blk_cell HNQ.out 2).trans rfl
    have k3 : wq.cell? ⟨wr.heap.size, 3, none⟩ = some (.int .i64 wt) := (blk_cell HNQ.out 3).trans rfl
    have HRQ := Aside0.mk (Kd.C_below HR2.out (below_step HB5.out HBQ.out))
    have HQt := Aside0.mk (fun n => by have h := guess_q A2 c2 more HB2Y.out t HY.out.2 wq n HRQ.out HC2.out; rw [← HGT.out] at h; exact h)
    have HQf := Aside0.mk (fun n => by have h := guess_q A2 c2 more HB2Y.out f HY.out.1 wq n HRQ.out HC2.out; rw [← HGF.out] at h; exact h)
    go_wp2_with (fail)
    go_quiet (first | (go_at_call 26; with_reducible exact HQt.out _) | (go_at_call 26; with_reducible exact HQf.out _))
    go_wp2_with (fail)
    go_roundw
    case rel => exact ⟨i + 1, by go_num, by omega, by rw [← HO2.out], by first | rw [← HS2.out, u8] | rw [← HS2.out], ⟨pw_below_drewN HBQ.out _⟩⟩
    case measure => simp [intOf]; omega
   ·obtain rfl : i = l.length := by omega
    have p1 : decide ((l.length : Int) < (l.length : Int)) = false := decide_eq_false (by omega)
    have o1 := oI_le HCN.out l.length
    have s1 := tI_le HCN.out (g := gV more) (fun p hp => gV_le more HB2Y.out p hp) l.length
    have hls := HLS.out
    have hle := HLE.out
    have hlow := HLOW.out
    obtain ⟨O, hO⟩ : ∃ x, x = oI n l l.length := ⟨_, rfl⟩
    obtain ⟨S, hS⟩ : ∃ x, x = tI (gV more) l l.length := ⟨_, rfl⟩
    rw [← hO] at o1 hls ⊢
    rw [← hS] at s1 hle ⊢
    have m1 := Gn.mulb (X := 27648) (Y := 27648) (a := low) (b := low) (by decide) (by decide) (by unfold Gn.Bd; omega) (by unfold Gn.Bd; omega)
    have m2 := Gn.mulb (X := 470400) (Y := 764411904) (a := S) (b := den) (by decide) (by decide) (by unfold Gn.Bd; omega) (by unfold Gn.Bd; omega)
    have m0 := Int.mul_pos (show 0 < low by omega) (show 0 < low by omega)
    unfold Gn.Bd at m1 m2
    obtain ⟨LL, hLL⟩ : ∃ x, x = low * low := ⟨_, rfl⟩
    obtain ⟨TD, hTD⟩ : ∃ x, x = S * den := ⟨_, rfl⟩
    rw [← hLL] at m0 m1 hls
    rw [← hTD] at m2 hle
    have u1 : wrap64 (low * low) = LL := by rw [← hLL]; exact Dw.wrap_id (by omega) (by omega)
    have u2 : wrap64 (S * den) = TD := by rw [← hTD]; exact Dw.wrap_id (by omega) (by omega)
    have t1 : decide (10000000000 < den) = false := decide_eq_false (by omega)
    have t2 : decide (num ≤ TD) = true := decide_eq_true hle
    have hz := ratio_any O LL num den o1.1 (by omega) (by omega) (by omega) hls.2.2.2.2 (by omega) (by omega) (by omega) (by omega) wr
    have HBZ := Aside0.mk (below_step HB5.out HB.out)
    clear o1 s1 hls hle hlow hO hS m0 m1 m2 hLL hTD
    go_wp2_with (fail)
    refine hz.mono ?_
    rintro e w6 ⟨rfl, hd6⟩
    have HB6 := Aside0.mk (below_step HBZ.out (below_drawn0 hd6))
    clear hz hd6
    go_wp2_with (fail)
    go_ret
    exact ⟨rfl, HB6.out⟩
end Go.Proofs.Ytkafbmanmffliaa.LwLS

