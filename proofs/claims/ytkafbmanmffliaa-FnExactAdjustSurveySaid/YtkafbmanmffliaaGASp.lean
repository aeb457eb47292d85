/- Parts of the proof that the law of this seat holds: Gt, Gu, Gx, Gy, Gw, Lo2, Ex, Sp2, Va2, Va3, Sp3, Va11, Va12, Ex2, Va10, Q91, Va15, Va18, Va6, Va7, PuI, PuEx, LwAS. -/
import Derived.Test.YtkafbmanmffliaaGBpm
import Derived.Test.YtkafbmanmffliaaGBpk
import Derived.Test.YtkafbmanmffliaaGBpj
import Derived.Test.YtkafbmanmffliaaGBpb
import Derived.Test.YtkafbmanmffliaaGBpc
import Derived.Test.YtkafbmanmffliaaGBpn
import Derived.Test.YtkafbmanmffliaaGBpa
set_option linter.unusedVariables false
set_option linter.unusedSimpArgs false
/- The program's adjusted heights: the right side is made, the equations are solved. -/
namespace Go.Proofs.Ytkafbmanmffliaa.Gt
open Go Go.RowKit YtkafbmanmffliaaW.PrintWords YtkafbmanmffliaaW.PrintLast YtkafbmanmffliaaW.PrintMore Q Bg Dd Bi Rt Ru Rx Ra Gd Gf Ge Hb Ha Hc Gs Gn Kc Ke Kf
set_option linter.unusedVariables false
set_option linter.unusedSimpArgs false
theorem mk28 (n : Nat) (hn : n ≤ 5) : ∀ W : World, (Instr.makeSlice 28 (.int .i64 (n : Int)) (.int .i64 (n : Int))).run Try.prog W = .ok (.slice (some ⟨W.heap.size, 0, none⟩) n n) (W.alloc (.cells (madeCells #[.int .i64 0] n) 2)) :=
 print_make_of 28 2 (.int .i64 0) 8 Try.underlying28 info2 rfl (by decide) n (by omega)
theorem T.made {B : Nat} (W : World) (n : Nat) (hn : n ≤ 5) (hB : B ≤ W.heap.size) : T B (W.alloc (.cells (madeCells #[.int .i64 0] n) 2)) (.slice (some ⟨W.heap.size, 0, none⟩) n n) (List.replicate n 0) := by
 have h := own_made_of (enc := Value.int .i64) (d := 0) W B 2 n hB (by omega)
 exact Kd.R_of_own (by simpa using h) (fun _ _ => trivial)
theorem solve_xs {n : Nat} {l : List S32} {right : List Int} (h : Ok n l right) {wq wz : World} {b cap : Nat} {us : List Value} (hr : RowIn wq wz b cap (n + 1) us (fun k => if k = 0 then 0 else gj (cst (tab l right n)) n (k - 1) n)) :
  RowIn wq wz b cap (n + 1) us (fun k => xs l right n k) := by
 refine hr.congr (fun k hk => ?_)
 by_cases e : k = 0
 ·subst e
  rw [if_pos rfl]
  exact (xs_zero l right n).symm
 ·rw [if_neg e, h.sol (k - 1) (by omega)]
  unfold xs nu
  rw [if_neg (by omega)]
  rfl
def rgtAt (n : Nat) (l : List S32) (i : Nat) : List Int := rgt n (l.take i)
theorem rgtAt_zero (n : Nat) (l : List S32) : rgtAt n l 0 = List.replicate (n + 1) 0 := by simp [rgtAt, rgt]
theorem rgtAt_all (n : Nat) (l : List S32) : rgtAt n l l.length = rgt n l := by simp [rgtAt]
theorem rgtAt_succ (n : Nat) (l : List S32) (i : Nat) (h : i < l.length) : rgtAt n l (i + 1) = stR (rgtAt n l i) (rd_T32 l i) := by
 unfold rgtAt rgt
 have e : l.take (i + 1) = l.take i ++ [rd_T32 l i] := by
  rw [List.take_succ_eq_append_getElem h]
  simp [rd_T32, h]
 rw [e, List.foldl_append]
 rfl
theorem rgtAt_len (n : Nat) (l : List S32) (i : Nat) : (rgtAt n l i).length = n + 1 := rgt_len _ _
theorem rgtAt_size {n : Nat} {l : List S32} (hv : surveyB ((n : Int) + 1) l = true) (i : Nat) (p : Int) : -2400 ≤ rd (rgtAt n l i) p ∧ rd (rgtAt n l i) p ≤ 2400 := by
 have hl8 : l.length ≤ 8 := by
  have := hv
  unfold surveyB at this
  simp only [Bool.and_eq_true, decide_eq_true_eq] at this
  have := this.1.2
  omega
 have := fold_size (l.take i) (fun s hs => mem_at hv s (List.mem_of_mem_take hs)) (List.replicate (n + 1) 0) (by simp) 0 (by omega) (fun p => by rw [rd_zeros]; omega) p
 have hl : (l.take i).length ≤ 8 := by simp; omega
 unfold rgtAt rgt
 omega
theorem T.drewN {B : Nat} {W : World} {v : Value} {xs : List Int} (h : T B W v xs) : T B W.drew v xs := h.below (below_drew (Below.refl _ _))
set_option maxHeartbeats 4000000 in
set_option maxRecDepth 100000 in
theorem adjusted_any (n : Nat) (l : List S32) (hc : Gm.connB ((n : Int) + 1) l = true) (A : Option Addr) (c : Nat) (w : World) (hr : Kd.C k32 w A l.length l) (hcl : l.length ≤ c) :
  Calls Try.prog 60 #[.agg #[.int .i64 ((n : Int) + 1), .slice A l.length c]] w fun e w' => ∃ (b cap : Nat) (us : List Value), e = .returned (.slice (some ⟨b, 0, none⟩) (n + 1) cap) ∧ RowIn w w' b cap (n + 1) us (fun k => hts n l k) := by
 have hu26 := Try.underlying26
 have hu32 := Try.underlying32
 have hn := conn_n hc
 have hn4 := hn.2.1
 have hl8 := hn.2.2
 have mk := mk28 (n + 1) (by omega)
 rw [show ((n + 1 : Nat) : Int) = (n : Int) + 1 by omega] at mk
 have hbx := below_alloc (Below.refl w.heap.size w) (SX ((n : Int) + 1) A l.length c)
 have HR := Aside0.mk (Kd.C_below hr hbx)
 have HX := Aside0.mk (heap_alloc_new w (SX ((n : Int) + 1) A l.length c))
 have HC := Aside0.mk hc
 have HV := Aside0.mk (conn_v hc)
 have HCL := Aside0.mk hcl
 clear hr hc hcl hn hbx
 go_enter Try.func60, Try.ntmps60
 go_wp2_with (fail)
 obtain ⟨W0, hW0⟩ : ∃ W0, W0 = w.alloc (SX ((n : Int) + 1) A l.length c) := ⟨_, rfl⟩
 have hs0 : W0.heap.size = w.heap.size + 1 := by rw [hW0]; simp
 rw [← hW0] at HR HX
 rw [← hW0]
 have HW0 := Aside0.mk hW0
 clear hW0 mk
 have t0 := Aside0.mk (T.made W0 (n + 1) (by omega) (Nat.le_refl W0.heap.size))
 have tb := Aside0.mk (below_alloc (Below.refl W0.heap.size W0) (.cells (madeCells #[.int .i64 0] (n + 1)) 2))
 obtain ⟨g, hg⟩ : ∃ g, g = w.heap.size + 1 := ⟨_, rfl⟩
 rw [← hg] at hs0
 rw [← hg]
 rw [hs0] at t0
 have HS0 := Aside0.mk (And.intro hs0 hg)
 clear hs0 hg
 go_loopw [12] (fun v12 wz => ∃ i : Nat, v12 = .int .i64 (i : Int) ∧ i ≤ l.length ∧ Aside0 (T g wz (.slice (some ⟨g, 0, none⟩) (n + 1) (n + 1)) (rgtAt n l i)) ∧ Aside0 (Below W0.heap.size W0 wz)) (fun v _ => l.length - (intOf v).toNat)
 case atStart => exact ⟨0, rfl, by omega, ⟨by rw [rgtAt_zero]; exact t0.out⟩, tb⟩
 case round =>
  clear t0 tb
  obtain ⟨i, rfl, hi, HT, HB⟩ := hrel
  by_cases hlt : i < l.length
  ·have p1 : decide ((i : Int) < (l.length : Int)) = true := decide_eq_true (by omega)
   obtain ⟨ad, e, x0, x1, x2, x3⟩ := at_T32 (Kd.C_below HR.out HB.out) (i : Int) (by omega) (by omega)
   subst e
   rw [Int.toNat_natCast] at x0 x1 x2 x3
   have hm : rd_T32 l i ∈ l := by simp only [rd_T32, Int.toNat_natCast]; rw [List.getD_eq_getElem?_getD, List.getElem?_eq_getElem hlt]; simp
   have hva := mem_at HV.out _ hm
   have HSU := Aside0.mk (rgtAt_succ n l i hlt)
   obtain ⟨s, hs⟩ : ∃ s, s = rd_T32 l i := ⟨_, rfl⟩
   rw [← hs] at x0 x1 x2 x3 hva HSU
   clear hs hm
   obtain ⟨f, t, ri, wt⟩ := s
   dsimp only at x0 x1 x2 x3 hva
   obtain ⟨y0, y1, y2, y3, y4, y5, y6, y7, y8⟩ := hva
   obtain ⟨f, rfl⟩ : ∃ q : Nat, f = q := ⟨f.toNat, by omega⟩
   obtain ⟨t, rfl⟩ : ∃ q : Nat, t = q := ⟨t.toNat, by omega⟩
   obtain ⟨r, hr⟩ : ∃ r, r = rgtAt n l i := ⟨_, rfl⟩
   have hrl : r.length = n + 1 := by rw [hr]; exact rgtAt_len n l i
   have hz : ∀ p : Int, -2400 ≤ rd r p ∧ rd r p ≤ 2400 := fun p => by rw [hr]; exact rgtAt_size HV.out i p
   rw [← hr] at HT HSU
   have hwr : -300 ≤ wt * ri ∧ wt * ri ≤ 300 := by
    have c3 : wt = 1 ∨ wt = 2 ∨ wt = 3 := by omega
    rcases c3 with e | e | e <;> rw [e] <;> omega
   obtain ⟨k, hk⟩ : ∃ k, k = wt * ri := ⟨_, rfl⟩
   rw [← hk] at hwr
   have hw1 : wrap64 (wt * ri) = k := by rw [← hk]; unfold wrap64; omega
   have HSU2 := Aside0.mk (show rgtAt n l (i + 1) = (r.set t (rd r (t : Int) + k)).set f (rd (r.set t (rd r (t : Int) + k)) (f : Int) - k) by rw [HSU.out, hk]; rfl)
   obtain ⟨v1, hv1⟩ : ∃ v1, v1 = rd r (t : Int) + k := ⟨_, rfl⟩
   have hzt := hz t
   have hw2 : wrap64 (rd r (t : Int) + k) = v1 := by rw [← hv1]; unfold wrap64; omega
   obtain ⟨r1, hr1⟩ : ∃ r1, r1 = r.set t v1 := ⟨_, rfl⟩
   have hzf := (ad_size (r := r) (t := t) (f := f) (m := 2400) (k := 0) (c := 0) (by omega) (by omega) (by omega) hz (by omega) (by omega) (by omega) (by omega) (by omega) f)
   have hzf1 : -2700 ≤ rd r1 (f : Int) ∧ rd r1 (f : Int) ≤ 2700 := by
    have e := rd_set (r := r) (t := t) (p := f) (v := v1) (by omega) (by omega) (by omega)
    rw [Int.toNat_natCast, ← hr1] at e
    rw [e]
    have := hz f
    split <;> omega
   obtain ⟨v2, hv2⟩ : ∃ v2, v2 = rd r1 (f : Int) - k := ⟨_, rfl⟩
   have hw3 : wrap64 (rd r1 (f : Int) - k) = v2 := by rw [← hv2]; unfold wrap64; omega
   have HSU3 := Aside0.mk (show rgtAt n l (i + 1) = r1.set f v2 by rw [HSU2.out, ← hv1, ← hr1, ← hv2])
   have HR1 := Aside0.mk hr1
   obtain ⟨vt, hvt⟩ : ∃ vt, vt = rd r (t : Int) := ⟨_, rfl⟩
   rw [← hvt] at hw2
   obtain ⟨vf, hvf⟩ : ∃ vf, vf = rd r1 (f : Int) := ⟨_, rfl⟩
   rw [← hvf] at hw3
   have HVT := Aside0.mk hvt
   have HVF := Aside0.mk hvf
   have HRL := Aside0.mk hrl
   clear hr hz hwr hk hv1 hv2 hzt hzf hzf1 hr1 hvt hvf hrl HSU HSU2
   have HBA := Aside0.mk (below_alloc (Below.refl wr.heap.size wr) (.cells #[.int .i64 (f : Int), .int .i64 (t : Int), .int .i64 ri, .int .i64 wt] 32))
   have HNA := Aside0.mk (heap_alloc_new wr (.cells #[.int .i64 (f : Int), .int .i64 (t : Int), .int .i64 ri, .int .i64 wt] 32))
   have HT1 := Aside0.mk (HT.out.below HBA.out)
   obtain ⟨z0, z1⟩ := HT1.out.cell t (by omega)
   rw [← HVT.out] at z0
   have i1 : (0 ≤ (t : Int)) = True := eq_true (by omega)
   have i2 : ((t : Int) < (n : Int) + 1) = True := eq_true (by omega)
   have i3 : (0 ≤ (f : Int)) = True := eq_true (by omega)
   have i4 : ((f : Int) < (n : Int) + 1) = True := eq_true (by omega)
   go_wp2_with (fail)
   go_region
   have hp1 := HT1.out.put t v1
   have hb1 := (HB.out.trans (HBA.out.mono (HB.out.size))).setCell (p := ⟨g, t, none⟩) (by show W0.heap.size ≤ g; rw [HS0.out.1]; exact Nat.le_refl _) (.int .i64 v1)
   rw [← HR1.out] at hp1
   have HT2 := Aside0.mk (hp1.1.below (below_drew (Below.refl _ _)))
   have HB2 := Aside0.mk (below_drew hb1)
   have hgs := HT.out.lt (k := g) rfl
   have HN2 := Aside0.mk (blk_drew (blk_grown HNA.out hp1.2 (by intro e; have := Option.some.inj e; omega)))
   clear hp1 hb1 hgs z0 z1
   obtain ⟨wa, hwa⟩ : ∃ wa, wa = ((wr.alloc (.cells #[.int .i64 (f : Int), .int .i64 (t : Int), .int .i64 ri, .int .i64 wt] 32)).setCell ⟨g, t, none⟩ (.int .i64 v1)).drew := ⟨_, rfl⟩
   rw [← hwa] at HT2 HB2 HN2
   rw [← hwa]
   clear hwa
   obtain ⟨z0, z1⟩ := HT2.out.cell f (by omega)
   rw [← HVF.out] at z0
   have k0 : wa.cell? ⟨wr.heap.size, 0, none⟩ = some (.int .i64 (f : Int)) := (blk_cell HN2.out 0).trans rfl
   have k2 : wa.cell? ⟨wr.heap.size, 2, none⟩ = some (.int .i64 ri) := (blk_cell HN2.out 2).trans rfl
   have k3 : wa.cell? ⟨wr.heap.size, 3, none⟩ = some (.int .i64 wt) := (blk_cell HN2.out 3).trans rfl
   go_wp2_with (fail)
   go_region
   have hp2 := HT2.out.put f v2
   have hb2 := HB2.out.setCell (p := ⟨g, f, none⟩) (by show W0.heap.size ≤ g; rw [HS0.out.1]; exact Nat.le_refl _) (.int .i64 v2)
   rw [← HSU3.out] at hp2
   have HT3 := Aside0.mk (hp2.1.below (below_drew (Below.refl _ _)))
   have HB3 := Aside0.mk (below_drew hb2)
   clear hp2 hb2
   go_wp2_with (fail)
   go_roundw
   case rel => exact ⟨i + 1, by go_num, by omega, HT3, HB3⟩
   case measure => simp [intOf]; omega
  ·obtain rfl : l.length = i := by omega
   have p1 : decide ((l.length : Int) < (l.length : Int)) = false := decide_eq_false (by omega)
   rw [rgtAt_all] at HT
   have hok := ok_rgt HC.out
   have hC : Kd.C (Kd.int .i64) wr (some ⟨g, 0, none⟩) (rgt n l).length (rgt n l) := (Kd.R_reads' HT.out).2.2
   have hsv := solve_any n hn4 l HV.out A c (some ⟨g, 0, none⟩) (n + 1) (rgt n l) wr (Kd.C_below HR.out HB.out) HCL.out hC (rgt_len n l) (fun i => by have := rgt_size HV.out i; omega) hok.piv
   rw [rgt_len] at hsv
   have HOK := Aside0.mk hok
   have hbk := blk_below HX.out HB.out
   have hcx : wr.cell? ⟨w.heap.size, 0, none⟩ = some (.int .i64 ((n : Int) + 1)) := (blk_cell hbk 0).trans rfl
   have hcy : wr.cell? ⟨w.heap.size, 1, none⟩ = some (.slice A l.length c) := (blk_cell hbk 1).trans rfl
   clear hok hC hbk
   go_wp2_with (fail)
   refine hsv.mono ?_
   rintro e w1 ⟨b, cap, us, rfl, h1⟩
   have H1 := Aside0.mk (solve_xs HOK.out h1)
   clear h1 hsv
   go_wp2_with (fail)
   go_ret
   exact ⟨b, cap, us, rfl, H1.out.outer (by rw [HW0.out]; exact below_alloc (Below.refl _ _) _) HB.out⟩
end Go.Proofs.Ytkafbmanmffliaa.Gt

/- The program's residuals, cofactors, redundancies and weighted squares: rows of fractions. -/
namespace Go.Proofs.Ytkafbmanmffliaa.Gu
open Go Go.RowKit YtkafbmanmffliaaW.PrintWords YtkafbmanmffliaaW.PrintLast YtkafbmanmffliaaW.PrintMore Q Bg Dd Bi Rt Ru Rx Ra Gd Gf Ge Gi Hb Ha Hc Gs Gn Ka Kc Ke Kf Gt
set_option linter.unusedVariables false
set_option linter.unusedSimpArgs false
end Go.Proofs.Ytkafbmanmffliaa.Gu

/- The program's cofactor of two points. -/
namespace Go.Proofs.Ytkafbmanmffliaa.Gx
open Go Go.RowKit YtkafbmanmffliaaW.PrintWords YtkafbmanmffliaaW.PrintLast YtkafbmanmffliaaW.PrintMore Q Bg Dd Bi Rt Ru Rx Ra Gd Gf Ge Gi Hb Ha Hc Gs Gn Ka Kc Ke Kf Gt Gu
set_option linter.unusedVariables false
set_option linter.unusedSimpArgs false
end Go.Proofs.Ytkafbmanmffliaa.Gx

/- The program's redundancies. -/
namespace Go.Proofs.Ytkafbmanmffliaa.Gy
open Go Go.RowKit YtkafbmanmffliaaW.PrintWords YtkafbmanmffliaaW.PrintLast YtkafbmanmffliaaW.PrintMore Q Bg Dd Bi Rt Ru Rx Ra Gd Gf Ge Gi Hb Ha Hc Gs Gn Ka Kc Ke Kf Gt Gu Gx
set_option linter.unusedVariables false
set_option linter.unusedSimpArgs false
def red (n : Nat) (l : List S32) (s : S32) : Rat := ((1 : Int) : Rat) - (s.f3 : Rat) * cof n l s.f0 s.f1
end Go.Proofs.Ytkafbmanmffliaa.Gy

/- The program's list: fractions as a denominator and numerators. -/
namespace Go.Proofs.Ytkafbmanmffliaa.Gw
open Go Go.RowKit YtkafbmanmffliaaW.PrintWords YtkafbmanmffliaaW.PrintLast YtkafbmanmffliaaW.PrintMore Q Bg Dd Bi Bj Bk Bm Bn Rt Ru Rx Ra Gd Gf Ge Gi Hc
set_option linter.unusedVariables false
set_option linter.unusedSimpArgs false
def lc (F : Nat → Rat) : Nat → Nat
 | 0 => 1
 | k + 1 => Nat.lcm (lc F k) (F k).den
theorem lc_dvd {F : Nat → Rat} {m D : Nat} (h : ∀ k, k < m → (F k).den ∣ D) (k : Nat) (hk : k ≤ m) : lc F k ∣ D := by
 induction k with
 | zero => exact Nat.one_dvd _
 | succ k ih => exact Nat.lcm_dvd (ih (by omega)) (h k (by omega))
theorem lcm_step (a b : Nat) (hb : 0 < b) : (a : Int) * ((b : Int).tdiv ((Int.gcd (a : Int) (b : Int) : Nat) : Int)) = (Nat.lcm a b : Nat) := by
 rw [Int.gcd_natCast_natCast, Int.tdiv_eq_ediv_of_nonneg (by omega)]
 have hg : 0 < Nat.gcd a b := Nat.gcd_pos_of_pos_right a hb
 obtain ⟨q, hq⟩ := Nat.gcd_dvd_right a b
 have e : Nat.lcm a b = a * q := by
  unfold Nat.lcm
  generalize Nat.gcd a b = g at *
  subst hq
  rw [Nat.mul_left_comm]
  exact Nat.mul_div_cancel_left _ hg
 rw [e]
 generalize Nat.gcd a b = g at *
 subst hq
 push_cast
 rw [Int.mul_ediv_cancel_left _ (by omega)]
theorem T.of_cb {B : Nat} {W : World} {g cap : Nat} {xs : List Int} (h : Cb W 2 g cap (xs.map (Value.int .i64))) (hB : B ≤ g) : T B W (.slice (some ⟨g, 0, none⟩) xs.length cap) xs := by
 obtain ⟨cs, h1, h2, h3, h4, h5, h6⟩ := h
 have ho : W.ownsRow B 2 1 (.slice (some ⟨g, 0, none⟩) xs.length cap) xs.length (encs (Value.int .i64) xs) :=
  ⟨by simp [encs], .inr ⟨g, cap, cs, rfl, hB, h1, by simpa using h3, h4, by simpa using h2, by simpa [encs] using h6⟩⟩
 exact Kd.R_of_own ho (fun _ _ => trivial)
def NumIn (wq wz : World) (b cap : Nat) (xs : List Int) : Prop := wq.heap.size ≤ b ∧ Cb wz 2 b cap (xs.map (Value.int .i64)) ∧ Below wq.heap.size wq wz
theorem NumIn.below {wq wz w1 : World} {b cap : Nat} {xs : List Int} (h : NumIn wq wz b cap xs) (hb : Below wz.heap.size wz w1) : NumIn wq w1 b cap xs := ⟨h.1, h.2.1.below hb, below_step h.2.2 hb⟩
theorem NumIn.new (wq : World) : NumIn wq (wq.alloc (.cells #[] 2)) wq.heap.size 0 [] := ⟨Nat.le_refl _, Cb.nil_new _ _, below_alloc (Below.refl _ _) _⟩
theorem NumIn.grow {wq wr w1 w2 : World} {b cap g1 cap1 : Nat} {xs : List Int} {z : Int} (h : NumIn wq wr b cap xs) (hb1 : Below wr.heap.size wr w1) (hc : Cb w2 2 g1 cap1 (xs.map (Value.int .i64) ++ [.int .i64 z])) (hat : g1 = b ∨ w1.heap.size ≤ g1) (hg : w1.grownBy w2 (some b)) :
  NumIn wq w2 g1 cap1 (xs ++ [z]) := by
 have h1 := h.below hb1
 have hs := h1.2.2.size
 refine ⟨?_, by rw [List.map_append]; exact hc, below_grownB h1.2.2 (Nat.le_refl _) hg h.1⟩
 have := h1.1
 rcases hat with e | e <;> omega
def numL (F : Nat → Rat) (L m : Nat) : List Int := (List.range m).map (fun k => (F k * ((L : Int) : Rat)).num)
theorem numL_succ (F : Nat → Rat) (L m : Nat) : numL F L (m + 1) = numL F L m ++ [(F m * ((L : Int) : Rat)).num] := by simp [numL, List.range_succ]
theorem numL_len (F : Nat → Rat) (L m : Nat) : (numL F L m).length = m := by simp [numL]
set_option maxHeartbeats 8000000 in
set_option maxRecDepth 100000 in
theorem list_any (b cap m : Nat) (us : List Value) (F : Nat → Rat) (D : Nat) (w : World) (hC : Cb w 74 b cap us) (hF : RowF w us m F) (hm8 : m ≤ 8) (hD0 : 0 < D) (hD : D < 2 ^ 62) (hdv : ∀ k, k < m → (F k).den ∣ D) (hsm : ∀ k, k < m → Sm 62 (F k)) (hn : ∀ k, k < m → (F k * ((lc F m : Int) : Rat)).num.natAbs < 2 ^ 63) :
  Calls Try.prog 59 #[.slice (some ⟨b, 0, none⟩) m cap] w fun e w' => ∃ v : Value, e = .returned (.tuple #[.int .i64 (lc F m : Nat), v]) ∧ T w.heap.size w' v (numL F (lc F m) m) ∧ Below w.heap.size w w' := by
 have hu69 := Try.underlying69
 have hlc : ∀ k, k ≤ m → lc F k < 2 ^ 62 := fun k hk => Nat.lt_of_le_of_lt (Nat.le_of_dvd hD0 (lc_dvd hdv k hk)) hD
 have HCC := Aside0.mk hC
 have HF := Aside0.mk hF
 have HLC := Aside0.mk hlc
 have HSM := Aside0.mk hsm
 have HNN := Aside0.mk hn
 clear hC hF hlc hsm hn hdv hD hD0
 go_enter Try.func59, Try.ntmps59
 go_wp2_with (fail)
 refine (newBig_any 1 w (by decide) (by decide)).mono ?_
 rintro e w1 ⟨p1, rfl, hp1, hbi, hrec, hb1⟩
 have HB1 := Aside0.mk (show BI w1 p1 0 ((lc F 0 : Nat) : Int) from hbi)
 have HW1 := Aside0.mk hb1
 clear hp1 hbi hrec hb1
 go_wp2_with (fail)
 go_loopw [4, 14] (fun v4 v14 wz => ∃ (i p : Nat), v4 = .pointer (some ⟨p, 0, none⟩) ∧ v14 = .int .i64 (i : Int) ∧ i ≤ m ∧ Aside0 (BI wz p 0 ((lc F i : Nat) : Int)) ∧ Aside0 (Below w.heap.size w wz)) (fun _ v _ => m - (intOf v).toNat)
 case atStart => exact ⟨0, p1, rfl, rfl, by omega, HB1, HW1⟩
 case round =>
  clear HB1 HW1
  obtain ⟨i, p, rfl, rfl, hi, HB, HW⟩ := hrel
  by_cases hlt : i < m
  ·have q1 : decide ((i : Int) < (m : Int)) = true := decide_eq_true (by omega)
   obtain ⟨px, c0, c1, hpx⟩ := row_at (HCC.out.below HW.out) (HF.out.par (Par.of_below HW.out)) hlt
   have HPX := Aside0.mk hpx
   have HS := Aside0.mk (HSM.out i hlt)
   have HL := Aside0.mk (HLC.out i (by omega))
   have hba := below_alloc (Below.refl wr.heap.size wr) ZB
   have hc1 := denom_any px (F i) 62 (wr.alloc ZB) (hpx.below hba) (by decide) HS.out
   have HBA := Aside0.mk hba
   have i1 : (0 ≤ (i : Int)) = True := eq_true (by omega)
   have i2 : ((i : Int) < (m : Int)) = True := eq_true (by omega)
   clear hpx hba
   go_wp2_with (fail)
   refine hc1.mono ?_
   rintro e w1 ⟨q1, rfl, g1, g2, g3, g4⟩
   have H1 := Aside0.mk g2
   have HB1 := Aside0.mk (HBA.out.trans (g4.mono (by rw [World.size_alloc]; omega)))
   have hc2 := gcd_any wr.heap.size 0 p 0 q1 0 ((lc F i : Nat) : Int) ((F i).den : Int) 62 w1 (HB.out.below HB1.out) g2 ((Rec.new wr).below g4) (by decide) (by have := HL.out; omega) (by have := HS.out.2; omega)
   have HR1 := Aside0.mk ((Rec.new wr).below g4)
   clear g1 g2 g3 g4 hc1 HBA
   go_wp2_with (fail)
   refine hc2.mono ?_
   rintro e w2 ⟨rfl, hp⟩
   have HG := Aside0.mk (hp.bi HR1.out)
   have HB2 := Aside0.mk (HB1.out.trans (hp.below (Nat.le_refl _) HB1.out.size))
   clear hp hc2
   have HBA := Aside0.mk (below_alloc (below_alloc (Below.refl w2.heap.size w2) ZB) ZB)
   have HRA := Aside0.mk ((Rec.new w2).below (below_alloc (Below.refl (w2.alloc ZB).heap.size (w2.alloc ZB)) ZB))
   have hc1 := denom_any px (F i) 62 ((w2.alloc ZB).alloc ZB) (HPX.out.below (below_step HB2.out HBA.out)) (by decide) HS.out
   have hsz : (w2.alloc ZB).heap.size = w2.heap.size + 1 := World.size_alloc _ _
   have hsz2 : ((w2.alloc ZB).alloc ZB).heap.size = w2.heap.size + 1 + 1 := by rw [World.size_alloc, hsz]
   go_wp2_with (fail)
   refine hc1.mono ?_
   rintro e w3 ⟨q3, rfl, g1, g2, g3, g4⟩
   have HQ3 := Aside0.mk g2
   have HB3 := Aside0.mk (HBA.out.trans (g4.mono (by rw [hsz2]; omega)))
   have HR23 := Aside0.mk (HRA.out.below g4)
   have HR25 := Aside0.mk ((Rec.new (w2.alloc ZB)).below g4)
   rw [hsz] at HR25
   have hgp : 0 < Int.gcd ((lc F i : Nat) : Int) ((F i).den : Int) := by
    rw [Int.gcd_natCast_natCast]
    exact Nat.gcd_pos_of_pos_right _ (F i).den_pos
   have hgl : Int.gcd ((lc F i : Nat) : Int) ((F i).den : Int) < 2 ^ 62 := by
    rw [Int.gcd_natCast_natCast]
    exact Nat.lt_of_le_of_lt (Nat.le_of_dvd (F i).den_pos (Nat.gcd_dvd_right _ _)) HS.out.2
   have hst := lcm_step (lc F i) (F i).den (F i).den_pos
   obtain ⟨G, hG⟩ : ∃ G, G = Int.gcd ((lc F i : Nat) : Int) ((F i).den : Int) := ⟨_, rfl⟩
   rw [← hG] at hst hgp hgl HG
   have hc2 := quo_any (w2.heap.size + 1) 0 q3 0 wr.heap.size 0 (w2.heap.size + 1) ((F i).den : Int) (G : Int) 62 w3 g2 (HG.out.below HB3.out) HR25.out (Nat.le_refl _) (by decide) (by have := HS.out.2; omega) (by omega) (by omega)
   have hqs : (((F i).den : Int).tdiv (G : Int)).natAbs < 2 ^ 62 := by
    rw [Int.tdiv_eq_ediv_of_nonneg (by omega), ← Int.natCast_ediv, Int.natAbs_natCast]
    exact Nat.lt_of_le_of_lt (Nat.div_le_self _ _) HS.out.2
   obtain ⟨qt, hqt⟩ : ∃ qt, qt = ((F i).den : Int).tdiv (G : Int) := ⟨_, rfl⟩
   rw [← hqt] at hst hqs hc2
   have HQS := Aside0.mk (And.intro hst hqs)
   clear g1 g2 g3 g4 hc1 HBA HRA hG hgp hgl hst hqs hqt
   go_wp2_with (fail)
   refine hc2.mono ?_
   rintro e w4 ⟨rfl, g1, g2, g3⟩
   have hs23 : w2.heap.size + 1 ≤ w3.heap.size := by have := HB3.out.size; have := HR23.out.lt; have := HR25.out.lt; omega
   have HB4 := Aside0.mk (HB3.out.trans (g3.mono (by omega)))
   have HR4 := Aside0.mk (show Rec w4 w2.heap.size 0 by
    obtain ⟨cs, T, n0, A0, k0, c0, e1, e2⟩ := HR23.out
    exact ⟨cs, T, n0, A0, k0, c0, (g3.block _ (by omega)).trans e1, e2⟩)
   have hc1 := mul_any w2.heap.size 0 p 0 (w2.heap.size + 1) 0 ((lc F i : Nat) : Int) qt 62 w4 (HB.out.below (below_step HB2.out HB4.out)) g1 HR4.out (by decide) (by have := HL.out; omega) HQS.out.2
   clear g1 g2 g3 hc2 hs23
   go_wp2_with (fail)
   refine hc1.mono ?_
   rintro e w5 ⟨rfl, hp⟩
   have HM := Aside0.mk (hp.bi HR4.out)
   have HB5 := Aside0.mk (HB4.out.trans (hp.below (Nat.le_refl _) HB4.out.size))
   clear hp hc1
   go_wp2_with (fail)
   go_roundw
   case rel => exact ⟨i + 1, w2.heap.size, rfl, by go_num, by omega, ⟨by have h := HM.out; rw [HQS.out.1] at h; exact h⟩, ⟨below_step HW.out (below_step HB2.out HB5.out)⟩⟩
   case measure => simp [intOf]; omega
  ·obtain rfl : m = i := by omega
   have q1 : decide ((m : Int) < (m : Int)) = false := decide_eq_false (by omega)
   go_wp2_with (fail)
   obtain ⟨wq, rfl⟩ : ∃ wq, wq = wr := ⟨_, rfl⟩
   have hba := below_alloc (Below.refl wq.heap.size wq) (.cells #[] 2)
   have HT := Aside0.mk (show NumIn wq (wq.alloc (.cells #[] 2)) wq.heap.size 0 (numL F (lc F m) 0) from NumIn.new wq)
   clear hba
   obtain ⟨L, hL⟩ : ∃ L, L = lc F m := ⟨_, rfl⟩
   have HL := Aside0.mk (show L < 2 ^ 62 by rw [hL]; exact HLC.out m (Nat.le_refl _))
   have HL2 := Aside0.mk (show ∀ k, k < m → (F k * ((L : Int) : Rat)).num.natAbs < 2 ^ 63 by rw [hL]; exact HNN.out)
   rw [← hL] at HT HB
   have HLE := Aside0.mk hL
   have HSL := Aside0.mk (show Sm 62 ((L : Int) : Rat) from Sm.int (i := 62) (by have := HL.out; omega) (by decide))
   clear hL
   go_loopw [8, 35] (fun v8 v35 wz => ∃ (i g cg : Nat), v8 = .slice (some ⟨g, 0, none⟩) i cg ∧ v35 = .int .i64 (i : Int) ∧ i ≤ m ∧ Aside0 (NumIn wq wz g cg (numL F L i))) (fun _ v _ => m - (intOf v).toNat)
   case atStart => exact ⟨0, _, 0, rfl, rfl, by omega, HT⟩
   case round =>
    clear HT
    obtain ⟨i, g, cg, rfl, rfl, hi, HT⟩ := hrel
    by_cases hlt : i < m
    ·have q2 : decide ((i : Int) < (m : Int)) = true := decide_eq_true (by omega)
     have HQ := Aside0.mk HT.out.2.2
     obtain ⟨px, c0, c1, hpx⟩ := row_at (HCC.out.below (below_step HW.out HQ.out)) (HF.out.par (Par.of_below (below_step HW.out HQ.out))) hlt
     have HPX := Aside0.mk hpx
     have HS := Aside0.mk (HSM.out i hlt)
     have HN := Aside0.mk (HL2.out i hlt)
     have hba := below_alloc (Below.refl wr.heap.size wr) ZR
     have hc1 := setInt_any wr.heap.size p 0 wr.heap.size (L : Int) 62 (wr.alloc ZR) ((HB.out.below HQ.out).below hba) (RR.new wr) (Nat.le_refl _) (by decide) (by decide) (by have := HL.out; omega)
     have HBA := Aside0.mk hba
     have i1 : (0 ≤ (i : Int)) = True := eq_true (by omega)
     have i2 : ((i : Int) < (m : Int)) = True := eq_true (by omega)
     clear hpx hba
     go_wp2_with (fail)
     refine hc1.mono ?_
     rintro e w1 ⟨rfl, g1, g2⟩
     have HB1 := Aside0.mk (HBA.out.trans g2)
     have hc2 := ratTimes_any px wr.heap.size (F i) ((L : Int) : Rat) 62 w1 (HPX.out.below HB1.out) g1 (by decide) HS.out HSL.out
     clear g1 g2 hc1 HBA
     go_wp2_with (fail)
     refine hc2.mono ?_
     rintro e w2 ⟨p2, rfl, g1, g2, g3⟩
     have HB2 := Aside0.mk (below_step HB1.out g3)
     have hc1 := num_any p2 (F i * ((L : Int) : Rat)) 124 w2 g2 (by decide) (Sm.mul HS.out HSL.out)
     clear g1 g2 g3 hc2
     go_wp2_with (fail)
     refine hc1.mono ?_
     rintro e w3 ⟨p3, rfl, g1, g2, g3, g4⟩
     have HB3 := Aside0.mk (below_step HB2.out g4)
     obtain ⟨z, hz⟩ : ∃ z, z = (F i * ((L : Int) : Rat)).num := ⟨_, rfl⟩
     rw [← hz] at HN g2
     have e63 : (2 : Nat) ^ 63 = 9223372036854775808 := by decide
     have hc2 := int64_any p3 0 z w3 g2 (by have := HN.out; omega) (by have := HN.out; omega)
     have HZ := Aside0.mk hz
     clear g1 g2 g3 g4 hc1 hz e63
     go_wp2_with (fail)
     refine hc2.mono ?_
     rintro e w4 ⟨rfl, g1⟩
     have HB4 := Aside0.mk (below_step HB3.out g1)
     clear g1 hc2
     have hba := below_alloc (Below.refl w4.heap.size w4) (.cells #[.int .i64 z] 2)
     have HBA := Aside0.mk (below_step HB4.out hba)
     clear hba
     go_wp2_with ((with_reducible refine gate_builtin (b := .append) (xs := #[.tmp 39, .tmp 47]) rfl ?_); at_builtin; refine Cb.append rfl (.tmp 39) (.tmp 47) 28 2 (.int .i64 0) 8 rfl Try.underlying28 info2 rfl (Pv.i64 _) (by decide) g cg i _ (.int .i64 z) (by rw [List.length_map, numL_len]) rfl rfl rfl (Pv.i64 _) (HT.out.below HB4.out).2.1 (by rw [List.length_map, numL_len]; omega) ?_; intro g1 cap1 w5 h1 h2 h3; have HT5 := Aside0.mk (HT.out.grow HB4.out h1 h2 h3); clear h1 h2 h3)
     rw [HZ.out, ← numL_succ] at HT5
     go_roundw
     case rel => exact ⟨i + 1, g1, cap1, by go_num, by go_num, by omega, HT5⟩
     case measure => simp [intOf]; omega
    ·obtain rfl : m = i := by omega
     have q2 : decide ((m : Int) < (m : Int)) = false := decide_eq_false (by omega)
     have e62 : (2 : Nat) ^ 62 = 4611686018427387904 := by decide
     have hc1 := int64_any p 0 (L : Int) wr (HB.out.below HT.out.2.2) (by have := HL.out; omega) (by have := HL.out; omega)
     clear e62
     go_wp2_with (fail)
     refine hc1.mono ?_
     rintro e w1 ⟨rfl, g1⟩
     have HG := Aside0.mk g1
     clear g1 hc1
     go_wp2_with (fail)
     go_ret2
     have h := HT.out.below HG.out
     have ht := T.of_cb (B := w.heap.size) h.2.1 (Nat.le_trans HW.out.size h.1)
     rw [numL_len] at ht
     refine ⟨_, ?_, by rw [← HLE.out]; exact ht, below_step HW.out h.2.2⟩
     rw [← HLE.out]
     rfl
end Go.Proofs.Ytkafbmanmffliaa.Gw

/- Plain: the program's list of fractions over one denominator is the reference's in lowest terms; the reference's l10Gcd and l10Lowest. -/
namespace Go.Proofs.Ytkafbmanmffliaa.Lo2
open Go Go.RowKit YtkafbmanmffliaaW.PrintWords Q Ra Gw Lo PuS
set_option linter.unusedVariables false
theorem lcmAll_append (L b : Nat) (S T : List Int) : lcmAll L b (S ++ T) = lcmAll L (lcmAll L b S) T := by simp [lcmAll]
theorem lc_take {S : List Int} {D : Nat} {F : Nat → Rat} (hF : ∀ k (h : k < S.length), F k = mkRat S[k] D) (m : Nat) (hm : m ≤ S.length) : lc F m = lcmAll D 1 (S.take m) := by
 induction m with
 | zero => rfl
 | succ m ih =>
  rw [List.take_succ_eq_append_getElem (by omega), lcmAll_append, ← ih (by omega)]
  show Nat.lcm (lc F m) (F m).den = Nat.lcm (lc F m) (mkRat S[m] D).den
  rw [hF m (by omega)]
theorem lc_low {S : List Int} {D : Nat} (hD : 0 < D) {F : Nat → Rat} (hF : ∀ k (h : k < S.length), F k = mkRat S[k] D) : lc F S.length = D / gcdAll D S := by
 rw [lc_take hF _ (Nat.le_refl _), List.take_length, ← lcm_gcd hD S D (Nat.dvd_refl D), Nat.div_self hD]
def lowL (D : Nat) (S : List Int) : List Int := S.map (fun s => s / (gcdAll D S : Int))
theorem numL_low {S : List Int} {D : Nat} (hD : 0 < D) {F : Nat → Rat} (hF : ∀ k (h : k < S.length), F k = mkRat S[k] D) : numL F (lc F S.length) S.length = lowL D S := by
 rw [lc_low hD hF]
 unfold numL lowL
 apply List.ext_getElem
 ·simp
 ·intro k h1 h2
  simp only [List.getElem_map, List.getElem_range]
  have hk : k < S.length := by simpa using h2
  rw [hF k hk]
  have := num_eq hD S S[k] (List.getElem_mem hk)
  rw [show ((((D / gcdAll D S : Nat) : Int) : Rat)) = (((D / gcdAll D S : Nat) : Nat) : Rat) from Rat.intCast_natCast _, this]
  rfl
theorem den_low {S : List Int} {D : Nat} (hD : 0 < D) {F : Nat → Rat} (hF : ∀ k (h : k < S.length), F k = mkRat S[k] D) (k : Nat) (hk : k < S.length) : (F k).den ∣ D := by
 rw [hF k hk, Rat.den_mkRat, if_neg (by omega)]
 exact Nat.div_dvd_of_dvd (Nat.gcd_dvd_left _ _)
theorem num_low {S : List Int} {D : Nat} (hD : 0 < D) {F : Nat → Rat} (hF : ∀ k (h : k < S.length), F k = mkRat S[k] D) (k : Nat) (hk : k < S.length) : (F k * ((lc F S.length : Int) : Rat)).num.natAbs ≤ S[k].natAbs := by
 rw [lc_low hD hF, hF k hk]
 have := num_eq hD S S[k] (List.getElem_mem hk)
 rw [show ((((D / gcdAll D S : Nat) : Int) : Rat)) = (((D / gcdAll D S : Nat) : Nat) : Rat) from Rat.intCast_natCast _, this]
 show (S[k] / (gcdAll D S : Int)).natAbs ≤ _
 rw [Int.natAbs_ediv_of_dvd (Int.natAbs_dvd_natAbs.1 (by simpa using (gcd_dvd S D).2 _ (List.getElem_mem hk))), Int.natAbs_natCast]
 exact Nat.div_le_self _ _
theorem abs_eq (a : Int) (h0 : -9223372036854775808 < a) (h1 : a ≤ 9223372036854775807) : spec_l02Abs.f a = some (a.natAbs : Int) := by
 unfold spec_l02Abs.f spec_l00Max.f
 rw [wrap_id (by omega) (by omega)]
 split
 ·simp only [Option.bind_some, Option.some.injEq]; omega
 ·simp only [Option.bind_some, Option.some.injEq]; omega
theorem gcd_l0 : ∀ (k a b : Nat), b < k → spec_l10Gcd.l0 k (a : Int) (b : Int) = some ((Nat.gcd a b : Nat) : Int) := by
 intro k
 induction k with
 | zero => intro a b h; omega
 | succ k ih =>
  intro a b h
  simp only [spec_l10Gcd.l0]
  by_cases hb : b = 0
  ·subst hb
   rw [if_neg (by omega), Nat.gcd_zero_right]
  ·rw [if_pos (by omega), if_neg (by omega), Int.tmod_eq_emod_of_nonneg (by omega), ← Int.natCast_emod]
   have hm := Nat.mod_lt a (show b > 0 by omega)
   rw [ih b (a % b) (by omega), Nat.gcd_comm a b, Nat.gcd_rec b a, Nat.gcd_comm]
theorem gcd_eq (k : Nat) (a b : Int) (ha0 : -9223372036854775808 < a) (ha1 : a ≤ 9223372036854775807) (hb0 : -9223372036854775808 < b) (hb1 : b ≤ 9223372036854775807) (hk : b.natAbs < k) : spec_l10Gcd.f k a b = some ((Nat.gcd a.natAbs b.natAbs : Nat) : Int) := by
 unfold spec_l10Gcd.f
 rw [abs_eq a ha0 ha1, abs_eq b hb0 hb1]
 exact gcd_l0 k _ _ hk
theorem gcdAll_le {D : Nat} (hD : 0 < D) (S : List Int) : 0 < gcdAll D S ∧ gcdAll D S ≤ D :=
 ⟨Nat.pos_of_dvd_of_pos (gcd_dvd S D).1 hD, Nat.le_of_dvd hD (gcd_dvd S D).1⟩
theorem low_l1 {S : List Int} {D g : Nat} (hg : 0 < g) (hD : D < 9223372036854775808) (hs : ∀ s, s ∈ S → s.natAbs < 9223372036854775808) (hd : ∀ s, s ∈ S → g ∣ s.natAbs) (hl : S.length ≤ 1048576) : ∀ (d i k : Nat), i + d = S.length → d < k →
  spec_l10Lowest.l1 k S (D : Int) (g : Int) ((S.take i).map (fun s => s / (g : Int))) i = some (((D / g : Nat) : Int), S.map (fun s => s / (g : Int))) := by
 intro d
 induction d with
 | zero =>
  intro i k hi hk
  obtain ⟨k, rfl⟩ : ∃ m, k = m + 1 := ⟨k - 1, by omega⟩
  simp only [spec_l10Lowest.l1]
  rw [if_neg (by omega), if_neg (by omega), List.take_of_length_le (by omega), Int.tdiv_eq_ediv_of_nonneg (by omega), ← Int.natCast_ediv]
  have := Nat.div_le_self D g
  obtain ⟨q, hq⟩ : ∃ q, q = D / g := ⟨_, rfl⟩
  rw [← hq] at this ⊢
  rw [wrap_id (by omega) (by omega)]
 | succ d ih =>
  intro i k hi hk
  obtain ⟨k, rfl⟩ : ∃ m, k = m + 1 := ⟨k - 1, by omega⟩
  have hlt : i < S.length := by omega
  have hr : rd S i = S[i] := by simp [rd, List.getD_eq_getElem?_getD, hlt]
  have hm := List.getElem_mem hlt
  have h1 := hs _ hm
  have h2 : (g : Int) ∣ S[i] := Int.natAbs_dvd_natAbs.1 (by simpa using hd _ hm)
  have h3 : (S[i] / (g : Int)).natAbs ≤ S[i].natAbs := by
   rw [Int.natAbs_ediv_of_dvd h2, Int.natAbs_natCast]
   exact Nat.div_le_self _ _
  simp only [spec_l10Lowest.l1]
  rw [if_pos (by omega), if_pos (by omega), if_neg (by omega), if_pos (by simp; omega), hr, Int.tdiv_eq_ediv_of_dvd h2, wrap_id (by omega) (by omega), wrap_id (by omega) (by omega)]
  have e := ih (i + 1) k (by omega) (by omega)
  rw [List.take_succ_eq_append_getElem hlt, List.map_append] at e
  exact_mod_cast e
theorem low_l0 {S : List Int} {D M : Nat} (hD0 : 0 < D) (hD : D < 9223372036854775808) (hs : ∀ s, s ∈ S → s.natAbs < 9223372036854775808) (hM : ∀ s, s ∈ S → s.natAbs < M) (hl : S.length ≤ 1048576) : ∀ (d i k : Nat), i + d = S.length → M + d + S.length + 2 < k →
  spec_l10Lowest.l0 k S (D : Int) ((gcdAll D (S.take i) : Nat) : Int) i = some (((D / gcdAll D S : Nat) : Int), lowL D S) := by
 intro d
 induction d with
 | zero =>
  intro i k hi hk
  obtain ⟨k, rfl⟩ : ∃ m, k = m + 1 := ⟨k - 1, by omega⟩
  simp only [spec_l10Lowest.l0]
  rw [if_neg (by omega), List.take_of_length_le (by omega)]
  have := low_l1 (S := S) (D := D) (g := gcdAll D S) (gcdAll_le hD0 S).1 hD hs (fun s h => (gcd_dvd S D).2 s h) hl S.length 0 k (by omega) (by omega)
  exact this
 | succ d ih =>
  intro i k hi hk
  obtain ⟨k, rfl⟩ : ∃ m, k = m + 1 := ⟨k - 1, by omega⟩
  have hlt : i < S.length := by omega
  have hr : rd S i = S[i] := by simp [rd, List.getD_eq_getElem?_getD, hlt]
  have hm := List.getElem_mem hlt
  have h1 := hs _ hm
  have h2 := hM _ hm
  have h3 := (gcdAll_le hD0 (S.take i)).2
  simp only [spec_l10Lowest.l0]
  rw [if_pos (by omega), if_pos (by omega), hr, gcd_eq k _ _ (by omega) (by omega) (by omega) (by omega) (by omega), Option.bind_some, Int.natAbs_natCast, wrap_id (by omega) (by omega)]
  have e := ih (i + 1) k (by omega) (by omega)
  rw [List.take_succ_eq_append_getElem hlt] at e
  have e2 : gcdAll D (S.take i ++ [S[i]]) = Nat.gcd (gcdAll D (S.take i)) S[i].natAbs := by unfold gcdAll; rw [List.foldl_append]; rfl
  rw [e2] at e
  exact_mod_cast e
theorem lowest_eq {S : List Int} {D M : Nat} (hD0 : 0 < D) (hD : D < 9223372036854775808) (hM : ∀ s, s ∈ S → s.natAbs < M) (hM2 : M ≤ 9223372036854775808) (hl : S.length ≤ 1048576) (k : Nat) (hk : M + S.length + S.length + 2 < k) :
  spec_l10Lowest.f k S (D : Int) = some (((D / gcdAll D S : Nat) : Int), lowL D S) := by
 have := low_l0 hD0 hD (fun s h => by have := hM s h; omega) hM hl S.length 0 k (by omega) (by omega)
 exact this
end Go.Proofs.Ytkafbmanmffliaa.Lo2

/- The program's AdjustSurvey, ResidualsOf, RedundanciesOf, CofactorOf, RiseBetween: what they return. -/
namespace Go.Proofs.Ytkafbmanmffliaa.Ex
open Go Go.RowKit YtkafbmanmffliaaW.PrintWords YtkafbmanmffliaaW.PrintLast YtkafbmanmffliaaW.PrintMore Q Bg Dd Bi Rt Ru Rx Ra Gd Gf Ge Hb Ha Hc Gs Gn Kc Ke Kf Gt Gu Gx Gy Gv Lo Lo2
set_option linter.unusedVariables false
set_option linter.unusedSimpArgs false
theorem conn_any (p : Int) (l : List S32) (A : Option Addr) (c : Nat) (w : World) (hr : Kd.C k32 w A l.length l) (hc : l.length ≤ c) (hl : l.length ≤ 1048576) :
  Calls Try.prog 40 #[.agg #[.int .i64 p, .slice A l.length c]] w fun e w' => e = .returned (.bool (Gm.connB p l)) ∧ Below w.heap.size w w' :=
 Hw.isConn_any p l A c w hr hl
def ptsB (p : Int) (l : List S32) (a b : Int) : Bool := Gm.connB p l && (inB 0 (p - 1) a && inB 0 (p - 1) b)
theorem conn_nat {p : Int} {l : List S32} (h : Gm.connB p l = true) : ∃ n : Nat, p = (n : Int) + 1 := by
 have hv := h
 unfold Gm.connB surveyB inB at hv
 simp only [Bool.and_eq_true, decide_eq_true_eq] at hv
 exact ⟨p.toNat - 1, by omega⟩
def dn (n : Nat) (l : List S32) : Nat := (den l n).toNat
theorem dn_pos {n : Nat} {l : List S32} (hc : Gm.connB ((n : Int) + 1) l = true) : 0 < dn n l ∧ dn n l ≤ 1073741824 ∧ ((dn n l : Nat) : Int) = den l n := by
 have h := ok_rgt hc
 have hd := h.pos n (Nat.le_refl _)
 rw [h.last] at hd
 have hn := conn_n hc
 have hd2 : den l n ≤ 1073741824 := by
  rw [← h.last]
  obtain ⟨m, rfl⟩ : ∃ m, n = m + 1 := ⟨n - 1, by omega⟩
  rw [LL_succ _ m (by omega)]
  exact (h.size m m m (by omega) (by omega) (by omega)).2
 unfold dn
 omega
theorem nu_size {n : Nat} {l : List S32} {right : List Int} (h : Ok n l right) (p : Int) (hp : p ≤ n) : -1073741824 ≤ nu l right n p ∧ nu l right n p ≤ 1073741824 := by
 unfold nu
 split
 ·omega
 ·exact h.size n (p.toNat - 1) n (Nat.le_refl _) (by omega) (Nat.le_refl _)
theorem mkq {a : Int} {d : Nat} : mkRat a d = (a : Rat) / ((d : Int) : Rat) := by rw [Rat.mkRat_eq_div, Rat.intCast_natCast]
theorem xs_mk {n : Nat} {l : List S32} (hc : Gm.connB ((n : Int) + 1) l = true) (right : List Int) (p : Int) : xs l right n p = mkRat (nu l right n p) (dn n l) := by
 rw [mkq, (dn_pos hc).2.2]
 rfl
def resN (n : Nat) (l : List S32) (s : S32) : Int := s.f2 * den l n - nu l (rgt n l) n s.f1 + nu l (rgt n l) n s.f0
def cofN (n : Nat) (l : List S32) (a b : Int) : Int := nu l (rco n a b) n b - nu l (rco n a b) n a
def redN (n : Nat) (l : List S32) (s : S32) : Int := den l n - s.f3 * cofN n l s.f0 s.f1
theorem sm_mk {a : Int} {d : Nat} {k : Nat} (hd : 0 < d) (h1 : a.natAbs < 2 ^ k) (h2 : d < 2 ^ k) : Sm k (mkRat a d) := by
 have := Sm.divInt (a := a) (b := (d : Int)) (by omega) h1 (by rw [Int.natAbs_natCast]; exact h2)
 rwa [Rat.divInt_ofNat] at this
theorem list_low (b cap : Nat) (us : List Value) (F : Nat → Rat) (w : World) (S : List Int) (D : Nat) (hC : Cb w 74 b cap us) (hF : RowF w us S.length F) (hl : S.length ≤ 8) (hD0 : 0 < D) (hD : D ≤ 1073741824) (hS : ∀ s, s ∈ S → s.natAbs < 1099511627776) (hFS : ∀ k (h : k < S.length), F k = mkRat S[k] D) :
  Calls Try.prog 59 #[.slice (some ⟨b, 0, none⟩) S.length cap] w fun e w' => ∃ v : Value, e = .returned (.tuple #[.int .i64 ((D / gcdAll D S : Nat) : Int), v]) ∧ T w.heap.size w' v (lowL D S) ∧ Below w.heap.size w w' := by
 have e62 : (2 : Nat) ^ 62 = 4611686018427387904 := by decide
 have e63 : (2 : Nat) ^ 63 = 9223372036854775808 := by decide
 have h := Gw.list_any b cap S.length us F D w hC hF hl hD0 (by omega) (den_low hD0 hFS) (fun k hk => by
  rw [hFS k hk]
  exact sm_mk hD0 (by have := hS _ (List.getElem_mem hk); omega) (by omega)) (fun k hk => by
  have h1 := num_low hD0 hFS k hk
  have h2 := hS _ (List.getElem_mem hk)
  omega)
 rw [numL_low hD0 hFS, lc_low hD0 hFS] at h
 exact h
def wp (p : Int) : Nat := p.toNat - 1
theorem wp_eq (n : Nat) : wp ((n : Int) + 1) = n := by unfold wp; omega
def adjL (p : Int) (l : List S32) : List Int := if Gm.connB p l = true then lowL (dn (wp p) l) (nuL l (rgt (wp p) l) (wp p)) else []
def adjD (p : Int) (l : List S32) : Int := if Gm.connB p l = true then ((dn (wp p) l / gcdAll (dn (wp p) l) (nuL l (rgt (wp p) l) (wp p)) : Nat) : Int) else 0
def resL (p : Int) (l : List S32) : List Int := if Gm.connB p l = true then lowL (dn (wp p) l) (l.map (resN (wp p) l)) else []
def resD (p : Int) (l : List S32) : Int := if Gm.connB p l = true then ((dn (wp p) l / gcdAll (dn (wp p) l) (l.map (resN (wp p) l)) : Nat) : Int) else 0
def redL (p : Int) (l : List S32) : List Int := if Gm.connB p l = true then lowL (dn (wp p) l) (l.map (redN (wp p) l)) else []
def redD (p : Int) (l : List S32) : Int := if Gm.connB p l = true then ((dn (wp p) l / gcdAll (dn (wp p) l) (l.map (redN (wp p) l)) : Nat) : Int) else 0
def Post3 (w : World) (d : Int) (xs : List Int) (ok : Bool) (e : Ending) (w' : World) : Prop := ∃ v : Value, e = .returned (.tuple #[.int .i64 d, v, .bool ok]) ∧ T w.heap.size w' v xs ∧ Below w.heap.size w w'
set_option maxHeartbeats 4000000 in
set_option maxRecDepth 100000 in
theorem adjust_any (p : Int) (l : List S32) (A : Option Addr) (c : Nat) (w : World) (hr : Kd.C k32 w A l.length l) (hcl : l.length ≤ c) (hl : l.length ≤ 1048576) :
  Calls Try.prog 19 #[.agg #[.int .i64 p, .slice A l.length c]] w (Post3 w (adjD p l) (adjL p l) (Gm.connB p l)) := by
 have hu26 := Try.underlying26
 have hbx := below_alloc (Below.refl w.heap.size w) (SX p A l.length c)
 have HR := Aside0.mk (Kd.C_below hr hbx)
 have HX := Aside0.mk (heap_alloc_new w (SX p A l.length c))
 have hc0 := conn_any p l A c (w.alloc (SX p A l.length c)) HR.out hcl hl
 have HCL := Aside0.mk hcl
 have HB := Aside0.mk hbx
 clear hr hcl hl hbx
 by_cases h : Gm.connB p l = true
 ·obtain ⟨n, rfl⟩ := conn_nat h
  have HC := Aside0.mk h
  have HAD := Aside0.mk (show adjD ((n : Int) + 1) l = ((dn n l / gcdAll (dn n l) (nuL l (rgt n l) n) : Nat) : Int) by unfold adjD; rw [if_pos h, wp_eq])
  have HAL := Aside0.mk (show adjL ((n : Int) + 1) l = lowL (dn n l) (nuL l (rgt n l) n) by unfold adjL; rw [if_pos h, wp_eq])
  rw [h] at hc0
  rw [h]
  clear h
  go_enter Try.func19, Try.ntmps19
  go_wp2_with (fail)
  refine hc0.mono ?_
  rintro e w1 ⟨rfl, hb1⟩
  have HB1 := Aside0.mk (below_step HB.out hb1)
  have hbk := blk_below HX.out hb1
  have c0 : w1.cell? ⟨w.heap.size, 0, none⟩ = some (.int .i64 ((n : Int) + 1)) := (blk_cell hbk 0).trans rfl
  have c1 : w1.cell? ⟨w.heap.size, 1, none⟩ = some (.slice A l.length c) := (blk_cell hbk 1).trans rfl
  have hc1 := adjusted_any n l HC.out A c w1 (Kd.C_below HR.out hb1) HCL.out
  clear hb1 hc0 hbk
  go_wp2_with (fail)
  refine hc1.mono ?_
  rintro e w2 ⟨bH, capH, usH, rfl, hH⟩
  have hlen := nuL_len l (rgt n l) n
  have hc2 := list_low bH capH usH (fun k => hts n l k) w2 (nuL l (rgt n l) n) (dn n l) hH.2.1 (by rw [hlen]; exact hH.2.2.1) (by have := conn_n HC.out; omega) (dn_pos HC.out).1 (dn_pos HC.out).2.1 (fun s hs => by
   obtain ⟨k, hk, rfl⟩ := List.mem_map.1 hs
   have := nu_size (ok_rgt HC.out) (k : Int) (by have := List.mem_range.1 hk; omega)
   omega) (fun k hk => by
   show xs l (rgt n l) n (k : Int) = _
   rw [xs_mk HC.out]
   simp [nuL])
  rw [hlen] at hc2
  have HB2 := Aside0.mk (below_step HB1.out hH.2.2.2)
  clear hc1 hH hlen c0 c1
  go_wp2_with (fail)
  refine hc2.mono ?_
  rintro e w3 ⟨v, rfl, t3, hb3⟩
  have HT3 := Aside0.mk t3
  have HB3 := Aside0.mk (below_step HB2.out hb3)
  clear hc2 t3 hb3
  go_wp2_with (fail)
  go_ret3
  rw [HAD.out, HAL.out]
  exact ⟨v, rfl, Kd.R_lower HT3.out HB2.out.size, HB3.out⟩
 ·have h' : Gm.connB p l = false := by simpa using h
  have HAD := Aside0.mk (show adjD p l = 0 by unfold adjD; rw [if_neg h])
  have HAL := Aside0.mk (show adjL p l = [] by unfold adjL; rw [if_neg h])
  rw [h'] at hc0
  rw [h']
  clear h h'
  go_enter Try.func19, Try.ntmps19
  go_wp2_with (fail)
  refine hc0.mono ?_
  rintro e w1 ⟨rfl, hb1⟩
  have HB1 := Aside0.mk (below_step HB.out hb1)
  clear hb1 hc0
  go_wp2_with (fail)
  go_ret3
  rw [HAD.out, HAL.out]
  exact ⟨_, rfl, T.nil, HB1.out⟩
end Go.Proofs.Ytkafbmanmffliaa.Ex

/- The reference's l10Adjusted, l10Cofactor and l10Redundancies. -/
namespace Go.Proofs.Ytkafbmanmffliaa.Sp2
open Go Go.RowKit YtkafbmanmffliaaW.PrintWords YtkafbmanmffliaaW.PrintLast YtkafbmanmffliaaW.PrintMore Q Gd Gf Ge Gi Hb Ha Hc Gs Gn Kc Ke Kf Gt Gv Gw Ex
set_option linter.unusedVariables false
set_option linter.unusedSimpArgs false
set_option maxHeartbeats 4000000 in
set_option maxRecDepth 100000 in
theorem specAdj_any (n : Nat) (g0 : Nat) (l : List S32) (hc : Gm.connB ((n : Int) + 1) l = true) (A : Option Addr) (c : Nat) (w : World) (hb : w.heap[g0]? = some (.cells #[.int .i64 ((n : Int) + 1), .slice A l.length c] 26 (0, 0))) (hr : Kd.C k32 w A l.length l) :
  Calls Try.prog 77 #[.pointer (some ⟨g0, 0, none⟩)] w fun e w' => ∃ v : Value, e = .returned (.tuple #[v, .int .i64 (den l n)]) ∧ T w.heap.size w' v (nuL l (rgt n l) n) ∧ Below w.heap.size w w' := by
 have hu26 := Try.underlying26
 have hu32 := Try.underlying32
 have hn := conn_n hc
 have hn4 := hn.2.1
 have hl8 := hn.2.2
 have mk := mk28 (n + 1) (by omega)
 rw [show ((n + 1 : Nat) : Int) = (n : Int) + 1 by omega] at mk
 have HR := Aside0.mk hr
 have HX := Aside0.mk hb
 have HC := Aside0.mk hc
 have HV := Aside0.mk (conn_v hc)
 have c0 : w.cell? ⟨g0, 0, none⟩ = some (.int .i64 ((n : Int) + 1)) := (blk_cell hb 0).trans rfl
 clear hr hc hn hb
 go_enter Try.func77, Try.ntmps77
 go_wp2_with (fail)
 have t0 := Aside0.mk (T.made w (n + 1) (by omega) (Nat.le_refl w.heap.size))
 have tb := Aside0.mk (below_alloc (Below.refl w.heap.size w) (.cells (madeCells #[.int .i64 0] (n + 1)) 2))
 obtain ⟨g, hg⟩ : ∃ g, g = w.heap.size := ⟨_, rfl⟩
 rw [← hg]
 rw [← hg] at t0
 have HG := Aside0.mk hg.symm
 clear hg mk c0
 go_loopw [5] (fun v5 wz => ∃ i : Nat, v5 = .int .i64 (i : Int) ∧ i ≤ l.length ∧ Aside0 (T g wz (.slice (some ⟨g, 0, none⟩) (n + 1) (n + 1)) (rgtAt n l i)) ∧ Aside0 (Below w.heap.size w wz)) (fun v _ => l.length - (intOf v).toNat)
 case atStart => exact ⟨0, rfl, by omega, ⟨by rw [rgtAt_zero]; exact t0.out⟩, tb⟩
 case round =>
  clear t0 tb
  obtain ⟨i, rfl, hi, HT, HB⟩ := hrel
  by_cases hlt : i < l.length
  ·have p1 : decide ((i : Int) < (l.length : Int)) = true := decide_eq_true (by omega)
   obtain ⟨ad, e, x0, x1, x2, x3⟩ := at_T32 (Kd.C_below HR.out HB.out) (i : Int) (by omega) (by omega)
   subst e
   rw [Int.toNat_natCast] at x0 x1 x2 x3
   have cy : wr.cell? ⟨g0, 1, none⟩ = some (.slice (some ad) l.length c) := (blk_cell (blk_below HX.out HB.out) 1).trans rfl
   have hm : rd_T32 l i ∈ l := by simp only [rd_T32, Int.toNat_natCast]; rw [List.getD_eq_getElem?_getD, List.getElem?_eq_getElem hlt]; simp
   have hva := mem_at HV.out _ hm
   have HSU := Aside0.mk (rgtAt_succ n l i hlt)
   obtain ⟨s, hs⟩ : ∃ s, s = rd_T32 l i := ⟨_, rfl⟩
   rw [← hs] at x0 x1 x2 x3 hva HSU
   clear hs hm
   obtain ⟨f, t, ri, wt⟩ := s
   dsimp only at x0 x1 x2 x3 hva
   obtain ⟨y0, y1, y2, y3, y4, y5, y6, y7, y8⟩ := hva
   obtain ⟨f, rfl⟩ : ∃ q : Nat, f = q := ⟨f.toNat, by omega⟩
   obtain ⟨t, rfl⟩ : ∃ q : Nat, t = q := ⟨t.toNat, by omega⟩
   obtain ⟨r, hr⟩ : ∃ r, r = rgtAt n l i := ⟨_, rfl⟩
   have hrl : r.length = n + 1 := by rw [hr]; exact rgtAt_len n l i
   have hz : ∀ p : Int, -2400 ≤ rd r p ∧ rd r p ≤ 2400 := fun p => by rw [hr]; exact rgtAt_size HV.out i p
   rw [← hr] at HT HSU
   have hwr : -300 ≤ wt * ri ∧ wt * ri ≤ 300 := by
    have c3 : wt = 1 ∨ wt = 2 ∨ wt = 3 := by omega
    rcases c3 with e | e | e <;> rw [e] <;> omega
   obtain ⟨k, hk⟩ : ∃ k, k = wt * ri := ⟨_, rfl⟩
   rw [← hk] at hwr
   have hw1 : wrap64 (wt * ri) = k := by rw [← hk]; unfold wrap64; omega
   have HSU2 := Aside0.mk (show rgtAt n l (i + 1) = (r.set t (rd r (t : Int) + k)).set f (rd (r.set t (rd r (t : Int) + k)) (f : Int) - k) by rw [HSU.out, hk]; rfl)
   obtain ⟨v1, hv1⟩ : ∃ v1, v1 = rd r (t : Int) + k := ⟨_, rfl⟩
   have hzt := hz t
   have hw2 : wrap64 (rd r (t : Int) + k) = v1 := by rw [← hv1]; unfold wrap64; omega
   obtain ⟨r1, hr1⟩ : ∃ r1, r1 = r.set t v1 := ⟨_, rfl⟩
   have hzf := (ad_size (r := r) (t := t) (f := f) (m := 2400) (k := 0) (c := 0) (by omega) (by omega) (by omega) hz (by omega) (by omega) (by omega) (by omega) (by omega) f)
   have hzf1 : -2700 ≤ rd r1 (f : Int) ∧ rd r1 (f : Int) ≤ 2700 := by
    have e := rd_set (r := r) (t := t) (p := f) (v := v1) (by omega) (by omega) (by omega)
    rw [Int.toNat_natCast, ← hr1] at e
    rw [e]
    have := hz f
    split <;> omega
   obtain ⟨v2, hv2⟩ : ∃ v2, v2 = rd r1 (f : Int) - k := ⟨_, rfl⟩
   have hw3 : wrap64 (rd r1 (f : Int) - k) = v2 := by rw [← hv2]; unfold wrap64; omega
   have HSU3 := Aside0.mk (show rgtAt n l (i + 1) = r1.set f v2 by rw [HSU2.out, ← hv1, ← hr1, ← hv2])
   have HR1 := Aside0.mk hr1
   obtain ⟨vt, hvt⟩ : ∃ vt, vt = rd r (t : Int) := ⟨_, rfl⟩
   rw [← hvt] at hw2
   obtain ⟨vf, hvf⟩ : ∃ vf, vf = rd r1 (f : Int) := ⟨_, rfl⟩
   rw [← hvf] at hw3
   have HVT := Aside0.mk hvt
   have HVF := Aside0.mk hvf
   have HRL := Aside0.mk hrl
   clear hr hz hwr hk hv1 hv2 hzt hzf hzf1 hr1 hvt hvf hrl HSU HSU2
   have HBA := Aside0.mk (below_alloc (Below.refl wr.heap.size wr) (.cells #[.int .i64 (f : Int), .int .i64 (t : Int), .int .i64 ri, .int .i64 wt] 32))
   have HNA := Aside0.mk (heap_alloc_new wr (.cells #[.int .i64 (f : Int), .int .i64 (t : Int), .int .i64 ri, .int .i64 wt] 32))
   have HT1 := Aside0.mk (HT.out.below HBA.out)
   obtain ⟨z0, z1⟩ := HT1.out.cell t (by omega)
   rw [← HVT.out] at z0
   have i1 : (0 ≤ (t : Int)) = True := eq_true (by omega)
   have i2 : ((t : Int) < (n : Int) + 1) = True := eq_true (by omega)
   have i3 : (0 ≤ (f : Int)) = True := eq_true (by omega)
   have i4 : ((f : Int) < (n : Int) + 1) = True := eq_true (by omega)
   go_wp2_with (fail)
   go_region
   have hp1 := HT1.out.put t v1
   have hb1 := (HB.out.trans (HBA.out.mono (HB.out.size))).setCell (p := ⟨g, t, none⟩) (by show w.heap.size ≤ g; rw [HG.out]; exact Nat.le_refl _) (.int .i64 v1)
   rw [← HR1.out] at hp1
   have HT2 := Aside0.mk (hp1.1.below (below_drew (Below.refl _ _)))
   have HB2 := Aside0.mk (below_drew hb1)
   have hgs := HT.out.lt (k := g) rfl
   have HN2 := Aside0.mk (blk_drew (blk_grown HNA.out hp1.2 (by intro e; have := Option.some.inj e; omega)))
   clear hp1 hb1 hgs z0 z1 cy
   obtain ⟨wa, hwa⟩ : ∃ wa, wa = ((wr.alloc (.cells #[.int .i64 (f : Int), .int .i64 (t : Int), .int .i64 ri, .int .i64 wt] 32)).setCell ⟨g, t, none⟩ (.int .i64 v1)).drew := ⟨_, rfl⟩
   rw [← hwa] at HT2 HB2 HN2
   rw [← hwa]
   clear hwa
   obtain ⟨z0, z1⟩ := HT2.out.cell f (by omega)
   rw [← HVF.out] at z0
   have k0 : wa.cell? ⟨wr.heap.size, 0, none⟩ = some (.int .i64 (f : Int)) := (blk_cell HN2.out 0).trans rfl
   have k2 : wa.cell? ⟨wr.heap.size, 2, none⟩ = some (.int .i64 ri) := (blk_cell HN2.out 2).trans rfl
   have k3 : wa.cell? ⟨wr.heap.size, 3, none⟩ = some (.int .i64 wt) := (blk_cell HN2.out 3).trans rfl
   go_wp2_with (fail)
   go_region
   have hp2 := HT2.out.put f v2
   have hb2 := HB2.out.setCell (p := ⟨g, f, none⟩) (by show w.heap.size ≤ g; rw [HG.out]; exact Nat.le_refl _) (.int .i64 v2)
   rw [← HSU3.out] at hp2
   have HT3 := Aside0.mk (hp2.1.below (below_drew (Below.refl _ _)))
   have HB3 := Aside0.mk (below_drew hb2)
   clear hp2 hb2
   go_wp2_with (fail)
   go_roundw
   case rel => exact ⟨i + 1, by go_num, by omega, HT3, HB3⟩
   case measure => simp [intOf]; omega
  ·obtain rfl : l.length = i := by omega
   have p1 : decide ((l.length : Int) < (l.length : Int)) = false := decide_eq_false (by omega)
   rw [rgtAt_all] at HT
   have cy : wr.cell? ⟨g0, 1, none⟩ = some (.slice A l.length c) := (blk_cell (blk_below HX.out HB.out) 1).trans rfl
   have hC : Kd.C (Kd.int .i64) wr (some ⟨g, 0, none⟩) (rgt n l).length (rgt n l) := (Kd.R_reads' HT.out).2.2
   have hsv := solveS2_any n g0 l (rgt n l) (ok_rgt HC.out) hn4 A c (some ⟨g, 0, none⟩) (n + 1) wr (blk_below HX.out HB.out) (Kd.C_below HR.out HB.out) hC (rgt_len n l) (rgt_size HV.out)
   rw [rgt_len] at hsv
   clear hC
   go_wp2_with (fail)
   refine hsv.mono ?_
   rintro e w1 ⟨v, rfl, h1, h2⟩
   have H1 := Aside0.mk h1
   have H2 := Aside0.mk (below_step HB.out h2)
   have H3 := Aside0.mk HB.out.size
   clear h1 h2 hsv cy
   go_wp2_with (fail)
   go_ret2
   exact ⟨v, rfl, Kd.R_lower H1.out H3.out, H2.out⟩
end Go.Proofs.Ytkafbmanmffliaa.Sp2

namespace Go.Proofs.Ytkafbmanmffliaa.Q
open Go.RowKit YtkafbmanmffliaaW.PrintWords YtkafbmanmffliaaW.PrintLast YtkafbmanmffliaaW.PrintMore
attribute [local go_sem] max2_int min2_int max_two min_two max_three min_three max_four min_four
set_option linter.unusedVariables false
set_option linter.unusedSimpArgs false
def spec_l10Adjusted.f (s0_0 : Int) (s0_1 : List (S32)) : Option (List Int × Int × Int) := if Gm.connB s0_0 s0_1 = true then some (Gv.nuL s0_1 (Ke.rgt (Ex.wp s0_0) s0_1) (Ex.wp s0_0), Gn.den s0_1 (Ex.wp s0_0), s0_0) else none
theorem spec_l10Adjusted.calls (g : Nat) (s0_0 : Int) (s0_1 : List (S32)) (r1 : List Int) (r2 : Int) (r3 : Int) (w0 w : World) (hI : IsS26 w0 w g s0_0 s0_1) (hB : Below w0.heap.size w0 w) (h : spec_l10Adjusted.f s0_0 s0_1 = some (r1, r2, r3)) :
  Calls Try.prog 77 #[.pointer (some ⟨g, 0, none⟩)] w fun e w' => ∃ v0_ : Value, e = .returned (.tuple #[v0_, .int .i64 r2]) ∧ Kd.R (Kd.int .i64) 2 w' w.heap.size (fun _ => True) v0_ r1 ∧ IsS26 w0 w' g r3 s0_1 ∧ Below w0.heap.size w0 w' ∧ KeepBut w w' g none := by
 unfold spec_l10Adjusted.f at h
 by_cases hc : Gm.connB s0_0 s0_1 = true
 ·rw [if_pos hc] at h
  simp only [Option.some.injEq, Prod.mk.injEq] at h
  obtain ⟨rfl, rfl, rfl⟩ := h
  obtain ⟨A0, c0, hb, hg, hr⟩ := hI
  obtain ⟨n, rfl⟩ := Ex.conn_nat hc
  rw [Ex.wp_eq]
  refine (Sp2.specAdj_any n g s0_1 hc A0 c0 w hb (Kd.C_below hr hB)).mono ?_
  rintro e w' ⟨v, rfl, t, hw⟩
  exact ⟨v, rfl, t, IsS26.below ⟨A0, c0, hb, hg, hr⟩ hw, below_then hB hB.size hw, KeepBut.of_below hw g none⟩
 ·rw [if_neg hc] at h; cases h
end Go.Proofs.Ytkafbmanmffliaa.Q

namespace Go.Proofs.Ytkafbmanmffliaa.Q
open Go.RowKit YtkafbmanmffliaaW.PrintWords YtkafbmanmffliaaW.PrintLast YtkafbmanmffliaaW.PrintMore
attribute [local go_sem] max2_int min2_int max_two min_two max_three min_three max_four min_four
set_option linter.unusedVariables false
set_option linter.unusedSimpArgs false
def spec_AdjustSurvey.f (k : Nat) (a0_0 : Int) (l0_1 : List (S32)) : Option (Int × List Int × Bool) := (spec_l10Whole.f a0_0 l0_1).bind fun bt269 => (if bt269.1 = true then ((spec_l10Adjusted.f bt269.2 l0_1).bind fun bt271 => ((spec_l10Lowest.f k bt271.1 bt271.2.1).bind fun bt276 => (some (bt276.1, bt276.2, true)))) else (some (0, ([] : List Int), false)))
set_option maxHeartbeats 8000000 in
set_option maxRecDepth 100000 in
theorem spec_AdjustSurvey.calls (k : Nat) (a0_0 : Int) (A0_1 : Option Addr) (c0_1 : Nat) (l0_1 : List (S32)) (r1 : Int) (r2 : List Int) (r3 : Bool) (w : World) (hr0_1 : Kd.C k32 w A0_1 l0_1.length l0_1) (hc0_1 : l0_1.length ≤ c0_1) (h : spec_AdjustSurvey.f k a0_0 l0_1 = some (r1, r2, r3)) :
  Calls Try.prog 43 #[.agg #[.int .i64 a0_0, .slice A0_1 l0_1.length c0_1]] w fun e w' => ∃ v1_ : Value, e = .returned (.tuple #[.int .i64 r1, v1_, .bool r3]) ∧ Kd.R (Kd.int .i64) 2 w' w.heap.size (fun _ => True) v1_ r2 ∧ Below w.heap.size w w' := by
 have hu26 := Try.underlying26
 have HR0_1 := Aside0.mk hr0_1
 have HC0_1 := Aside0.mk hc0_1
 clear hr0_1 hc0_1
 have HB := Aside0.mk (Below.refl w.heap.size w)
 have H : ((spec_l10Whole.f a0_0 l0_1).bind fun bt269 => (if bt269.1 = true then ((spec_l10Adjusted.f bt269.2 l0_1).bind fun bt271 => ((spec_l10Lowest.f k bt271.1 bt271.2.1).bind fun bt276 => (some (bt276.1, bt276.2, true)))) else (some (0, ([] : List Int), false)))) = some (r1, r2, r3) := h
 clear h
 replace H := Option.bind_eq_some_iff.mp H
 obtain ⟨⟨t269, t270⟩, A20, H⟩ := H
 replace H : (if t269 = true then ((spec_l10Adjusted.f t270 l0_1).bind fun bt271 => ((spec_l10Lowest.f k bt271.1 bt271.2.1).bind fun bt276 => (some (bt276.1, bt276.2, true)))) else (some (0, ([] : List Int), false))) = some (r1, r2, r3) := H
 have A2 := Aside0.mk A20
 clear A20
 by_cases c3 : t269 = true
 ·subst c3
  have H1 : ((spec_l10Adjusted.f t270 l0_1).bind fun bt271 => ((spec_l10Lowest.f k bt271.1 bt271.2.1).bind fun bt276 => (some (bt276.1, bt276.2, true)))) = some (r1, r2, r3) := by rw [if_pos rfl] at H; exact H
  clear H
  have H := H1
  clear H1
  replace H := Option.bind_eq_some_iff.mp H
  obtain ⟨⟨t271, t274, t275⟩, A40, H⟩ := H
  replace H : ((spec_l10Lowest.f k t271 t274).bind fun bt276 => (some (bt276.1, bt276.2, true))) = some (r1, r2, r3) := H
  have A4 := Aside0.mk A40
  clear A40
  replace H := Option.bind_eq_some_iff.mp H
  obtain ⟨⟨t276, t277⟩, A50, H⟩ := H
  replace H : (some (t276, t277, true)) = some (r1, r2, r3) := H
  have A5 := Aside0.mk A50
  clear A50
  simp only [Option.some.injEq, Prod.mk.injEq] at H
  obtain ⟨rfl, rfl, rfl⟩ := H
  go_enter Try.func43, Try.ntmps43
  go_wp2_with (first | ((with_reducible refine gate_dst (N := 1) rfl ?_); refine box_event ?hg (N := 1) ?hd (cs := #[.int .i64 a0_0, .slice A0_1 l0_1.length c0_1]) (t := 26) ?hr ?_; (case hd => rfl); (case hg => rfl); (case hr => first | (go_simp; done) | (go_simp; rfl)); intro gb268 hg w6 hbox hb; have n0_ := Aside0.mk (below_step (by repeat (first | (with_reducible first | exact HB.out | apply below_alloc | apply pw_below_drewN | apply below_drew1) | exact HB.out)) hb); have n1_ := Aside0.mk ((by rw [hg]; exact (below_size (by repeat (first | (with_reducible first | exact HB.out | apply below_alloc | apply pw_below_drewN | apply below_drew1) | exact HB.out))) : w.heap.size ≤ gb268)); have n2_ := Aside0.mk ((by rw [hg]; exact (below_size (by repeat (first | (with_reducible first | exact HB.out | apply below_alloc | apply pw_below_drewN | apply below_drew1) | exact HB.out))) : w.heap.size ≤ gb268)); have n3_ := Aside0.mk ((⟨A0_1, c0_1, hbox, (by rw [hg]; exact (below_size (by repeat (first | (with_reducible first | exact HB.out | apply below_alloc | apply pw_below_drewN | apply below_drew1) | exact HB.out)))), HR0_1.out⟩ : IsS26 w w6 gb268 a0_0 l0_1)); clear HB; have HB := n0_; have GW268 := n1_; have GE268 := n2_; have HI268 := n3_; clear n0_ n1_ n2_ n3_; clear hb hbox hg) | ((with_reducible refine gate_callee (f := 58) rfl ?_); refine goesL_ (some 9) rfl rfl Try.func58 (by kernel_rfl) rfl #[.pointer (some ⟨gb268, 0, none⟩)] rfl (by (try simp only [List.map_toArray, List.map_cons, List.map_nil]); first | done | rfl | (simp only [List.length_drop, List.length_take]; rfl)) ?_; (with_reducible refine (spec_l10Whole.calls gb268 a0_0 l0_1 true t270 w _ ?side1 ?side2 A2.out).mono ?_); (case side1 => repeat (first | (with_reducible first | exact HI268.out | apply IsS26.alloc | apply IsS26.drewN | apply IsS26.drew | apply IsS26.set_0) | exact HI268.out)); (case side2 => repeat (first | (with_reducible first | exact HB.out | apply below_alloc | apply pw_below_drewN | apply below_drew1 | refine below_set ?_ (IsS26.ge HI268.out)) | exact HB.out)); rintro e w7 ⟨rfl, hi, hb, hk⟩; refine ⟨_, rfl, ?_⟩; have n0_ := Aside0.mk (hb); have n1_ := Aside0.mk (hi); clear HB; clear HI268; have HB := n0_; have HI268 := n1_; clear n0_ n1_; (try clear hb); (try clear hb2); (try clear hk); (try clear hi)) | ((with_reducible refine gate_callee (f := 77) rfl ?_); refine goesL_ (some 12) rfl rfl Try.func77 (by kernel_rfl) rfl #[.pointer (some ⟨gb268, 0, none⟩)] rfl (by (try simp only [List.map_toArray, List.map_cons, List.map_nil]); first | done | rfl | (simp only [List.length_drop, List.length_take]; rfl)) ?_; (with_reducible refine (spec_l10Adjusted.calls gb268 t270 l0_1 t271 t274 t275 w _ ?side1 ?side2 A4.out).mono ?_); (case side1 => repeat (first | (with_reducible first | exact HI268.out | apply IsS26.alloc | apply IsS26.drewN | apply IsS26.drew | apply IsS26.set_0) | exact HI268.out)); (case side2 => repeat (first | (with_reducible first | exact HB.out | apply below_alloc | apply pw_below_drewN | apply below_drew1 | refine below_set ?_ (IsS26.ge HI268.out)) | exact HB.out)); rintro e w8 ⟨v272, rfl, ho0, hi, hb, hk⟩; refine ⟨_, rfl, ?_⟩; have n0_ := Aside0.mk (Kd.R_lower ho0 (below_size (by repeat (first | (with_reducible first | exact HB.out | apply below_alloc | apply pw_below_drewN | apply below_drew1 | refine below_set ?_ (IsS26.ge HI268.out)) | exact HB.out)))); have n1_ := Aside0.mk (hb); have n2_ := Aside0.mk (hi); clear HB; clear HI268; have HO273 := n0_; have HB := n1_; have HI268 := n2_; clear n0_ n1_ n2_; (try clear hb); (try clear hb2); (try clear hk); (try clear hi); (try clear ho0); obtain ⟨Ao9, co9, eo9⟩ := Kd.R_slice HO273.out; subst eo9) | ((with_reducible refine gate_callee (f := 72) rfl ?_); refine goesL_ (some 18) rfl rfl Try.func72 (by kernel_rfl) rfl #[.slice Ao9 t271.length co9, .int .i64 t274] rfl (by (try simp only [List.map_toArray, List.map_cons, List.map_nil]); first | done | rfl | (simp only [List.length_drop, List.length_take]; rfl)) ?_; (with_reducible refine (spec_l10Lowest.calls k _ _ t271 t274 t276 t277 _ ?side1 ?side2 A5.out).mono ?_); (case side1 => repeat (first | exact (Kd.R_reads' HO273.out).2.2 | (with_reducible refine Kd.C_alloc ?_ _) | (with_reducible refine Kd.C_drewN ?_ _) | (with_reducible refine Kd.C_drew ?_))); (case side2 => exact (Kd.R_reads' HO273.out).2.1); rintro e w10 ⟨v278, rfl, ho0, hb⟩; refine ⟨_, rfl, ?_⟩; have n0_ := Aside0.mk (Kd.R_elder' (by (with_reducible repeat (first | apply Kd.R_alloc | apply Kd.R_drewN | apply Kd.R_drew)); exact HO273.out) (Kd.R_base ho0) hb); have n1_ := Aside0.mk (Kd.R_lower (Kd.R_new' ho0 (Kd.R_lt (by (with_reducible repeat (first | apply Kd.R_alloc | apply Kd.R_drewN | apply Kd.R_drew)); exact HO273.out))) (below_size (by repeat (first | (with_reducible first | exact HB.out | apply below_alloc | apply pw_below_drewN | apply below_drew1 | refine below_set ?_ (IsS26.ge HI268.out)) | exact HB.out)))); have n2_ := Aside0.mk (IsS26.below (by repeat (first | (with_reducible first | exact HI268.out | apply IsS26.alloc | apply IsS26.drewN | apply IsS26.drew | apply IsS26.set_0) | exact HI268.out)) hb); have n3_ := Aside0.mk (below_step (by repeat (first | (with_reducible first | exact HB.out | apply below_alloc | apply pw_below_drewN | apply below_drew1 | refine below_set ?_ (IsS26.ge HI268.out)) | exact HB.out)) hb); clear HO273; clear HI268; clear HB; have HO273 := n0_; have HO279 := n1_; have HI268 := n2_; have HB := n3_; clear n0_ n1_ n2_ n3_; (try clear hb); (try clear hb2); (try clear hk); (try clear hi); (try clear ho0)))
  go_ret3
  exact ⟨_, by first | rfl | (simp [errW_none, errW_some] <;> rfl) | (simp [*, errW_none, errW_some] <;> rfl), by (with_reducible repeat (first | apply Kd.R_alloc | apply Kd.R_drewN | apply Kd.R_drew)); exact Kd.R_mono HO279.out (fun _ hk => trivial), by repeat (first | (with_reducible first | exact HB.out | apply below_alloc | apply pw_below_drewN | apply below_drew1 | refine below_set ?_ (IsS26.ge HI268.out)) | exact HB.out)⟩
 ·replace c3 := Bool.eq_false_iff.mpr c3
  subst c3
  have H1 : (some (0, ([] : List Int), false)) = some (r1, r2, r3) := by rw [if_neg (show ¬ (false = true) by decide)] at H; exact H
  clear H
  have H := H1
  clear H1
  simp only [Option.some.injEq, Prod.mk.injEq] at H
  obtain ⟨rfl, rfl, rfl⟩ := H
  go_enter Try.func43, Try.ntmps43
  go_wp2_with (first | ((with_reducible refine gate_dst (N := 1) rfl ?_); refine box_event ?hg (N := 1) ?hd (cs := #[.int .i64 a0_0, .slice A0_1 l0_1.length c0_1]) (t := 26) ?hr ?_; (case hd => rfl); (case hg => rfl); (case hr => first | (go_simp; done) | (go_simp; rfl)); intro gb268 hg w11 hbox hb; have n0_ := Aside0.mk (below_step (by repeat (first | (with_reducible first | exact HB.out | apply below_alloc | apply pw_below_drewN | apply below_drew1) | exact HB.out)) hb); have n1_ := Aside0.mk ((by rw [hg]; exact (below_size (by repeat (first | (with_reducible first | exact HB.out | apply below_alloc | apply pw_below_drewN | apply below_drew1) | exact HB.out))) : w.heap.size ≤ gb268)); have n2_ := Aside0.mk ((by rw [hg]; exact (below_size (by repeat (first | (with_reducible first | exact HB.out | apply below_alloc | apply pw_below_drewN | apply below_drew1) | exact HB.out))) : w.heap.size ≤ gb268)); have n3_ := Aside0.mk ((⟨A0_1, c0_1, hbox, (by rw [hg]; exact (below_size (by repeat (first | (with_reducible first | exact HB.out | apply below_alloc | apply pw_below_drewN | apply below_drew1) | exact HB.out)))), HR0_1.out⟩ : IsS26 w w11 gb268 a0_0 l0_1)); clear HB; have HB := n0_; have GW268 := n1_; have GE268 := n2_; have HI268 := n3_; clear n0_ n1_ n2_ n3_; clear hb hbox hg) | ((with_reducible refine gate_callee (f := 58) rfl ?_); refine goesL_ (some 9) rfl rfl Try.func58 (by kernel_rfl) rfl #[.pointer (some ⟨gb268, 0, none⟩)] rfl (by (try simp only [List.map_toArray, List.map_cons, List.map_nil]); first | done | rfl | (simp only [List.length_drop, List.length_take]; rfl)) ?_; (with_reducible refine (spec_l10Whole.calls gb268 a0_0 l0_1 false t270 w _ ?side1 ?side2 A2.out).mono ?_); (case side1 => repeat (first | (with_reducible first | exact HI268.out | apply IsS26.alloc | apply IsS26.drewN | apply IsS26.drew | apply IsS26.set_0) | exact HI268.out)); (case side2 => repeat (first | (with_reducible first | exact HB.out | apply below_alloc | apply pw_below_drewN | apply below_drew1 | refine below_set ?_ (IsS26.ge HI268.out)) | exact HB.out)); rintro e w12 ⟨rfl, hi, hb, hk⟩; refine ⟨_, rfl, ?_⟩; have n0_ := Aside0.mk (hb); have n1_ := Aside0.mk (hi); clear HB; clear HI268; have HB := n0_; have HI268 := n1_; clear n0_ n1_; (try clear hb); (try clear hb2); (try clear hk); (try clear hi)))
  go_ret3
  exact ⟨_, by first | rfl | (simp [errW_none, errW_some] <;> rfl) | (simp [*, errW_none, errW_some] <;> rfl), by first | exact Kd.R_nil _ _ _ _ _ | exact Kd.N_nil _ _ _ _ _ | exact Kd.V_nil _ _ _ _ _ | exact Kd.Q_nil _ _ _ _ _ | exact Kd.S_nil _ _ _ _ _, by repeat (first | (with_reducible first | exact HB.out | apply below_alloc | apply pw_below_drewN | apply below_drew1 | refine below_set ?_ (IsS26.ge HI268.out)) | exact HB.out)⟩
end Go.Proofs.Ytkafbmanmffliaa.Q

/- The reference's l10Redundancies. -/
namespace Go.Proofs.Ytkafbmanmffliaa.Sp3
open Go Go.RowKit YtkafbmanmffliaaW.PrintWords YtkafbmanmffliaaW.PrintLast YtkafbmanmffliaaW.PrintMore Q Gd Gf Ge Gi Hb Ha Hc Gs Gn Kc Ke Kf Gv Gw Lo2 Ex Sp2
set_option linter.unusedVariables false
set_option linter.unusedSimpArgs false
end Go.Proofs.Ytkafbmanmffliaa.Sp3

namespace Go.Proofs.Ytkafbmanmffliaa.Q
open Go.RowKit YtkafbmanmffliaaW.PrintWords YtkafbmanmffliaaW.PrintLast YtkafbmanmffliaaW.PrintMore
attribute [local go_sem] max2_int min2_int max_two min_two max_three min_three max_four min_four
set_option linter.unusedVariables false
set_option linter.unusedSimpArgs false
def spec_l10Redundancies.f (s0_0 : Int) (s0_1 : List (S32)) : Option (Int × List Int × Int) := if Gm.connB s0_0 s0_1 = true then some (Ex.redD s0_0 s0_1, Ex.redL s0_0 s0_1, s0_0) else none
end Go.Proofs.Ytkafbmanmffliaa.Q

namespace Go.Proofs.Ytkafbmanmffliaa.Q
open Go.RowKit YtkafbmanmffliaaW.PrintWords YtkafbmanmffliaaW.PrintLast YtkafbmanmffliaaW.PrintMore
attribute [local go_sem] max2_int min2_int max_two min_two max_three min_three max_four min_four
set_option linter.unusedVariables false
set_option linter.unusedSimpArgs false
def spec_RedundanciesOf.f (a0_0 : Int) (l0_1 : List (S32)) : Option (Int × List Int × Bool) := (spec_l10Whole.f a0_0 l0_1).bind fun bt415 => (if bt415.1 = true then ((spec_l10Redundancies.f bt415.2 l0_1).bind fun bt417 => (some (bt417.1, bt417.2.1, true))) else (some (0, ([] : List Int), false)))
end Go.Proofs.Ytkafbmanmffliaa.Q

/- The program's CofactorOf and RiseBetween: what they return. -/
namespace Go.Proofs.Ytkafbmanmffliaa.Ex2
open Go Go.RowKit YtkafbmanmffliaaW.PrintWords YtkafbmanmffliaaW.PrintLast YtkafbmanmffliaaW.PrintMore Q Bg Dd Bi Rt Ru Rx Ra Gd Gf Ge Hb Ha Hc Gs Gn Kc Ke Kf Gt Gu Gx Gy Gv Lo Lo2 Ex
set_option linter.unusedVariables false
set_option linter.unusedSimpArgs false
def okN (ok : Bool) (q : Rat) : Int := if ok = true then q.num else 0
def okD (ok : Bool) (q : Rat) : Int := if ok = true then (q.den : Int) else 0
def Post2 (w : World) (q : Rat) (ok : Bool) (e : Ending) (w' : World) : Prop := e = .returned (.tuple #[.int .i64 (okN ok q), .int .i64 (okD ok q), .bool ok]) ∧ Below w.heap.size w w'
def rise (n : Nat) (l : List S32) (a b : Int) : Rat := hts n l b - hts n l a
end Go.Proofs.Ytkafbmanmffliaa.Ex2

namespace Go.Proofs.Ytkafbmanmffliaa.Q
open Go.RowKit YtkafbmanmffliaaW.PrintWords YtkafbmanmffliaaW.PrintLast YtkafbmanmffliaaW.PrintMore
attribute [local go_sem] max2_int min2_int max_two min_two max_three min_three max_four min_four
set_option linter.unusedVariables false
set_option linter.unusedSimpArgs false
def spec_l10Cofactor.f (s0_0 : Int) (s0_1 : List (S32)) (a1 : Int) (a2 : Int) : Option (Int × Int × Int) := if Ex.ptsB s0_0 s0_1 a1 a2 = true then some (Ex.cofN (Ex.wp s0_0) s0_1 a1 a2, Gn.den s0_1 (Ex.wp s0_0), s0_0) else none
end Go.Proofs.Ytkafbmanmffliaa.Q

namespace Go.Proofs.Ytkafbmanmffliaa.Q
open Go.RowKit YtkafbmanmffliaaW.PrintWords YtkafbmanmffliaaW.PrintLast YtkafbmanmffliaaW.PrintMore
attribute [local go_sem] max2_int min2_int max_two min_two max_three min_three max_four min_four
set_option linter.unusedVariables false
set_option linter.unusedSimpArgs false
def spec_l10Point.f (s0_0 : Int) (s0_1 : List (S32)) (a1 : Int) : Option (Bool × Int) := (spec_l10Whole.f s0_0 s0_1).bind fun bt374 => (if bt374.1 = true then ((spec_l00In.f a1 0 (wrap64 (bt374.2 - 1))).bind fun t376 => (some (t376, bt374.2))) else (some (false, bt374.2)))
end Go.Proofs.Ytkafbmanmffliaa.Q

namespace Go.Proofs.Ytkafbmanmffliaa.Q
open Go.RowKit YtkafbmanmffliaaW.PrintWords YtkafbmanmffliaaW.PrintLast YtkafbmanmffliaaW.PrintMore
attribute [local go_sem] max2_int min2_int max_two min_two max_three min_three max_four min_four
set_option linter.unusedVariables false
set_option linter.unusedSimpArgs false
def spec_CofactorOf.j0 : Nat → Int → Int → Bool → Int → List (S32) → Option (Int × Int × Bool)
 | 0, _, _, _, _, _ => none
 | k + 1, x1, x2, x20, x476000, x476001 => if x20 = true then (some (0, 0, false)) else ((spec_l10Cofactor.f x476000 x476001 x1 x2).bind fun bt480 => ((spec_l10Lowest.f k (([bt480.1] : List Int)) bt480.2.1).bind fun bt486 => (if 0 < (bt486.2.length : Int) then (some (rd bt486.2 0, bt486.1, true)) else (none))))
def spec_CofactorOf.f (k : Nat) (a0_0 : Int) (l0_1 : List (S32)) (a1 : Int) (a2 : Int) : Option (Int × Int × Bool) := (spec_l10Point.f a0_0 l0_1 a1).bind fun bt476 => (if bt476.1 = true then ((spec_l10Point.f bt476.2 l0_1 a2).bind fun bt478 => (spec_CofactorOf.j0 k a1 a2 (!bt478.1) bt478.2 l0_1)) else (spec_CofactorOf.j0 k a1 a2 true bt476.2 l0_1))
end Go.Proofs.Ytkafbmanmffliaa.Q

namespace Go.Proofs.Ytkafbmanmffliaa.Q
open Go.RowKit YtkafbmanmffliaaW.PrintWords YtkafbmanmffliaaW.PrintLast YtkafbmanmffliaaW.PrintMore
attribute [local go_sem] max2_int min2_int max_two min_two max_three min_three max_four min_four
set_option linter.unusedVariables false
set_option linter.unusedSimpArgs false
def spec_RiseBetween.j0 : Nat → Int → Int → Bool → Int → List (S32) → Option (Int × Int × Bool)
 | 0, _, _, _, _, _ => none
 | k + 1, x1, x2, x20, x514000, x514001 => if x20 = true then (some (0, 0, false)) else ((spec_l10Adjusted.f x514000 x514001).bind fun bt518 => (if 0 ≤ x2 then (if x2 < (bt518.1.length : Int) then (if 0 ≤ x1 then (if x1 < (bt518.1.length : Int) then ((spec_l10Lowest.f k (([wrap64 ((rd bt518.1 x2) - (rd bt518.1 x1))] : List Int)) bt518.2.1).bind fun bt528 => (if 0 < (bt528.2.length : Int) then (some (rd bt528.2 0, bt528.1, true)) else (none))) else (none)) else (none)) else (none)) else (none)))
def spec_RiseBetween.f (k : Nat) (a0_0 : Int) (l0_1 : List (S32)) (a1 : Int) (a2 : Int) : Option (Int × Int × Bool) := (spec_l10Point.f a0_0 l0_1 a1).bind fun bt514 => (if bt514.1 = true then ((spec_l10Point.f bt514.2 l0_1 a2).bind fun bt516 => (spec_RiseBetween.j0 k a1 a2 (!bt516.1) bt516.2 l0_1)) else (spec_RiseBetween.j0 k a1 a2 true bt514.2 l0_1))
def spec_RiseBetween.T4 : Bool × List (List Nat × List Nat) := (true, [([], []), ([], []), ([0, 1], [0, 1]), ([2], [2]), ([], []), ([], []), ([4, 5], [4, 5]), ([6], [6]), ([3, 7], [3, 7]), ([8], [8]), ([], []), ([9, 10], [9, 10]), ([11], [11]), ([12], [12]), ([12], [12]), ([13, 11, 0, 1, 2, 3, 4, 5, 6, 7, 8, 9, 10, 11, 12, 13], [13]), ([14, 15, 0, 1, 2, 3, 4, 5, 6, 7, 8, 9, 10, 11, 12, 13, 14, 15], [14])])
def spec_RiseBetween.B4 : List Nat := [0, 0, 3, 7, 0, 0, 48, 112, 255, 511, 0, 2047, 4095, 8191, 8191, 16383, 65535]
end Go.Proofs.Ytkafbmanmffliaa.Q

namespace Go.Proofs.Ytkafbmanmffliaa.Q
open Go.RowKit YtkafbmanmffliaaW.PrintWords YtkafbmanmffliaaW.PrintLast YtkafbmanmffliaaW.PrintMore
attribute [local go_sem] max2_int min2_int max_two min_two max_three min_three max_four min_four
set_option linter.unusedVariables false
set_option linter.unusedSimpArgs false
def spec_l10Residuals.l0 : Nat → List Int → Int → List Int → Int → Int → List (S32) → Option (Int × List Int × Int)
 | 0, _, _, _, _, _, _ => none
 | k + 1, x4, x5, x6, x7, x1000, x1001 => if x7 < (x1001.length : Int) then (if 0 ≤ x7 then (if 0 ≤ ((rd_T32 x1001 x7).f1) then (if ((rd_T32 x1001 x7).f1) < (x4.length : Int) then (if 0 ≤ ((rd_T32 x1001 x7).f0) then (if ((rd_T32 x1001 x7).f0) < (x4.length : Int) then (if x6.length < 17592186044416 then (spec_l10Residuals.l0 k x4 x5 (x6 ++ [wrap64 ((wrap64 ((wrap64 (((rd_T32 x1001 x7).f2) * x5)) - (rd x4 ((rd_T32 x1001 x7).f1)))) + (rd x4 ((rd_T32 x1001 x7).f0)))]) (wrap64 (x7 + 1)) x1000 x1001) else (none)) else (none)) else (none)) else (none)) else (none)) else (none)) else ((spec_l10Lowest.f k x6 x5).bind fun bt350 => (some (bt350.1, bt350.2, x1000)))
def spec_l10Residuals.f (k : Nat) (s0_0 : Int) (s0_1 : List (S32)) : Option (Int × List Int × Int) := (spec_l10Adjusted.f s0_0 s0_1).bind fun bt335 => (spec_l10Residuals.l0 k bt335.1 bt335.2.1 (([] : List Int)) 0 bt335.2.2 s0_1)
def spec_l10Residuals.T7 : Bool × List (List Nat × List Nat) := (true, [([], []), ([], []), ([1], [1]), ([], []), ([2, 3], [2, 3]), ([], []), ([], []), ([6], [6]), ([5, 7], [5, 7]), ([8], [8]), ([4, 9], [4, 9]), ([], []), ([], []), ([12], [12]), ([11, 13], [11, 13]), ([14], [14]), ([10, 15], [10, 15]), ([16], [16]), ([0, 17], [0, 17]), ([18, 18, 0, 1, 2, 3, 4, 5, 6, 7, 8, 9, 10, 11, 12, 13, 14, 15, 16, 17, 18], [0, 18])])
def spec_l10Residuals.B7 : List Nat := [0, 0, 2, 0, 14, 0, 0, 64, 224, 480, 1022, 0, 0, 4096, 14336, 30720, 65534, 131070, 262143, 524287]
end Go.Proofs.Ytkafbmanmffliaa.Q

namespace Go.Proofs.Ytkafbmanmffliaa.Q
open Go.RowKit YtkafbmanmffliaaW.PrintWords YtkafbmanmffliaaW.PrintLast YtkafbmanmffliaaW.PrintMore
attribute [local go_sem] max2_int min2_int max_two min_two max_three min_three max_four min_four
set_option linter.unusedVariables false
set_option linter.unusedSimpArgs false
def spec_ResidualsOf.f (k : Nat) (a0_0 : Int) (l0_1 : List (S32)) : Option (Int × List Int × Bool) := (spec_l10Whole.f a0_0 l0_1).bind fun bt355 => (if bt355.1 = true then ((spec_l10Residuals.f k bt355.2 l0_1).bind fun bt357 => (some (bt357.1, bt357.2.1, true))) else (some (0, ([] : List Int), false)))
end Go.Proofs.Ytkafbmanmffliaa.Q

/- What the laws' helpers compute on lists of numbers: equality with itself, marks, and that marks are held. -/
namespace Go.Proofs.Ytkafbmanmffliaa.PuI
open Go.RowKit YtkafbmanmffliaaW.PrintWords Q PuS
theorem eqInt_loop (l : List Int) (hl : l.length ≤ 1048576) : ∀ (d k i : Nat), i + d = l.length → d < k → laws_eqInt64S.l0 k l l i = some true := by
 intro d
 induction d with
 | zero =>
  intro k i hi hk
  obtain ⟨k, rfl⟩ : ∃ m, k = m + 1 := ⟨k - 1, by omega⟩
  simp only [laws_eqInt64S.l0]
  rw [if_neg (by omega)]
 | succ d ih =>
  intro k i hi hk
  obtain ⟨k, rfl⟩ : ∃ m, k = m + 1 := ⟨k - 1, by omega⟩
  simp only [laws_eqInt64S.l0, if_true]
  rw [if_pos (by omega), if_pos (by omega), if_pos (by omega), wrap_id (by omega) (by omega), show (i : Int) + 1 = ((i + 1 : Nat) : Int) by omega]
  exact ih k (i + 1) (by omega) (by omega)
theorem eqInt_eq (l : List Int) (hl : l.length ≤ 1048576) (k : Nat) (hk : l.length < k) : laws_eqInt64S.f k l l = some true := by
 simp only [laws_eqInt64S.f, if_true]
 exact eqInt_loop l hl l.length k 0 (by omega) hk
def marked (n : Nat) : List Int := (List.range n).map fun j : Nat => (j : Int) + 1
theorem marked_len (n : Nat) : (marked n).length = n := by simp [marked]
theorem mark_loop (n : Nat) (hn : n ≤ 1048576) : ∀ (d k i : Nat) (x : List Int), x.length = n → i + d = n → d < k → (∀ j, j < i → x[j]? = (marked n)[j]?) → laws_markInt64S.l0 k x ((i : Int) + 1) i = some ((n : Int) + 1, marked n) := by
 intro d
 induction d with
 | zero =>
  intro k i x hx hi hk hj
  obtain ⟨k, rfl⟩ : ∃ m, k = m + 1 := ⟨k - 1, by omega⟩
  simp only [laws_markInt64S.l0]
  rw [if_neg (by omega)]
  have : x = marked n := by
   apply List.ext_getElem?
   intro j
   by_cases h : j < i
   ·exact hj j h
   ·rw [List.getElem?_eq_none (by omega), List.getElem?_eq_none (by rw [marked_len]; omega)]
  rw [this, show i = n by omega]
 | succ d ih =>
  intro k i x hx hi hk hj
  obtain ⟨k, rfl⟩ : ∃ m, k = m + 1 := ⟨k - 1, by omega⟩
  simp only [laws_markInt64S.l0]
  rw [if_pos (by omega), if_pos (by omega), wrap_id (x := (i : Int) + 1 + 1) (by omega) (by omega), wrap_id (x := (i : Int) + 1) (by omega) (by omega), Int.toNat_natCast, show (i : Int) + 1 = ((i + 1 : Nat) : Int) by omega]
  refine ih k (i + 1) _ (by simp [hx]) (by omega) (by omega) ?_
  intro j hlt
  by_cases h : j = i
  ·subst h
   rw [List.getElem?_set_self (by omega)]
   simp [marked, show j < n by omega]
  ·rw [List.getElem?_set_ne (by omega)]; exact hj j (by omega)
theorem mark_eq (l : List Int) (hl : l.length ≤ 1048576) (k : Nat) (hk : l.length < k) : laws_markInt64S.f k l 1 = some ((l.length : Int) + 1, marked l.length) := by
 have := mark_loop l.length hl l.length k 0 l rfl (by omega) hk (by intro j hj; omega)
 exact this
theorem held_loop (n : Nat) (hn : n ≤ 1048576) : ∀ (d k i : Nat), i + d = n → d < k → laws_heldInt64S.l0 k (marked n) ((i : Int) + 1) i = some ((n : Int) + 1) := by
 intro d
 have hl := marked_len n
 induction d with
 | zero =>
  intro k i hi hk
  obtain ⟨k, rfl⟩ : ∃ m, k = m + 1 := ⟨k - 1, by omega⟩
  simp only [laws_heldInt64S.l0]
  rw [if_neg (by omega), show i = n by omega]
 | succ d ih =>
  intro k i hi hk
  obtain ⟨k, rfl⟩ : ∃ m, k = m + 1 := ⟨k - 1, by omega⟩
  have hr : rd (marked n) i = (i : Int) + 1 := by
   simp [rd, marked, List.getD_eq_getElem?_getD, show i < n by omega]
  simp only [laws_heldInt64S.l0, hr, if_true]
  rw [if_pos (by omega), if_pos (by omega), wrap_id (x := (i : Int) + 1 + 1) (by omega) (by omega), wrap_id (x := (i : Int) + 1) (by omega) (by omega), show (i : Int) + 1 = ((i + 1 : Nat) : Int) by omega]
  exact ih k (i + 1) (by omega) (by omega)
theorem held_eq (n : Nat) (hn : n ≤ 1048576) (k : Nat) (hk : n < k) : laws_heldInt64S.f k (marked n) 1 = some ((n : Int) + 1) := by
 have := held_loop n hn n k 0 (by omega) hk
 exact this
theorem markS_loop (n : Nat) (hn : n ≤ 1048576) : ∀ (d k i : Nat) (x : List S32), x.length = n → i + d = n → d < k → ∃ y : List S32, laws_markSightS.l0 k x (4 * (i : Int) + 1) i = some (4 * (n : Int) + 1, y) ∧ y.length = n := by
 intro d
 induction d with
 | zero =>
  intro k i x hx hi hk
  obtain ⟨k, rfl⟩ : ∃ m, k = m + 1 := ⟨k - 1, by omega⟩
  simp only [laws_markSightS.l0]
  rw [if_neg (by omega), show i = n by omega]
  exact ⟨x, rfl, hx⟩
 | succ d ih =>
  intro k i x hx hi hk
  obtain ⟨k, rfl⟩ : ∃ m, k = m + 1 := ⟨k - 1, by omega⟩
  simp only [laws_markSightS.l0, Option.bind_some]
  rw [if_pos (by omega), if_pos (by omega), wrap_id (x := 4 * (i : Int) + 1 + 1) (by omega) (by omega), wrap_id (x := 4 * (i : Int) + 1 + 1 + 1) (by omega) (by omega), wrap_id (x := 4 * (i : Int) + 1 + 1 + 1 + 1) (by omega) (by omega), wrap_id (x := 4 * (i : Int) + 1 + 1 + 1 + 1 + 1) (by omega) (by omega), wrap_id (x := (i : Int) + 1) (by omega) (by omega), show 4 * (i : Int) + 1 + 1 + 1 + 1 + 1 = 4 * ((i + 1 : Nat) : Int) + 1 by omega, show (i : Int) + 1 = ((i + 1 : Nat) : Int) by omega]
  exact ih k (i + 1) _ (by simp [hx]) (by omega) (by omega)
theorem markSurvey_eq (p : Int) (l : List S32) (hl : l.length ≤ 1048576) (k : Nat) (hk : l.length < k) : ∃ y : List S32, laws_markSurvey.f k p l 1 = some (4 * (l.length : Int) + 1, y) ∧ y.length = l.length := by
 obtain ⟨y, hy, hl2⟩ := markS_loop l.length hl l.length k 0 l rfl (by omega) hk
 refine ⟨y, ?_, hl2⟩
 have : laws_markSightS.f k l 1 = some (4 * (l.length : Int) + 1, y) := hy
 simp [laws_markSurvey.f, this]
end Go.Proofs.Ytkafbmanmffliaa.PuI

/- What the reference returns: AdjustSurvey, ResidualsOf, RedundanciesOf, CofactorOf, RiseBetween. -/
namespace Go.Proofs.Ytkafbmanmffliaa.PuEx
open Go Go.RowKit YtkafbmanmffliaaW.PrintWords YtkafbmanmffliaaW.PrintLast YtkafbmanmffliaaW.PrintMore Q Bg Dd Bi Rt Ru Rx Ra Gd Gf Ge Hb Ha Hc Gs Gn Kc Ke Kf Gt Gu Gx Gy Gv Lo Lo2 Ex Ex2 PuS PuI
set_option linter.unusedVariables false
set_option linter.unusedSimpArgs false
abbrev KB : Nat := 1099511628000
theorem whole_eq (p : Int) (l : List S32) : spec_l10Whole.f p l = some (Gm.connB p l, p) := PuT.specConn_eq p l
theorem lowest_n {n : Nat} {l : List S32} (hc : Gm.connB ((n : Int) + 1) l = true) (S : List Int) (hS : ∀ s, s ∈ S → s.natAbs < 1099511627776) (hl : S.length ≤ 8) (k : Nat) (hk : KB ≤ k) :
  spec_l10Lowest.f k S (den l n) = some (((dn n l / gcdAll (dn n l) S : Nat) : Int), lowL (dn n l) S) := by
 have h := dn_pos hc
 rw [← h.2.2]
 exact lowest_eq h.1 (by omega) hS (by omega) (by omega) k (by unfold KB at hk; omega)
theorem nuL_size {n : Nat} {l : List S32} {right : List Int} (h : Ok n l right) (s : Int) (hs : s ∈ nuL l right n) : s.natAbs < 1099511627776 := by
 obtain ⟨k, hk, rfl⟩ := List.mem_map.1 hs
 have := nu_size h (k : Int) (by have := List.mem_range.1 hk; omega)
 omega
theorem specAdj (p : Int) (l : List S32) (k : Nat) (hk : KB ≤ k) : spec_AdjustSurvey.f k p l = some (adjD p l, adjL p l, Gm.connB p l) := by
 simp only [spec_AdjustSurvey.f, whole_eq, Option.bind_some, spec_l10Adjusted.f]
 by_cases h : Gm.connB p l = true
 ·obtain ⟨n, rfl⟩ := conn_nat h
  have hn := conn_n h
  simp only [h, if_true, Option.bind_some, wp_eq]
  rw [lowest_n h _ (nuL_size (ok_rgt h)) (by rw [nuL_len]; omega) k hk]
  simp only [Option.bind_some, adjD, adjL, h, if_true, wp_eq]
 ·have h' : Gm.connB p l = false := by simpa using h
  simp [h', adjD, adjL]
end Go.Proofs.Ytkafbmanmffliaa.PuEx

/- The law on the program's AdjustSurvey, walked where both sides hand back the same. -/
namespace Go.Proofs.Ytkafbmanmffliaa.LwAS
open Go Go.RowKit YtkafbmanmffliaaW.PrintWords YtkafbmanmffliaaW.PrintLast YtkafbmanmffliaaW.PrintMore Q Hc Ex PuS PuI PuEx
set_option linter.unusedVariables false
set_option linter.unusedSimpArgs false
def TS (B : Nat) (W : World) (v : Value) (m : List S32) : Prop := Kd.R k32 32 W B (fun k => some k = v.ownBlock) v m
theorem TS.of {B : Nat} {W : World} {v : Value} {m : List S32} {ok : Nat → Prop} (h : Kd.R k32 32 W B ok v m) : TS B W v m := Kd.R_tight rfl h
theorem TS.below {B : Nat} {W W' : World} {v : Value} {m : List S32} (h : TS B W v m) (hb : Below W.heap.size W W') : TS B W' v m := Kd.R_below h hb
def Hands (f : FuncId) (p : Int) (m : List S32) (d : Int) (r : List Int) (b : Bool) : Prop :=
 ∀ (W : World) (A : Option Addr) (c : Nat), Kd.C k32 W A m.length m → m.length ≤ c → Calls Try.prog f #[.agg #[.int .i64 p, .slice A m.length c]] W fun e w' => ∃ v, e = .returned (.tuple #[.int .i64 d, v, .bool b]) ∧ T W.heap.size w' v r ∧ Below W.heap.size W w'
set_option maxHeartbeats 4000000 in
set_option maxRecDepth 100000 in
theorem walk (p : Int) (l : List S121) (A : Option Addr) (c : Nat) (m : List S32) (d : Int) (r : List Int) (b : Bool) (hl : l.length ≤ 1048576) (hm : m = l.map conv) (hrl : r.length ≤ 1048576)
  (h1 : Hands 43 p m d r b) (h2 : Hands 19 p m d r b) (w : World) (hr : Kd.C k121 w A l.length l) (hc : l.length ≤ c) :
  Calls Try.prog 11 #[.agg #[.int .i64 p, .slice A l.length c]] w fun e w' => e = .returned (.bool true) ∧ Below w.heap.size w w' := by
 have hu42 := Try.underlying42
 have hu26 := Try.underlying26
 have hml : m.length ≤ 1048576 := by rw [hm]; simpa using hl
 obtain ⟨K, hK⟩ : ∃ K, l.length + r.length + m.length + 5 ≤ K := ⟨_, Nat.le_refl _⟩
 have HSZ := Aside0.mk (szSurvey_eq p l (by omega))
 rw [if_pos hl] at HSZ
 have HT := Aside0.mk (show laws_toSurvey.f K p l = some (p, m) by rw [hm]; exact toSurvey_eq p l hl K (by omega))
 have HEY := Aside0.mk (eqSurvey_eq p m hml K (by omega))
 have HEI := Aside0.mk (eqInt_eq r hrl K (by omega))
 obtain ⟨y, hy, hyl⟩ := markSurvey_eq p m hml K (by omega)
 have HMS := Aside0.mk hy
 have HMI := Aside0.mk (mark_eq r hrl K (by omega))
 have HHE := Aside0.mk (held_eq r.length hrl K (by omega))
 have HML := Aside0.mk (marked_len r.length)
 obtain ⟨n, hn⟩ : ∃ n, n = r.length := ⟨_, rfl⟩
 have HN := Aside0.mk hn
 obtain ⟨q, hq⟩ : ∃ q, q = m.length := ⟨_, rfl⟩
 have HQ := Aside0.mk hq
 rw [← hq] at HMS
 rw [← hn] at HMI HHE HML
 obtain ⟨t, ht⟩ : ∃ t : Int, t = 1048576 - (l.length : Int) := ⟨_, rfl⟩
 rw [← ht] at HSZ
 have hbx := below_alloc (Below.refl w.heap.size w) (.cells #[.int .i64 p, .slice A l.length c] 42)
 have HR := Aside0.mk hr
 have HC := Aside0.mk hc
 have H1 := Aside0.mk h1
 have H2 := Aside0.mk h2
 have HBX := Aside0.mk hbx
 have hb0 : (b != b) = false := bne_self_eq_false b
 have hd0 : (d != d) = false := bne_self_eq_false d
 have c1 : decide (t < 0) = false := decide_eq_false (by omega)
 have c3 : decide (4 * (q : Int) + 1 < 0) = false := decide_eq_false (by omega)
 have c4 : decide ((n : Int) + 1 < 0) = false := decide_eq_false (by omega)
 have c5 : ((n : Int) + 1 != (n : Int) + 1) = false := bne_self_eq_false _
 clear hr hc h1 h2 hbx hm hml hrl hl hyl hy hn hq ht hK
 go_enter Try.func11, Try.ntmps11
 go_wp2_with (fail)
 refine (laws_szSurvey.calls p A c l 1048576 t _ (Kd.C_below HR.out HBX.out) HC.out HSZ.out).mono ?_
 rintro e w1 ⟨rfl, hb⟩
 have HB := Aside0.mk (below_step HBX.out hb)
 have K1 := Aside0.mk (blk_below (blk_new w (.cells #[.int .i64 p, .slice A l.length c] 42)) hb)
 clear hb HBX
 have e0 : w1.cell? ⟨w.heap.size, 0, none⟩ = some (.int .i64 p) := (blk_cell K1.out 0).trans rfl
 have e1 : w1.cell? ⟨w.heap.size, 1, none⟩ = some (.slice A l.length c) := (blk_cell K1.out 1).trans rfl
 go_wp2_with (fail)
 refine (laws_toSurvey.calls K p A c l p m _ (Kd.C_below HR.out HB.out) HC.out HT.out).mono ?_
 rintro e w2 ⟨s2, rfl, hS, hb⟩
 clear e0 e1
 obtain ⟨A2, c2, rfl⟩ := Kd.R_slice hS
 have HB2 := Aside0.mk (below_step HB.out hb)
 have K2 := Aside0.mk (blk_below K1.out hb)
 have hz := H1.out w2 A2 c2 (Kd.R_reads' hS).2.2 (Kd.R_reads' hS).2.1
 clear hS hb HB K1
 go_wp2_with (fail)
 refine hz.mono ?_
 rintro e w3 ⟨v3, rfl, t3, hb⟩
 have HB3 := Aside0.mk (below_step HB2.out hb)
 have K3 := Aside0.mk (blk_below K2.out hb)
 obtain ⟨A3, c3, rfl⟩ := Kd.R_slice t3
 have T3 := Aside0.mk t3
 have HW3 := HB3
 have KW3 := K3
 clear t3 hb hz HB2 K2
 have e0 : w3.cell? ⟨w.heap.size, 0, none⟩ = some (.int .i64 p) := (blk_cell K3.out 0).trans rfl
 have e1 : w3.cell? ⟨w.heap.size, 1, none⟩ = some (.slice A l.length c) := (blk_cell K3.out 1).trans rfl
 go_wp2_with (fail)
 refine (laws_toSurvey.calls K p A c l p m _ (Kd.C_below HR.out HB3.out) HC.out HT.out).mono ?_
 rintro e w4 ⟨s4, rfl, hS, hb⟩
 clear e0 e1
 obtain ⟨A4, c4', rfl⟩ := Kd.R_slice hS
 have hba := below_alloc (Below.refl w4.heap.size w4) (.cells #[.int .i64 p, .slice A4 m.length c4'] 26)
 have X4 := Aside0.mk (heap_alloc_new w4 (.cells #[.int .i64 p, .slice A4 m.length c4'] 26))
 have S4 := Aside0.mk (TS.below (TS.of hS) hba)
 have R4 := Aside0.mk (Kd.C_below (Kd.R_reads' hS).2.2 hba)
 have C4 := Aside0.mk (Kd.R_reads' hS).2.1
 have L4 := Aside0.mk (show ∀ k, (Value.slice A4 m.length c4').ownBlock = some k → w3.heap.size ≤ k ∧ k < w4.heap.size from fun k hk => ⟨Kd.R_base hS k hk, Kd.R_lt hS k hk⟩)
 have HB4 := Aside0.mk (below_step (below_step HB3.out hb) hba)
 have K4 := Aside0.mk (blk_below (blk_below K3.out hb) hba)
 have T4 := Aside0.mk ((T3.out.below hb).below hba)
 have G4 := Aside0.mk (below_step hb hba)
 have W34 := Aside0.mk hb.size
 have Z3 := Aside0.mk (show ∀ k, (Value.slice A3 r.length c3).ownBlock = some k → k < w3.heap.size from fun k hk => T3.out.lt hk)
 have hz := H2.out (w4.alloc (.cells #[.int .i64 p, .slice A4 m.length c4'] 26)) A4 c4' R4.out C4.out
 clear hS hb hba HB3 K3 T3 
 go_wp2_with (fail)
 refine hz.mono ?_
 rintro e w5 ⟨v5, rfl, t5, hb⟩
 obtain ⟨A5, c5', rfl⟩ := Kd.R_slice t5
 have T5 := Aside0.mk t5
 have HB5 := Aside0.mk (below_step HB4.out hb)
 have K5 := Aside0.mk (blk_below K4.out hb)
 have X5 := Aside0.mk (blk_below X4.out hb)
 have S5 := Aside0.mk (S4.out.below hb)
 have U5 := Aside0.mk (T4.out.below hb)
 have G5 := Aside0.mk (below_step G4.out hb)
 have B5 := Aside0.mk (show w3.heap.size ≤ (w4.alloc (.cells #[.int .i64 p, .slice A4 m.length c4'] 26)).heap.size from G4.out.size)
 have L6 := Aside0.mk (show w3.heap.size ≤ w4.heap.size from W34.out)
 have L5 := Aside0.mk (show ∀ k, (Value.slice A5 r.length c5').ownBlock = some k → w4.heap.size < k from fun k hk => by have := Kd.R_base t5 k hk; rw [World.size_alloc] at this; omega)
 have hei := laws_eqInt64S.calls K A5 c5' r A3 c3 r true w5 (Kd.R_reads' t5).2.2 (Kd.R_reads' t5).2.1 (Kd.R_reads' U5.out).2.2 (Kd.R_reads' U5.out).2.1 HEI.out
 clear t5 hb hz HB4 K4 X4 S4 T4 G4 R4
 go_wp2_with (fail)
 refine hei.mono ?_
 rintro e w6 ⟨rfl, hdr⟩
 have hb := hdr.below
 have T6 := Aside0.mk (T5.out.below hb)
 have HB6 := Aside0.mk (below_step HB5.out hb)
 have K6 := Aside0.mk (blk_below K5.out hb)
 have X6 := Aside0.mk (blk_below X5.out hb)
 have S6 := Aside0.mk (S5.out.below hb)
 have U6 := Aside0.mk (U5.out.below hb)
 have G6 := Aside0.mk (below_step G5.out hb)
 clear hb hdr hei T5 HB5 K5 X5 S5 U5 G5
 have e0 : w6.cell? ⟨w.heap.size, 0, none⟩ = some (.int .i64 p) := (blk_cell K6.out 0).trans rfl
 have e1 : w6.cell? ⟨w.heap.size, 1, none⟩ = some (.slice A l.length c) := (blk_cell K6.out 1).trans rfl
 have e2 : w6.cell? ⟨w4.heap.size, 0, none⟩ = some (.int .i64 p) := (blk_cell X6.out 0).trans rfl
 have e3 : w6.cell? ⟨w4.heap.size, 1, none⟩ = some (.slice A4 m.length c4') := (blk_cell X6.out 1).trans rfl
 go_wp2_with (fail)
 refine start_ (n := 5) (S := fun w' => w'.cell? ⟨w.heap.size, 0, none⟩ = some (.int .i64 p) ∧ w'.cell? ⟨w.heap.size, 1, none⟩ = some (.slice A l.length c) ∧ w'.cell? ⟨w4.heap.size, 0, none⟩ = some (.int .i64 p) ∧ w'.cell? ⟨w4.heap.size, 1, none⟩ = some (.slice A4 m.length c4')) (ds := []) #[false, false, false, false, false] (by kernel_rfl) rfl rfl ⟨e0, e1, e2, e3⟩ (fun hHeld => ?_)
 refine take_ (i := 0) (N := some 51) (v := ?_) (a' := ?_) #[true, false, false, false, false] rfl rfl (by kernel_rfl) (fun _ _ _ h => h) (Or.inl ⟨by rfl, ?_⟩) hHeld ?_ ?_
 rotate_left
 ·rintro w' ⟨s0, s1, s2, s3⟩
  go_simp
  with_reducible rfl
 rotate_left
 ·simp only [Act.put, List.setIfInBounds_toArray, List.set_cons_zero, List.set_cons_succ, i64_w, i32_w]
  rfl
 refine take_ (i := 1) (N := some 52) (v := ?_) (a' := ?_) #[true, true, false, false, false] rfl rfl (by kernel_rfl) (fun _ _ _ h => h) (Or.inl ⟨by rfl, ?_⟩) hHeld ?_ ?_
 rotate_left
 ·rintro w' ⟨s0, s1, s2, s3⟩
  go_simp
  with_reducible rfl
 rotate_left
 ·simp only [Act.put, List.setIfInBounds_toArray, List.set_cons_zero, List.set_cons_succ, i64_w, i32_w]
  rfl
 refine one_ (i := 2) (N := some 53) #[true, true, true, false, false] rfl rfl (by kernel_rfl) (by decide) (fun K_ hK => ?_)
 refine goes_ Try.func30 (by kernel_rfl) rfl #[.agg #[.int .i64 p, .slice A l.length c]] (by rfl) rfl rfl (by (try simp only [List.map_toArray, List.map_cons, List.map_nil]); first | done | rfl) ?_
 refine (laws_toSurvey.calls K p A c l p m w6.drew (Kd.C_below HR.out (below_drew HB6.out)) HC.out HT.out).mono ?_
 rintro e w7 ⟨s7, rfl, hS, hb⟩
 obtain ⟨A7, c7, rfl⟩ := Kd.R_slice hS
 have HBd := Aside0.mk (below_step (below_drew (Below.refl w6.heap.size w6)) hb)
 have D7 := Aside0.mk (Kd.R_reads' hS)
 clear hS hb
 refine ⟨_, rfl, ?_⟩
 refine hK.out _ _ (⟨(HBd.out.cell (World.block_lt_of_cell? _ _ e0)).trans e0, (HBd.out.cell (World.block_lt_of_cell? _ _ e1)).trans e1, (HBd.out.cell (World.block_lt_of_cell? _ _ e2)).trans e2, (HBd.out.cell (World.block_lt_of_cell? _ _ e3)).trans e3⟩) (fun hHeld => ?_)
 clear hK K_
 refine norm_ (a' := ?_) ?_ ?_
 rotate_left
 ·show Act.put _ (some 53) _ = _
  simp only [Act.put, List.setIfInBounds_toArray, List.set_cons_zero, List.set_cons_succ, i64_w, i32_w]
  rfl
 refine one_ (i := 3) (N := some 54) #[true, true, true, true, false] rfl rfl (by kernel_rfl) (by decide) (fun K_ hK => ?_)
 refine goes_ Try.func31 (by kernel_rfl) rfl #[.agg #[.int .i64 p, .slice A4 m.length c4'], .agg #[.int .i64 p, .slice A7 m.length c7]] (by rfl) rfl rfl (by (try simp only [List.map_toArray, List.map_cons, List.map_nil]); first | done | rfl) ?_
 refine (laws_eqSurvey.calls K p A4 c4' m p A7 c7 m true w7 (Kd.R_reads' (TS.below S6.out HBd.out)).2.2 C4.out D7.out.2.2 D7.out.2.1 HEY.out).mono ?_
 rintro e w8 ⟨rfl, hb⟩
 have HB8' := Aside0.mk (below_step HBd.out hb)
 clear hb
 refine ⟨_, rfl, ?_⟩
 refine hK.out _ _ (⟨(HB8'.out.cell (World.block_lt_of_cell? _ _ e0)).trans e0, (HB8'.out.cell (World.block_lt_of_cell? _ _ e1)).trans e1, (HB8'.out.cell (World.block_lt_of_cell? _ _ e2)).trans e2, (HB8'.out.cell (World.block_lt_of_cell? _ _ e3)).trans e3⟩) (fun hHeld => ?_)
 clear hK K_
 refine norm_ (a' := ?_) ?_ ?_
 rotate_left
 ·show Act.put _ (some 54) _ = _
  simp only [Act.put, List.setIfInBounds_toArray, List.set_cons_zero, List.set_cons_succ, i64_w, i32_w]
  rfl
 refine pure_ (i := 4) (N := some 55) (v := ?_) (a' := ?_) #[true, true, true, true, true] rfl rfl (by kernel_rfl) (fun _ _ _ h => h) (Or.inl ⟨by rfl, ?_⟩) ?_ ?_
 rotate_left
 ·intro w'
  go_simp
  with_reducible rfl
 rotate_left
 ·simp only [Act.put, List.setIfInBounds_toArray, List.set_cons_zero, List.set_cons_succ, i64_w, i32_w]
  rfl
 refine done_ (by kernel_rfl) ?_
 have T8 := Aside0.mk (T6.out.below HB8'.out)
 have X8 := Aside0.mk (blk_below X6.out HB8'.out)
 have S8 := Aside0.mk (S6.out.below HB8'.out)
 have U8 := Aside0.mk (U6.out.below HB8'.out)
 have G8 := Aside0.mk (below_step G6.out HB8'.out)
 clear e0 e1 e2 e3 HB8' HBd D7 T6 HB6 K6 X6 S6 U6 G6
 have e2 : w8.cell? ⟨w4.heap.size, 0, none⟩ = some (.int .i64 p) := (blk_cell X8.out 0).trans rfl
 have e3 : w8.cell? ⟨w4.heap.size, 1, none⟩ = some (.slice A4 m.length c4') := (blk_cell X8.out 1).trans rfl
 go_wp2_with (fail)
 refine (laws_markSurvey.calls K p (fun k => some k = (Value.slice A4 m.length c4').ownBlock) (.slice A4 m.length c4') m 1 (4 * (q : Int) + 1) y w3 w8 G8.out S8.out HMS.out).mono ?_
 rintro e w9 ⟨rfl, -, hb, hk⟩
 have T9 := Aside0.mk (T.of (Kd.R_kept (Kd.R_tight rfl T8.out) hk (fun k ho hS => by have h1 := L5.out k ho.symm; have h2 := L4.out k hS.symm; omega)))
 have U9 := Aside0.mk (T.of (Kd.R_kept (Kd.R_tight rfl U8.out) hk (fun k ho hS => by have h1 := Z3.out k ho.symm; have h2 := L4.out k hS.symm; omega)))
 have HB9 := Aside0.mk (below_step HW3.out hb)
 have K9 := Aside0.mk (blk_below KW3.out hb)
 have G9 := Aside0.mk hb
 have hei := laws_eqInt64S.calls K A5 c5' r A3 c3 r true w9 (Kd.R_reads' T9.out).2.2 (Kd.R_reads' T9.out).2.1 (Kd.R_reads' U9.out).2.2 (Kd.R_reads' U9.out).2.1 HEI.out
 clear hb hk e2 e3 T8 X8 S8 U8 G8
 go_wp2_with (fail)
 refine hei.mono ?_
 rintro e w10 ⟨rfl, hdr⟩
 have hb := hdr.below
 have T10 := Aside0.mk (T9.out.below hb)
 have U10 := Aside0.mk (U9.out.below hb)
 have HB10 := Aside0.mk (below_step HB9.out hb)
 have K10 := Aside0.mk (blk_below K9.out hb)
 have G10 := Aside0.mk (below_step G9.out hb)
 clear hb hdr hei T9 U9 HB9 K9 G9
 go_wp2_with (fail)
 refine (laws_markInt64S.calls K (fun k => some k = (Value.slice A5 r.length c5').ownBlock) (.slice A5 r.length c5') r 1 ((n : Int) + 1) (marked n) w3 w10 G10.out (Kd.R_lower (Kd.R_tight rfl T10.out) B5.out) HMI.out).mono ?_
 rintro e w11 ⟨rfl, hR, hb, hk⟩
 have M11 := Aside0.mk (T.of hR)
 have U11 := Aside0.mk (T.of (Kd.R_kept (Kd.R_tight rfl U10.out) hk (fun k ho hS => by have h1 := Z3.out k ho.symm; have h2 := L5.out k hS.symm; have h3 := B5.out; have h4 := L6.out; omega)))
 have HB11 := Aside0.mk (below_step HW3.out hb)
 have K11 := Aside0.mk (blk_below KW3.out hb)
 have hhe : Calls Try.prog 47 #[.slice A5 r.length c5', .int .i64 1] w11 fun e w' => e = .returned (.int .i64 ((n : Int) + 1)) ∧ Drawn0 w11 w' := by
  have hq := Kd.R_reads' hR
  have hh := laws_heldInt64S.calls K A5 c5' (marked n) 1 ((n : Int) + 1) w11 hq.2.2 (by have := hq.2.1; rw [HML.out]; have := HN.out; omega) HHE.out
  rw [HML.out] at hh
  rw [← HN.out]
  exact hh
 clear hR hb hk T10 U10 HB10 K10 G10
 go_wp2_with (fail)
 refine hhe.mono ?_
 rintro e w12 ⟨rfl, hdr⟩
 have hb := hdr.below
 have M12 := Aside0.mk (M11.out.below hb)
 have U12 := Aside0.mk (U11.out.below hb)
 have HB12 := Aside0.mk (below_step HB11.out hb)
 have K12 := Aside0.mk (blk_below K11.out hb)
 clear hb hdr hhe M11 U11 HB11 K11
 have e0 : w12.cell? ⟨w.heap.size, 0, none⟩ = some (.int .i64 p) := (blk_cell K12.out 0).trans rfl
 have e1 : w12.cell? ⟨w.heap.size, 1, none⟩ = some (.slice A l.length c) := (blk_cell K12.out 1).trans rfl
 go_wp2_with (fail)
 refine (laws_toSurvey.calls K p A c l p m _ (Kd.C_below HR.out HB12.out) HC.out HT.out).mono ?_
 rintro e w13 ⟨s13, rfl, hS, hb⟩
 clear e0 e1
 obtain ⟨A13, c13, rfl⟩ := Kd.R_slice hS
 have HB13 := Aside0.mk (below_step HB12.out hb)
 have M13 := Aside0.mk (M12.out.below hb)
 have U13 := Aside0.mk (U12.out.below hb)
 have hz := H2.out w13 A13 c13 (Kd.R_reads' hS).2.2 (Kd.R_reads' hS).2.1
 clear hS hb HB12 K12 M12 U12
 go_wp2_with (fail)
 refine hz.mono ?_
 rintro e w14 ⟨v14, rfl, t14, hb⟩
 obtain ⟨A14, c14, rfl⟩ := Kd.R_slice t14
 have HB14 := Aside0.mk (below_step HB13.out hb)
 have M14 := Aside0.mk (M13.out.below hb)
 have U14 := Aside0.mk (U13.out.below hb)
 have hei := laws_eqInt64S.calls K A14 c14 r A3 c3 r true w14 (Kd.R_reads' t14).2.2 (Kd.R_reads' t14).2.1 (Kd.R_reads' U14.out).2.2 (Kd.R_reads' U14.out).2.1 HEI.out
 clear hb hz t14 HB13 M13 U13
 go_wp2_with (fail)
 refine hei.mono ?_
 rintro e w15 ⟨rfl, hdr⟩
 have hb := hdr.below
 have M15 := Aside0.mk (M14.out.below hb)
 have HB15 := Aside0.mk (below_step HB14.out hb)
 have hhe : Calls Try.prog 47 #[.slice A5 r.length c5', .int .i64 1] w15 fun e w' => e = .returned (.int .i64 ((n : Int) + 1)) ∧ Drawn0 w15 w' := by
  have hq := Kd.R_reads' M15.out
  have hh := laws_heldInt64S.calls K A5 c5' (marked n) 1 ((n : Int) + 1) w15 hq.2.2 (by have := hq.2.1; rw [HML.out]; have := HN.out; omega) HHE.out
  rw [HML.out] at hh
  rw [← HN.out]
  exact hh
 clear hb hdr hei HB14 M14 U14
 go_wp2_with (fail)
 refine hhe.mono ?_
 rintro e w16 ⟨rfl, hdr⟩
 have HB16 := Aside0.mk (below_step HB15.out hdr.below)
 clear hdr hhe
 go_wp2_with (fail)
 go_ret
 exact ⟨rfl, HB16.out⟩
theorem resLen (p : Int) (l : List S32) : (adjL p l).length ≤ 1048576 := by
 unfold adjL
 split
 ·rename_i h
  obtain ⟨n, rfl⟩ := conn_nat h
  have := Kf.conn_n h
  simp only [Lo2.lowL, List.length_map, wp_eq, Gv.nuL_len]
  omega
 ·simp
set_option maxHeartbeats 4000000 in
theorem law_any (p : Int) (l : List S121) (A : Option Addr) (c : Nat) (w : World) (hr : Kd.C k121 w A l.length l) (hc : l.length ≤ c) (h : l.length ≤ 9223372036854775807) :
  Calls Try.prog 11 #[.agg #[.int .i64 p, .slice A l.length c]] w fun e w' => e = .returned (.bool true) ∧ Below w.heap.size w w' := by
 by_cases hl : l.length ≤ 1048576
 ·have hm : (l.map conv).length ≤ 1048576 := by simpa using hl
  obtain ⟨K, hK⟩ : ∃ K, KB + 9 ≤ K := ⟨_, Nat.le_refl _⟩
  exact walk p l A c (l.map conv) (adjD p (l.map conv)) (adjL p (l.map conv)) (Gm.connB p (l.map conv)) hl rfl (resLen _ _)
   (fun W A c hr hc => spec_AdjustSurvey.calls K p A c (l.map conv) _ _ _ W hr hc (specAdj p (l.map conv) K (by omega)))
   (fun W A c hr hc => adjust_any p (l.map conv) A c W hr hc hm) w hr hc
 ·have hu42 := Try.underlying42
  have hsz := szSurvey_eq p l h
  rw [if_neg hl] at hsz
  have hbx := below_alloc (Below.refl w.heap.size w) (.cells #[.int .i64 p, .slice A l.length c] 42)
  have hz := laws_szSurvey.calls p A c l 1048576 (-1) _ (Kd.C_below hr hbx) hc hsz
  have HB := Aside0.mk hbx
  clear hr hc hbx hsz h hl
  go_enter Try.func11, Try.ntmps11
  go_wp2_with (fail)
  refine hz.mono ?_
  rintro e w1 ⟨rfl, hb⟩
  have HB1 := Aside0.mk (below_step HB.out hb)
  clear hb hz
  go_wp2_with (fail)
  go_ret
  exact ⟨rfl, HB1.out⟩
end Go.Proofs.Ytkafbmanmffliaa.LwAS

