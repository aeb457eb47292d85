/- Parts of the proof that the law of this seat holds: Gt, Gu, Gx, Gy, Gw, Lo2, Ex, Sp2, Va2, Q91, Va18, Sp3, Va11, Va12, Ex2, Va10, Va15, Va3, Va6, Va7, PuI, PuEx, LwRB. -/
import Derived.Test.YtkafbmanmffliaaGBpm
import Derived.Test.YtkafbmanmffliaaGBpk
import Derived.Test.YtkafbmanmffliaaGBpj
import Derived.Test.YtkafbmanmffliaaGBpb
import Derived.Test.YtkafbmanmffliaaGBpc
import Derived.Test.YtkafbmanmffliaaGBpn
import Derived.Test.YtkafbmanmffliaaGBpa
set_option linter.unusedVariables false
set_option linter.unusedSimpArgs false
/- The program's adjusted heights: the right side is made, the equations are solved. -/
namespace Go.Proofs.Ytkafbmanmffliaa.Gt
open Go Go.RowKit YtkafbmanmffliaaW.PrintWords YtkafbmanmffliaaW.PrintLast YtkafbmanmffliaaW.PrintMore Q Bg Dd Bi Rt Ru Rx Ra Gd Gf Ge Hb Ha Hc Gs Gn Kc Ke Kf
set_option linter.unusedVariables false
set_option linter.unusedSimpArgs false
theorem mk28 (n : Nat) (hn : n ≤ 5) : ∀ W : World, (Instr.makeSlice 28 (.int .i64 (n : Int)) (.int .i64 (n : Int))).run Try.prog W = .ok (.slice (some ⟨W.heap.size, 0, none⟩) n n) (W.alloc (.cells (madeCells #[.int .i64 0] n) 2)) :=
 print_make_of 28 2 (.int .i64 0) 8 Try.underlying28 info2 rfl (by decide) n (by omega)
theorem T.made {B : Nat} (W : World) (n : Nat) (hn : n ≤ 5) (hB : B ≤ W.heap.size) : T B (W.alloc (.cells (madeCells #[.int .i64 0] n) 2)) (.slice (some ⟨W.heap.size, 0, none⟩) n n) (List.replicate n 0) := by
 have h := own_made_of (enc := Value.int .i64) (d := 0) W B 2 n hB (by omega)
 exact Kd.R_of_own (by simpa using h) (fun _ _ => trivial)
theorem solve_xs {n : Nat} {l : List S32} {right : List Int} (h : Ok n l right) {wq wz : World} {b cap : Nat} {us : List Value} (hr : RowIn wq wz b cap (n + 1) us (fun k => if k = 0 then 0 else gj (cst (tab l right n)) n (k - 1) n)) :
  RowIn wq wz b cap (n + 1) us (fun k => xs l right n k) := by
 refine hr.congr (fun k hk => ?_)
 by_cases e : k = 0
 ·subst e
  rw [if_pos rfl]
  exact (xs_zero l right n).symm
 ·rw [if_neg e, h.sol (k - 1) (by omega)]
  unfold xs nu
  rw [if_neg (by omega)]
  rfl
def rgtAt (n : Nat) (l : List S32) (i : Nat) : List Int := rgt n (l.take i)
theorem rgtAt_zero (n : Nat) (l : List S32) : rgtAt n l 0 = List.replicate (n + 1) 0 := by simp [rgtAt, rgt]
theorem rgtAt_all (n : Nat) (l : List S32) : rgtAt n l l.length = rgt n l := by simp [rgtAt]
theorem rgtAt_succ (n : Nat) (l : List S32) (i : Nat) (h : i < l.length) : rgtAt n l (i + 1) = stR (rgtAt n l i) (rd_T32 l i) := by
 unfold rgtAt rgt
 have e : l.take (i + 1) = l.take i ++ [rd_T32 l i] := by
  rw [List.take_succ_eq_append_getElem h]
  simp [rd_T32, h]
 rw [e, List.foldl_append]
 rfl
theorem rgtAt_len (n : Nat) (l : List S32) (i : Nat) : (rgtAt n l i).length = n + 1 := rgt_len _ _
theorem rgtAt_size {n : Nat} {l : List S32} (hv : surveyB ((n : Int) + 1) l = true) (i : Nat) (p : Int) : -2400 ≤ rd (rgtAt n l i) p ∧ rd (rgtAt n l i) p ≤ 2400 := by
 have hl8 : l.length ≤ 8 := by
  have := hv
  unfold surveyB at this
  simp only [Bool.and_eq_true, decide_eq_true_eq] at this
  have := this.1.2
  omega
 have := fold_size (l.take i) (fun s hs => mem_at hv s (List.mem_of_mem_take hs)) (List.replicate (n + 1) 0) (by simp) 0 (by omega) (fun p => by rw [rd_zeros]; omega) p
 have hl : (l.take i).length ≤ 8 := by simp; omega
 unfold rgtAt rgt
 omega
theorem T.drewN {B : Nat} {W : World} {v : Value} {xs : List Int} (h : T B W v xs) : T B W.drew v xs := h.below (below_drew (Below.refl _ _))
set_option maxHeartbeats 4000000 in
set_option maxRecDepth 100000 in
theorem adjusted_any (n : Nat) (l : List S32) (hc : Gm.connB ((n : Int) + 1) l = true) (A : Option Addr) (c : Nat) (w : World) (hr : Kd.C k32 w A l.length l) (hcl : l.length ≤ c) :
  Calls Try.prog 60 #[.agg #[.int .i64 ((n : Int) + 1), .slice A l.length c]] w fun e w' => ∃ (b cap : Nat) (us : List Value), e = .returned (.slice (some ⟨b, 0, none⟩) (n + 1) cap) ∧ RowIn w w' b cap (n + 1) us (fun k => hts n l k) := by
 have hu26 := Try.underlying26
 have hu32 := Try.underlying32
 have hn := conn_n hc
 have hn4 := hn.2.1
 have hl8 := hn.2.2
 have mk := mk28 (n + 1) (by omega)
 rw [show ((n + 1 : Nat) : Int) = (n : Int) + 1 by omega] at mk
 have hbx := below_alloc (Below.refl w.heap.size w) (SX ((n : Int) + 1) A l.length c)
 have HR := Aside0.mk (Kd.C_below hr hbx)
 have HX := Aside0.mk (heap_alloc_new w (SX ((n : Int) + 1) A l.length c))
 have HC := Aside0.mk hc
 have HV := Aside0.mk (conn_v hc)
 have HCL := Aside0.mk hcl
 clear hr hc hcl hn hbx
 go_enter Try.func60, Try.ntmps60
 go_wp2_with (fail)
 obtain ⟨W0, hW0⟩ : ∃ W0, W0 = w.alloc (SX ((n : Int) + 1) A l.length c) := ⟨_, rfl⟩
 have hs0 : W0.heap.size = w.heap.size + 1 := by rw [hW0]; simp
 rw [← hW0] at HR HX
 rw [← hW0]
 have HW0 := Aside0.mk hW0
 clear hW0 mk
 have t0 := Aside0.mk (T.made W0 (n + 1) (by omega) (Nat.le_refl W0.heap.size))
 have tb := Aside0.mk (below_alloc (Below.refl W0.heap.size W0) (.cells (madeCells #[.int .i64 0] (n + 1)) 2))
 obtain ⟨g, hg⟩ : ∃ g, g = w.heap.size + 1 := ⟨_, rfl⟩
 rw [← hg] at hs0
 rw [← hg]
 rw [hs0] at t0
 have HS0 := Aside0.mk (And.intro hs0 hg)
 clear hs0 hg
 go_loopw [12] (fun v12 wz => ∃ i : Nat, v12 = .int .i64 (i : Int) ∧ i ≤ l.length ∧ Aside0 (T g wz (.slice (some ⟨g, 0, none⟩) (n + 1) (n + 1)) (rgtAt n l i)) ∧ Aside0 (Below W0.heap.size W0 wz)) (fun v _ => l.length - (intOf v).toNat)
 case atStart => exact ⟨0, rfl, by omega, ⟨by rw [rgtAt_zero]; exact t0.out⟩, tb⟩
 case round =>
  clear t0 tb
  obtain ⟨i, rfl, hi, HT, HB⟩ := hrel
  by_cases hlt : i < l.length
  ·have p1 : decide ((i : Int) < (l.length : Int)) = true := decide_eq_true (by omega)
   obtain ⟨ad, e, x0, x1, x2, x3⟩ := at_T32 (Kd.C_below HR.out HB.out) (i : Int) (by omega) (by omega)
   subst e
   rw [Int.toNat_natCast] at x0 x1 x2 x3
   have hm : rd_T32 l i ∈ l := by simp only [rd_T32, Int.toNat_natCast]; rw [List.getD_eq_getElem?_getD, List.getElem?_eq_getElem hlt]; simp
   have hva := mem_at HV.out _ hm
   have HSU := Aside0.mk (rgtAt_succ n l i hlt)
   obtain ⟨s, hs⟩ : ∃ s, s = rd_T32 l i := ⟨_, rfl⟩
   rw [← hs] at x0 x1 x2 x3 hva HSU
   clear hs hm
   obtain ⟨f, t, ri, wt⟩ := s
   dsimp only at x0 x1 x2 x3 hva
   obtain ⟨y0, y1, y2, y3, y4, y5, y6, y7, y8⟩ := hva
   obtain ⟨f, rfl⟩ : ∃ q : Nat, f = q := ⟨f.toNat, by omega⟩
   obtain ⟨t, rfl⟩ : ∃ q : Nat, t = q := ⟨t.toNat, by omega⟩
   obtain ⟨r, hr⟩ : ∃ r, r = rgtAt n l i := ⟨_, rfl⟩
   have hrl : r.length = n + 1 := by rw [hr]; exact rgtAt_len n l i
   have hz : ∀ p : Int, -2400 ≤ rd r p ∧ rd r p ≤ 2400 := fun p => by rw [hr]; exact rgtAt_size HV.out i p
   rw [← hr] at HT HSU
   have hwr : -300 ≤ wt * ri ∧ wt * ri ≤ 300 := by
    have c3 : wt = 1 ∨ wt = 2 ∨ wt = 3 := by omega
    rcases c3 with e | e | e <;> rw [e] <;> omega
   obtain ⟨k, hk⟩ : ∃ k, k = wt * ri := ⟨_, rfl⟩
   rw [← hk] at hwr
   have hw1 : wrap64 (wt * ri) = k := by rw [← hk]; unfold wrap64; omega
   have HSU2 := Aside0.mk (show rgtAt n l (i + 1) = (r.set t (rd r (t : Int) + k)).set f (rd (r.set t (rd r (t : Int) + k)) (f : Int) - k) by rw [HSU.out, hk]; rfl)
   obtain ⟨v1, hv1⟩ : ∃ v1, v1 = rd r (t : Int) + k := ⟨_, rfl⟩
   have hzt := hz t
   have hw2 : wrap64 (rd r (t : Int) + k) = v1 := by rw [← hv1]; unfold wrap64; omega
   obtain ⟨r1, hr1⟩ : ∃ r1, r1 = r.set t v1 := ⟨_, rfl⟩
   have hzf := (ad_size (r := r) (t := t) (f := f) (m := 2400) (k := 0) (c := 0) (by omega) (by omega) (by omega) hz (by omega) (by omega) (by omega) (by omega) (by omega) f)
   have hzf1 : -2700 ≤ rd r1 (f : Int) ∧ rd r1 (f : Int) ≤ 2700 := by
    have e := rd_set (r := r) (t := t) (p := f) (v := v1) (by omega) (by omega) (by omega)
    rw [Int.toNat_natCast, ← hr1] at e
    rw [e]
    have := hz f
    split <;> omega
   obtain ⟨v2, hv2⟩ : ∃ v2, v2 = rd r1 (f : Int) - k := ⟨_, rfl⟩
   have hw3 : wrap64 (rd r1 (f : Int) - k) = v2 := by rw [← hv2]; unfold wrap64; omega
   have HSU3 := Aside0.mk (show rgtAt n l (i + 1) = r1.set f v2 by rw [HSU2.out, ← hv1, ← hr1, ← hv2])
   have HR1 := Aside0.mk hr1
   obtain ⟨vt, hvt⟩ : ∃ vt, vt = rd r (t : Int) := ⟨_, rfl⟩
   rw [← hvt] at hw2
   obtain ⟨vf, hvf⟩ : ∃ vf, vf = rd r1 (f : Int) := ⟨_, rfl⟩
   rw [← hvf] at hw3
   have HVT := Aside0.mk hvt
   have HVF := Aside0.mk hvf
   have HRL := Aside0.mk hrl
   clear hr hz hwr hk hv1 hv2 hzt hzf hzf1 hr1 hvt hvf hrl HSU HSU2
   have HBA := Aside0.mk (below_alloc (Below.refl wr.heap.size wr) (.cells #[.int .i64 (f : Int), .int .i64 (t : Int), .int .i64 ri, .int .i64 wt] 32))
   have HNA := Aside0.mk (heap_alloc_new wr (.cells #[.int .i64 (f : Int), .int .i64 (t : Int), .int .i64 ri, .int .i64 wt] 32))
   have HT1 := Aside0.mk (HT.out.below HBA.out)
   obtain ⟨z0, z1⟩ := HT1.out.cell t (by omega)
   rw [← HVT.out] at z0
   have i1 : (0 ≤ (t : Int)) = True := eq_true (by omega)
   have i2 : ((t : Int) < (n : Int) + 1) = True := eq_true (by omega)
   have i3 : (0 ≤ (f : Int)) = True := eq_true (by omega)
   have i4 : ((f : Int) < (n : Int) + 1) = True := eq_true (by omega)
   go_wp2_with (fail)
   go_region
   have hp1 := HT1.out.put t v1
   have hb1 := (HB.out.trans (HBA.out.mono (HB.out.size))).setCell (p := ⟨g, t, none⟩) (by show W0.heap.size ≤ g; rw [HS0.out.1]; exact Nat.le_refl _) (.int .i64 v1)
   rw [← HR1.out] at hp1
   have HT2 := Aside0.mk (hp1.1.below (below_drew (Below.refl _ _)))
   have HB2 := Aside0.mk (below_drew hb1)
   have hgs := HT.out.lt (k := g) rfl
   have HN2 := Aside0.mk (blk_drew (blk_grown HNA.out hp1.2 (by intro e; have := Option.some.inj e; omega)))
   clear hp1 hb1 hgs z0 z1
   obtain ⟨wa, hwa⟩ : ∃ wa, wa = ((wr.alloc (.cells #[.int .i64 (f : Int), .int .i64 (t : Int), .int .i64 ri, .int .i64 wt] 32)).setCell ⟨g, t, none⟩ (.int .i64 v1)).drew := ⟨_, rfl⟩
   rw [← hwa] at HT2 HB2 HN2
   rw [← hwa]
   clear hwa
   obtain ⟨z0, z1⟩ := HT2.out.cell f (by omega)
   rw [← HVF.out] at z0
   have k0 : wa.cell? ⟨wr.heap.size, 0, none⟩ = some (.int .i64 (f : Int)) := (blk_cell HN2.out 0).trans rfl
   have k2 : wa.cell? ⟨wr.heap.size, 2, none⟩ = some (.int .i64 ri) := (blk_cell HN2.out 2).trans rfl
   have k3 : wa.cell? ⟨wr.heap.size, 3, none⟩ = some (.int .i64 wt) := (blk_cell HN2.out 3).trans rfl
   go_wp2_with (fail)
   go_region
   have hp2 := HT2.out.put f v2
   have hb2 := HB2.out.setCell (p := ⟨g, f, none⟩) (by show W0.heap.size ≤ g; rw [HS0.out.1]; exact Nat.le_refl _) (.int .i64 v2)
   rw [← HSU3.out] at hp2
   have HT3 := Aside0.mk (hp2.1.below (below_drew (Below.refl _ _)))
   have HB3 := Aside0.mk (below_drew hb2)
   clear hp2 hb2
   go_wp2_with (fail)
   go_roundw
   case rel => exact ⟨i + 1, by go_num, by omega, HT3, HB3⟩
   case measure => simp [intOf]; omega
  ·obtain rfl : l.length = i := by omega
   have p1 : decide ((l.length : Int) < (l.length : Int)) = false := decide_eq_false (by omega)
   rw [rgtAt_all] at HT
   have hok := ok_rgt HC.out
   have hC : Kd.C (Kd.int .i64) wr (some ⟨g, 0, none⟩) (rgt n l).length (rgt n l) := (Kd.R_reads' HT.out).2.2
   have hsv := solve_any n hn4 l HV.out A c (some ⟨g, 0, none⟩) (n + 1) (rgt n l) wr (Kd.C_below HR.out HB.out) HCL.out hC (rgt_len n l) (fun i => by have := rgt_size HV.out i; omega) hok.piv
   rw [rgt_len] at hsv
   have HOK := Aside0.mk hok
   have hbk := blk_below HX.out HB.out
   have hcx : wr.cell? ⟨w.heap.size, 0, none⟩ = some (.int .i64 ((n : Int) + 1)) := (blk_cell hbk 0).trans rfl
   have hcy : wr.cell? ⟨w.heap.size, 1, none⟩ = some (.slice A l.length c) := (blk_cell hbk 1).trans rfl
   clear hok hC hbk
   go_wp2_with (fail)
   refine hsv.mono ?_
   rintro e w1 ⟨b, cap, us, rfl, h1⟩
   have H1 := Aside0.mk (solve_xs HOK.out h1)
   clear h1 hsv
   go_wp2_with (fail)
   go_ret
   exact ⟨b, cap, us, rfl, H1.out.outer (by rw [HW0.out]; exact below_alloc (Below.refl _ _) _) HB.out⟩
end Go.Proofs.Ytkafbmanmffliaa.Gt

/- The program's residuals, cofactors, redundancies and weighted squares: rows of fractions. -/
namespace Go.Proofs.Ytkafbmanmffliaa.Gu
open Go Go.RowKit YtkafbmanmffliaaW.PrintWords YtkafbmanmffliaaW.PrintLast YtkafbmanmffliaaW.PrintMore Q Bg Dd Bi Rt Ru Rx Ra Gd Gf Ge Gi Hb Ha Hc Gs Gn Ka Kc Ke Kf Gt
set_option linter.unusedVariables false
set_option linter.unusedSimpArgs false
theorem sm_xs {n : Nat} (hn4 : n ≤ 4) {l : List S32} {right : List Int} (h : Ok n l right) (p : Int) (h0 : 0 ≤ p) (hp : p ≤ n) : Sm 31 (xs l right n p) := by
 have hd := h.pos n (Nat.le_refl _)
 rw [h.last] at hd
 have hd2 : den l n ≤ 1073741824 := by
  rw [← h.last]
  by_cases e : n = 0
  ·subst e; show (1 : Int) ≤ _; decide
  ·obtain ⟨m, rfl⟩ : ∃ m, n = m + 1 := ⟨n - 1, by omega⟩
   rw [LL_succ _ m (by omega)]
   exact (h.size m m m (by omega) (by omega) (by omega)).2
 have e31 : (2 : Nat) ^ 31 = 2147483648 := by decide
 have hn : (nu l right n p).natAbs < 2 ^ 31 := by
  rw [e31]
  unfold nu
  split
  ·decide
  ·have := h.size n (p.toNat - 1) n (Nat.le_refl _) (by omega) (Nat.le_refl _)
   omega
 have := Sm.divInt (a := nu l right n p) (b := den l n) (by omega) hn (by rw [e31]; omega)
 unfold xs
 rw [Rat.divInt_eq_div] at this
 exact this
end Go.Proofs.Ytkafbmanmffliaa.Gu

/- The program's cofactor of two points. -/
namespace Go.Proofs.Ytkafbmanmffliaa.Gx
open Go Go.RowKit YtkafbmanmffliaaW.PrintWords YtkafbmanmffliaaW.PrintLast YtkafbmanmffliaaW.PrintMore Q Bg Dd Bi Rt Ru Rx Ra Gd Gf Ge Gi Hb Ha Hc Gs Gn Ka Kc Ke Kf Gt Gu
set_option linter.unusedVariables false
set_option linter.unusedSimpArgs false
end Go.Proofs.Ytkafbmanmffliaa.Gx

/- The program's redundancies. -/
namespace Go.Proofs.Ytkafbmanmffliaa.Gy
open Go Go.RowKit YtkafbmanmffliaaW.PrintWords YtkafbmanmffliaaW.PrintLast YtkafbmanmffliaaW.PrintMore Q Bg Dd Bi Rt Ru Rx Ra Gd Gf Ge Gi Hb Ha Hc Gs Gn Ka Kc Ke Kf Gt Gu Gx
set_option linter.unusedVariables false
set_option linter.unusedSimpArgs false
def red (n : Nat) (l : List S32) (s : S32) : Rat := ((1 : Int) : Rat) - (s.f3 : Rat) * cof n l s.f0 s.f1
end Go.Proofs.Ytkafbmanmffliaa.Gy

/- The program's list: fractions as a denominator and numerators. -/
namespace Go.Proofs.Ytkafbmanmffliaa.Gw
open Go Go.RowKit YtkafbmanmffliaaW.PrintWords YtkafbmanmffliaaW.PrintLast YtkafbmanmffliaaW.PrintMore Q Bg Dd Bi Bj Bk Bm Bn Rt Ru Rx Ra Gd Gf Ge Gi Hc
set_option linter.unusedVariables false
set_option linter.unusedSimpArgs false
def lc (F : Nat → Rat) : Nat → Nat
 | 0 => 1
 | k + 1 => Nat.lcm (lc F k) (F k).den
theorem T.of_cb {B : Nat} {W : World} {g cap : Nat} {xs : List Int} (h : Cb W 2 g cap (xs.map (Value.int .i64))) (hB : B ≤ g) : T B W (.slice (some ⟨g, 0, none⟩) xs.length cap) xs := by
 obtain ⟨cs, h1, h2, h3, h4, h5, h6⟩ := h
 have ho : W.ownsRow B 2 1 (.slice (some ⟨g, 0, none⟩) xs.length cap) xs.length (encs (Value.int .i64) xs) :=
  ⟨by simp [encs], .inr ⟨g, cap, cs, rfl, hB, h1, by simpa using h3, h4, by simpa using h2, by simpa [encs] using h6⟩⟩
 exact Kd.R_of_own ho (fun _ _ => trivial)
def NumIn (wq wz : World) (b cap : Nat) (xs : List Int) : Prop := wq.heap.size ≤ b ∧ Cb wz 2 b cap (xs.map (Value.int .i64)) ∧ Below wq.heap.size wq wz
theorem NumIn.below {wq wz w1 : World} {b cap : Nat} {xs : List Int} (h : NumIn wq wz b cap xs) (hb : Below wz.heap.size wz w1) : NumIn wq w1 b cap xs := ⟨h.1, h.2.1.below hb, below_step h.2.2 hb⟩
theorem NumIn.new (wq : World) : NumIn wq (wq.alloc (.cells #[] 2)) wq.heap.size 0 [] := ⟨Nat.le_refl _, Cb.nil_new _ _, below_alloc (Below.refl _ _) _⟩
theorem NumIn.grow {wq wr w1 w2 : World} {b cap g1 cap1 : Nat} {xs : List Int} {z : Int} (h : NumIn wq wr b cap xs) (hb1 : Below wr.heap.size wr w1) (hc : Cb w2 2 g1 cap1 (xs.map (Value.int .i64) ++ [.int .i64 z])) (hat : g1 = b ∨ w1.heap.size ≤ g1) (hg : w1.grownBy w2 (some b)) :
  NumIn wq w2 g1 cap1 (xs ++ [z]) := by
 have h1 := h.below hb1
 have hs := h1.2.2.size
 refine ⟨?_, by rw [List.map_append]; exact hc, below_grownB h1.2.2 (Nat.le_refl _) hg h.1⟩
 have := h1.1
 rcases hat with e | e <;> omega
def numL (F : Nat → Rat) (L m : Nat) : List Int := (List.range m).map (fun k => (F k * ((L : Int) : Rat)).num)
end Go.Proofs.Ytkafbmanmffliaa.Gw

/- Plain: the program's list of fractions over one denominator is the reference's in lowest terms; the reference's l10Gcd and l10Lowest. -/
namespace Go.Proofs.Ytkafbmanmffliaa.Lo2
open Go Go.RowKit YtkafbmanmffliaaW.PrintWords Q Ra Gw Lo PuS
set_option linter.unusedVariables false
def lowL (D : Nat) (S : List Int) : List Int := S.map (fun s => s / (gcdAll D S : Int))
theorem abs_eq (a : Int) (h0 : -9223372036854775808 < a) (h1 : a ≤ 9223372036854775807) : spec_l02Abs.f a = some (a.natAbs : Int) := by
 unfold spec_l02Abs.f spec_l00Max.f
 rw [wrap_id (by omega) (by omega)]
 split
 ·simp only [Option.bind_some, Option.some.injEq]; omega
 ·simp only [Option.bind_some, Option.some.injEq]; omega
theorem gcd_l0 : ∀ (k a b : Nat), b < k → spec_l10Gcd.l0 k (a : Int) (b : Int) = some ((Nat.gcd a b : Nat) : Int) := by
 intro k
 induction k with
 | zero => intro a b h; omega
 | succ k ih =>
  intro a b h
  simp only [spec_l10Gcd.l0]
  by_cases hb : b = 0
  ·subst hb
   rw [if_neg (by omega), Nat.gcd_zero_right]
  ·rw [if_pos (by omega), if_neg (by omega), Int.tmod_eq_emod_of_nonneg (by omega), ← Int.natCast_emod]
   have hm := Nat.mod_lt a (show b > 0 by omega)
   rw [ih b (a % b) (by omega), Nat.gcd_comm a b, Nat.gcd_rec b a, Nat.gcd_comm]
theorem gcd_eq (k : Nat) (a b : Int) (ha0 : -9223372036854775808 < a) (ha1 : a ≤ 9223372036854775807) (hb0 : -9223372036854775808 < b) (hb1 : b ≤ 9223372036854775807) (hk : b.natAbs < k) : spec_l10Gcd.f k a b = some ((Nat.gcd a.natAbs b.natAbs : Nat) : Int) := by
 unfold spec_l10Gcd.f
 rw [abs_eq a ha0 ha1, abs_eq b hb0 hb1]
 exact gcd_l0 k _ _ hk
theorem gcdAll_le {D : Nat} (hD : 0 < D) (S : List Int) : 0 < gcdAll D S ∧ gcdAll D S ≤ D :=
 ⟨Nat.pos_of_dvd_of_pos (gcd_dvd S D).1 hD, Nat.le_of_dvd hD (gcd_dvd S D).1⟩
theorem low_l1 {S : List Int} {D g : Nat} (hg : 0 < g) (hD : D < 9223372036854775808) (hs : ∀ s, s ∈ S → s.natAbs < 9223372036854775808) (hd : ∀ s, s ∈ S → g ∣ s.natAbs) (hl : S.length ≤ 1048576) : ∀ (d i k : Nat), i + d = S.length → d < k →
  spec_l10Lowest.l1 k S (D : Int) (g : Int) ((S.take i).map (fun s => s / (g : Int))) i = some (((D / g : Nat) : Int), S.map (fun s => s / (g : Int))) := by
 intro d
 induction d with
 | zero =>
  intro i k hi hk
  obtain ⟨k, rfl⟩ : ∃ m, k = m + 1 := ⟨k - 1, by omega⟩
  simp only [spec_l10Lowest.l1]
  rw [if_neg (by omega), if_neg (by omega), List.take_of_length_le (by omega), Int.tdiv_eq_ediv_of_nonneg (by omega), ← Int.natCast_ediv]
  have := Nat.div_le_self D g
  obtain ⟨q, hq⟩ : ∃ q, q = D / g := ⟨_, rfl⟩
  rw [← hq] at this ⊢
  rw [wrap_id (by omega) (by omega)]
 | succ d ih =>
  intro i k hi hk
  obtain ⟨k, rfl⟩ : ∃ m, k = m + 1 := ⟨k - 1, by omega⟩
  have hlt : i < S.length := by omega
  have hr : rd S i = S[i] := by simp [rd, List.getD_eq_getElem?_getD, hlt]
  have hm := List.getElem_mem hlt
  have h1 := hs _ hm
  have h2 : (g : Int) ∣ S[i] := Int.natAbs_dvd_natAbs.1 (by simpa using hd _ hm)
  have h3 : (S[i] / (g : Int)).natAbs ≤ S[i].natAbs := by
   rw [Int.natAbs_ediv_of_dvd h2, Int.natAbs_natCast]
   exact Nat.div_le_self _ _
  simp only [spec_l10Lowest.l1]
  rw [if_pos (by omega), if_pos (by omega), if_neg (by omega), if_pos (by simp; omega), hr, Int.tdiv_eq_ediv_of_dvd h2, wrap_id (by omega) (by omega), wrap_id (by omega) (by omega)]
  have e := ih (i + 1) k (by omega) (by omega)
  rw [List.take_succ_eq_append_getElem hlt, List.map_append] at e
  exact_mod_cast e
theorem low_l0 {S : List Int} {D M : Nat} (hD0 : 0 < D) (hD : D < 9223372036854775808) (hs : ∀ s, s ∈ S → s.natAbs < 9223372036854775808) (hM : ∀ s, s ∈ S → s.natAbs < M) (hl : S.length ≤ 1048576) : ∀ (d i k : Nat), i + d = S.length → M + d + S.length + 2 < k →
  spec_l10Lowest.l0 k S (D : Int) ((gcdAll D (S.take i) : Nat) : Int) i = some (((D / gcdAll D S : Nat) : Int), lowL D S) := by
 intro d
 induction d with
 | zero =>
  intro i k hi hk
  obtain ⟨k, rfl⟩ : ∃ m, k = m + 1 := ⟨k - 1, by omega⟩
  simp only [spec_l10Lowest.l0]
  rw [if_neg (by omega), List.take_of_length_le (by omega)]
  have := low_l1 (S := S) (D := D) (g := gcdAll D S) (gcdAll_le hD0 S).1 hD hs (fun s h => (gcd_dvd S D).2 s h) hl S.length 0 k (by omega) (by omega)
  exact this
 | succ d ih =>
  intro i k hi hk
  obtain ⟨k, rfl⟩ : ∃ m, k = m + 1 := ⟨k - 1, by omega⟩
  have hlt : i < S.length := by omega
  have hr : rd S i = S[i] := by simp [rd, List.getD_eq_getElem?_getD, hlt]
  have hm := List.getElem_mem hlt
  have h1 := hs _ hm
  have h2 := hM _ hm
  have h3 := (gcdAll_le hD0 (S.take i)).2
  simp only [spec_l10Lowest.l0]
  rw [if_pos (by omega), if_pos (by omega), hr, gcd_eq k _ _ (by omega) (by omega) (by omega) (by omega) (by omega), Option.bind_some, Int.natAbs_natCast, wrap_id (by omega) (by omega)]
  have e := ih (i + 1) k (by omega) (by omega)
  rw [List.take_succ_eq_append_getElem hlt] at e
  have e2 : gcdAll D (S.take i ++ [S[i]]) = Nat.gcd (gcdAll D (S.take i)) S[i].natAbs := by unfold gcdAll; rw [List.foldl_append]; rfl
  rw [e2] at e
  exact_mod_cast e
theorem lowest_eq {S : List Int} {D M : Nat} (hD0 : 0 < D) (hD : D < 9223372036854775808) (hM : ∀ s, s ∈ S → s.natAbs < M) (hM2 : M ≤ 9223372036854775808) (hl : S.length ≤ 1048576) (k : Nat) (hk : M + S.length + S.length + 2 < k) :
  spec_l10Lowest.f k S (D : Int) = some (((D / gcdAll D S : Nat) : Int), lowL D S) := by
 have := low_l0 hD0 hD (fun s h => by have := hM s h; omega) hM hl S.length 0 k (by omega) (by omega)
 exact this
end Go.Proofs.Ytkafbmanmffliaa.Lo2

/- The program's AdjustSurvey, ResidualsOf, RedundanciesOf, CofactorOf, RiseBetween: what they return. -/
namespace Go.Proofs.Ytkafbmanmffliaa.Ex
open Go Go.RowKit YtkafbmanmffliaaW.PrintWords YtkafbmanmffliaaW.PrintLast YtkafbmanmffliaaW.PrintMore Q Bg Dd Bi Rt Ru Rx Ra Gd Gf Ge Hb Ha Hc Gs Gn Kc Ke Kf Gt Gu Gx Gy Gv Lo Lo2
set_option linter.unusedVariables false
set_option linter.unusedSimpArgs false
def ptsB (p : Int) (l : List S32) (a b : Int) : Bool := Gm.connB p l && (inB 0 (p - 1) a && inB 0 (p - 1) b)
theorem conn_nat {p : Int} {l : List S32} (h : Gm.connB p l = true) : ∃ n : Nat, p = (n : Int) + 1 := by
 have hv := h
 unfold Gm.connB surveyB inB at hv
 simp only [Bool.and_eq_true, decide_eq_true_eq] at hv
 exact ⟨p.toNat - 1, by omega⟩
theorem pts_any (p : Int) (l : List S32) (a b : Int) (A : Option Addr) (c : Nat) (w : World) (hr : Kd.C k32 w A l.length l) (hc : l.length ≤ c) (hl : l.length ≤ 1048576) :
  Calls Try.prog 62 #[.agg #[.int .i64 p, .slice A l.length c], .int .i64 a, .int .i64 b] w fun e w' => e = .returned (.bool (ptsB p l a b)) ∧ Below w.heap.size w w' := by
 exact Hw.pts_any p l a b A c w hr hl
def dn (n : Nat) (l : List S32) : Nat := (den l n).toNat
theorem dn_pos {n : Nat} {l : List S32} (hc : Gm.connB ((n : Int) + 1) l = true) : 0 < dn n l ∧ dn n l ≤ 1073741824 ∧ ((dn n l : Nat) : Int) = den l n := by
 have h := ok_rgt hc
 have hd := h.pos n (Nat.le_refl _)
 rw [h.last] at hd
 have hn := conn_n hc
 have hd2 : den l n ≤ 1073741824 := by
  rw [← h.last]
  obtain ⟨m, rfl⟩ : ∃ m, n = m + 1 := ⟨n - 1, by omega⟩
  rw [LL_succ _ m (by omega)]
  exact (h.size m m m (by omega) (by omega) (by omega)).2
 unfold dn
 omega
theorem nu_size {n : Nat} {l : List S32} {right : List Int} (h : Ok n l right) (p : Int) (hp : p ≤ n) : -1073741824 ≤ nu l right n p ∧ nu l right n p ≤ 1073741824 := by
 unfold nu
 split
 ·omega
 ·exact h.size n (p.toNat - 1) n (Nat.le_refl _) (by omega) (Nat.le_refl _)
theorem mkq {a : Int} {d : Nat} : mkRat a d = (a : Rat) / ((d : Int) : Rat) := by rw [Rat.mkRat_eq_div, Rat.intCast_natCast]
def resN (n : Nat) (l : List S32) (s : S32) : Int := s.f2 * den l n - nu l (rgt n l) n s.f1 + nu l (rgt n l) n s.f0
def cofN (n : Nat) (l : List S32) (a b : Int) : Int := nu l (rco n a b) n b - nu l (rco n a b) n a
def redN (n : Nat) (l : List S32) (s : S32) : Int := den l n - s.f3 * cofN n l s.f0 s.f1
theorem den_rat {n : Nat} {l : List S32} (hc : Gm.connB ((n : Int) + 1) l = true) : (((dn n l : Nat) : Int) : Rat) = (den l n : Rat) ∧ (den l n : Rat) ≠ 0 := ⟨by rw [(dn_pos hc).2.2], den_ne (ok_rgt hc)⟩
def wp (p : Int) : Nat := p.toNat - 1
theorem wp_eq (n : Nat) : wp ((n : Int) + 1) = n := by unfold wp; omega
def adjL (p : Int) (l : List S32) : List Int := if Gm.connB p l = true then lowL (dn (wp p) l) (nuL l (rgt (wp p) l) (wp p)) else []
def adjD (p : Int) (l : List S32) : Int := if Gm.connB p l = true then ((dn (wp p) l / gcdAll (dn (wp p) l) (nuL l (rgt (wp p) l) (wp p)) : Nat) : Int) else 0
def resL (p : Int) (l : List S32) : List Int := if Gm.connB p l = true then lowL (dn (wp p) l) (l.map (resN (wp p) l)) else []
def resD (p : Int) (l : List S32) : Int := if Gm.connB p l = true then ((dn (wp p) l / gcdAll (dn (wp p) l) (l.map (resN (wp p) l)) : Nat) : Int) else 0
def redL (p : Int) (l : List S32) : List Int := if Gm.connB p l = true then lowL (dn (wp p) l) (l.map (redN (wp p) l)) else []
def redD (p : Int) (l : List S32) : Int := if Gm.connB p l = true then ((dn (wp p) l / gcdAll (dn (wp p) l) (l.map (redN (wp p) l)) : Nat) : Int) else 0
def Post3 (w : World) (d : Int) (xs : List Int) (ok : Bool) (e : Ending) (w' : World) : Prop := ∃ v : Value, e = .returned (.tuple #[.int .i64 d, v, .bool ok]) ∧ T w.heap.size w' v xs ∧ Below w.heap.size w w'
end Go.Proofs.Ytkafbmanmffliaa.Ex

/- The reference's l10Adjusted, l10Cofactor and l10Redundancies. -/
namespace Go.Proofs.Ytkafbmanmffliaa.Sp2
open Go Go.RowKit YtkafbmanmffliaaW.PrintWords YtkafbmanmffliaaW.PrintLast YtkafbmanmffliaaW.PrintMore Q Gd Gf Ge Gi Hb Ha Hc Gs Gn Kc Ke Kf Gt Gv Gw Ex
set_option linter.unusedVariables false
set_option linter.unusedSimpArgs false
set_option maxHeartbeats 4000000 in
set_option maxRecDepth 100000 in
theorem specAdj_any (n : Nat) (g0 : Nat) (l : List S32) (hc : Gm.connB ((n : Int) + 1) l = true) (A : Option Addr) (c : Nat) (w : World) (hb : w.heap[g0]? = some (.cells #[.int .i64 ((n : Int) + 1), .slice A l.length c] 26 (0, 0))) (hr : Kd.C k32 w A l.length l) :
  Calls Try.prog 77 #[.pointer (some ⟨g0, 0, none⟩)] w fun e w' => ∃ v : Value, e = .returned (.tuple #[v, .int .i64 (den l n)]) ∧ T w.heap.size w' v (nuL l (rgt n l) n) ∧ Below w.heap.size w w' := by
 have hu26 := Try.underlying26
 have hu32 := Try.underlying32
 have hn := conn_n hc
 have hn4 := hn.2.1
 have hl8 := hn.2.2
 have mk := mk28 (n + 1) (by omega)
 rw [show ((n + 1 : Nat) : Int) = (n : Int) + 1 by omega] at mk
 have HR := Aside0.mk hr
 have HX := Aside0.mk hb
 have HC := Aside0.mk hc
 have HV := Aside0.mk (conn_v hc)
 have c0 : w.cell? ⟨g0, 0, none⟩ = some (.int .i64 ((n : Int) + 1)) := (blk_cell hb 0).trans rfl
 clear hr hc hn hb
 go_enter Try.func77, Try.ntmps77
 go_wp2_with (fail)
 have t0 := Aside0.mk (T.made w (n + 1) (by omega) (Nat.le_refl w.heap.size))
 have tb := Aside0.mk (below_alloc (Below.refl w.heap.size w) (.cells (madeCells #[.int .i64 0] (n + 1)) 2))
 obtain ⟨g, hg⟩ : ∃ g, g = w.heap.size := ⟨_, rfl⟩
 rw [← hg]
 rw [← hg] at t0
 have HG := Aside0.mk hg.symm
 clear hg mk c0
 go_loopw [5] (fun v5 wz => ∃ i : Nat, v5 = .int .i64 (i : Int) ∧ i ≤ l.length ∧ Aside0 (T g wz (.slice (some ⟨g, 0, none⟩) (n + 1) (n + 1)) (rgtAt n l i)) ∧ Aside0 (Below w.heap.size w wz)) (fun v _ => l.length - (intOf v).toNat)
 case atStart => exact ⟨0, rfl, by omega, ⟨by rw [rgtAt_zero]; exact t0.out⟩, tb⟩
 case round =>
  clear t0 tb
  obtain ⟨i, rfl, hi, HT, HB⟩ := hrel
  by_cases hlt : i < l.length
  ·have p1 : decide ((i : Int) < (l.length : Int)) = true := decide_eq_true (by omega)
   obtain ⟨ad, e, x0, x1, x2, x3⟩ := at_T32 (Kd.C_below HR.out HB.out) (i : Int) (by omega) (by omega)
   subst e
   rw [Int.toNat_natCast] at x0 x1 x2 x3
   have cy : wr.cell? ⟨g0, 1, none⟩ = some (.slice (some ad) l.length c) := (blk_cell (blk_below HX.out HB.out) 1).trans rfl
   have hm : rd_T32 l i ∈ l := by simp only [rd_T32, Int.toNat_natCast]; rw [List.getD_eq_getElem?_getD, List.getElem?_eq_getElem hlt]; simp
   have hva := mem_at HV.out _ hm
   have HSU := Aside0.mk (rgtAt_succ n l i hlt)
   obtain ⟨s, hs⟩ : ∃ s, s = rd_T32 l i := ⟨_, rfl⟩
   rw [← hs] at x0 x1 x2 x3 hva HSU
   clear hs hm
   obtain ⟨f, t, ri, wt⟩ := s
   dsimp only at x0 x1 x2 x3 hva
   obtain ⟨y0, y1, y2, y3, y4, y5, y6, y7, y8⟩ := hva
   obtain ⟨f, rfl⟩ : ∃ q : Nat, f = q := ⟨f.toNat, by omega⟩
   obtain ⟨t, rfl⟩ : ∃ q : Nat, t = q := ⟨t.toNat, by omega⟩
   obtain ⟨r, hr⟩ : ∃ r, r = rgtAt n l i := ⟨_, rfl⟩
   have hrl : r.length = n + 1 := by rw [hr]; exact rgtAt_len n l i
   have hz : ∀ p : Int, -2400 ≤ rd r p ∧ rd r p ≤ 2400 := fun p => by rw [hr]; exact rgtAt_size HV.out i p
   rw [← hr] at HT HSU
   have hwr : -300 ≤ wt * ri ∧ wt * ri ≤ 300 := by
    have c3 : wt = 1 ∨ wt = 2 ∨ wt = 3 := by omega
    rcases c3 with e | e | e <;> rw [e] <;> omega
   obtain ⟨k, hk⟩ : ∃ k, k = wt * ri := ⟨_, rfl⟩
   rw [← hk] at hwr
   have hw1 : wrap64 (wt * ri) = k := by rw [← hk]; unfold wrap64; omega
   have HSU2 := Aside0.mk (show rgtAt n l (i + 1) = (r.set t (rd r (t : Int) + k)).set f (rd (r.set t (rd r (t : Int) + k)) (f : Int) - k) by rw [HSU.out, hk]; rfl)
   obtain ⟨v1, hv1⟩ : ∃ v1, v1 = rd r (t : Int) + k := ⟨_, rfl⟩
   have hzt := hz t
   have hw2 : wrap64 (rd r (t : Int) + k) = v1 := by rw [← hv1]; unfold wrap64; omega
   obtain ⟨r1, hr1⟩ : ∃ r1, r1 = r.set t v1 := ⟨_, rfl⟩
   have hzf := (ad_size (r := r) (t := t) (f := f) (m := 2400) (k := 0) (c := 0) (by omega) (by omega) (by omega) hz (by omega) (by omega) (by omega) (by omega) (by omega) f)
   have hzf1 : -2700 ≤ rd r1 (f : Int) ∧ rd r1 (f : Int) ≤ 2700 := by
    have e := rd_set (r := r) (t := t) (p := f) (v := v1) (by omega) (by omega) (by omega)
    rw [Int.toNat_natCast, ← hr1] at e
    rw [e]
    have := hz f
    split <;> omega
   obtain ⟨v2, hv2⟩ : ∃ v2, v2 = rd r1 (f : Int) - k := ⟨_, rfl⟩
   have hw3 : wrap64 (rd r1 (f : Int) - k) = v2 := by rw [← hv2]; unfold wrap64; omega
   have HSU3 := Aside0.mk (show rgtAt n l (i + 1) = r1.set f v2 by rw [HSU2.out, ← hv1, ← hr1, ← hv2])
   have HR1 := Aside0.mk hr1
   obtain ⟨vt, hvt⟩ : ∃ vt, vt = rd r (t : Int) := ⟨_, rfl⟩
   rw [← hvt] at hw2
   obtain ⟨vf, hvf⟩ : ∃ vf, vf = rd r1 (f : Int) := ⟨_, rfl⟩
   rw [← hvf] at hw3
   have HVT := Aside0.mk hvt
   have HVF := Aside0.mk hvf
   have HRL := Aside0.mk hrl
   clear hr hz hwr hk hv1 hv2 hzt hzf hzf1 hr1 hvt hvf hrl HSU HSU2
   have HBA := Aside0.mk (below_alloc (Below.refl wr.heap.size wr) (.cells #[.int .i64 (f : Int), .int .i64 (t : Int), .int .i64 ri, .int .i64 wt] 32))
   have HNA := Aside0.mk (heap_alloc_new wr (.cells #[.int .i64 (f : Int), .int .i64 (t : Int), .int .i64 ri, .int .i64 wt] 32))
   have HT1 := Aside0.mk (HT.out.below HBA.out)
   obtain ⟨z0, z1⟩ := HT1.out.cell t (by omega)
   rw [← HVT.out] at z0
   have i1 : (0 ≤ (t : Int)) = True := eq_true (by omega)
   have i2 : ((t : Int) < (n : Int) + 1) = True := eq_true (by omega)
   have i3 : (0 ≤ (f : Int)) = True := eq_true (by omega)
   have i4 : ((f : Int) < (n : Int) + 1) = True := eq_true (by omega)
   go_wp2_with (fail)
   go_region
   have hp1 := HT1.out.put t v1
   have hb1 := (HB.out.trans (HBA.out.mono (HB.out.size))).setCell (p := ⟨g, t, none⟩) (by show w.heap.size ≤ g; rw [HG.out]; exact Nat.le_refl _) (.int .i64 v1)
   rw [← HR1.out] at hp1
   have HT2 := Aside0.mk (hp1.1.below (below_drew (Below.refl _ _)))
   have HB2 := Aside0.mk (below_drew hb1)
   have hgs := HT.out.lt (k := g) rfl
   have HN2 := Aside0.mk (blk_drew (blk_grown HNA.out hp1.2 (by intro e; have := Option.some.inj e; omega)))
   clear hp1 hb1 hgs z0 z1 cy
   obtain ⟨wa, hwa⟩ : ∃ wa, wa = ((wr.alloc (.cells #[.int .i64 (f : Int), .int .i64 (t : Int), .int .i64 ri, .int .i64 wt] 32)).setCell ⟨g, t, none⟩ (.int .i64 v1)).drew := ⟨_, rfl⟩
   rw [← hwa] at HT2 HB2 HN2
   rw [← hwa]
   clear hwa
   obtain ⟨z0, z1⟩ := HT2.out.cell f (by omega)
   rw [← HVF.out] at z0
   have k0 : wa.cell? ⟨wr.heap.size, 0, none⟩ = some (.int .i64 (f : Int)) := (blk_cell HN2.out 0).trans rfl
   have k2 : wa.cell? ⟨wr.heap.size, 2, none⟩ = some (.int .i64 ri) := (blk_cell HN2.out 2).trans rfl
   have k3 : wa.cell? ⟨wr.heap.size, 3, none⟩ = some (.int .i64 wt) := (blk_cell HN2.out 3).trans rfl
   go_wp2_with (fail)
   go_region
   have hp2 := HT2.out.put f v2
   have hb2 := HB2.out.setCell (p := ⟨g, f, none⟩) (by show w.heap.size ≤ g; rw [HG.out]; exact Nat.le_refl _) (.int .i64 v2)
   rw [← HSU3.out] at hp2
   have HT3 := Aside0.mk (hp2.1.below (below_drew (Below.refl _ _)))
   have HB3 := Aside0.mk (below_drew hb2)
   clear hp2 hb2
   go_wp2_with (fail)
   go_roundw
   case rel => exact ⟨i + 1, by go_num, by omega, HT3, HB3⟩
   case measure => simp [intOf]; omega
  ·obtain rfl : l.length = i := by omega
   have p1 : decide ((l.length : Int) < (l.length : Int)) = false := decide_eq_false (by omega)
   rw [rgtAt_all] at HT
   have cy : wr.cell? ⟨g0, 1, none⟩ = some (.slice A l.length c) := (blk_cell (blk_below HX.out HB.out) 1).trans rfl
   have hC : Kd.C (Kd.int .i64) wr (some ⟨g, 0, none⟩) (rgt n l).length (rgt n l) := (Kd.R_reads' HT.out).2.2
   have hsv := solveS2_any n g0 l (rgt n l) (ok_rgt HC.out) hn4 A c (some ⟨g, 0, none⟩) (n + 1) wr (blk_below HX.out HB.out) (Kd.C_below HR.out HB.out) hC (rgt_len n l) (rgt_size HV.out)
   rw [rgt_len] at hsv
   clear hC
   go_wp2_with (fail)
   refine hsv.mono ?_
   rintro e w1 ⟨v, rfl, h1, h2⟩
   have H1 := Aside0.mk h1
   have H2 := Aside0.mk (below_step HB.out h2)
   have H3 := Aside0.mk HB.out.size
   clear h1 h2 hsv cy
   go_wp2_with (fail)
   go_ret2
   exact ⟨v, rfl, Kd.R_lower H1.out H3.out, H2.out⟩
end Go.Proofs.Ytkafbmanmffliaa.Sp2

namespace Go.Proofs.Ytkafbmanmffliaa.Q
open Go.RowKit YtkafbmanmffliaaW.PrintWords YtkafbmanmffliaaW.PrintLast YtkafbmanmffliaaW.PrintMore
attribute [local go_sem] max2_int min2_int max_two min_two max_three min_three max_four min_four
set_option linter.unusedVariables false
set_option linter.unusedSimpArgs false
def spec_l10Adjusted.f (s0_0 : Int) (s0_1 : List (S32)) : Option (List Int × Int × Int) := if Gm.connB s0_0 s0_1 = true then some (Gv.nuL s0_1 (Ke.rgt (Ex.wp s0_0) s0_1) (Ex.wp s0_0), Gn.den s0_1 (Ex.wp s0_0), s0_0) else none
theorem spec_l10Adjusted.calls (g : Nat) (s0_0 : Int) (s0_1 : List (S32)) (r1 : List Int) (r2 : Int) (r3 : Int) (w0 w : World) (hI : IsS26 w0 w g s0_0 s0_1) (hB : Below w0.heap.size w0 w) (h : spec_l10Adjusted.f s0_0 s0_1 = some (r1, r2, r3)) :
  Calls Try.prog 77 #[.pointer (some ⟨g, 0, none⟩)] w fun e w' => ∃ v0_ : Value, e = .returned (.tuple #[v0_, .int .i64 r2]) ∧ Kd.R (Kd.int .i64) 2 w' w.heap.size (fun _ => True) v0_ r1 ∧ IsS26 w0 w' g r3 s0_1 ∧ Below w0.heap.size w0 w' ∧ KeepBut w w' g none := by
 unfold spec_l10Adjusted.f at h
 by_cases hc : Gm.connB s0_0 s0_1 = true
 ·rw [if_pos hc] at h
  simp only [Option.some.injEq, Prod.mk.injEq] at h
  obtain ⟨rfl, rfl, rfl⟩ := h
  obtain ⟨A0, c0, hb, hg, hr⟩ := hI
  obtain ⟨n, rfl⟩ := Ex.conn_nat hc
  rw [Ex.wp_eq]
  refine (Sp2.specAdj_any n g s0_1 hc A0 c0 w hb (Kd.C_below hr hB)).mono ?_
  rintro e w' ⟨v, rfl, t, hw⟩
  exact ⟨v, rfl, t, IsS26.below ⟨A0, c0, hb, hg, hr⟩ hw, below_then hB hB.size hw, KeepBut.of_below hw g none⟩
 ·rw [if_neg hc] at h; cases h
end Go.Proofs.Ytkafbmanmffliaa.Q

namespace Go.Proofs.Ytkafbmanmffliaa.Q
open Go.RowKit YtkafbmanmffliaaW.PrintWords YtkafbmanmffliaaW.PrintLast YtkafbmanmffliaaW.PrintMore
attribute [local go_sem] max2_int min2_int max_two min_two max_three min_three max_four min_four
set_option linter.unusedVariables false
set_option linter.unusedSimpArgs false
def spec_l10Point.f (s0_0 : Int) (s0_1 : List (S32)) (a1 : Int) : Option (Bool × Int) := (spec_l10Whole.f s0_0 s0_1).bind fun bt374 => (if bt374.1 = true then ((spec_l00In.f a1 0 (wrap64 (bt374.2 - 1))).bind fun t376 => (some (t376, bt374.2))) else (some (false, bt374.2)))
set_option maxHeartbeats 8000000 in
set_option maxRecDepth 100000 in
theorem spec_l10Point.calls (g : Nat) (s0_0 : Int) (s0_1 : List (S32)) (a1 : Int) (r1 : Bool) (r2 : Int) (w0 w : World) (hI : IsS26 w0 w g s0_0 s0_1) (hB : Below w0.heap.size w0 w) (h : spec_l10Point.f s0_0 s0_1 a1 = some (r1, r2)) :
  Calls Try.prog 70 #[.pointer (some ⟨g, 0, none⟩), .int .i64 a1] w fun e w' => e = .returned (.bool r1) ∧ IsS26 w0 w' g r2 s0_1 ∧ Below w0.heap.size w0 w' ∧ KeepBut w w' g none := by
 have HI0 := Aside0.mk hI
 have HK := Aside0.mk (KeepBut.refl w g none)
 have HL := Aside0.mk hB.size
 clear hI
 have HW0 := Aside0.mk hB.size
 have HB := Aside0.mk hB
 clear hB
 have H : ((spec_l10Whole.f s0_0 s0_1).bind fun bt374 => (if bt374.1 = true then ((spec_l00In.f a1 0 (wrap64 (bt374.2 - 1))).bind fun t376 => (some (t376, bt374.2))) else (some (false, bt374.2)))) = some (r1, r2) := h
 clear h
 replace H := Option.bind_eq_some_iff.mp H
 obtain ⟨⟨t374, t375⟩, A30, H⟩ := H
 replace H : (if t374 = true then ((spec_l00In.f a1 0 (wrap64 (t375 - 1))).bind fun t376 => (some (t376, t375))) else (some (false, t375))) = some (r1, r2) := H
 have A3 := Aside0.mk A30
 clear A30
 by_cases c4 : t374 = true
 ·subst c4
  have H1 : ((spec_l00In.f a1 0 (wrap64 (t375 - 1))).bind fun t376 => (some (t376, t375))) = some (r1, r2) := by rw [if_pos rfl] at H; exact H
  clear H
  have H := H1
  clear H1
  replace H := Option.bind_eq_some_iff.mp H
  obtain ⟨t376, A50, H⟩ := H
  replace H : (some (t376, t375)) = some (r1, r2) := H
  have A5 := Aside0.mk A50
  clear A50
  simp only [Option.some.injEq, Prod.mk.injEq] at H
  obtain ⟨rfl, rfl⟩ := H
  go_enter Try.func70, Try.ntmps70
  go_wp2_with (first | ((with_reducible refine gate_callee (f := 58) rfl ?_); refine goesL_ (some 6) rfl rfl Try.func58 (by kernel_rfl) rfl #[.pointer (some ⟨g, 0, none⟩)] rfl (by (try simp only [List.map_toArray, List.map_cons, List.map_nil]); first | done | rfl | (simp only [List.length_drop, List.length_take]; rfl)) ?_; (with_reducible refine (spec_l10Whole.calls g s0_0 s0_1 true t375 w0 _ ?side1 ?side2 A3.out).mono ?_); (case side1 => repeat (first | (with_reducible first | exact HI0.out | apply IsS26.alloc | apply IsS26.drewN | apply IsS26.drew | apply IsS26.set_0) | exact HI0.out)); (case side2 => repeat (first | (with_reducible first | exact HB.out | apply below_alloc | apply pw_below_drewN | apply below_drew1 | refine below_set ?_ (IsS26.ge HI0.out)) | exact HB.out)); rintro e w6 ⟨rfl, hi, hb, hk⟩; refine ⟨_, rfl, ?_⟩; have n0_ := Aside0.mk (KeepBut.trans (by repeat (first | (with_reducible first | exact HK.out | apply KeepBut.set_ | apply keep_drewN | apply keep_drew | apply keep_alloc) | exact HK.out)) hk (.inl rfl)); have n1_ := Aside0.mk (hb); have n2_ := Aside0.mk (hi); clear HK; clear HB; clear HI0; have HK := n0_; have HB := n1_; have HI0 := n2_; clear n0_ n1_ n2_; (try clear hb); (try clear hb2); (try clear hk); (try clear hi); obtain ⟨ASz7_1, cSz7_1, HGz7, hgz7, HSz7_1⟩ := HI0.out; have hcz7_0 := cellS26_0 HGz7; have hcz7_1 := cellS26_1 HGz7; have hfz7_0 := blk_frozen HGz7 0; clear HGz7 hgz7) | (go_at_call 114; (with_reducible refine (spec_l00In.calls a1 0 (wrap64 (t375 - 1)) t376 _ A5.out).mono ?_); rintro e w' ⟨rfl, ⟨nd, rfl⟩⟩))
  go_ret
  exact ⟨by first | rfl | (simp [errW_none, errW_some] <;> rfl) | (simp [*, errW_none, errW_some] <;> rfl), by repeat (first | (with_reducible first | exact HI0.out | apply IsS26.alloc | apply IsS26.drewN | apply IsS26.drew | apply IsS26.set_0) | exact HI0.out), by repeat (first | (with_reducible first | exact HB.out | apply below_alloc | apply pw_below_drewN | apply below_drew1 | refine below_set ?_ (IsS26.ge HI0.out)) | exact HB.out), by repeat (first | (with_reducible first | exact HK.out | apply KeepBut.set_ | apply keep_drewN | apply keep_drew | apply keep_alloc) | exact HK.out)⟩
 ·replace c4 := Bool.eq_false_iff.mpr c4
  subst c4
  have H1 : (some (false, t375)) = some (r1, r2) := by rw [if_neg (show ¬ (false = true) by decide)] at H; exact H
  clear H
  have H := H1
  clear H1
  simp only [Option.some.injEq, Prod.mk.injEq] at H
  obtain ⟨rfl, rfl⟩ := H
  go_enter Try.func70, Try.ntmps70
  go_wp2_with (first | ((with_reducible refine gate_callee (f := 58) rfl ?_); refine goesL_ (some 6) rfl rfl Try.func58 (by kernel_rfl) rfl #[.pointer (some ⟨g, 0, none⟩)] rfl (by (try simp only [List.map_toArray, List.map_cons, List.map_nil]); first | done | rfl | (simp only [List.length_drop, List.length_take]; rfl)) ?_; (with_reducible refine (spec_l10Whole.calls g s0_0 s0_1 false t375 w0 _ ?side1 ?side2 A3.out).mono ?_); (case side1 => repeat (first | (with_reducible first | exact HI0.out | apply IsS26.alloc | apply IsS26.drewN | apply IsS26.drew | apply IsS26.set_0) | exact HI0.out)); (case side2 => repeat (first | (with_reducible first | exact HB.out | apply below_alloc | apply pw_below_drewN | apply below_drew1 | refine below_set ?_ (IsS26.ge HI0.out)) | exact HB.out)); rintro e w8 ⟨rfl, hi, hb, hk⟩; refine ⟨_, rfl, ?_⟩; have n0_ := Aside0.mk (KeepBut.trans (by repeat (first | (with_reducible first | exact HK.out | apply KeepBut.set_ | apply keep_drewN | apply keep_drew | apply keep_alloc) | exact HK.out)) hk (.inl rfl)); have n1_ := Aside0.mk (hb); have n2_ := Aside0.mk (hi); clear HK; clear HB; clear HI0; have HK := n0_; have HB := n1_; have HI0 := n2_; clear n0_ n1_ n2_; (try clear hb); (try clear hb2); (try clear hk); (try clear hi)))
  go_ret
  exact ⟨by first | rfl | (simp [errW_none, errW_some] <;> rfl) | (simp [*, errW_none, errW_some] <;> rfl), by repeat (first | (with_reducible first | exact HI0.out | apply IsS26.alloc | apply IsS26.drewN | apply IsS26.drew | apply IsS26.set_0) | exact HI0.out), by repeat (first | (with_reducible first | exact HB.out | apply below_alloc | apply pw_below_drewN | apply below_drew1 | refine below_set ?_ (IsS26.ge HI0.out)) | exact HB.out), by repeat (first | (with_reducible first | exact HK.out | apply KeepBut.set_ | apply keep_drewN | apply keep_drew | apply keep_alloc) | exact HK.out)⟩
end Go.Proofs.Ytkafbmanmffliaa.Q

namespace Go.Proofs.Ytkafbmanmffliaa.Q
open Go.RowKit YtkafbmanmffliaaW.PrintWords YtkafbmanmffliaaW.PrintLast YtkafbmanmffliaaW.PrintMore
attribute [local go_sem] max2_int min2_int max_two min_two max_three min_three max_four min_four
set_option linter.unusedVariables false
set_option linter.unusedSimpArgs false
def spec_RiseBetween.j0 : Nat → Int → Int → Bool → Int → List (S32) → Option (Int × Int × Bool)
 | 0, _, _, _, _, _ => none
 | k + 1, x1, x2, x20, x514000, x514001 => if x20 = true then (some (0, 0, false)) else ((spec_l10Adjusted.f x514000 x514001).bind fun bt518 => (if 0 ≤ x2 then (if x2 < (bt518.1.length : Int) then (if 0 ≤ x1 then (if x1 < (bt518.1.length : Int) then ((spec_l10Lowest.f k (([wrap64 ((rd bt518.1 x2) - (rd bt518.1 x1))] : List Int)) bt518.2.1).bind fun bt528 => (if 0 < (bt528.2.length : Int) then (some (rd bt528.2 0, bt528.1, true)) else (none))) else (none)) else (none)) else (none)) else (none)))
def spec_RiseBetween.f (k : Nat) (a0_0 : Int) (l0_1 : List (S32)) (a1 : Int) (a2 : Int) : Option (Int × Int × Bool) := (spec_l10Point.f a0_0 l0_1 a1).bind fun bt514 => (if bt514.1 = true then ((spec_l10Point.f bt514.2 l0_1 a2).bind fun bt516 => (spec_RiseBetween.j0 k a1 a2 (!bt516.1) bt516.2 l0_1)) else (spec_RiseBetween.j0 k a1 a2 true bt514.2 l0_1))
def spec_RiseBetween.T4 : Bool × List (List Nat × List Nat) := (true, [([], []), ([], []), ([0, 1], [0, 1]), ([2], [2]), ([], []), ([], []), ([4, 5], [4, 5]), ([6], [6]), ([3, 7], [3, 7]), ([8], [8]), ([], []), ([9, 10], [9, 10]), ([11], [11]), ([12], [12]), ([12], [12]), ([13, 11, 0, 1, 2, 3, 4, 5, 6, 7, 8, 9, 10, 11, 12, 13], [13]), ([14, 15, 0, 1, 2, 3, 4, 5, 6, 7, 8, 9, 10, 11, 12, 13, 14, 15], [14])])
def spec_RiseBetween.B4 : List Nat := [0, 0, 3, 7, 0, 0, 48, 112, 255, 511, 0, 2047, 4095, 8191, 8191, 16383, 65535]
theorem spec_RiseBetween.tab4 : rtab .any (opsOf Try.f36 4) = spec_RiseBetween.T4 := by kernel_rfl
theorem spec_RiseBetween.bits4 : waitsOk spec_RiseBetween.T4.2 spec_RiseBetween.B4 = true := by kernel_rfl
set_option maxHeartbeats 8000000 in
set_option maxRecDepth 100000 in
theorem spec_RiseBetween.calls (k : Nat) (a0_0 : Int) (A0_1 : Option Addr) (c0_1 : Nat) (l0_1 : List (S32)) (a1 : Int) (a2 : Int) (r1 : Int) (r2 : Int) (r3 : Bool) (w : World) (hr0_1 : Kd.C k32 w A0_1 l0_1.length l0_1) (hc0_1 : l0_1.length ≤ c0_1) (h : spec_RiseBetween.f k a0_0 l0_1 a1 a2 = some (r1, r2, r3)) :
  Calls Try.prog 36 #[.agg #[.int .i64 a0_0, .slice A0_1 l0_1.length c0_1], .int .i64 a1, .int .i64 a2] w fun e w' => e = .returned (.tuple #[.int .i64 r1, .int .i64 r2, .bool r3]) ∧ Below w.heap.size w w' := by
 have hu26 := Try.underlying26
 have HR0_1 := Aside0.mk hr0_1
 have HC0_1 := Aside0.mk hc0_1
 clear hr0_1 hc0_1
 have HB := Aside0.mk (Below.refl w.heap.size w)
 have H : ((spec_l10Point.f a0_0 l0_1 a1).bind fun bt514 => (if bt514.1 = true then ((spec_l10Point.f bt514.2 l0_1 a2).bind fun bt516 => (spec_RiseBetween.j0 k a1 a2 (!bt516.1) bt516.2 l0_1)) else (spec_RiseBetween.j0 k a1 a2 true bt514.2 l0_1))) = some (r1, r2, r3) := h
 clear h
 have HC4 := Aside0.mk H
 clear H
 go_enter Try.func36, Try.ntmps36
 go_upto_region 1 with (first | ((with_reducible refine gate_dst (N := 3) rfl ?_); refine box_event ?hg (N := 3) ?hd (cs := #[.int .i64 a0_0, .slice A0_1 l0_1.length c0_1]) (t := 26) ?hr ?_; (case hd => rfl); (case hg => rfl); (case hr => first | (go_simp; done) | (go_simp; rfl)); intro gb513 hg w5 hbox hb; have n0_ := Aside0.mk (below_step (by repeat (first | (with_reducible first | exact HB.out | apply below_alloc | apply pw_below_drewN | apply below_drew1) | exact HB.out)) hb); have n1_ := Aside0.mk ((by rw [hg]; exact (below_size (by repeat (first | (with_reducible first | exact HB.out | apply below_alloc | apply pw_below_drewN | apply below_drew1) | exact HB.out))) : w.heap.size ≤ gb513)); have n2_ := Aside0.mk ((by rw [hg]; exact (below_size (by repeat (first | (with_reducible first | exact HB.out | apply below_alloc | apply pw_below_drewN | apply below_drew1) | exact HB.out))) : w.heap.size ≤ gb513)); have n3_ := Aside0.mk ((⟨A0_1, c0_1, hbox, (by rw [hg]; exact (below_size (by repeat (first | (with_reducible first | exact HB.out | apply below_alloc | apply pw_below_drewN | apply below_drew1) | exact HB.out)))), HR0_1.out⟩ : IsS26 w w5 gb513 a0_0 l0_1)); clear HB; have HB := n0_; have GW513 := n1_; have GE513 := n2_; have HI513 := n3_; clear n0_ n1_ n2_ n3_; clear hb hbox hg))
 (try simp only [Act.put, List.setIfInBounds_toArray, List.set_cons_zero, List.set_cons_succ])
 go_cut [20] (fun v20 wc => ∃ (kq : Nat) (x20_3 : Bool) (x514000_3 : Int), v20 = .bool x20_3 ∧ Aside0 (spec_RiseBetween.j0 kq a1 a2 x20_3 x514000_3 l0_1 = some (r1, r2, r3)) ∧ Aside0 (kq ≤ k) ∧ Aside0 (IsS26 w wc gb513 x514000_3 l0_1) ∧ Aside0 (Below w.heap.size w wc))
 case first =>
  have H := HC4.out
  clear HC4
  replace H := Option.bind_eq_some_iff.mp H
  obtain ⟨⟨t514, t515⟩, A60, H⟩ := H
  replace H : (if t514 = true then ((spec_l10Point.f t515 l0_1 a2).bind fun bt516 => (spec_RiseBetween.j0 k a1 a2 (!bt516.1) bt516.2 l0_1)) else (spec_RiseBetween.j0 k a1 a2 true t515 l0_1)) = some (r1, r2, r3) := H
  have A6 := Aside0.mk A60
  clear A60
  by_cases c7 : t514 = true
  ·subst c7
   have H1 : ((spec_l10Point.f t515 l0_1 a2).bind fun bt516 => (spec_RiseBetween.j0 k a1 a2 (!bt516.1) bt516.2 l0_1)) = some (r1, r2, r3) := by rw [if_pos rfl] at H; exact H
   clear H
   have H := H1
   clear H1
   replace H := Option.bind_eq_some_iff.mp H
   obtain ⟨⟨t516, t517⟩, A80, H⟩ := H
   replace H : (spec_RiseBetween.j0 k a1 a2 (!t516) t517 l0_1) = some (r1, r2, r3) := H
   have A8 := Aside0.mk A80
   clear A80
   have H' := Aside0.mk H
   clear H
   go_wp2_with (first | ((with_reducible refine gate_callee (f := 70) rfl ?_); refine goesL_ (some 14) rfl rfl Try.func70 (by kernel_rfl) rfl #[.pointer (some ⟨gb513, 0, none⟩), .int .i64 a1] rfl (by (try simp only [List.map_toArray, List.map_cons, List.map_nil]); first | done | rfl | (simp only [List.length_drop, List.length_take]; rfl)) ?_; (with_reducible refine (spec_l10Point.calls gb513 a0_0 l0_1 a1 true t515 w _ ?side1 ?side2 A6.out).mono ?_); (case side1 => repeat (first | (with_reducible first | exact HI513.out | apply IsS26.alloc | apply IsS26.drewN | apply IsS26.drew | apply IsS26.set_0) | exact HI513.out)); (case side2 => repeat (first | (with_reducible first | exact HB.out | apply below_alloc | apply pw_below_drewN | apply below_drew1 | refine below_set ?_ (IsS26.ge HI513.out)) | exact HB.out)); rintro e w9 ⟨rfl, hi, hb, hk⟩; refine ⟨_, rfl, ?_⟩; have n0_ := Aside0.mk (hb); have n1_ := Aside0.mk (hi); clear HB; clear HI513; have HB := n0_; have HI513 := n1_; clear n0_ n1_; (try clear hb); (try clear hb2); (try clear hk); (try clear hi)) | (go_at_call 70; (with_reducible refine (spec_l10Point.calls gb513 t515 l0_1 a2 t516 t517 w _ ?side1 ?side2 A8.out).mono ?_); (case side1 => repeat (first | (with_reducible first | exact HI513.out | apply IsS26.alloc | apply IsS26.drewN | apply IsS26.drew | apply IsS26.set_0) | exact HI513.out)); (case side2 => repeat (first | (with_reducible first | exact HB.out | apply below_alloc | apply pw_below_drewN | apply below_drew1 | refine below_set ?_ (IsS26.ge HI513.out)) | exact HB.out)); rintro e w10 ⟨rfl, hi, hb, hk⟩; have n0_ := Aside0.mk (hb); have n1_ := Aside0.mk (hi); clear HB; clear HI513; have HB := n0_; have HI513 := n1_; clear n0_ n1_; (try clear hb); (try clear hb2); (try clear hk); (try clear hi)))
   go_meet
   case rel => exact ⟨_, (!t516), (t517), (by first | rfl | (simp; done) | (simp [*]; done)), H', ⟨by first | omega | exact Nat.le_refl _⟩, ⟨by repeat (first | (with_reducible first | exact HI513.out | apply IsS26.alloc | apply IsS26.drewN | apply IsS26.drew | apply IsS26.set_0) | exact HI513.out)⟩, ⟨by repeat (first | (with_reducible first | exact HB.out | apply below_alloc | apply pw_below_drewN | apply below_drew1 | refine below_set ?_ (IsS26.ge HI513.out)) | exact HB.out)⟩⟩
  ·replace c7 := Bool.eq_false_iff.mpr c7
   subst c7
   have H1 : (spec_RiseBetween.j0 k a1 a2 true t515 l0_1) = some (r1, r2, r3) := by rw [if_neg (show ¬ (false = true) by decide)] at H; exact H
   clear H
   have H := H1
   clear H1
   have H' := Aside0.mk H
   clear H
   go_wp2_with (first | ((with_reducible refine gate_callee (f := 70) rfl ?_); refine goesL_ (some 14) rfl rfl Try.func70 (by kernel_rfl) rfl #[.pointer (some ⟨gb513, 0, none⟩), .int .i64 a1] rfl (by (try simp only [List.map_toArray, List.map_cons, List.map_nil]); first | done | rfl | (simp only [List.length_drop, List.length_take]; rfl)) ?_; (with_reducible refine (spec_l10Point.calls gb513 a0_0 l0_1 a1 false t515 w _ ?side1 ?side2 A6.out).mono ?_); (case side1 => repeat (first | (with_reducible first | exact HI513.out | apply IsS26.alloc | apply IsS26.drewN | apply IsS26.drew | apply IsS26.set_0) | exact HI513.out)); (case side2 => repeat (first | (with_reducible first | exact HB.out | apply below_alloc | apply pw_below_drewN | apply below_drew1 | refine below_set ?_ (IsS26.ge HI513.out)) | exact HB.out)); rintro e w11 ⟨rfl, hi, hb, hk⟩; refine ⟨_, rfl, ?_⟩; have n0_ := Aside0.mk (hb); have n1_ := Aside0.mk (hi); clear HB; clear HI513; have HB := n0_; have HI513 := n1_; clear n0_ n1_; (try clear hb); (try clear hb2); (try clear hk); (try clear hi)))
   go_meet
   case rel => exact ⟨_, (true), (t515), (by first | rfl | (simp; done) | (simp [*]; done)), H', ⟨by first | omega | exact Nat.le_refl _⟩, ⟨by repeat (first | (with_reducible first | exact HI513.out | apply IsS26.alloc | apply IsS26.drewN | apply IsS26.drew | apply IsS26.set_0) | exact HI513.out)⟩, ⟨by repeat (first | (with_reducible first | exact HB.out | apply below_alloc | apply pw_below_drewN | apply below_drew1 | refine below_set ?_ (IsS26.ge HI513.out)) | exact HB.out)⟩⟩
 case rest =>
  clear HC4
  try clear p2
  try clear c3
  try clear c7
  obtain ⟨kq, x20_3, x514000_3, rfl, HA, HJ3, HI513, HB⟩ := hcut
  cases kq with
  | zero => exact absurd HA.out (by simp [spec_RiseBetween.j0])
  | succ kj3 =>
   have H := HA.out
   clear HA
   simp only [spec_RiseBetween.j0] at H
   by_cases c12 : x20_3 = true
   ·subst c12
    have H1 : (some (0, 0, false)) = some (r1, r2, r3) := by rw [if_pos rfl] at H; exact H
    clear H
    have H := H1
    clear H1
    simp only [Option.some.injEq, Prod.mk.injEq] at H
    obtain ⟨rfl, rfl, rfl⟩ := H
    go_wp2
    go_ret3
    exact ⟨by first | rfl | (simp [errW_none, errW_some] <;> rfl) | (simp [*, errW_none, errW_some] <;> rfl), by repeat (first | (with_reducible first | exact HB.out | apply below_alloc | apply pw_below_drewN | apply below_drew1 | refine below_set ?_ (IsS26.ge HI513.out)) | exact HB.out)⟩
   ·replace c12 := Bool.eq_false_iff.mpr c12
    subst c12
    have H1 : ((spec_l10Adjusted.f x514000_3 l0_1).bind fun bt518 => (if 0 ≤ a2 then (if a2 < (bt518.1.length : Int) then (if 0 ≤ a1 then (if a1 < (bt518.1.length : Int) then ((spec_l10Lowest.f kj3 (([wrap64 ((rd bt518.1 a2) - (rd bt518.1 a1))] : List Int)) bt518.2.1).bind fun bt528 => (if 0 < (bt528.2.length : Int) then (some (rd bt528.2 0, bt528.1, true)) else (none))) else (none)) else (none)) else (none)) else (none))) = some (r1, r2, r3) := by rw [if_neg (show ¬ (false = true) by decide)] at H; exact H
    clear H
    have H := H1
    clear H1
    replace H := Option.bind_eq_some_iff.mp H
    obtain ⟨⟨t518, t521, t522⟩, A130, H⟩ := H
    replace H : (if 0 ≤ a2 then (if a2 < (t518.length : Int) then (if 0 ≤ a1 then (if a1 < (t518.length : Int) then ((spec_l10Lowest.f kj3 (([wrap64 ((rd t518 a2) - (rd t518 a1))] : List Int)) t521).bind fun bt528 => (if 0 < (bt528.2.length : Int) then (some (rd bt528.2 0, bt528.1, true)) else (none))) else (none)) else (none)) else (none)) else (none)) = some (r1, r2, r3) := H
    have A13 := Aside0.mk A130
    clear A130
    by_cases c14 : 0 ≤ a2
    ·rw [if_pos c14] at H
     have c14b0 : decide (0 ≤ a2) = true := decide_eq_true c14
     clear c14
     by_cases c15 : a2 < (t518.length : Int)
     ·rw [if_pos c15] at H
      have c15b0 : decide (a2 < (t518.length : Int)) = true := decide_eq_true c15
      clear c15
      by_cases c16 : 0 ≤ a1
      ·rw [if_pos c16] at H
       have c16b0 : decide (0 ≤ a1) = true := decide_eq_true c16
       clear c16
       by_cases c17 : a1 < (t518.length : Int)
       ·rw [if_pos c17] at H
        have c17b0 : decide (a1 < (t518.length : Int)) = true := decide_eq_true c17
        clear c17
        obtain ⟨y525, hy525⟩ : ∃ y_ : List Int, y_ = (([wrap64 ((rd t518 a2) - (rd t518 a1))] : List Int)) := ⟨_, rfl⟩
        replace H : ((spec_l10Lowest.f kj3 y525 t521).bind fun bt528 => (if 0 < (bt528.2.length : Int) then (some (rd bt528.2 0, bt528.1, true)) else (none))) = some (r1, r2, r3) := by first | (rw [hy525]; with_reducible exact H) | (have H2_ := (Option.bind_some _ _).symm.trans H; rw [hy525]; with_reducible exact H2_) | (have H2_ := (Option.bind_some _ _).symm.trans H; with_reducible exact H2_) | with_reducible exact H | (rw [hy525]; exact H) | exact H
        have Ny525 := Aside0.mk hy525
        clear hy525
        replace H := Option.bind_eq_some_iff.mp H
        obtain ⟨⟨t528, t529⟩, A180, H⟩ := H
        replace H : (if 0 < (t529.length : Int) then (some (rd t529 0, t528, true)) else (none)) = some (r1, r2, r3) := H
        have A18 := Aside0.mk A180
        clear A180
        by_cases c19 : 0 < (t529.length : Int)
        ·rw [if_pos c19] at H
         have c19b0 : decide (0 < (t529.length : Int)) = true := decide_eq_true c19
         have c19b1 : decide (0 < t529.length) = true := decide_eq_true (by omega)
         clear c19
         simp only [Option.some.injEq, Prod.mk.injEq] at H
         obtain ⟨rfl, rfl, rfl⟩ := H
         try go_wp2_with (first | ((with_reducible refine gate_callee (f := 77) rfl ?_); refine goesL_ (some 22) rfl rfl Try.func77 (by kernel_rfl) rfl #[.pointer (some ⟨gb513, 0, none⟩)] rfl (by (try simp only [List.map_toArray, List.map_cons, List.map_nil]); first | done | rfl | (simp only [List.length_drop, List.length_take]; rfl)) ?_; (with_reducible refine (spec_l10Adjusted.calls gb513 x514000_3 l0_1 t518 t521 t522 w _ ?side1 ?side2 A13.out).mono ?_); (case side1 => repeat (first | (with_reducible first | exact HI513.out | apply IsS26.alloc | apply IsS26.drewN | apply IsS26.drew | apply IsS26.set_0) | exact HI513.out)); (case side2 => repeat (first | (with_reducible first | exact HB.out | apply below_alloc | apply pw_below_drewN | apply below_drew1 | refine below_set ?_ (IsS26.ge HI513.out)) | exact HB.out)); rintro e w20 ⟨v519, rfl, ho0, hi, hb, hk⟩; refine ⟨_, rfl, ?_⟩; have n0_ := Aside0.mk (Kd.R_lower ho0 (below_size (by repeat (first | (with_reducible first | exact HB.out | apply below_alloc | apply pw_below_drewN | apply below_drew1 | refine below_set ?_ (IsS26.ge HI513.out)) | exact HB.out)))); have n1_ := Aside0.mk (hb); have n2_ := Aside0.mk (hi); clear HB; clear HI513; have HO520 := n0_; have HB := n1_; have HI513 := n2_; clear n0_ n1_ n2_; (try clear hb); (try clear hb2); (try clear hk); (try clear hi); (try clear ho0)))
         have n0_ := Aside0.mk (Kd.R_drew HO520.out)
         have n1_ := Aside0.mk (IsS26.drew HI513.out)
         have n2_ := Aside0.mk (below_drew1 HB.out)
         clear HO520
         clear HI513
         clear HB
         have HO520 := n0_
         have HI513 := n1_
         have HB := n2_
         clear n0_ n1_ n2_
         obtain ⟨Ao22, co22, eo22⟩ := Kd.R_slice HO520.out
         (first | subst eo22 | (injection eo22 with f1_ f2_ f3_; have f4_ := f1_.symm; have f5_ := f3_.symm; clear f1_ f2_ f3_; subst f4_; subst f5_))
         have p523 : 0 ≤ (a2 : Int) := of_decide_eq_true (by first | (with_reducible assumption) | assumption)
         have q523 : a2 < (t518.length : Int) := of_decide_eq_true (by first | (with_reducible assumption) | assumption)
         obtain ⟨ad523, e523, hx523_0⟩ := Kd.at_int (Kd.R_reads' HO520.out).2.2 a2 p523 q523
         cases e523
         replace p523 := eq_true p523
         replace q523 := eq_true q523
         have p524 : 0 ≤ (a1 : Int) := of_decide_eq_true (by first | (with_reducible assumption) | assumption)
         have q524 : a1 < (t518.length : Int) := of_decide_eq_true (by first | (with_reducible assumption) | assumption)
         obtain ⟨ad524, e524, hx524_0⟩ := Kd.at_int (Kd.R_reads' HO520.out).2.2 a1 p524 q524
         obtain rfl : ad523 = ad524 := (by injection e524)
         replace p524 := eq_true p524
         replace q524 := eq_true q524
         refine start_ (n := 17) (S := fun w' => w'.cell? (ad523.add (a2).toNat) = some (.int .i64 (rd t518 a2)) ∧ w'.cell? (ad523.add (a1).toNat) = some (.int .i64 (rd t518 a1))) (ds := []) #[false, false, false, false, false, false, false, false, false, false, false, false, false, false, false, false, false] (by kernel_rfl) rfl rfl ⟨hx523_0, hx524_0⟩ (fun hHeld => ?_); refine with_tabW spec_RiseBetween.tab4 spec_RiseBetween.bits4 (fun HT_ HW_ => ?_)
         generalize w20.drew = w21 at HO520 HI513 HB hx523_0 hx524_0 hHeld ⊢
         refine pure_ (i := 0) (N := some 26) (v := ?_) (a' := ?_) #[true, false, false, false, false, false, false, false, false, false, false, false, false, false, false, false, false] rfl rfl (any_of HT_.out (by kernel_rfl)) (fun _ _ _ h => h) (Or.inl ⟨by rfl, ?_⟩) ?_ ?_
         rotate_left
         ·intro w'
          go_simp
          with_reducible rfl
         rotate_left
         ·simp only [Act.put, List.setIfInBounds_toArray, List.set_cons_zero, List.set_cons_succ, i64_w, i32_w]
          rfl
         refine pure_ (i := 1) (N := some 27) (v := ?_) (a' := ?_) #[true, true, false, false, false, false, false, false, false, false, false, false, false, false, false, false, false] rfl rfl (any_of HT_.out (by kernel_rfl)) (fun _ _ _ h => h) (Or.inl ⟨by rfl, ?_⟩) ?_ ?_
         rotate_left
         ·intro w'
          go_simp
          with_reducible rfl
         rotate_left
         ·simp only [Act.put, List.setIfInBounds_toArray, List.set_cons_zero, List.set_cons_succ, i64_w, i32_w]
          rfl
         refine pure_ (i := 2) (N := some 28) (v := ?_) (a' := ?_) #[true, true, true, false, false, false, false, false, false, false, false, false, false, false, false, false, false] rfl rfl (any_of HT_.out (by kernel_rfl)) (fun _ _ _ h => h) (Or.inl ⟨by rfl, ?_⟩) ?_ ?_
         rotate_left
         ·intro w'
          go_simp
          with_reducible rfl
         rotate_left
         ·simp only [Act.put, List.setIfInBounds_toArray, List.set_cons_zero, List.set_cons_succ, i64_w, i32_w]
          rfl
         refine pure_ (i := 4) (N := some 30) (v := ?_) (a' := ?_) #[true, true, true, false, true, false, false, false, false, false, false, false, false, false, false, false, false] rfl rfl (any_of HT_.out (by kernel_rfl)) (fun _ _ _ h => h) (Or.inl ⟨by rfl, ?_⟩) ?_ ?_
         rotate_left
         ·intro w'
          go_simp
          with_reducible rfl
         rotate_left
         ·simp only [Act.put, List.setIfInBounds_toArray, List.set_cons_zero, List.set_cons_succ, i64_w, i32_w]
          rfl
         refine pure_ (i := 5) (N := some 31) (v := ?_) (a' := ?_) #[true, true, true, false, true, true, false, false, false, false, false, false, false, false, false, false, false] rfl rfl (any_of HT_.out (by kernel_rfl)) (fun _ _ _ h => h) (Or.inl ⟨by rfl, ?_⟩) ?_ ?_
         rotate_left
         ·intro w'
          go_simp
          with_reducible rfl
         rotate_left
         ·simp only [Act.put, List.setIfInBounds_toArray, List.set_cons_zero, List.set_cons_succ, i64_w, i32_w]
          rfl
         refine pure_ (i := 6) (N := some 32) (v := ?_) (a' := ?_) #[true, true, true, false, true, true, true, false, false, false, false, false, false, false, false, false, false] rfl rfl (any_of HT_.out (by kernel_rfl)) (fun _ _ _ h => h) (Or.inl ⟨by rfl, ?_⟩) ?_ ?_
         rotate_left
         ·intro w'
          go_simp
          with_reducible rfl
         rotate_left
         ·simp only [Act.put, List.setIfInBounds_toArray, List.set_cons_zero, List.set_cons_succ, i64_w, i32_w]
          rfl
         refine pure_ (i := 10) (N := some 36) (v := ?_) (a' := ?_) #[true, true, true, false, true, true, true, false, false, false, true, false, false, false, false, false, false] rfl rfl (any_of HT_.out (by kernel_rfl)) (fun _ _ _ h => h) (Or.inl ⟨by rfl, ?_⟩) ?_ ?_
         rotate_left
         ·intro w'
          go_simp
          with_reducible rfl
         rotate_left
         ·simp only [Act.put, List.setIfInBounds_toArray, List.set_cons_zero, List.set_cons_succ, i64_w, i32_w]
          rfl
         refine take_ (i := 3) (N := some 29) (v := ?_) (a' := ?_) #[true, true, true, true, true, true, true, false, false, false, true, false, false, false, false, false, false] rfl rfl (take_ofW HT_.out HW_.out (by kernel_rfl)) (fun _ _ _ h => h) (Or.inl ⟨by rfl, ?_⟩) hHeld ?_ ?_
         rotate_left
         ·rintro w' ⟨s0, s1⟩
          go_simp
          with_reducible rfl
         rotate_left
         ·simp only [Act.put, List.setIfInBounds_toArray, List.set_cons_zero, List.set_cons_succ, i64_w, i32_w]
          rfl
         refine take_ (i := 7) (N := some 33) (v := ?_) (a' := ?_) #[true, true, true, true, true, true, true, true, false, false, true, false, false, false, false, false, false] rfl rfl (take_ofW HT_.out HW_.out (by kernel_rfl)) (fun _ _ _ h => h) (Or.inl ⟨by rfl, ?_⟩) hHeld ?_ ?_
         rotate_left
         ·rintro w' ⟨s0, s1⟩
          go_simp
          with_reducible rfl
         rotate_left
         ·simp only [Act.put, List.setIfInBounds_toArray, List.set_cons_zero, List.set_cons_succ, i64_w, i32_w]
          rfl
         refine pure_ (i := 8) (N := some 34) (v := ?_) (a' := ?_) #[true, true, true, true, true, true, true, true, true, false, true, false, false, false, false, false, false] rfl rfl (any_of HT_.out (by kernel_rfl)) (fun _ _ _ h => h) (Or.inl ⟨by rfl, ?_⟩) ?_ ?_
         rotate_left
         ·intro w'
          go_simp
          with_reducible rfl
         rotate_left
         ·simp only [Act.put, List.setIfInBounds_toArray, List.set_cons_zero, List.set_cons_succ, i64_w, i32_w]
          rfl
         refine one_ (i := 9) (N := some 35) #[true, true, true, true, true, true, true, true, true, true, true, false, false, false, false, false, false] rfl rfl (one_of HT_.out (by kernel_rfl)) (by decide) (fun K hK => ?_)
         refine Kd.R_lit_step (Kd.int .i64) _ 2 ?hg (N := 35) ?hd (xs := ([wrap64 ((rd t518 a2) - (rd t518 a1))] : List Int)) (inner := [.int .i64 (wrap64 ((rd t518 a2) - (rd t518 a1)))]) (ok := fun _ => True) (okp := fun _ => True) ?hr ?hp (fun _ hk => hk) trivial (Below.refl _ _) (Nat.le_refl _) (by simp) ?_; (case hd => rfl); (case hg => rfl); (case hr => first | (go_simp; done) | (go_simp; rfl)); (case hp => exact (Reps.one (show Kd.M (Kd.int .i64) _ _ _ (wrap64 ((rd t518 a2) - (rd t518 a1))) [.int .i64 (wrap64 ((rd t518 a2) - (rd t518 a1)))] from rfl) (Reps.none _ _)))
         intro v526 w23 ho24 hb hg_ hnew_
         have HS0_ := (hb.cell (World.block_lt_of_cell? _ _ (hHeld.1))).trans (hHeld.1)
         have HS1_ := (hb.cell (World.block_lt_of_cell? _ _ (hHeld.2))).trans (hHeld.2)
         clear hg_ hnew_
         (first | rw [← Ny525.out] at ho24 | (simp only [Int.reduceToNat] at ho24; rw [← Ny525.out] at ho24))
         have n0_ := Aside0.mk (Kd.R_elder' (by (with_reducible repeat (first | apply Kd.R_alloc | apply Kd.R_drewN | apply Kd.R_drew)); exact HO520.out) (Kd.R_base ho24) hb)
         have n1_ := Aside0.mk (Kd.R_lower (Kd.R_new' ho24 (Kd.R_lt (by (with_reducible repeat (first | apply Kd.R_alloc | apply Kd.R_drewN | apply Kd.R_drew)); exact HO520.out))) (below_size (by repeat (first | (with_reducible first | exact HB.out | apply below_alloc | apply pw_below_drewN | apply below_drew1 | refine below_set ?_ (IsS26.ge HI513.out)) | exact HB.out))))
         have n2_ := Aside0.mk (IsS26.below (by repeat (first | (with_reducible first | exact HI513.out | apply IsS26.alloc | apply IsS26.drewN | apply IsS26.drew | apply IsS26.set_0) | exact HI513.out)) hb)
         have n3_ := Aside0.mk (below_step (by repeat (first | (with_reducible first | exact HB.out | apply below_alloc | apply pw_below_drewN | apply below_drew1 | refine below_set ?_ (IsS26.ge HI513.out)) | exact HB.out)) hb)
         clear HO520
         clear HI513
         clear HB
         have HO520 := n0_
         have HO527 := n1_
         have HI513 := n2_
         have HB := n3_
         clear n0_ n1_ n2_ n3_
         clear hb ho24
         obtain ⟨Ao25, co25, eo25⟩ := Kd.R_slice HO527.out
         (first | subst eo25 | (injection eo25 with f1_ f2_ f3_; have f4_ := f1_.symm; have f5_ := f3_.symm; clear f1_ f2_ f3_; subst f4_; subst f5_))
         refine hK.out _ _ ⟨HS0_, HS1_⟩ (fun hHeld => ?_)
         clear hK K
         refine norm_ (a' := ?_) ?_ ?_
         rotate_left
         ·show Act.put _ (some 35) _ = _
          simp only [Act.put, List.setIfInBounds_toArray, List.set_cons_zero, List.set_cons_succ, i64_w, i32_w]
          rfl
         refine one_ (i := 11) (N := some 37) #[true, true, true, true, true, true, true, true, true, true, true, true, false, false, false, false, false] rfl rfl (one_of HT_.out (by kernel_rfl)) (by decide) (fun K hK => ?_)
         refine goes_ Try.func72 (by kernel_rfl) rfl #[.slice Ao25 y525.length co25, .int .i64 t521] (by rfl) rfl rfl (by (try simp only [List.map_toArray, List.map_cons, List.map_nil]); first | done | rfl | (simp only [List.length_drop, List.length_take]; rfl)) ?_
         with_reducible refine (spec_l10Lowest.calls kj3 _ _ y525 t521 t528 t529 _ ?side1 ?side2 A18.out).mono ?_
         (case side1 => repeat (first | exact (Kd.R_reads' HO527.out).2.2 | (with_reducible refine Kd.C_alloc ?_ _) | (with_reducible refine Kd.C_drewN ?_ _) | (with_reducible refine Kd.C_drew ?_)))
         (case side2 => exact (Kd.R_reads' HO527.out).2.1)
         rintro e w26 ⟨v530, rfl, ho0, hb⟩
         have HS0_ := (hb.cell (World.block_lt_of_cell? _ _ (hHeld.1))).trans (hHeld.1)
         have HS1_ := (hb.cell (World.block_lt_of_cell? _ _ (hHeld.2))).trans (hHeld.2)
         refine ⟨_, rfl, ?_⟩
         have n0_ := Aside0.mk (Kd.R_elder' (by (with_reducible repeat (first | apply Kd.R_alloc | apply Kd.R_drewN | apply Kd.R_drew)); exact HO520.out) (Kd.R_base ho0) hb)
         have n1_ := Aside0.mk (Kd.R_elder' (by (with_reducible repeat (first | apply Kd.R_alloc | apply Kd.R_drewN | apply Kd.R_drew)); exact HO527.out) (Kd.R_base ho0) hb)
         have n2_ := Aside0.mk (Kd.R_lower (Kd.R_new' (Kd.R_new' ho0 (Kd.R_lt (by (with_reducible repeat (first | apply Kd.R_alloc | apply Kd.R_drewN | apply Kd.R_drew)); exact HO520.out))) (Kd.R_lt (by (with_reducible repeat (first | apply Kd.R_alloc | apply Kd.R_drewN | apply Kd.R_drew)); exact HO527.out))) (below_size (by repeat (first | (with_reducible first | exact HB.out | apply below_alloc | apply pw_below_drewN | apply below_drew1 | refine below_set ?_ (IsS26.ge HI513.out)) | exact HB.out))))
         have n3_ := Aside0.mk (IsS26.below (by repeat (first | (with_reducible first | exact HI513.out | apply IsS26.alloc | apply IsS26.drewN | apply IsS26.drew | apply IsS26.set_0) | exact HI513.out)) hb)
         have n4_ := Aside0.mk (below_step (by repeat (first | (with_reducible first | exact HB.out | apply below_alloc | apply pw_below_drewN | apply below_drew1 | refine below_set ?_ (IsS26.ge HI513.out)) | exact HB.out)) hb)
         clear HO520
         clear HO527
         clear HI513
         clear HB
         have HO520 := n0_
         have HO527 := n1_
         have HO531 := n2_
         have HI513 := n3_
         have HB := n4_
         clear n0_ n1_ n2_ n3_ n4_
         (try clear hb)
         (try clear hb2)
         (try clear hk)
         (try clear hi)
         (try clear ho0)
         refine hK.out _ _ ⟨HS0_, HS1_⟩ (fun hHeld => ?_)
         clear hK K
         refine norm_ (a' := ?_) ?_ ?_
         rotate_left
         ·show Act.put _ (some 37) _ = _
          simp only [Act.put, List.setIfInBounds_toArray, List.set_cons_zero, List.set_cons_succ, i64_w, i32_w]
          rfl
         refine pure_ (i := 12) (N := some 25) (v := ?_) (a' := ?_) #[true, true, true, true, true, true, true, true, true, true, true, true, true, false, false, false, false] rfl rfl (any_of HT_.out (by kernel_rfl)) (fun _ _ _ h => h) (Or.inl ⟨by rfl, ?_⟩) ?_ ?_
         rotate_left
         ·intro w'
          go_simp
          with_reducible rfl
         rotate_left
         ·simp only [Act.put, List.setIfInBounds_toArray, List.set_cons_zero, List.set_cons_succ, i64_w, i32_w]
          rfl
         refine pure_ (i := 13) (N := some 38) (v := ?_) (a' := ?_) #[true, true, true, true, true, true, true, true, true, true, true, true, true, true, false, false, false] rfl rfl (any_of HT_.out (by kernel_rfl)) (fun _ _ _ h => h) (Or.inl ⟨by rfl, ?_⟩) ?_ ?_
         rotate_left
         ·intro w'
          go_simp
          with_reducible rfl
         rotate_left
         ·simp only [Act.put, List.setIfInBounds_toArray, List.set_cons_zero, List.set_cons_succ, i64_w, i32_w]
          rfl
         refine pure_ (i := 14) (N := some 39) (v := ?_) (a' := ?_) #[true, true, true, true, true, true, true, true, true, true, true, true, true, true, true, false, false] rfl rfl (any_of HT_.out (by kernel_rfl)) (fun _ _ _ h => h) (Or.inl ⟨by rfl, ?_⟩) ?_ ?_
         rotate_left
         ·intro w'
          go_simp
          with_reducible rfl
         rotate_left
         ·simp only [Act.put, List.setIfInBounds_toArray, List.set_cons_zero, List.set_cons_succ, i64_w, i32_w]
          rfl
         refine pure_ (i := 15) (N := some 11) (v := ?_) (a' := ?_) #[true, true, true, true, true, true, true, true, true, true, true, true, true, true, true, true, false] rfl rfl (any_of HT_.out (by kernel_rfl)) (fun _ _ _ h => h) (Or.inl ⟨by rfl, ?_⟩) ?_ ?_
         rotate_left
         ·intro w'
          go_simp
          with_reducible rfl
         rotate_left
         ·simp only [Act.put, List.setIfInBounds_toArray, List.set_cons_zero, List.set_cons_succ, i64_w, i32_w]
          rfl
         refine pure_ (i := 16) (N := some 12) (v := ?_) (a' := ?_) #[true, true, true, true, true, true, true, true, true, true, true, true, true, true, true, true, true] rfl rfl (any_of HT_.out (by kernel_rfl)) (fun _ _ _ h => h) (Or.inl ⟨by rfl, ?_⟩) ?_ ?_
         rotate_left
         ·intro w'
          go_simp
          with_reducible rfl
         rotate_left
         ·simp only [Act.put, List.setIfInBounds_toArray, List.set_cons_zero, List.set_cons_succ, i64_w, i32_w]
          rfl
         refine done_ (done_of HT_.out (by kernel_rfl)) ?_
         obtain ⟨Ao27, co27, eo27⟩ := Kd.R_slice HO531.out
         subst eo27
         have p532 : 0 ≤ (0 : Int) := (by omega)
         have q532 : 0 < (t529.length : Int) := of_decide_eq_true (by first | (with_reducible assumption) | assumption)
         obtain ⟨ad532, e532, hx532_0⟩ := Kd.at_int (Kd.R_reads' HO531.out).2.2 0 p532 q532
         cases e532
         have qi532 : (0 < t529.length) = True := eq_true (by omega)
         (try rw [show ((0 : Int)).toNat = 0 from rfl] at hx532_0)
         (try rw [Addr.add_zero'] at hx532_0)
         replace p532 := eq_true p532
         replace q532 := eq_true q532
         try go_wp2
         go_ret3
         exact ⟨by first | rfl | (simp [errW_none, errW_some] <;> rfl) | (simp [*, errW_none, errW_some] <;> rfl), by repeat (first | (with_reducible first | exact HB.out | apply below_alloc | apply pw_below_drewN | apply below_drew1 | refine below_set ?_ (IsS26.ge HI513.out)) | exact HB.out)⟩
        ·rw [if_neg c19] at H
         exact absurd H (by simp)
       ·rw [if_neg c17] at H
        exact absurd H (by simp)
      ·rw [if_neg c16] at H
       exact absurd H (by simp)
     ·rw [if_neg c15] at H
      exact absurd H (by simp)
    ·rw [if_neg c14] at H
     exact absurd H (by simp)
end Go.Proofs.Ytkafbmanmffliaa.Q

/- The reference's l10Redundancies. -/
namespace Go.Proofs.Ytkafbmanmffliaa.Sp3
open Go Go.RowKit YtkafbmanmffliaaW.PrintWords YtkafbmanmffliaaW.PrintLast YtkafbmanmffliaaW.PrintMore Q Gd Gf Ge Gi Hb Ha Hc Gs Gn Kc Ke Kf Gv Gw Lo2 Ex Sp2
set_option linter.unusedVariables false
set_option linter.unusedSimpArgs false
end Go.Proofs.Ytkafbmanmffliaa.Sp3

namespace Go.Proofs.Ytkafbmanmffliaa.Q
open Go.RowKit YtkafbmanmffliaaW.PrintWords YtkafbmanmffliaaW.PrintLast YtkafbmanmffliaaW.PrintMore
attribute [local go_sem] max2_int min2_int max_two min_two max_three min_three max_four min_four
set_option linter.unusedVariables false
set_option linter.unusedSimpArgs false
def spec_l10Redundancies.f (s0_0 : Int) (s0_1 : List (S32)) : Option (Int × List Int × Int) := if Gm.connB s0_0 s0_1 = true then some (Ex.redD s0_0 s0_1, Ex.redL s0_0 s0_1, s0_0) else none
end Go.Proofs.Ytkafbmanmffliaa.Q

namespace Go.Proofs.Ytkafbmanmffliaa.Q
open Go.RowKit YtkafbmanmffliaaW.PrintWords YtkafbmanmffliaaW.PrintLast YtkafbmanmffliaaW.PrintMore
attribute [local go_sem] max2_int min2_int max_two min_two max_three min_three max_four min_four
set_option linter.unusedVariables false
set_option linter.unusedSimpArgs false
def spec_RedundanciesOf.f (a0_0 : Int) (l0_1 : List (S32)) : Option (Int × List Int × Bool) := (spec_l10Whole.f a0_0 l0_1).bind fun bt415 => (if bt415.1 = true then ((spec_l10Redundancies.f bt415.2 l0_1).bind fun bt417 => (some (bt417.1, bt417.2.1, true))) else (some (0, ([] : List Int), false)))
end Go.Proofs.Ytkafbmanmffliaa.Q

/- The program's CofactorOf and RiseBetween: what they return. -/
namespace Go.Proofs.Ytkafbmanmffliaa.Ex2
open Go Go.RowKit YtkafbmanmffliaaW.PrintWords YtkafbmanmffliaaW.PrintLast YtkafbmanmffliaaW.PrintMore Q Bg Dd Bi Rt Ru Rx Ra Gd Gf Ge Hb Ha Hc Gs Gn Kc Ke Kf Gt Gu Gx Gy Gv Lo Lo2 Ex
set_option linter.unusedVariables false
set_option linter.unusedSimpArgs false
def okN (ok : Bool) (q : Rat) : Int := if ok = true then q.num else 0
def okD (ok : Bool) (q : Rat) : Int := if ok = true then (q.den : Int) else 0
def Post2 (w : World) (q : Rat) (ok : Bool) (e : Ending) (w' : World) : Prop := e = .returned (.tuple #[.int .i64 (okN ok q), .int .i64 (okD ok q), .bool ok]) ∧ Below w.heap.size w w'
theorem pts_le {n : Nat} {l : List S32} {a b : Int} (h : ptsB ((n : Int) + 1) l a b = true) : 0 ≤ a ∧ a ≤ n ∧ 0 ≤ b ∧ b ≤ n := by
 unfold ptsB inB at h
 simp only [Bool.and_eq_true, decide_eq_true_eq] at h
 omega
def rise (n : Nat) (l : List S32) (a b : Int) : Rat := hts n l b - hts n l a
set_option maxHeartbeats 4000000 in
set_option maxRecDepth 100000 in
theorem riseBetween_any (p : Int) (l : List S32) (a b : Int) (A : Option Addr) (c : Nat) (w : World) (hr : Kd.C k32 w A l.length l) (hcl : l.length ≤ c) (hl : l.length ≤ 1048576) :
  Calls Try.prog 23 #[.agg #[.int .i64 p, .slice A l.length c], .int .i64 a, .int .i64 b] w (Post2 w (rise (wp p) l a b) (ptsB p l a b)) := by
 unfold Post2
 have hu26 := Try.underlying26
 have hu69 := Try.underlying69
 have hbx := below_alloc (Below.refl w.heap.size w) (SX p A l.length c)
 have HR := Aside0.mk (Kd.C_below hr hbx)
 have HX := Aside0.mk (heap_alloc_new w (SX p A l.length c))
 have hc0 := pts_any p l a b A c (w.alloc (SX p A l.length c)) HR.out hcl hl
 have HCL := Aside0.mk hcl
 have HB := Aside0.mk hbx
 clear hr hcl hl hbx
 by_cases h : ptsB p l a b = true
 ·have hcn : Gm.connB p l = true := by unfold ptsB at h; simp only [Bool.and_eq_true] at h; exact h.1
  obtain ⟨n, rfl⟩ := conn_nat hcn
  obtain ⟨ha0, ha, hb0, hb⟩ := pts_le h
  obtain ⟨a, rfl⟩ : ∃ q : Nat, a = q := ⟨a.toNat, by omega⟩
  obtain ⟨b, rfl⟩ : ∃ q : Nat, b = q := ⟨b.toNat, by omega⟩
  have HC := Aside0.mk hcn
  have HN := Aside0.mk (show okN (ptsB ((n : Int) + 1) l a b) (rise (wp ((n : Int) + 1)) l a b) = (rise n l a b).num by unfold okN; rw [if_pos h, wp_eq])
  have HD := Aside0.mk (show okD (ptsB ((n : Int) + 1) l a b) (rise (wp ((n : Int) + 1)) l a b) = ((rise n l a b).den : Int) by unfold okD; rw [if_pos h, wp_eq])
  rw [h] at hc0 HN HD
  rw [h]
  clear h hcn
  go_enter Try.func23, Try.ntmps23
  go_wp2_with (fail)
  refine hc0.mono ?_
  rintro e w1 ⟨rfl, hb1⟩
  have HB1 := Aside0.mk (below_step HB.out hb1)
  have hbk := blk_below HX.out hb1
  have c0 : w1.cell? ⟨w.heap.size, 0, none⟩ = some (.int .i64 ((n : Int) + 1)) := (blk_cell hbk 0).trans rfl
  have c1 : w1.cell? ⟨w.heap.size, 1, none⟩ = some (.slice A l.length c) := (blk_cell hbk 1).trans rfl
  have hc1 := adjusted_any n l HC.out A c w1 (Kd.C_below HR.out hb1) HCL.out
  have HSB := Aside0.mk (sm_xs (conn_n HC.out).2.1 (ok_rgt HC.out) (b : Int) (by omega) (by omega))
  have HSA := Aside0.mk (sm_xs (conn_n HC.out).2.1 (ok_rgt HC.out) (a : Int) (by omega) (by omega))
  clear hb1 hc0 hbk
  go_wp2_with (fail)
  refine hc1.mono ?_
  rintro e wx ⟨bX, capX, usX, rfl, hX⟩
  have HBX := Aside0.mk (below_step HB1.out hX.2.2.2)
  obtain ⟨pb, e0, e1, hpb⟩ := row_at hX.2.1 hX.2.2.1 (show b < n + 1 by omega)
  obtain ⟨pa, e2, e3, hpa⟩ := row_at hX.2.1 hX.2.2.1 (show a < n + 1 by omega)
  have HPB := Aside0.mk hpb
  have HPA := Aside0.mk hpa
  have i1 : (0 ≤ (a : Int)) = True := eq_true (by omega)
  have i2 : ((a : Int) < (n : Int) + 1) = True := eq_true (by omega)
  have i3 : (0 ≤ (b : Int)) = True := eq_true (by omega)
  have i4 : ((b : Int) < (n : Int) + 1) = True := eq_true (by omega)
  clear hc1 hX hpb hpa e1 e3 c0 c1
  go_wp2_with (fail)
  refine start_ (n := 15) (S := fun w' => w'.cell? ⟨bX, b, none⟩ = some (.pointer (some ⟨pb, 0, none⟩)) ∧ w'.cell? ⟨bX, a, none⟩ = some (.pointer (some ⟨pa, 0, none⟩))) (ds := []) #[false, false, false, false, false, false, false, false, false, false, false, false, false, false, false] (by kernel_rfl) rfl rfl ⟨e0, e2⟩ (fun hHeld => ?_)
  refine pure_ (i := 0) (N := some 20) (v := ?_) (a' := ?_) #[true, false, false, false, false, false, false, false, false, false, false, false, false, false, false] rfl rfl (by kernel_rfl) (fun _ _ _ h => h) (Or.inl ⟨by rfl, ?_⟩) ?_ ?_
  rotate_left
  ·intro w'
   go_simp
   with_reducible rfl
  rotate_left
  ·simp only [Act.put, List.setIfInBounds_toArray, List.set_cons_zero, List.set_cons_succ, i64_w, i32_w]
   rfl
  refine pure_ (i := 1) (N := some 21) (v := ?_) (a' := ?_) #[true, true, false, false, false, false, false, false, false, false, false, false, false, false, false] rfl rfl (by kernel_rfl) (fun _ _ _ h => h) (Or.inl ⟨by rfl, ?_⟩) ?_ ?_
  rotate_left
  ·intro w'
   go_simp
   with_reducible rfl
  rotate_left
  ·simp only [Act.put, List.setIfInBounds_toArray, List.set_cons_zero, List.set_cons_succ, i64_w, i32_w]
   rfl
  refine pure_ (i := 2) (N := some 22) (v := ?_) (a' := ?_) #[true, true, true, false, false, false, false, false, false, false, false, false, false, false, false] rfl rfl (by kernel_rfl) (fun _ _ _ h => h) (Or.inl ⟨by rfl, ?_⟩) ?_ ?_
  rotate_left
  ·intro w'
   go_simp
   with_reducible rfl
  rotate_left
  ·simp only [Act.put, List.setIfInBounds_toArray, List.set_cons_zero, List.set_cons_succ, i64_w, i32_w]
   rfl
  refine pure_ (i := 4) (N := some 24) (v := ?_) (a' := ?_) #[true, true, true, false, true, false, false, false, false, false, false, false, false, false, false] rfl rfl (by kernel_rfl) (fun _ _ _ h => h) (Or.inl ⟨by rfl, ?_⟩) ?_ ?_
  rotate_left
  ·intro w'
   go_simp
   with_reducible rfl
  rotate_left
  ·simp only [Act.put, List.setIfInBounds_toArray, List.set_cons_zero, List.set_cons_succ, i64_w, i32_w]
   rfl
  refine pure_ (i := 5) (N := some 25) (v := ?_) (a' := ?_) #[true, true, true, false, true, true, false, false, false, false, false, false, false, false, false] rfl rfl (by kernel_rfl) (fun _ _ _ h => h) (Or.inl ⟨by rfl, ?_⟩) ?_ ?_
  rotate_left
  ·intro w'
   go_simp
   with_reducible rfl
  rotate_left
  ·simp only [Act.put, List.setIfInBounds_toArray, List.set_cons_zero, List.set_cons_succ, i64_w, i32_w]
   rfl
  refine pure_ (i := 6) (N := some 26) (v := ?_) (a' := ?_) #[true, true, true, false, true, true, true, false, false, false, false, false, false, false, false] rfl rfl (by kernel_rfl) (fun _ _ _ h => h) (Or.inl ⟨by rfl, ?_⟩) ?_ ?_
  rotate_left
  ·intro w'
   go_simp
   with_reducible rfl
  rotate_left
  ·simp only [Act.put, List.setIfInBounds_toArray, List.set_cons_zero, List.set_cons_succ, i64_w, i32_w]
   rfl
  refine take_ (i := 3) (N := some 23) (v := ?_) (a' := ?_) #[true, true, true, true, true, true, true, false, false, false, false, false, false, false, false] rfl rfl (by kernel_rfl) (fun _ _ _ h => h) (Or.inl ⟨by rfl, ?_⟩) hHeld ?_ ?_
  rotate_left
  ·rintro w' ⟨s0, s1⟩
   go_simp
   with_reducible rfl
  rotate_left
  ·simp only [Act.put, List.setIfInBounds_toArray, List.set_cons_zero, List.set_cons_succ, i64_w, i32_w]
   rfl
  refine take_ (i := 7) (N := some 27) (v := ?_) (a' := ?_) #[true, true, true, true, true, true, true, true, false, false, false, false, false, false, false] rfl rfl (by kernel_rfl) (fun _ _ _ h => h) (Or.inl ⟨by rfl, ?_⟩) hHeld ?_ ?_
  rotate_left
  ·rintro w' ⟨s0, s1⟩
   go_simp
   with_reducible rfl
  rotate_left
  ·simp only [Act.put, List.setIfInBounds_toArray, List.set_cons_zero, List.set_cons_succ, i64_w, i32_w]
   rfl
  refine one_ (i := 8) (N := some 28) #[true, true, true, true, true, true, true, true, true, false, false, false, false, false, false] rfl rfl (by kernel_rfl) (by decide) (fun K_ hK => ?_)
  refine goes_ Try.func65 (by kernel_rfl) rfl #[.pointer (some ⟨pb, 0, none⟩), .pointer (some ⟨pa, 0, none⟩)] (by rfl) rfl rfl (by (try simp only [List.map_toArray, List.map_cons, List.map_nil]); first | done | rfl) ?_
  refine (ratMinus_any pb pa (hts n l (b : Int)) (hts n l (a : Int)) 31 wx.drew (RI.below HPB.out (below_drew (Below.refl wx.heap.size wx))) (RI.below HPA.out (below_drew (Below.refl wx.heap.size wx))) (by omega) HSB.out HSA.out).mono ?_
  rintro e w1 ⟨pz1, rfl, hpz, hri, hb1⟩
  have HB1 := Aside0.mk (below_step (below_drew (Below.refl wx.heap.size wx)) hb1)
  have HZ1 := Aside0.mk hri
  have HO1 := Aside0.mk hb1
  clear hpz hri hb1
  refine ⟨_, rfl, ?_⟩
  refine hK.out _ _ (⟨(HB1.out.cell (World.block_lt_of_cell? _ _ e0)).trans e0, (HB1.out.cell (World.block_lt_of_cell? _ _ e2)).trans e2⟩) (fun hHeld => ?_)
  clear hK K_
  refine norm_ (a' := ?_) ?_ ?_
  rotate_left
  ·show Act.put _ (some 28) _ = _
   simp only [Act.put, List.setIfInBounds_toArray, List.set_cons_zero, List.set_cons_succ, i64_w, i32_w]
   rfl
  refine one_ (i := 9) (N := some 29) #[true, true, true, true, true, true, true, true, true, true, false, false, false, false, false] rfl rfl (by kernel_rfl) (by decide) (fun K_ hK => ?_)
  refine goes_ Try.func63 (by kernel_rfl) rfl #[.pointer (some ⟨pz1, 0, none⟩)] (by rfl) rfl rfl (by (try simp only [List.map_toArray, List.map_cons, List.map_nil]); first | done | rfl) ?_
  refine (single_any pz1 (rise n l a b) w1 HZ1.out (Sm.sub HSB.out HSA.out).1 (Sm.sub HSB.out HSA.out).2).mono ?_
  rintro e w2 ⟨rfl, hb1⟩
  have HB2 := Aside0.mk (below_step HB1.out hb1)
  skip
  have HO2 := Aside0.mk hb1
  clear hb1
  refine ⟨_, rfl, ?_⟩
  refine hK.out _ _ (⟨(HB2.out.cell (World.block_lt_of_cell? _ _ e0)).trans e0, (HB2.out.cell (World.block_lt_of_cell? _ _ e2)).trans e2⟩) (fun hHeld => ?_)
  clear hK K_
  refine norm_ (a' := ?_) ?_ ?_
  rotate_left
  ·show Act.put _ (some 29) _ = _
   simp only [Act.put, List.setIfInBounds_toArray, List.set_cons_zero, List.set_cons_succ, i64_w, i32_w]
   rfl
  refine pure_ (i := 10) (N := some 19) (v := ?_) (a' := ?_) #[true, true, true, true, true, true, true, true, true, true, true, false, false, false, false] rfl rfl (by kernel_rfl) (fun _ _ _ h => h) (Or.inl ⟨by rfl, ?_⟩) ?_ ?_
  rotate_left
  ·intro w'
   go_simp
   with_reducible rfl
  rotate_left
  ·simp only [Act.put, List.setIfInBounds_toArray, List.set_cons_zero, List.set_cons_succ, i64_w, i32_w]
   rfl
  refine pure_ (i := 11) (N := some 30) (v := ?_) (a' := ?_) #[true, true, true, true, true, true, true, true, true, true, true, true, false, false, false] rfl rfl (by kernel_rfl) (fun _ _ _ h => h) (Or.inl ⟨by rfl, ?_⟩) ?_ ?_
  rotate_left
  ·intro w'
   go_simp
   with_reducible rfl
  rotate_left
  ·simp only [Act.put, List.setIfInBounds_toArray, List.set_cons_zero, List.set_cons_succ, i64_w, i32_w]
   rfl
  refine pure_ (i := 12) (N := some 31) (v := ?_) (a' := ?_) #[true, true, true, true, true, true, true, true, true, true, true, true, true, false, false] rfl rfl (by kernel_rfl) (fun _ _ _ h => h) (Or.inl ⟨by rfl, ?_⟩) ?_ ?_
  rotate_left
  ·intro w'
   go_simp
   with_reducible rfl
  rotate_left
  ·simp only [Act.put, List.setIfInBounds_toArray, List.set_cons_zero, List.set_cons_succ, i64_w, i32_w]
   rfl
  refine pure_ (i := 13) (N := some 10) (v := ?_) (a' := ?_) #[true, true, true, true, true, true, true, true, true, true, true, true, true, true, false] rfl rfl (by kernel_rfl) (fun _ _ _ h => h) (Or.inl ⟨by rfl, ?_⟩) ?_ ?_
  rotate_left
  ·intro w'
   go_simp
   with_reducible rfl
  rotate_left
  ·simp only [Act.put, List.setIfInBounds_toArray, List.set_cons_zero, List.set_cons_succ, i64_w, i32_w]
   rfl
  refine pure_ (i := 14) (N := some 11) (v := ?_) (a' := ?_) #[true, true, true, true, true, true, true, true, true, true, true, true, true, true, true] rfl rfl (by kernel_rfl) (fun _ _ _ h => h) (Or.inl ⟨by rfl, ?_⟩) ?_ ?_
  rotate_left
  ·intro w'
   go_simp
   with_reducible rfl
  rotate_left
  ·simp only [Act.put, List.setIfInBounds_toArray, List.set_cons_zero, List.set_cons_succ, i64_w, i32_w]
   rfl
  refine done_ (by kernel_rfl) ?_
  go_wp2_with (fail)
  go_ret3
  rw [HN.out, HD.out]
  exact ⟨rfl, below_step HBX.out HB2.out⟩
 ·have h' : ptsB p l a b = false := by simpa using h
  have HN := Aside0.mk (show okN (ptsB p l a b) (rise (wp p) l a b) = 0 by unfold okN; rw [if_neg h])
  have HD := Aside0.mk (show okD (ptsB p l a b) (rise (wp p) l a b) = 0 by unfold okD; rw [if_neg h])
  rw [h'] at hc0 HN HD
  rw [h']
  clear h h'
  go_enter Try.func23, Try.ntmps23
  go_wp2_with (fail)
  refine hc0.mono ?_
  rintro e w1 ⟨rfl, hb1⟩
  have HB1 := Aside0.mk (below_step HB.out hb1)
  clear hb1 hc0
  go_wp2_with (fail)
  go_ret3
  rw [HN.out, HD.out]
  exact ⟨rfl, HB1.out⟩
end Go.Proofs.Ytkafbmanmffliaa.Ex2

namespace Go.Proofs.Ytkafbmanmffliaa.Q
open Go.RowKit YtkafbmanmffliaaW.PrintWords YtkafbmanmffliaaW.PrintLast YtkafbmanmffliaaW.PrintMore
attribute [local go_sem] max2_int min2_int max_two min_two max_three min_three max_four min_four
set_option linter.unusedVariables false
set_option linter.unusedSimpArgs false
def spec_l10Cofactor.f (s0_0 : Int) (s0_1 : List (S32)) (a1 : Int) (a2 : Int) : Option (Int × Int × Int) := if Ex.ptsB s0_0 s0_1 a1 a2 = true then some (Ex.cofN (Ex.wp s0_0) s0_1 a1 a2, Gn.den s0_1 (Ex.wp s0_0), s0_0) else none
end Go.Proofs.Ytkafbmanmffliaa.Q

namespace Go.Proofs.Ytkafbmanmffliaa.Q
open Go.RowKit YtkafbmanmffliaaW.PrintWords YtkafbmanmffliaaW.PrintLast YtkafbmanmffliaaW.PrintMore
attribute [local go_sem] max2_int min2_int max_two min_two max_three min_three max_four min_four
set_option linter.unusedVariables false
set_option linter.unusedSimpArgs false
def spec_CofactorOf.j0 : Nat → Int → Int → Bool → Int → List (S32) → Option (Int × Int × Bool)
 | 0, _, _, _, _, _ => none
 | k + 1, x1, x2, x20, x476000, x476001 => if x20 = true then (some (0, 0, false)) else ((spec_l10Cofactor.f x476000 x476001 x1 x2).bind fun bt480 => ((spec_l10Lowest.f k (([bt480.1] : List Int)) bt480.2.1).bind fun bt486 => (if 0 < (bt486.2.length : Int) then (some (rd bt486.2 0, bt486.1, true)) else (none))))
def spec_CofactorOf.f (k : Nat) (a0_0 : Int) (l0_1 : List (S32)) (a1 : Int) (a2 : Int) : Option (Int × Int × Bool) := (spec_l10Point.f a0_0 l0_1 a1).bind fun bt476 => (if bt476.1 = true then ((spec_l10Point.f bt476.2 l0_1 a2).bind fun bt478 => (spec_CofactorOf.j0 k a1 a2 (!bt478.1) bt478.2 l0_1)) else (spec_CofactorOf.j0 k a1 a2 true bt476.2 l0_1))
end Go.Proofs.Ytkafbmanmffliaa.Q

namespace Go.Proofs.Ytkafbmanmffliaa.Q
open Go.RowKit YtkafbmanmffliaaW.PrintWords YtkafbmanmffliaaW.PrintLast YtkafbmanmffliaaW.PrintMore
attribute [local go_sem] max2_int min2_int max_two min_two max_three min_three max_four min_four
set_option linter.unusedVariables false
set_option linter.unusedSimpArgs false
def spec_AdjustSurvey.f (k : Nat) (a0_0 : Int) (l0_1 : List (S32)) : Option (Int × List Int × Bool) := (spec_l10Whole.f a0_0 l0_1).bind fun bt269 => (if bt269.1 = true then ((spec_l10Adjusted.f bt269.2 l0_1).bind fun bt271 => ((spec_l10Lowest.f k bt271.1 bt271.2.1).bind fun bt276 => (some (bt276.1, bt276.2, true)))) else (some (0, ([] : List Int), false)))
end Go.Proofs.Ytkafbmanmffliaa.Q

namespace Go.Proofs.Ytkafbmanmffliaa.Q
open Go.RowKit YtkafbmanmffliaaW.PrintWords YtkafbmanmffliaaW.PrintLast YtkafbmanmffliaaW.PrintMore
attribute [local go_sem] max2_int min2_int max_two min_two max_three min_three max_four min_four
set_option linter.unusedVariables false
set_option linter.unusedSimpArgs false
def spec_l10Residuals.l0 : Nat → List Int → Int → List Int → Int → Int → List (S32) → Option (Int × List Int × Int)
 | 0, _, _, _, _, _, _ => none
 | k + 1, x4, x5, x6, x7, x1000, x1001 => if x7 < (x1001.length : Int) then (if 0 ≤ x7 then (if 0 ≤ ((rd_T32 x1001 x7).f1) then (if ((rd_T32 x1001 x7).f1) < (x4.length : Int) then (if 0 ≤ ((rd_T32 x1001 x7).f0) then (if ((rd_T32 x1001 x7).f0) < (x4.length : Int) then (if x6.length < 17592186044416 then (spec_l10Residuals.l0 k x4 x5 (x6 ++ [wrap64 ((wrap64 ((wrap64 (((rd_T32 x1001 x7).f2) * x5)) - (rd x4 ((rd_T32 x1001 x7).f1)))) + (rd x4 ((rd_T32 x1001 x7).f0)))]) (wrap64 (x7 + 1)) x1000 x1001) else (none)) else (none)) else (none)) else (none)) else (none)) else (none)) else ((spec_l10Lowest.f k x6 x5).bind fun bt350 => (some (bt350.1, bt350.2, x1000)))
def spec_l10Residuals.f (k : Nat) (s0_0 : Int) (s0_1 : List (S32)) : Option (Int × List Int × Int) := (spec_l10Adjusted.f s0_0 s0_1).bind fun bt335 => (spec_l10Residuals.l0 k bt335.1 bt335.2.1 (([] : List Int)) 0 bt335.2.2 s0_1)
def spec_l10Residuals.T7 : Bool × List (List Nat × List Nat) := (true, [([], []), ([], []), ([1], [1]), ([], []), ([2, 3], [2, 3]), ([], []), ([], []), ([6], [6]), ([5, 7], [5, 7]), ([8], [8]), ([4, 9], [4, 9]), ([], []), ([], []), ([12], [12]), ([11, 13], [11, 13]), ([14], [14]), ([10, 15], [10, 15]), ([16], [16]), ([0, 17], [0, 17]), ([18, 18, 0, 1, 2, 3, 4, 5, 6, 7, 8, 9, 10, 11, 12, 13, 14, 15, 16, 17, 18], [0, 18])])
def spec_l10Residuals.B7 : List Nat := [0, 0, 2, 0, 14, 0, 0, 64, 224, 480, 1022, 0, 0, 4096, 14336, 30720, 65534, 131070, 262143, 524287]
end Go.Proofs.Ytkafbmanmffliaa.Q

namespace Go.Proofs.Ytkafbmanmffliaa.Q
open Go.RowKit YtkafbmanmffliaaW.PrintWords YtkafbmanmffliaaW.PrintLast YtkafbmanmffliaaW.PrintMore
attribute [local go_sem] max2_int min2_int max_two min_two max_three min_three max_four min_four
set_option linter.unusedVariables false
set_option linter.unusedSimpArgs false
def spec_ResidualsOf.f (k : Nat) (a0_0 : Int) (l0_1 : List (S32)) : Option (Int × List Int × Bool) := (spec_l10Whole.f a0_0 l0_1).bind fun bt355 => (if bt355.1 = true then ((spec_l10Residuals.f k bt355.2 l0_1).bind fun bt357 => (some (bt357.1, bt357.2.1, true))) else (some (0, ([] : List Int), false)))
end Go.Proofs.Ytkafbmanmffliaa.Q

/- What the laws' helpers compute on lists of numbers: equality with itself, marks, and that marks are held. -/
namespace Go.Proofs.Ytkafbmanmffliaa.PuI
open Go.RowKit YtkafbmanmffliaaW.PrintWords Q PuS
def marked (n : Nat) : List Int := (List.range n).map fun j : Nat => (j : Int) + 1
end Go.Proofs.Ytkafbmanmffliaa.PuI

/- What the reference returns: AdjustSurvey, ResidualsOf, RedundanciesOf, CofactorOf, RiseBetween. -/
namespace Go.Proofs.Ytkafbmanmffliaa.PuEx
open Go Go.RowKit YtkafbmanmffliaaW.PrintWords YtkafbmanmffliaaW.PrintLast YtkafbmanmffliaaW.PrintMore Q Bg Dd Bi Rt Ru Rx Ra Gd Gf Ge Hb Ha Hc Gs Gn Kc Ke Kf Gt Gu Gx Gy Gv Lo Lo2 Ex Ex2 PuS PuI
set_option linter.unusedVariables false
set_option linter.unusedSimpArgs false
abbrev KB : Nat := 1099511628000
theorem whole_eq (p : Int) (l : List S32) : spec_l10Whole.f p l = some (Gm.connB p l, p) := PuT.specConn_eq p l
theorem lowest_n {n : Nat} {l : List S32} (hc : Gm.connB ((n : Int) + 1) l = true) (S : List Int) (hS : ∀ s, s ∈ S → s.natAbs < 1099511627776) (hl : S.length ≤ 8) (k : Nat) (hk : KB ≤ k) :
  spec_l10Lowest.f k S (den l n) = some (((dn n l / gcdAll (dn n l) S : Nat) : Int), lowL (dn n l) S) := by
 have h := dn_pos hc
 rw [← h.2.2]
 exact lowest_eq h.1 (by omega) hS (by omega) (by omega) k (by unfold KB at hk; omega)
theorem one_low {n : Nat} {l : List S32} (hc : Gm.connB ((n : Int) + 1) l = true) (z : Int) (hz : z.natAbs < 1099511627776) (k : Nat) (hk : KB ≤ k) :
  spec_l10Lowest.f k [z] (den l n) = some (((mkRat z (dn n l)).den : Int), [(mkRat z (dn n l)).num]) := by
 have h := dn_pos hc
 rw [lowest_n hc [z] (by simpa using hz) (by simp) k hk]
 rw [Rat.num_mkRat, Rat.den_mkRat, if_neg (by omega), if_neg (by omega)]
 unfold lowL
 simp only [gcdAll, List.foldl_cons, List.foldl_nil, List.map_cons, List.map_nil]
theorem point_eq (p : Int) (l : List S32) (a : Int) : spec_l10Point.f p l a = some (Gm.connB p l && inB 0 (p - 1) a, p) := by
 simp only [spec_l10Point.f, whole_eq, Option.bind_some]
 by_cases h : Gm.connB p l = true
 ·obtain ⟨n, rfl⟩ := conn_nat h
  have := conn_n h
  simp only [h, if_true, Bool.true_and, spec_l00In.f]
  rw [wrap_id (by omega) (by omega)]
  unfold inB
  by_cases ha : 0 ≤ a
  ·rw [if_pos ha]; simp [ha]
  ·rw [if_neg ha]; simp [ha]
 ·have h' : Gm.connB p l = false := by simpa using h
  simp [h']
theorem specRise (p : Int) (l : List S32) (a b : Int) (k : Nat) (hk : KB + 1 ≤ k) : spec_RiseBetween.f k p l a b = some (okN (ptsB p l a b) (rise (wp p) l a b), okD (ptsB p l a b) (rise (wp p) l a b), ptsB p l a b) := by
 obtain ⟨k, rfl⟩ : ∃ m, k = m + 1 := ⟨k - 1, by omega⟩
 simp only [spec_RiseBetween.f, point_eq, Option.bind_some]
 by_cases h : ptsB p l a b = true
 ·have h0 := h
  unfold ptsB at h0
  simp only [Bool.and_eq_true] at h0
  obtain ⟨n, rfl⟩ := conn_nat h0.1
  obtain ⟨ha0, ha, hb0, hb⟩ := pts_le h
  have hs1 := nu_size (ok_rgt h0.1) b hb
  have hs2 := nu_size (ok_rgt h0.1) a ha
  have c1 : (nuL l (rgt n l) n).length = n + 1 := nuL_len _ _ _
  simp only [h0.1, h0.2.1, h0.2.2, Bool.and_true, if_true, Bool.not_true, spec_RiseBetween.j0, Bool.false_eq_true, if_false, spec_l10Adjusted.f, h, Option.bind_some, wp_eq, c1]
  rw [if_pos hb0, if_pos (by omega), if_pos ha0, if_pos (by omega), rd_nuL _ _ _ _ hb0 hb, rd_nuL _ _ _ _ ha0 ha, wrap_id (by omega) (by omega), one_low h0.1 _ (by omega) k (by omega)]
  have e : rise n l a b = mkRat (nu l (rgt n l) n b - nu l (rgt n l) n a) (dn n l) := by
   obtain ⟨h1, h2⟩ := den_rat h0.1
   rw [mkq, h1]
   unfold rise hts xs
   push_cast
   grind
  rw [e]
  simp [okN, okD, rd]
 ·have h' : ptsB p l a b = false := by simpa using h
  rw [h']
  unfold ptsB at h'
  by_cases h1 : (Gm.connB p l && inB 0 (p - 1) a) = true
  ·rw [if_pos h1]
   simp only [Bool.and_eq_true] at h1
   have h2 : (Gm.connB p l && inB 0 (p - 1) b) = false := by simpa [h1.1, h1.2] using h'
   simp [h2, spec_RiseBetween.j0, okN, okD]
  ·rw [if_neg h1]
   simp [spec_RiseBetween.j0, okN, okD]
end Go.Proofs.Ytkafbmanmffliaa.PuEx

/- The law on the program's RiseBetween, walked where both sides hand back the same. -/
namespace Go.Proofs.Ytkafbmanmffliaa.LwRB
open Go Go.RowKit YtkafbmanmffliaaW.PrintWords YtkafbmanmffliaaW.PrintLast YtkafbmanmffliaaW.PrintMore Q Hc Ex PuS PuI PuEx
set_option linter.unusedVariables false
set_option linter.unusedSimpArgs false
def Hands (f : FuncId) (p : Int) (m : List S32) (a1 : Int) (a2 : Int) (d1 : Int) (d2 : Int) (b : Bool) : Prop :=
 ∀ (W : World) (A : Option Addr) (c : Nat), Kd.C k32 W A m.length m → m.length ≤ c → Calls Try.prog f #[.agg #[.int .i64 p, .slice A m.length c], .int .i64 a1, .int .i64 a2] W fun e w' => e = .returned (.tuple #[.int .i64 d1, .int .i64 d2, .bool b]) ∧ Below W.heap.size W w'
set_option maxHeartbeats 4000000 in
set_option maxRecDepth 100000 in
theorem walk (p : Int) (l : List S121) (A : Option Addr) (c : Nat) (m : List S32) (a1 : Int) (a2 : Int) (d1 : Int) (d2 : Int) (b : Bool) (hl : l.length ≤ 1048576) (hm : m = l.map conv)
  (h1 : Hands 36 p m a1 a2 d1 d2 b) (h2 : Hands 23 p m a1 a2 d1 d2 b) (w : World) (hr : Kd.C k121 w A l.length l) (hc : l.length ≤ c) :
  Calls Try.prog 8 #[.agg #[.int .i64 p, .slice A l.length c], .int .i64 a1, .int .i64 a2] w fun e w' => e = .returned (.bool true) ∧ Below w.heap.size w w' := by
 have hu42 := Try.underlying42
 have hu26 := Try.underlying26
 have hml : m.length ≤ 1048576 := by rw [hm]; simpa using hl
 obtain ⟨K, hK⟩ : ∃ K, l.length + m.length + 5 ≤ K := ⟨_, Nat.le_refl _⟩
 have HSZ := Aside0.mk (szSurvey_eq p l (by omega))
 rw [if_pos hl] at HSZ
 have HT := Aside0.mk (show laws_toSurvey.f K p l = some (p, m) by rw [hm]; exact toSurvey_eq p l hl K (by omega))
 have HEY := Aside0.mk (eqSurvey_eq p m hml K (by omega))
 obtain ⟨t, ht⟩ : ∃ t : Int, t = 1048576 - (l.length : Int) := ⟨_, rfl⟩
 rw [← ht] at HSZ
 have hbx := below_alloc (Below.refl w.heap.size w) (.cells #[.int .i64 p, .slice A l.length c] 42)
 have HR := Aside0.mk hr
 have HC := Aside0.mk hc
 have H1 := Aside0.mk h1
 have H2 := Aside0.mk h2
 have HBX := Aside0.mk hbx
 have hb0 : (b != b) = false := bne_self_eq_false b
 have hdd1 : (d1 != d1) = false := bne_self_eq_false d1
 have hdd2 : (d2 != d2) = false := bne_self_eq_false d2
 have c1 : decide (t < 0) = false := decide_eq_false (by omega)
 clear hr hc h1 h2 hbx hm hml hl ht hK
 go_enter Try.func8, Try.ntmps8
 go_wp2_with (fail)
 refine (laws_szSurvey.calls p A c l 1048576 t _ (Kd.C_below HR.out HBX.out) HC.out HSZ.out).mono ?_
 rintro e w1 ⟨rfl, hb⟩
 have HB := Aside0.mk (below_step HBX.out hb)
 have K1 := Aside0.mk (blk_below (blk_new w (.cells #[.int .i64 p, .slice A l.length c] 42)) hb)
 clear hb HBX
 have e0 : w1.cell? ⟨w.heap.size, 0, none⟩ = some (.int .i64 p) := (blk_cell K1.out 0).trans rfl
 have e1 : w1.cell? ⟨w.heap.size, 1, none⟩ = some (.slice A l.length c) := (blk_cell K1.out 1).trans rfl
 go_wp2_with (fail)
 refine (laws_toSurvey.calls K p A c l p m _ (Kd.C_below HR.out HB.out) HC.out HT.out).mono ?_
 rintro e w2 ⟨s2, rfl, hS, hb⟩
 clear e0 e1
 obtain ⟨A2, c2, rfl⟩ := Kd.R_slice hS
 have HB2 := Aside0.mk (below_step HB.out hb)
 have K2 := Aside0.mk (blk_below K1.out hb)
 have hz := H1.out w2 A2 c2 (Kd.R_reads' hS).2.2 (Kd.R_reads' hS).2.1
 clear hS hb HB K1
 go_wp2_with (fail)
 refine hz.mono ?_
 rintro e w3 ⟨rfl, hb⟩
 have HB3 := Aside0.mk (below_step HB2.out hb)
 have K3 := Aside0.mk (blk_below K2.out hb)
 clear hb hz HB2 K2
 have e0 : w3.cell? ⟨w.heap.size, 0, none⟩ = some (.int .i64 p) := (blk_cell K3.out 0).trans rfl
 have e1 : w3.cell? ⟨w.heap.size, 1, none⟩ = some (.slice A l.length c) := (blk_cell K3.out 1).trans rfl
 go_wp2_with (fail)
 refine (laws_toSurvey.calls K p A c l p m _ (Kd.C_below HR.out HB3.out) HC.out HT.out).mono ?_
 rintro e w4 ⟨s4, rfl, hS, hb⟩
 clear e0 e1
 obtain ⟨A4, c4', rfl⟩ := Kd.R_slice hS
 have hba := below_alloc (Below.refl w4.heap.size w4) (.cells #[.int .i64 p, .slice A4 m.length c4'] 26)
 have X4 := Aside0.mk (heap_alloc_new w4 (.cells #[.int .i64 p, .slice A4 m.length c4'] 26))
 have R4 := Aside0.mk (Kd.C_below (Kd.R_reads' hS).2.2 hba)
 have C4 := Aside0.mk (Kd.R_reads' hS).2.1
 have HB4 := Aside0.mk (below_step (below_step HB3.out hb) hba)
 have K4 := Aside0.mk (blk_below (blk_below K3.out hb) hba)
 have hz := H2.out (w4.alloc (.cells #[.int .i64 p, .slice A4 m.length c4'] 26)) A4 c4' R4.out C4.out
 clear hS hb hba HB3 K3
 go_wp2_with (fail)
 refine hz.mono ?_
 rintro e w5 ⟨rfl, hb⟩
 have HB5 := Aside0.mk (below_step HB4.out hb)
 have K5 := Aside0.mk (blk_below K4.out hb)
 have X5 := Aside0.mk (blk_below X4.out hb)
 have R5 := Aside0.mk (Kd.C_below R4.out hb)
 clear hb hz HB4 K4 X4 R4
 have e0 : w5.cell? ⟨w.heap.size, 0, none⟩ = some (.int .i64 p) := (blk_cell K5.out 0).trans rfl
 have e1 : w5.cell? ⟨w.heap.size, 1, none⟩ = some (.slice A l.length c) := (blk_cell K5.out 1).trans rfl
 have e2 : w5.cell? ⟨w4.heap.size, 0, none⟩ = some (.int .i64 p) := (blk_cell X5.out 0).trans rfl
 have e3 : w5.cell? ⟨w4.heap.size, 1, none⟩ = some (.slice A4 m.length c4') := (blk_cell X5.out 1).trans rfl
 go_wp2_with (fail)
 refine start_ (n := 5) (S := fun w' => w'.cell? ⟨w.heap.size, 0, none⟩ = some (.int .i64 p) ∧ w'.cell? ⟨w.heap.size, 1, none⟩ = some (.slice A l.length c) ∧ w'.cell? ⟨w4.heap.size, 0, none⟩ = some (.int .i64 p) ∧ w'.cell? ⟨w4.heap.size, 1, none⟩ = some (.slice A4 m.length c4')) (ds := []) #[false, false, false, false, false] (by kernel_rfl) rfl rfl ⟨e0, e1, e2, e3⟩ (fun hHeld => ?_)
 refine take_ (i := 0) (N := some 52) (v := ?_) (a' := ?_) #[true, false, false, false, false] rfl rfl (by kernel_rfl) (fun _ _ _ h => h) (Or.inl ⟨by rfl, ?_⟩) hHeld ?_ ?_
 rotate_left
 ·rintro w' ⟨s0, s1, s2, s3⟩
  go_simp
  with_reducible rfl
 rotate_left
 ·simp only [Act.put, List.setIfInBounds_toArray, List.set_cons_zero, List.set_cons_succ, i64_w, i32_w]
  rfl
 refine take_ (i := 1) (N := some 53) (v := ?_) (a' := ?_) #[true, true, false, false, false] rfl rfl (by kernel_rfl) (fun _ _ _ h => h) (Or.inl ⟨by rfl, ?_⟩) hHeld ?_ ?_
 rotate_left
 ·rintro w' ⟨s0, s1, s2, s3⟩
  go_simp
  with_reducible rfl
 rotate_left
 ·simp only [Act.put, List.setIfInBounds_toArray, List.set_cons_zero, List.set_cons_succ, i64_w, i32_w]
  rfl
 refine one_ (i := 2) (N := some 54) #[true, true, true, false, false] rfl rfl (by kernel_rfl) (by decide) (fun K_ hK => ?_)
 refine goes_ Try.func30 (by kernel_rfl) rfl #[.agg #[.int .i64 p, .slice A l.length c]] (by rfl) rfl rfl (by (try simp only [List.map_toArray, List.map_cons, List.map_nil]); first | done | rfl) ?_
 refine (laws_toSurvey.calls K p A c l p m w5.drew (Kd.C_below HR.out (below_drew HB5.out)) HC.out HT.out).mono ?_
 rintro e w7 ⟨s7, rfl, hS, hb⟩
 obtain ⟨A7, c7, rfl⟩ := Kd.R_slice hS
 have HBd := Aside0.mk (below_step (below_drew (Below.refl w5.heap.size w5)) hb)
 have D7 := Aside0.mk (Kd.R_reads' hS)
 clear hS hb
 refine ⟨_, rfl, ?_⟩
 refine hK.out _ _ (⟨(HBd.out.cell (World.block_lt_of_cell? _ _ e0)).trans e0, (HBd.out.cell (World.block_lt_of_cell? _ _ e1)).trans e1, (HBd.out.cell (World.block_lt_of_cell? _ _ e2)).trans e2, (HBd.out.cell (World.block_lt_of_cell? _ _ e3)).trans e3⟩) (fun hHeld => ?_)
 clear hK K_
 refine norm_ (a' := ?_) ?_ ?_
 rotate_left
 ·show Act.put _ (some 54) _ = _
  simp only [Act.put, List.setIfInBounds_toArray, List.set_cons_zero, List.set_cons_succ, i64_w, i32_w]
  rfl
 refine one_ (i := 3) (N := some 55) #[true, true, true, true, false] rfl rfl (by kernel_rfl) (by decide) (fun K_ hK => ?_)
 refine goes_ Try.func31 (by kernel_rfl) rfl #[.agg #[.int .i64 p, .slice A4 m.length c4'], .agg #[.int .i64 p, .slice A7 m.length c7]] (by rfl) rfl rfl (by (try simp only [List.map_toArray, List.map_cons, List.map_nil]); first | done | rfl) ?_
 refine (laws_eqSurvey.calls K p A4 c4' m p A7 c7 m true w7 (Kd.C_below R5.out HBd.out) C4.out D7.out.2.2 D7.out.2.1 HEY.out).mono ?_
 rintro e w8 ⟨rfl, hb⟩
 have HB8 := Aside0.mk (below_step HB5.out (below_step HBd.out hb))
 have HB8' := Aside0.mk (below_step HBd.out hb)
 clear hb
 refine ⟨_, rfl, ?_⟩
 refine hK.out _ _ (⟨(HB8'.out.cell (World.block_lt_of_cell? _ _ e0)).trans e0, (HB8'.out.cell (World.block_lt_of_cell? _ _ e1)).trans e1, (HB8'.out.cell (World.block_lt_of_cell? _ _ e2)).trans e2, (HB8'.out.cell (World.block_lt_of_cell? _ _ e3)).trans e3⟩) (fun hHeld => ?_)
 clear hK K_
 refine norm_ (a' := ?_) ?_ ?_
 rotate_left
 ·show Act.put _ (some 55) _ = _
  simp only [Act.put, List.setIfInBounds_toArray, List.set_cons_zero, List.set_cons_succ, i64_w, i32_w]
  rfl
 refine pure_ (i := 4) (N := some 56) (v := ?_) (a' := ?_) #[true, true, true, true, true] rfl rfl (by kernel_rfl) (fun _ _ _ h => h) (Or.inl ⟨by rfl, ?_⟩) ?_ ?_
 rotate_left
 ·intro w'
  go_simp
  with_reducible rfl
 rotate_left
 ·simp only [Act.put, List.setIfInBounds_toArray, List.set_cons_zero, List.set_cons_succ, i64_w, i32_w]
  rfl
 refine done_ (by kernel_rfl) ?_
 go_wp2_with (fail)
 go_ret
 exact ⟨rfl, HB8.out⟩
set_option maxHeartbeats 4000000 in
theorem law_any (p : Int) (l : List S121) (a1 : Int) (a2 : Int) (A : Option Addr) (c : Nat) (w : World) (hr : Kd.C k121 w A l.length l) (hc : l.length ≤ c) (h : l.length ≤ 9223372036854775807) :
  Calls Try.prog 8 #[.agg #[.int .i64 p, .slice A l.length c], .int .i64 a1, .int .i64 a2] w fun e w' => e = .returned (.bool true) ∧ Below w.heap.size w w' := by
 by_cases hl : l.length ≤ 1048576
 ·have hm : (l.map conv).length ≤ 1048576 := by simpa using hl
  obtain ⟨K, hK⟩ : ∃ K, KB + 9 ≤ K := ⟨_, Nat.le_refl _⟩
  exact walk p l A c (l.map conv) a1 a2 (Ex2.okN (ptsB p (l.map conv) a1 a2) (Ex2.rise (wp p) (l.map conv) a1 a2)) (Ex2.okD (ptsB p (l.map conv) a1 a2) (Ex2.rise (wp p) (l.map conv) a1 a2)) (ptsB p (l.map conv) a1 a2) hl rfl
   (fun W A c hr hc => spec_RiseBetween.calls K p A c (l.map conv) a1 a2 _ _ _ W hr hc (specRise p (l.map conv) a1 a2 K (by omega)))
   (fun W A c hr hc => Ex2.riseBetween_any p (l.map conv) a1 a2 A c W hr hc hm) w hr hc
 ·have hu42 := Try.underlying42
  have hsz := szSurvey_eq p l h
  rw [if_neg hl] at hsz
  have hbx := below_alloc (Below.refl w.heap.size w) (.cells #[.int .i64 p, .slice A l.length c] 42)
  have hz := laws_szSurvey.calls p A c l 1048576 (-1) _ (Kd.C_below hr hbx) hc hsz
  have HB := Aside0.mk hbx
  clear hr hc hbx hsz h hl
  go_enter Try.func8, Try.ntmps8
  go_wp2_with (fail)
  refine hz.mono ?_
  rintro e w1 ⟨rfl, hb⟩
  have HB1 := Aside0.mk (below_step HB.out hb)
  clear hb hz
  go_wp2_with (fail)
  go_ret
  exact ⟨rfl, HB1.out⟩
end Go.Proofs.Ytkafbmanmffliaa.LwRB

