/- Parts of the proof that the law of this seat holds: Gt, Gu, Gx, Gy, Gw, Lo2, Ex, Sp2, Va2, Va6. -/
import Derived.Test.YtkafbmanmffliaaGBpm
import Derived.Test.YtkafbmanmffliaaGBpk
import Derived.Test.YtkafbmanmffliaaGBpj
import Derived.Test.YtkafbmanmffliaaGBpb
import Derived.Test.YtkafbmanmffliaaGBpc
import Derived.Test.YtkafbmanmffliaaGBpn
import Derived.Test.YtkafbmanmffliaaGBpa
set_option linter.unusedVariables false
set_option linter.unusedSimpArgs false
/- The program's adjusted heights: the right side is made, the equations are solved. -/
namespace Go.Proofs.Ytkafbmanmffliaa.Gt
open Go Go.RowKit YtkafbmanmffliaaW.PrintWords YtkafbmanmffliaaW.PrintLast YtkafbmanmffliaaW.PrintMore Q Bg Dd Bi Rt Ru Rx Ra Gd Gf Ge Hb Ha Hc Gs Gn Kc Ke Kf
set_option linter.unusedVariables false
set_option linter.unusedSimpArgs false
theorem mk28 (n : Nat) (hn : n ≤ 5) : ∀ W : World, (Instr.makeSlice 28 (.int .i64 (n : Int)) (.int .i64 (n : Int))).run Try.prog W = .ok (.slice (some ⟨W.heap.size, 0, none⟩) n n) (W.alloc (.cells (madeCells #[.int .i64 0] n) 2)) :=
 print_make_of 28 2 (.int .i64 0) 8 Try.underlying28 info2 rfl (by decide) n (by omega)
theorem T.made {B : Nat} (W : World) (n : Nat) (hn : n ≤ 5) (hB : B ≤ W.heap.size) : T B (W.alloc (.cells (madeCells #[.int .i64 0] n) 2)) (.slice (some ⟨W.heap.size, 0, none⟩) n n) (List.replicate n 0) := by
 have h := own_made_of (enc := Value.int .i64) (d := 0) W B 2 n hB (by omega)
 exact Kd.R_of_own (by simpa using h) (fun _ _ => trivial)
theorem solve_xs {n : Nat} {l : List S32} {right : List Int} (h : Ok n l right) {wq wz : World} {b cap : Nat} {us : List Value} (hr : RowIn wq wz b cap (n + 1) us (fun k => if k = 0 then 0 else gj (cst (tab l right n)) n (k - 1) n)) :
  RowIn wq wz b cap (n + 1) us (fun k => xs l right n k) := by
 refine hr.congr (fun k hk => ?_)
 by_cases e : k = 0
 ·subst e
  rw [if_pos rfl]
  exact (xs_zero l right n).symm
 ·rw [if_neg e, h.sol (k - 1) (by omega)]
  unfold xs nu
  rw [if_neg (by omega)]
  rfl
def rgtAt (n : Nat) (l : List S32) (i : Nat) : List Int := rgt n (l.take i)
theorem rgtAt_zero (n : Nat) (l : List S32) : rgtAt n l 0 = List.replicate (n + 1) 0 := by simp [rgtAt, rgt]
theorem rgtAt_all (n : Nat) (l : List S32) : rgtAt n l l.length = rgt n l := by simp [rgtAt]
theorem rgtAt_succ (n : Nat) (l : List S32) (i : Nat) (h : i < l.length) : rgtAt n l (i + 1) = stR (rgtAt n l i) (rd_T32 l i) := by
 unfold rgtAt rgt
 have e : l.take (i + 1) = l.take i ++ [rd_T32 l i] := by
  rw [List.take_succ_eq_append_getElem h]
  simp [rd_T32, h]
 rw [e, List.foldl_append]
 rfl
theorem rgtAt_len (n : Nat) (l : List S32) (i : Nat) : (rgtAt n l i).length = n + 1 := rgt_len _ _
theorem rgtAt_size {n : Nat} {l : List S32} (hv : surveyB ((n : Int) + 1) l = true) (i : Nat) (p : Int) : -2400 ≤ rd (rgtAt n l i) p ∧ rd (rgtAt n l i) p ≤ 2400 := by
 have hl8 : l.length ≤ 8 := by
  have := hv
  unfold surveyB at this
  simp only [Bool.and_eq_true, decide_eq_true_eq] at this
  have := this.1.2
  omega
 have := fold_size (l.take i) (fun s hs => mem_at hv s (List.mem_of_mem_take hs)) (List.replicate (n + 1) 0) (by simp) 0 (by omega) (fun p => by rw [rd_zeros]; omega) p
 have hl : (l.take i).length ≤ 8 := by simp; omega
 unfold rgtAt rgt
 omega
theorem T.drewN {B : Nat} {W : World} {v : Value} {xs : List Int} (h : T B W v xs) : T B W.drew v xs := h.below (below_drew (Below.refl _ _))
set_option maxHeartbeats 4000000 in
set_option maxRecDepth 100000 in
theorem adjusted_any (n : Nat) (l : List S32) (hc : Gm.connB ((n : Int) + 1) l = true) (A : Option Addr) (c : Nat) (w : World) (hr : Kd.C k32 w A l.length l) (hcl : l.length ≤ c) :
  Calls Try.prog 60 #[.agg #[.int .i64 ((n : Int) + 1), .slice A l.length c]] w fun e w' => ∃ (b cap : Nat) (us : List Value), e = .returned (.slice (some ⟨b, 0, none⟩) (n + 1) cap) ∧ RowIn w w' b cap (n + 1) us (fun k => hts n l k) := by
 have hu26 := Try.underlying26
 have hu32 := Try.underlying32
 have hn := conn_n hc
 have hn4 := hn.2.1
 have hl8 := hn.2.2
 have mk := mk28 (n + 1) (by omega)
 rw [show ((n + 1 : Nat) : Int) = (n : Int) + 1 by omega] at mk
 have hbx := below_alloc (Below.refl w.heap.size w) (SX ((n : Int) + 1) A l.length c)
 have HR := Aside0.mk (Kd.C_below hr hbx)
 have HX := Aside0.mk (heap_alloc_new w (SX ((n : Int) + 1) A l.length c))
 have HC := Aside0.mk hc
 have HV := Aside0.mk (conn_v hc)
 have HCL := Aside0.mk hcl
 clear hr hc hcl hn hbx
 go_enter Try.func60, Try.ntmps60
 go_wp2_with (fail)
 obtain ⟨W0, hW0⟩ : ∃ W0, W0 = w.alloc (SX ((n : Int) + 1) A l.length c) := ⟨_, rfl⟩
 have hs0 : W0.heap.size = w.heap.size + 1 := by rw [hW0]; simp
 rw [← hW0] at HR HX
 rw [← hW0]
 have HW0 := Aside0.mk hW0
 clear hW0 mk
 have t0 := Aside0.mk (T.made W0 (n + 1) (by omega) (Nat.le_refl W0.heap.size))
 have tb := Aside0.mk (below_alloc (Below.refl W0.heap.size W0) (.cells (madeCells #[.int .i64 0] (n + 1)) 2))
 obtain ⟨g, hg⟩ : ∃ g, g = w.heap.size + 1 := ⟨_, rfl⟩
 rw [← hg] at hs0
 rw [← hg]
 rw [hs0] at t0
 have HS0 := Aside0.mk (And.intro hs0 hg)
 clear hs0 hg
 go_loopw [12] (fun v12 wz => ∃ i : Nat, v12 = .int .i64 (i : Int) ∧ i ≤ l.length ∧ Aside0 (T g wz (.slice (some ⟨g, 0, none⟩) (n + 1) (n + 1)) (rgtAt n l i)) ∧ Aside0 (Below W0.heap.size W0 wz)) (fun v _ => l.length - (intOf v).toNat)
 case atStart => exact ⟨0, rfl, by omega, ⟨by rw [rgtAt_zero]; exact t0.out⟩, tb⟩
 case round =>
  clear t0 tb
  obtain ⟨i, rfl, hi, HT, HB⟩ := hrel
  by_cases hlt : i < l.length
  ·have p1 : decide ((i : Int) < (l.length : Int)) = true := decide_eq_true (by omega)
   obtain ⟨ad, e, x0, x1, x2, x3⟩ := at_T32 (Kd.C_below HR.out HB.out) (i : Int) (by omega) (by omega)
   subst e
   rw [Int.toNat_natCast] at x0 x1 x2 x3
   have hm : rd_T32 l i ∈ l := by simp only [rd_T32, Int.toNat_natCast]; rw [List.getD_eq_getElem?_getD, List.getElem?_eq_getElem hlt]; simp
   have hva := mem_at HV.out _ hm
   have HSU := Aside0.mk (rgtAt_succ n l i hlt)
   obtain ⟨s, hs⟩ : ∃ s, s = rd_T32 l i := ⟨_, rfl⟩
   rw [← hs] at x0 x1 x2 x3 hva HSU
   clear hs hm
   obtain ⟨f, t, ri, wt⟩ := s
   dsimp only at x0 x1 x2 x3 hva
   obtain ⟨y0, y1, y2, y3, y4, y5, y6, y7, y8⟩ := hva
   obtain ⟨f, rfl⟩ : ∃ q : Nat, f = q := ⟨f.toNat, by omega⟩
   obtain ⟨t, rfl⟩ : ∃ q : Nat, t = q := ⟨t.toNat, by omega⟩
   obtain ⟨r, hr⟩ : ∃ r, r = rgtAt n l i := ⟨_, rfl⟩
   have hrl : r.length = n + 1 := by rw [hr]; exact rgtAt_len n l i
   have hz : ∀ p : Int, -2400 ≤ rd r p ∧ rd r p ≤ 2400 := fun p => by rw [hr]; exact rgtAt_size HV.out i p
   rw [← hr] at HT HSU
   have hwr : -300 ≤ wt * ri ∧ wt * ri ≤ 300 := by
    have c3 : wt = 1 ∨ wt = 2 ∨ wt = 3 := by omega
    rcases c3 with e | e | e <;> rw [e] <;> omega
   obtain ⟨k, hk⟩ : ∃ k, k = wt * ri := ⟨_, rfl⟩
   rw [← hk] at hwr
   have hw1 : wrap64 (wt * ri) = k := by rw [← hk]; unfold wrap64; omega
   have HSU2 := Aside0.mk (show rgtAt n l (i + 1) = (r.set t (rd r (t : Int) + k)).set f (rd (r.set t (rd r (t : Int) + k)) (f : Int) - k) by rw [HSU.out, hk]; rfl)
   obtain ⟨v1, hv1⟩ : ∃ v1, v1 = rd r (t : Int) + k := ⟨_, rfl⟩
   have hzt := hz t
   have hw2 : wrap64 (rd r (t : Int) + k) = v1 := by rw [← hv1]; unfold wrap64; omega
   obtain ⟨r1, hr1⟩ : ∃ r1, r1 = r.set t v1 := ⟨_, rfl⟩
   have hzf := (ad_size (r := r) (t := t) (f := f) (m := 2400) (k := 0) (c := 0) (by omega) (by omega) (by omega) hz (by omega) (by omega) (by omega) (by omega) (by omega) f)
   have hzf1 : -2700 ≤ rd r1 (f : Int) ∧ rd r1 (f : Int) ≤ 2700 := by
    have e := rd_set (r := r) (t := t) (p := f) (v := v1) (by omega) (by omega) (by omega)
    rw [Int.toNat_natCast, ← hr1] at e
    rw [e]
    have := hz f
    split <;> omega
   obtain ⟨v2, hv2⟩ : ∃ v2, v2 = rd r1 (f : Int) - k := ⟨_, rfl⟩
   have hw3 : wrap64 (rd r1 (f : Int) - k) = v2 := by rw [← hv2]; unfold wrap64; omega
   have HSU3 := Aside0.mk (show rgtAt n l (i + 1) = r1.set f v2 by rw [HSU2.out, ← hv1, ← hr1, ← hv2])
   have HR1 := Aside0.mk hr1
   obtain ⟨vt, hvt⟩ : ∃ vt, vt = rd r (t : Int) := ⟨_, rfl⟩
   rw [← hvt] at hw2
   obtain ⟨vf, hvf⟩ : ∃ vf, vf = rd r1 (f : Int) := ⟨_, rfl⟩
   rw [← hvf] at hw3
   have HVT := Aside0.mk hvt
   have HVF := Aside0.mk hvf
   have HRL := Aside0.mk hrl
   clear hr hz hwr hk hv1 hv2 hzt hzf hzf1 hr1 hvt hvf hrl HSU HSU2
   have HBA := Aside0.mk (below_alloc (Below.refl wr.heap.size wr) (.cells #[.int .i64 (f : Int), .int .i64 (t : Int), .int .i64 ri, .int .i64 wt] 32))
   have HNA := Aside0.mk (heap_alloc_new wr (.cells #[.int .i64 (f : Int), .int .i64 (t : Int), .int .i64 ri, .int .i64 wt] 32))
   have HT1 := Aside0.mk (HT.out.below HBA.out)
   obtain ⟨z0, z1⟩ := HT1.out.cell t (by omega)
   rw [← HVT.out] at z0
   have i1 : (0 ≤ (t : Int)) = True := eq_true (by omega)
   have i2 : ((t : Int) < (n : Int) + 1) = True := eq_true (by omega)
   have i3 : (0 ≤ (f : Int)) = True := eq_true (by omega)
   have i4 : ((f : Int) < (n : Int) + 1) = True := eq_true (by omega)
   go_wp2_with (fail)
   go_region
   have hp1 := HT1.out.put t v1
   have hb1 := (HB.out.trans (HBA.out.mono (HB.out.size))).setCell (p := ⟨g, t, none⟩) (by show W0.heap.size ≤ g; rw [HS0.out.1]; exact Nat.le_refl _) (.int .i64 v1)
   rw [← HR1.out] at hp1
   have HT2 := Aside0.mk (hp1.1.below (below_drew (Below.refl _ _)))
   have HB2 := Aside0.mk (below_drew hb1)
   have hgs := HT.out.lt (k := g) rfl
   have HN2 := Aside0.mk (blk_drew (blk_grown HNA.out hp1.2 (by intro e; have := Option.some.inj e; omega)))
   clear hp1 hb1 hgs z0 z1
   obtain ⟨wa, hwa⟩ : ∃ wa, wa = ((wr.alloc (.cells #[.int .i64 (f : Int), .int .i64 (t : Int), .int .i64 ri, .int .i64 wt] 32)).setCell ⟨g, t, none⟩ (.int .i64 v1)).drew := ⟨_, rfl⟩
   rw [← hwa] at HT2 HB2 HN2
   rw [← hwa]
   clear hwa
   obtain ⟨z0, z1⟩ := HT2.out.cell f (by omega)
   rw [← HVF.out] at z0
   have k0 : wa.cell? ⟨wr.heap.size, 0, none⟩ = some (.int .i64 (f : Int)) := (blk_cell HN2.out 0).trans rfl
   have k2 : wa.cell? ⟨wr.heap.size, 2, none⟩ = some (.int .i64 ri) := (blk_cell HN2.out 2).trans rfl
   have k3 : wa.cell? ⟨wr.heap.size, 3, none⟩ = some (.int .i64 wt) := (blk_cell HN2.out 3).trans rfl
   go_wp2_with (fail)
   go_region
   have hp2 := HT2.out.put f v2
   have hb2 := HB2.out.setCell (p := ⟨g, f, none⟩) (by show W0.heap.size ≤ g; rw [HS0.out.1]; exact Nat.le_refl _) (.int .i64 v2)
   rw [← HSU3.out] at hp2
   have HT3 := Aside0.mk (hp2.1.below (below_drew (Below.refl _ _)))
   have HB3 := Aside0.mk (below_drew hb2)
   clear hp2 hb2
   go_wp2_with (fail)
   go_roundw
   case rel => exact ⟨i + 1, by go_num, by omega, HT3, HB3⟩
   case measure => simp [intOf]; omega
  ·obtain rfl : l.length = i := by omega
   have p1 : decide ((l.length : Int) < (l.length : Int)) = false := decide_eq_false (by omega)
   rw [rgtAt_all] at HT
   have hok := ok_rgt HC.out
   have hC : Kd.C (Kd.int .i64) wr (some ⟨g, 0, none⟩) (rgt n l).length (rgt n l) := (Kd.R_reads' HT.out).2.2
   have hsv := solve_any n hn4 l HV.out A c (some ⟨g, 0, none⟩) (n + 1) (rgt n l) wr (Kd.C_below HR.out HB.out) HCL.out hC (rgt_len n l) (fun i => by have := rgt_size HV.out i; omega) hok.piv
   rw [rgt_len] at hsv
   have HOK := Aside0.mk hok
   have hbk := blk_below HX.out HB.out
   have hcx : wr.cell? ⟨w.heap.size, 0, none⟩ = some (.int .i64 ((n : Int) + 1)) := (blk_cell hbk 0).trans rfl
   have hcy : wr.cell? ⟨w.heap.size, 1, none⟩ = some (.slice A l.length c) := (blk_cell hbk 1).trans rfl
   clear hok hC hbk
   go_wp2_with (fail)
   refine hsv.mono ?_
   rintro e w1 ⟨b, cap, us, rfl, h1⟩
   have H1 := Aside0.mk (solve_xs HOK.out h1)
   clear h1 hsv
   go_wp2_with (fail)
   go_ret
   exact ⟨b, cap, us, rfl, H1.out.outer (by rw [HW0.out]; exact below_alloc (Below.refl _ _) _) HB.out⟩
end Go.Proofs.Ytkafbmanmffliaa.Gt

/- The program's residuals, cofactors, redundancies and weighted squares: rows of fractions. -/
namespace Go.Proofs.Ytkafbmanmffliaa.Gu
open Go Go.RowKit YtkafbmanmffliaaW.PrintWords YtkafbmanmffliaaW.PrintLast YtkafbmanmffliaaW.PrintMore Q Bg Dd Bi Rt Ru Rx Ra Gd Gf Ge Gi Hb Ha Hc Gs Gn Ka Kc Ke Kf Gt
set_option linter.unusedVariables false
set_option linter.unusedSimpArgs false
theorem RowIn.growF {wq wr w1 w2 : World} {b cap j pb g1 cap1 : Nat} {us : List Value} {F : Nat → Rat} {x : Rat} (h : RowIn wq wr b cap j us F) (hb1 : Below wr.heap.size wr w1) (hx : RI w1 pb x)
  (hc : Cb w2 74 g1 cap1 (us ++ [.pointer (some ⟨pb, 0, none⟩)])) (hat : g1 = b ∨ w1.heap.size ≤ g1) (hg : w1.grownBy w2 (some b)) (e : x = F j) : RowIn wq w2 g1 cap1 (j + 1) (us ++ [.pointer (some ⟨pb, 0, none⟩)]) F := by
 refine (h.grow hb1 hx hc hat hg).congr (fun k hk => ?_)
 show (if k = j then _ else _) = _
 by_cases e2 : k = j
 ·rw [if_pos e2, e2]; exact e
 ·rw [if_neg e2]
theorem sm31 {z : Int} (h : -2147483648 < z ∧ z < 2147483648) : Sm 31 (z : Rat) := by
 have e : (2 : Nat) ^ 31 = 2147483648 := by decide
 refine Sm.int ?_ (by omega)
 rw [e]
 omega
theorem sm_xs {n : Nat} (hn4 : n ≤ 4) {l : List S32} {right : List Int} (h : Ok n l right) (p : Int) (h0 : 0 ≤ p) (hp : p ≤ n) : Sm 31 (xs l right n p) := by
 have hd := h.pos n (Nat.le_refl _)
 rw [h.last] at hd
 have hd2 : den l n ≤ 1073741824 := by
  rw [← h.last]
  by_cases e : n = 0
  ·subst e; show (1 : Int) ≤ _; decide
  ·obtain ⟨m, rfl⟩ : ∃ m, n = m + 1 := ⟨n - 1, by omega⟩
   rw [LL_succ _ m (by omega)]
   exact (h.size m m m (by omega) (by omega) (by omega)).2
 have e31 : (2 : Nat) ^ 31 = 2147483648 := by decide
 have hn : (nu l right n p).natAbs < 2 ^ 31 := by
  rw [e31]
  unfold nu
  split
  ·decide
  ·have := h.size n (p.toNat - 1) n (Nat.le_refl _) (by omega) (Nat.le_refl _)
   omega
 have := Sm.divInt (a := nu l right n p) (b := den l n) (by omega) hn (by rw [e31]; omega)
 unfold xs
 rw [Rat.divInt_eq_div] at this
 exact this
set_option maxHeartbeats 8000000 in
set_option maxRecDepth 100000 in
theorem residuals_any (n : Nat) (l : List S32) (hc : Gm.connB ((n : Int) + 1) l = true) (A : Option Addr) (c : Nat) (w : World) (hr : Kd.C k32 w A l.length l) (hcl : l.length ≤ c) :
  Calls Try.prog 61 #[.agg #[.int .i64 ((n : Int) + 1), .slice A l.length c]] w fun e w' => ∃ (b cap : Nat) (us : List Value), e = .returned (.slice (some ⟨b, 0, none⟩) l.length cap) ∧ RowIn w w' b cap l.length us (fun k => res n l (rd_T32 l k)) := by
 have hu26 := Try.underlying26
 have hu32 := Try.underlying32
 have hu24 := Try.underlying24
 have hu69 := Try.underlying69
 have hn := conn_n hc
 have hn4 := hn.2.1
 have hl8 := hn.2.2
 have hbx := below_alloc (Below.refl w.heap.size w) (SX ((n : Int) + 1) A l.length c)
 have HR := Aside0.mk (Kd.C_below hr hbx)
 have HX := Aside0.mk (heap_alloc_new w (SX ((n : Int) + 1) A l.length c))
 have HC := Aside0.mk hc
 have HV := Aside0.mk (conn_v hc)
 have HCL := Aside0.mk hcl
 clear hr hc hcl hn hbx
 have hadj := adjusted_any n l HC.out A c (w.alloc (SX ((n : Int) + 1) A l.length c)) HR.out HCL.out
 have HS31 := Aside0.mk (fun p h0 hp => sm_xs hn4 (ok_rgt HC.out) p h0 hp)
 go_enter Try.func61, Try.ntmps61
 go_wp2_with (go_at_call 60; (with_reducible refine hadj.mono ?_); rintro e w1 ⟨bH, capH, usH, rfl, hH⟩; have HH := Aside0.mk hH; have HX1 := Aside0.mk (blk_below HX.out hH.2.2.2); have HR1 := Aside0.mk (Kd.C_below HR.out hH.2.2.2); have cx : (w1.alloc (.cells #[] 74)).cell? ⟨w.heap.size, 1, none⟩ = some (.slice A l.length c) := (blk_cell (blk_alloc HX1.out _) 1).trans rfl; clear hH hadj)
 obtain ⟨wq, rfl⟩ : ∃ wq, wq = w1 := ⟨_, rfl⟩
 have t0 := Aside0.mk (RowIn.new wq (fun k => res n l (rd_T32 l k)))
 clear cx
 go_loopw [4, 13] (fun v4 v13 wz => ∃ (i b cap2 : Nat) (us : List Value), v4 = .slice (some ⟨b, 0, none⟩) i cap2 ∧ v13 = .int .i64 (i : Int) ∧ i ≤ l.length ∧ Aside0 (RowIn wq wz b cap2 i us (fun k => res n l (rd_T32 l k)))) (fun _ v _ => l.length - (intOf v).toNat)
 case atStart => exact ⟨0, _, 0, [], rfl, rfl, by omega, t0⟩
 case round =>
  clear t0
  obtain ⟨i, b, cap2, us, rfl, rfl, hi, HI⟩ := hrel
  by_cases hlt : i < l.length
  ·have p1 : decide ((i : Int) < (l.length : Int)) = true := decide_eq_true (by omega)
   obtain ⟨ad, e, x0, x1, x2, x3⟩ := at_T32 (Kd.C_below HR1.out (below_weaken (Below.refl _ _) (Nat.le_refl _) HI.out.2.2.2)) (i : Int) (by omega) (by omega)
   subst e
   rw [Int.toNat_natCast] at x0 x1 x2 x3
   have hm : rd_T32 l i ∈ l := by simp only [rd_T32, Int.toNat_natCast]; rw [List.getD_eq_getElem?_getD, List.getElem?_eq_getElem hlt]; simp
   have hva := mem_at HV.out _ hm
   have HRES := Aside0.mk (show res n l (rd_T32 l i) = ((rd_T32 l i).f2 : Rat) - hts n l (rd_T32 l i).f1 + hts n l (rd_T32 l i).f0 from by unfold res dif; grind)
   obtain ⟨s, hs⟩ : ∃ s, s = rd_T32 l i := ⟨_, rfl⟩
   rw [← hs] at x0 x1 x2 x3 hva HRES
   have HS := Aside0.mk hs
   clear hs hm
   obtain ⟨f, t, ri, wt⟩ := s
   dsimp only at x0 x1 x2 x3 hva HRES
   obtain ⟨y0, y1, y2, y3, y4, y5, y6, y7, y8⟩ := hva
   obtain ⟨f, rfl⟩ : ∃ q : Nat, f = q := ⟨f.toNat, by omega⟩
   obtain ⟨t, rfl⟩ : ∃ q : Nat, t = q := ⟨t.toNat, by omega⟩
   have hba := below_alloc (Below.refl wr.heap.size wr) (.cells #[.int .i64 (f : Int), .int .i64 (t : Int), .int .i64 ri, .int .i64 wt] 32)
   have hna := heap_alloc_new wr (.cells #[.int .i64 (f : Int), .int .i64 (t : Int), .int .i64 ri, .int .i64 wt] 32)
   have hH := HH.out.below (below_step HI.out.2.2.2 hba)
   obtain ⟨pt, e0, e1, hpt⟩ := row_at hH.2.1 hH.2.2.1 (show t < n + 1 by omega)
   obtain ⟨pf, e2, e3, hpf⟩ := row_at hH.2.1 hH.2.2.1 (show f < n + 1 by omega)
   have HPT := Aside0.mk hpt
   have HPF := Aside0.mk hpf
   have HT31 := Aside0.mk (HS31.out t (by omega) (by omega))
   have HF31 := Aside0.mk (HS31.out f (by omega) (by omega))
   have i1 : (0 ≤ (t : Int)) = True := eq_true (by omega)
   have i2 : ((t : Int) < (n : Int) + 1) = True := eq_true (by omega)
   have i3 : (0 ≤ (f : Int)) = True := eq_true (by omega)
   have i4 : ((f : Int) < (n : Int) + 1) = True := eq_true (by omega)
   have r0 : -9223372036854775808 ≤ ri := by omega
   have r1 : ri ≤ 9223372036854775807 := by omega
   have HRI := Aside0.mk (show Sm 31 ((ri : Int) : Rat) from sm31 (by omega))
   obtain ⟨wa, hwa⟩ : ∃ wa, wa = wr.alloc (.cells #[.int .i64 (f : Int), .int .i64 (t : Int), .int .i64 ri, .int .i64 wt] 32) := ⟨_, rfl⟩
   rw [← hwa] at hba hna e0 e2 HPT HPF
   have c0 : wa.cell? ⟨wr.heap.size, 0, none⟩ = some (.int .i64 (f : Int)) := (blk_cell hna 0).trans rfl
   have c1 : wa.cell? ⟨wr.heap.size, 1, none⟩ = some (.int .i64 (t : Int)) := (blk_cell hna 1).trans rfl
   have c2 : wa.cell? ⟨wr.heap.size, 2, none⟩ = some (.int .i64 ri) := (blk_cell hna 2).trans rfl
   have HI := Aside0.mk (HI.out.below hba)
   clear hH hpt hpf hna hba e1 e3
   go_wp2_with (fail)
   rw [← hwa]
   clear hwa x0 x1 x2 x3
   have HXF := Aside0.mk (show ((ri : Int) : Rat) - hts n l (t : Int) + hts n l (f : Int) = res n l (rd_T32 l i) by rw [← HS.out, HRES.out])
   refine start_ (n := 19) (S := fun w' => w'.cell? ⟨wr.heap.size, 0, none⟩ = some (.int .i64 (f : Int)) ∧ w'.cell? ⟨wr.heap.size, 1, none⟩ = some (.int .i64 (t : Int)) ∧ w'.cell? ⟨wr.heap.size, 2, none⟩ = some (.int .i64 ri) ∧ w'.cell? ⟨bH, t, none⟩ = some (.pointer (some ⟨pt, 0, none⟩)) ∧ w'.cell? ⟨bH, f, none⟩ = some (.pointer (some ⟨pf, 0, none⟩))) (ds := [17]) #[false, false, false, false, false, false, false, false, false, false, false, false, false, false, false, false, false, false, false] (by kernel_rfl) rfl rfl ⟨c0, c1, c2, e0, e2⟩ (fun hHeld => ?_)
   refine pure_ (i := 0) (N := some 17) (v := ?_) (a' := ?_) #[true, false, false, false, false, false, false, false, false, false, false, false, false, false, false, false, false, false, false] rfl rfl (by kernel_rfl) (fun _ _ _ h => h) (Or.inl ⟨by rfl, ?_⟩) ?_ ?_
   rotate_left
   ·intro w'
    go_simp
    with_reducible rfl
   rotate_left
   ·simp only [Act.put, List.setIfInBounds_toArray, List.set_cons_zero, List.set_cons_succ, i64_w, i32_w]
    rfl
   refine pure_ (i := 1) (N := some 18) (v := ?_) (a' := ?_) #[true, true, false, false, false, false, false, false, false, false, false, false, false, false, false, false, false, false, false] rfl rfl (by kernel_rfl) (fun _ _ _ h => h) (Or.inl ⟨by rfl, ?_⟩) ?_ ?_
   rotate_left
   ·intro w'
    go_simp
    with_reducible rfl
   rotate_left
   ·simp only [Act.put, List.setIfInBounds_toArray, List.set_cons_zero, List.set_cons_succ, i64_w, i32_w]
    rfl
   refine pure_ (i := 4) (N := some 21) (v := ?_) (a' := ?_) #[true, true, false, false, true, false, false, false, false, false, false, false, false, false, false, false, false, false, false] rfl rfl (by kernel_rfl) (fun _ _ _ h => h) (Or.inl ⟨by rfl, ?_⟩) ?_ ?_
   rotate_left
   ·intro w'
    go_simp
    with_reducible rfl
   rotate_left
   ·simp only [Act.put, List.setIfInBounds_toArray, List.set_cons_zero, List.set_cons_succ, i64_w, i32_w]
    rfl
   refine pure_ (i := 5) (N := some 22) (v := ?_) (a' := ?_) #[true, true, false, false, true, true, false, false, false, false, false, false, false, false, false, false, false, false, false] rfl rfl (by kernel_rfl) (fun _ _ _ h => h) (Or.inl ⟨by rfl, ?_⟩) ?_ ?_
   rotate_left
   ·intro w'
    go_simp
    with_reducible rfl
   rotate_left
   ·simp only [Act.put, List.setIfInBounds_toArray, List.set_cons_zero, List.set_cons_succ, i64_w, i32_w]
    rfl
   refine pure_ (i := 10) (N := some 27) (v := ?_) (a' := ?_) #[true, true, false, false, true, true, false, false, false, false, true, false, false, false, false, false, false, false, false] rfl rfl (by kernel_rfl) (fun _ _ _ h => h) (Or.inl ⟨by rfl, ?_⟩) ?_ ?_
   rotate_left
   ·intro w'
    go_simp
    with_reducible rfl
   rotate_left
   ·simp only [Act.put, List.setIfInBounds_toArray, List.set_cons_zero, List.set_cons_succ, i64_w, i32_w]
    rfl
   refine pure_ (i := 11) (N := some 28) (v := ?_) (a' := ?_) #[true, true, false, false, true, true, false, false, false, false, true, true, false, false, false, false, false, false, false] rfl rfl (by kernel_rfl) (fun _ _ _ h => h) (Or.inl ⟨by rfl, ?_⟩) ?_ ?_
   rotate_left
   ·intro w'
    go_simp
    with_reducible rfl
   rotate_left
   ·simp only [Act.put, List.setIfInBounds_toArray, List.set_cons_zero, List.set_cons_succ, i64_w, i32_w]
    rfl
   refine take_ (i := 2) (N := some 19) (v := ?_) (a' := ?_) #[true, true, true, false, true, true, false, false, false, false, true, true, false, false, false, false, false, false, false] rfl rfl (by kernel_rfl) (fun _ _ _ h => h) (Or.inl ⟨by rfl, ?_⟩) hHeld ?_ ?_
   rotate_left
   ·rintro w' ⟨s0, s1, s2, s3, s4⟩
    go_simp
    with_reducible rfl
   rotate_left
   ·simp only [Act.put, List.setIfInBounds_toArray, List.set_cons_zero, List.set_cons_succ, i64_w, i32_w]
    rfl
   refine take_ (i := 6) (N := some 23) (v := ?_) (a' := ?_) #[true, true, true, false, true, true, true, false, false, false, true, true, false, false, false, false, false, false, false] rfl rfl (by kernel_rfl) (fun _ _ _ h => h) (Or.inl ⟨by rfl, ?_⟩) hHeld ?_ ?_
   rotate_left
   ·rintro w' ⟨s0, s1, s2, s3, s4⟩
    go_simp
    with_reducible rfl
   rotate_left
   ·simp only [Act.put, List.setIfInBounds_toArray, List.set_cons_zero, List.set_cons_succ, i64_w, i32_w]
    rfl
   refine pure_ (i := 7) (N := some 24) (v := ?_) (a' := ?_) #[true, true, true, false, true, true, true, true, false, false, true, true, false, false, false, false, false, false, false] rfl rfl (by kernel_rfl) (fun _ _ _ h => h) (Or.inl ⟨by rfl, ?_⟩) ?_ ?_
   rotate_left
   ·intro w'
    go_simp
    with_reducible rfl
   rotate_left
   ·simp only [Act.put, List.setIfInBounds_toArray, List.set_cons_zero, List.set_cons_succ, i64_w, i32_w]
    rfl
   refine take_ (i := 8) (N := some 25) (v := ?_) (a' := ?_) #[true, true, true, false, true, true, true, true, true, false, true, true, false, false, false, false, false, false, false] rfl rfl (by kernel_rfl) (fun _ _ _ h => h) (Or.inl ⟨by rfl, ?_⟩) hHeld ?_ ?_
   rotate_left
   ·rintro w' ⟨s0, s1, s2, s3, s4⟩
    go_simp
    with_reducible rfl
   rotate_left
   ·simp only [Act.put, List.setIfInBounds_toArray, List.set_cons_zero, List.set_cons_succ, i64_w, i32_w]
    rfl
   refine take_ (i := 12) (N := some 29) (v := ?_) (a' := ?_) #[true, true, true, false, true, true, true, true, true, false, true, true, true, false, false, false, false, false, false] rfl rfl (by kernel_rfl) (fun _ _ _ h => h) (Or.inl ⟨by rfl, ?_⟩) hHeld ?_ ?_
   rotate_left
   ·rintro w' ⟨s0, s1, s2, s3, s4⟩
    go_simp
    with_reducible rfl
   rotate_left
   ·simp only [Act.put, List.setIfInBounds_toArray, List.set_cons_zero, List.set_cons_succ, i64_w, i32_w]
    rfl
   refine pure_ (i := 13) (N := some 30) (v := ?_) (a' := ?_) #[true, true, true, false, true, true, true, true, true, false, true, true, true, true, false, false, false, false, false] rfl rfl (by kernel_rfl) (fun _ _ _ h => h) (Or.inl ⟨by rfl, ?_⟩) ?_ ?_
   rotate_left
   ·intro w'
    go_simp
    with_reducible rfl
   rotate_left
   ·simp only [Act.put, List.setIfInBounds_toArray, List.set_cons_zero, List.set_cons_succ, i64_w, i32_w]
    rfl
   refine take_ (i := 14) (N := some 31) (v := ?_) (a' := ?_) #[true, true, true, false, true, true, true, true, true, false, true, true, true, true, true, false, false, false, false] rfl rfl (by kernel_rfl) (fun _ _ _ h => h) (Or.inl ⟨by rfl, ?_⟩) hHeld ?_ ?_
   rotate_left
   ·rintro w' ⟨s0, s1, s2, s3, s4⟩
    go_simp
    with_reducible rfl
   rotate_left
   ·simp only [Act.put, List.setIfInBounds_toArray, List.set_cons_zero, List.set_cons_succ, i64_w, i32_w]
    rfl
   refine one_ (i := 3) (N := some 20) #[true, true, true, true, true, true, true, true, true, false, true, true, true, true, true, false, false, false, false] rfl rfl (by kernel_rfl) (by decide) (fun K_ hK => ?_)
   refine goes_ Try.func66 (by kernel_rfl) rfl #[.int .i64 ri] (by rfl) rfl rfl (by (try simp only [List.map_toArray, List.map_cons, List.map_nil]); first | done | rfl) ?_
   refine (whole_any ri _ r0 r1).mono ?_
   rintro e w1 ⟨pz1, rfl, hpz, hri, hb1⟩
   have HB1 := Aside0.mk (below_step (below_drew (Below.refl wa.heap.size wa)) hb1)
   have HZ1 := Aside0.mk hri
   have HO1 := Aside0.mk hb1
   clear hpz hri hb1
   refine ⟨_, rfl, ?_⟩
   refine hK.out _ _ (⟨(HB1.out.cell (World.block_lt_of_cell? _ _ c0)).trans c0, (HB1.out.cell (World.block_lt_of_cell? _ _ c1)).trans c1, (HB1.out.cell (World.block_lt_of_cell? _ _ c2)).trans c2, (HB1.out.cell (World.block_lt_of_cell? _ _ e0)).trans e0, (HB1.out.cell (World.block_lt_of_cell? _ _ e2)).trans e2⟩) (fun hHeld => ?_)
   clear hK K_
   refine norm_ (a' := ?_) ?_ ?_
   rotate_left
   ·show Act.put _ (some 20) _ = _
    simp only [Act.put, List.setIfInBounds_toArray, List.set_cons_zero, List.set_cons_succ, i64_w, i32_w]
    rfl
   refine one_ (i := 9) (N := some 26) #[true, true, true, true, true, true, true, true, true, true, true, true, true, true, true, false, false, false, false] rfl rfl (by kernel_rfl) (by decide) (fun K_ hK => ?_)
   refine goes_ Try.func65 (by kernel_rfl) rfl #[.pointer (some ⟨pz1, 0, none⟩), .pointer (some ⟨pt, 0, none⟩)] (by rfl) rfl rfl (by (try simp only [List.map_toArray, List.map_cons, List.map_nil]); first | done | rfl) ?_
   refine (ratMinus_any pz1 pt ((ri : Int) : Rat) (hts n l (t : Int)) 31 w1 HZ1.out (RI.below HPT.out HB1.out) (by omega) HRI.out HT31.out).mono ?_
   rintro e w2 ⟨pz2, rfl, hpz, hri, hb1⟩
   have HB2 := Aside0.mk (below_step HB1.out hb1)
   have HZ2 := Aside0.mk hri
   have HO2 := Aside0.mk hb1
   clear hpz hri hb1
   refine ⟨_, rfl, ?_⟩
   refine hK.out _ _ (⟨(HB2.out.cell (World.block_lt_of_cell? _ _ c0)).trans c0, (HB2.out.cell (World.block_lt_of_cell? _ _ c1)).trans c1, (HB2.out.cell (World.block_lt_of_cell? _ _ c2)).trans c2, (HB2.out.cell (World.block_lt_of_cell? _ _ e0)).trans e0, (HB2.out.cell (World.block_lt_of_cell? _ _ e2)).trans e2⟩) (fun hHeld => ?_)
   clear hK K_
   refine norm_ (a' := ?_) ?_ ?_
   rotate_left
   ·show Act.put _ (some 26) _ = _
    simp only [Act.put, List.setIfInBounds_toArray, List.set_cons_zero, List.set_cons_succ, i64_w, i32_w]
    rfl
   refine one_ (i := 15) (N := some 32) #[true, true, true, true, true, true, true, true, true, true, true, true, true, true, true, true, false, false, false] rfl rfl (by kernel_rfl) (by decide) (fun K_ hK => ?_)
   refine goes_ Try.func68 (by kernel_rfl) rfl #[.pointer (some ⟨pz2, 0, none⟩), .pointer (some ⟨pf, 0, none⟩)] (by rfl) rfl rfl (by (try simp only [List.map_toArray, List.map_cons, List.map_nil]); first | done | rfl) ?_
   refine (ratPlus_any pz2 pf (((ri : Int) : Rat) - hts n l (t : Int)) (hts n l (f : Int)) 63 w2 HZ2.out (RI.below HPF.out HB2.out) (by omega) (Sm.sub HRI.out HT31.out) (Sm.mono (by omega) HF31.out)).mono ?_
   rintro e w3 ⟨pz3, rfl, hpz, hri, hb1⟩
   have HB3 := Aside0.mk (below_step HB2.out hb1)
   have HZ3 := Aside0.mk hri
   have HO3 := Aside0.mk hb1
   clear hpz hri hb1
   refine ⟨_, rfl, ?_⟩
   refine hK.out _ _ (⟨(HB3.out.cell (World.block_lt_of_cell? _ _ c0)).trans c0, (HB3.out.cell (World.block_lt_of_cell? _ _ c1)).trans c1, (HB3.out.cell (World.block_lt_of_cell? _ _ c2)).trans c2, (HB3.out.cell (World.block_lt_of_cell? _ _ e0)).trans e0, (HB3.out.cell (World.block_lt_of_cell? _ _ e2)).trans e2⟩) (fun hHeld => ?_)
   clear hK K_
   refine norm_ (a' := ?_) ?_ ?_
   rotate_left
   ·show Act.put _ (some 32) _ = _
    simp only [Act.put, List.setIfInBounds_toArray, List.set_cons_zero, List.set_cons_succ, i64_w, i32_w]
    rfl
   refine one_ (i := 16) (N := some 33) #[true, true, true, true, true, true, true, true, true, true, true, true, true, true, true, true, true, false, false] rfl rfl (by kernel_rfl) (by decide) (fun K_ hK => ?_)
   refine value_ (v := .slice (some ⟨w3.heap.size, 0, none⟩) 1 1) (w1 := w3.alloc (.cells #[.pointer (some ⟨pz3, 0, none⟩)] 74)) (by rfl) rfl ?_ ?_
   ·go_simp
    first | done | exact ⟨rfl, rfl⟩ | rfl
   have HBA := Aside0.mk (below_step HB3.out (below_alloc (Below.refl w3.heap.size w3) (.cells #[.pointer (some ⟨pz3, 0, none⟩)] 74)))
   have HCA := Aside0.mk ((blk_cell (heap_alloc_new w3 (.cells #[.pointer (some ⟨pz3, 0, none⟩)] 74)) 0).trans rfl)
   have HZA := Aside0.mk (RI.below HZ3.out (below_alloc (Below.refl w3.heap.size w3) (.cells #[.pointer (some ⟨pz3, 0, none⟩)] 74)))
   refine hK.out _ _ (⟨(HBA.out.cell (World.block_lt_of_cell? _ _ c0)).trans c0, (HBA.out.cell (World.block_lt_of_cell? _ _ c1)).trans c1, (HBA.out.cell (World.block_lt_of_cell? _ _ c2)).trans c2, (HBA.out.cell (World.block_lt_of_cell? _ _ e0)).trans e0, (HBA.out.cell (World.block_lt_of_cell? _ _ e2)).trans e2⟩) (fun hHeld => ?_)
   clear hK K_
   refine norm_ (a' := ?_) ?_ ?_
   rotate_left
   ·show Act.put _ (some 33) _ = _
    simp only [Act.put, List.setIfInBounds_toArray, List.set_cons_zero, List.set_cons_succ, i64_w, i32_w]
    rfl
   refine last_ (i := 17) (N := some 34) #[true, true, true, true, true, true, true, true, true, true, true, true, true, true, true, true, true, true, false] rfl rfl (by kernel_rfl) (by decide) (fun K_ hK => ?_)
   refine Cb.append_step (by rfl) (.tmp 17) (.tmp 33) 69 74 (.pointer none) 8 rfl Try.underlying69 info74 rfl (Pv.ptr _) (by decide) b cap2 w3.heap.size i us (.pointer (some ⟨pz3, 0, none⟩)) HI.out.len rfl rfl HCA.out rfl (Pv.ptr _) (HI.out.below HBA.out).2.1 (by rw [HI.out.len]; omega) ?_
   intro g1 cap1 w9 h1 h2 h3
   have HN := Aside0.mk (RowIn.growF HI.out HBA.out HZA.out h1 h2 h3 HXF.out)
   clear h1 h2 h3
   refine hK.out _ _ ?_
   clear hK K_
   refine norm_ (a' := ?_) ?_ ?_
   rotate_left
   ·show Act.put _ (some 34) _ = _
    simp only [Act.put, List.setIfInBounds_toArray, List.set_cons_zero, List.set_cons_succ, i64_w, i32_w]
    rfl
   refine pure_ (i := 18) (N := some 4) (v := ?_) (a' := ?_) #[true, true, true, true, true, true, true, true, true, true, true, true, true, true, true, true, true, true, true] rfl rfl (by kernel_rfl) (fun _ _ _ h => h) (Or.inl ⟨by rfl, ?_⟩) ?_ ?_
   rotate_left
   ·intro w'
    go_simp
    with_reducible rfl
   rotate_left
   ·simp only [Act.put, List.setIfInBounds_toArray, List.set_cons_zero, List.set_cons_succ, i64_w, i32_w]
    rfl
   refine done_ (by kernel_rfl) ?_
   go_wp2_with (fail)
   go_roundw
   case rel => exact ⟨i + 1, g1, cap1, _, by go_num, by go_num, by omega, HN⟩
   case measure => simp [intOf]; omega
  ·obtain rfl : l.length = i := by omega
   have p1 : decide ((l.length : Int) < (l.length : Int)) = false := decide_eq_false (by omega)
   go_wp2_with (fail)
   go_ret
   exact ⟨b, cap2, us, rfl, HI.out.outer (below_alloc (Below.refl _ _) _) HH.out.2.2.2⟩
end Go.Proofs.Ytkafbmanmffliaa.Gu

/- The program's cofactor of two points. -/
namespace Go.Proofs.Ytkafbmanmffliaa.Gx
open Go Go.RowKit YtkafbmanmffliaaW.PrintWords YtkafbmanmffliaaW.PrintLast YtkafbmanmffliaaW.PrintMore Q Bg Dd Bi Rt Ru Rx Ra Gd Gf Ge Gi Hb Ha Hc Gs Gn Ka Kc Ke Kf Gt Gu
set_option linter.unusedVariables false
set_option linter.unusedSimpArgs false
end Go.Proofs.Ytkafbmanmffliaa.Gx

/- The program's redundancies. -/
namespace Go.Proofs.Ytkafbmanmffliaa.Gy
open Go Go.RowKit YtkafbmanmffliaaW.PrintWords YtkafbmanmffliaaW.PrintLast YtkafbmanmffliaaW.PrintMore Q Bg Dd Bi Rt Ru Rx Ra Gd Gf Ge Gi Hb Ha Hc Gs Gn Ka Kc Ke Kf Gt Gu Gx
set_option linter.unusedVariables false
set_option linter.unusedSimpArgs false
def red (n : Nat) (l : List S32) (s : S32) : Rat := ((1 : Int) : Rat) - (s.f3 : Rat) * cof n l s.f0 s.f1
end Go.Proofs.Ytkafbmanmffliaa.Gy

/- The program's list: fractions as a denominator and numerators. -/
namespace Go.Proofs.Ytkafbmanmffliaa.Gw
open Go Go.RowKit YtkafbmanmffliaaW.PrintWords YtkafbmanmffliaaW.PrintLast YtkafbmanmffliaaW.PrintMore Q Bg Dd Bi Bj Bk Bm Bn Rt Ru Rx Ra Gd Gf Ge Gi Hc
set_option linter.unusedVariables false
set_option linter.unusedSimpArgs false
def lc (F : Nat → Rat) : Nat → Nat
 | 0 => 1
 | k + 1 => Nat.lcm (lc F k) (F k).den
theorem T.of_cb {B : Nat} {W : World} {g cap : Nat} {xs : List Int} (h : Cb W 2 g cap (xs.map (Value.int .i64))) (hB : B ≤ g) : T B W (.slice (some ⟨g, 0, none⟩) xs.length cap) xs := by
 obtain ⟨cs, h1, h2, h3, h4, h5, h6⟩ := h
 have ho : W.ownsRow B 2 1 (.slice (some ⟨g, 0, none⟩) xs.length cap) xs.length (encs (Value.int .i64) xs) :=
  ⟨by simp [encs], .inr ⟨g, cap, cs, rfl, hB, h1, by simpa using h3, h4, by simpa using h2, by simpa [encs] using h6⟩⟩
 exact Kd.R_of_own ho (fun _ _ => trivial)
def NumIn (wq wz : World) (b cap : Nat) (xs : List Int) : Prop := wq.heap.size ≤ b ∧ Cb wz 2 b cap (xs.map (Value.int .i64)) ∧ Below wq.heap.size wq wz
theorem NumIn.below {wq wz w1 : World} {b cap : Nat} {xs : List Int} (h : NumIn wq wz b cap xs) (hb : Below wz.heap.size wz w1) : NumIn wq w1 b cap xs := ⟨h.1, h.2.1.below hb, below_step h.2.2 hb⟩
theorem NumIn.new (wq : World) : NumIn wq (wq.alloc (.cells #[] 2)) wq.heap.size 0 [] := ⟨Nat.le_refl _, Cb.nil_new _ _, below_alloc (Below.refl _ _) _⟩
theorem NumIn.grow {wq wr w1 w2 : World} {b cap g1 cap1 : Nat} {xs : List Int} {z : Int} (h : NumIn wq wr b cap xs) (hb1 : Below wr.heap.size wr w1) (hc : Cb w2 2 g1 cap1 (xs.map (Value.int .i64) ++ [.int .i64 z])) (hat : g1 = b ∨ w1.heap.size ≤ g1) (hg : w1.grownBy w2 (some b)) :
  NumIn wq w2 g1 cap1 (xs ++ [z]) := by
 have h1 := h.below hb1
 have hs := h1.2.2.size
 refine ⟨?_, by rw [List.map_append]; exact hc, below_grownB h1.2.2 (Nat.le_refl _) hg h.1⟩
 have := h1.1
 rcases hat with e | e <;> omega
def numL (F : Nat → Rat) (L m : Nat) : List Int := (List.range m).map (fun k => (F k * ((L : Int) : Rat)).num)
end Go.Proofs.Ytkafbmanmffliaa.Gw

/- Plain: the program's list of fractions over one denominator is the reference's in lowest terms; the reference's l10Gcd and l10Lowest. -/
namespace Go.Proofs.Ytkafbmanmffliaa.Lo2
open Go Go.RowKit YtkafbmanmffliaaW.PrintWords Q Ra Gw Lo PuS
set_option linter.unusedVariables false
def lowL (D : Nat) (S : List Int) : List Int := S.map (fun s => s / (gcdAll D S : Int))
theorem abs_eq (a : Int) (h0 : -9223372036854775808 < a) (h1 : a ≤ 9223372036854775807) : spec_l02Abs.f a = some (a.natAbs : Int) := by
 unfold spec_l02Abs.f spec_l00Max.f
 rw [wrap_id (by omega) (by omega)]
 split
 ·simp only [Option.bind_some, Option.some.injEq]; omega
 ·simp only [Option.bind_some, Option.some.injEq]; omega
theorem gcd_l0 : ∀ (k a b : Nat), b < k → spec_l10Gcd.l0 k (a : Int) (b : Int) = some ((Nat.gcd a b : Nat) : Int) := by
 intro k
 induction k with
 | zero => intro a b h; omega
 | succ k ih =>
  intro a b h
  simp only [spec_l10Gcd.l0]
  by_cases hb : b = 0
  ·subst hb
   rw [if_neg (by omega), Nat.gcd_zero_right]
  ·rw [if_pos (by omega), if_neg (by omega), Int.tmod_eq_emod_of_nonneg (by omega), ← Int.natCast_emod]
   have hm := Nat.mod_lt a (show b > 0 by omega)
   rw [ih b (a % b) (by omega), Nat.gcd_comm a b, Nat.gcd_rec b a, Nat.gcd_comm]
theorem gcd_eq (k : Nat) (a b : Int) (ha0 : -9223372036854775808 < a) (ha1 : a ≤ 9223372036854775807) (hb0 : -9223372036854775808 < b) (hb1 : b ≤ 9223372036854775807) (hk : b.natAbs < k) : spec_l10Gcd.f k a b = some ((Nat.gcd a.natAbs b.natAbs : Nat) : Int) := by
 unfold spec_l10Gcd.f
 rw [abs_eq a ha0 ha1, abs_eq b hb0 hb1]
 exact gcd_l0 k _ _ hk
theorem gcdAll_le {D : Nat} (hD : 0 < D) (S : List Int) : 0 < gcdAll D S ∧ gcdAll D S ≤ D :=
 ⟨Nat.pos_of_dvd_of_pos (gcd_dvd S D).1 hD, Nat.le_of_dvd hD (gcd_dvd S D).1⟩
theorem low_l1 {S : List Int} {D g : Nat} (hg : 0 < g) (hD : D < 9223372036854775808) (hs : ∀ s, s ∈ S → s.natAbs < 9223372036854775808) (hd : ∀ s, s ∈ S → g ∣ s.natAbs) (hl : S.length ≤ 1048576) : ∀ (d i k : Nat), i + d = S.length → d < k →
  spec_l10Lowest.l1 k S (D : Int) (g : Int) ((S.take i).map (fun s => s / (g : Int))) i = some (((D / g : Nat) : Int), S.map (fun s => s / (g : Int))) := by
 intro d
 induction d with
 | zero =>
  intro i k hi hk
  obtain ⟨k, rfl⟩ : ∃ m, k = m + 1 := ⟨k - 1, by omega⟩
  simp only [spec_l10Lowest.l1]
  rw [if_neg (by omega), if_neg (by omega), List.take_of_length_le (by omega), Int.tdiv_eq_ediv_of_nonneg (by omega), ← Int.natCast_ediv]
  have := Nat.div_le_self D g
  obtain ⟨q, hq⟩ : ∃ q, q = D / g := ⟨_, rfl⟩
  rw [← hq] at this ⊢
  rw [wrap_id (by omega) (by omega)]
 | succ d ih =>
  intro i k hi hk
  obtain ⟨k, rfl⟩ : ∃ m, k = m + 1 := ⟨k - 1, by omega⟩
  have hlt : i < S.length := by omega
  have hr : rd S i = S[i] := by simp [rd, List.getD_eq_getElem?_getD, hlt]
  have hm := List.getElem_mem hlt
  have h1 := hs _ hm
  have h2 : (g : Int) ∣ S[i] := Int.natAbs_dvd_natAbs.1 (by simpa using hd _ hm)
  have h3 : (S[i] / (g : Int)).natAbs ≤ S[i].natAbs := by
   rw [Int.natAbs_ediv_of_dvd h2, Int.natAbs_natCast]
   exact Nat.div_le_self _ _
  simp only [spec_l10Lowest.l1]
  rw [if_pos (by omega), if_pos (by omega), if_neg (by omega), if_pos (by simp; omega), hr, Int.tdiv_eq_ediv_of_dvd h2, wrap_id (by omega) (by omega), wrap_id (by omega) (by omega)]
  have e := ih (i + 1) k (by omega) (by omega)
  rw [List.take_succ_eq_append_getElem hlt, List.map_append] at e
  exact_mod_cast e
theorem low_l0 {S : List Int} {D M : Nat} (hD0 : 0 < D) (hD : D < 9223372036854775808) (hs : ∀ s, s ∈ S → s.natAbs < 9223372036854775808) (hM : ∀ s, s ∈ S → s.natAbs < M) (hl : S.length ≤ 1048576) : ∀ (d i k : Nat), i + d = S.length → M + d + S.length + 2 < k →
  spec_l10Lowest.l0 k S (D : Int) ((gcdAll D (S.take i) : Nat) : Int) i = some (((D / gcdAll D S : Nat) : Int), lowL D S) := by
 intro d
 induction d with
 | zero =>
  intro i k hi hk
  obtain ⟨k, rfl⟩ : ∃ m, k = m + 1 := ⟨k - 1, by omega⟩
  simp only [spec_l10Lowest.l0]
  rw [if_neg (by omega), List.take_of_length_le (by omega)]
  have := low_l1 (S := S) (D := D) (g := gcdAll D S) (gcdAll_le hD0 S).1 hD hs (fun s h => (gcd_dvd S D).2 s h) hl S.length 0 k (by omega) (by omega)
  exact this
 | succ d ih =>
  intro i k hi hk
  obtain ⟨k, rfl⟩ : ∃ m, k = m + 1 := ⟨k - 1, by omega⟩
  have hlt : i < S.length := by omega
  have hr : rd S i = S[i] := by simp [rd, List.getD_eq_getElem?_getD, hlt]
  have hm := List.getElem_mem hlt
  have h1 := hs _ hm
  have h2 := hM _ hm
  have h3 := (gcdAll_le hD0 (S.take i)).2
  simp only [spec_l10Lowest.l0]
  rw [if_pos (by omega), if_pos (by omega), hr, gcd_eq k _ _ (by omega) (by omega) (by omega) (by omega) (by omega), Option.bind_some, Int.natAbs_natCast, wrap_id (by omega) (by omega)]
  have e := ih (i + 1) k (by omega) (by omega)
  rw [List.take_succ_eq_append_getElem hlt] at e
  have e2 : gcdAll D (S.take i ++ [S[i]]) = Nat.gcd (gcdAll D (S.take i)) S[i].natAbs := by unfold gcdAll; rw [List.foldl_append]; rfl
  rw [e2] at e
  exact_mod_cast e
theorem lowest_eq {S : List Int} {D M : Nat} (hD0 : 0 < D) (hD : D < 9223372036854775808) (hM : ∀ s, s ∈ S → s.natAbs < M) (hM2 : M ≤ 9223372036854775808) (hl : S.length ≤ 1048576) (k : Nat) (hk : M + S.length + S.length + 2 < k) :
  spec_l10Lowest.f k S (D : Int) = some (((D / gcdAll D S : Nat) : Int), lowL D S) := by
 have := low_l0 hD0 hD (fun s h => by have := hM s h; omega) hM hl S.length 0 k (by omega) (by omega)
 exact this
end Go.Proofs.Ytkafbmanmffliaa.Lo2

/- The program's AdjustSurvey, ResidualsOf, RedundanciesOf, CofactorOf, RiseBetween: what they return. -/
namespace Go.Proofs.Ytkafbmanmffliaa.Ex
open Go Go.RowKit YtkafbmanmffliaaW.PrintWords YtkafbmanmffliaaW.PrintLast YtkafbmanmffliaaW.PrintMore Q Bg Dd Bi Rt Ru Rx Ra Gd Gf Ge Hb Ha Hc Gs Gn Kc Ke Kf Gt Gu Gx Gy Gv Lo Lo2
set_option linter.unusedVariables false
set_option linter.unusedSimpArgs false
theorem conn_any (p : Int) (l : List S32) (A : Option Addr) (c : Nat) (w : World) (hr : Kd.C k32 w A l.length l) (hc : l.length ≤ c) (hl : l.length ≤ 1048576) :
  Calls Try.prog 40 #[.agg #[.int .i64 p, .slice A l.length c]] w fun e w' => e = .returned (.bool (Gm.connB p l)) ∧ Below w.heap.size w w' :=
 Hw.isConn_any p l A c w hr hl
def ptsB (p : Int) (l : List S32) (a b : Int) : Bool := Gm.connB p l && (inB 0 (p - 1) a && inB 0 (p - 1) b)
theorem conn_nat {p : Int} {l : List S32} (h : Gm.connB p l = true) : ∃ n : Nat, p = (n : Int) + 1 := by
 have hv := h
 unfold Gm.connB surveyB inB at hv
 simp only [Bool.and_eq_true, decide_eq_true_eq] at hv
 exact ⟨p.toNat - 1, by omega⟩
def dn (n : Nat) (l : List S32) : Nat := (den l n).toNat
theorem dn_pos {n : Nat} {l : List S32} (hc : Gm.connB ((n : Int) + 1) l = true) : 0 < dn n l ∧ dn n l ≤ 1073741824 ∧ ((dn n l : Nat) : Int) = den l n := by
 have h := ok_rgt hc
 have hd := h.pos n (Nat.le_refl _)
 rw [h.last] at hd
 have hn := conn_n hc
 have hd2 : den l n ≤ 1073741824 := by
  rw [← h.last]
  obtain ⟨m, rfl⟩ : ∃ m, n = m + 1 := ⟨n - 1, by omega⟩
  rw [LL_succ _ m (by omega)]
  exact (h.size m m m (by omega) (by omega) (by omega)).2
 unfold dn
 omega
theorem nu_size {n : Nat} {l : List S32} {right : List Int} (h : Ok n l right) (p : Int) (hp : p ≤ n) : -1073741824 ≤ nu l right n p ∧ nu l right n p ≤ 1073741824 := by
 unfold nu
 split
 ·omega
 ·exact h.size n (p.toNat - 1) n (Nat.le_refl _) (by omega) (Nat.le_refl _)
theorem mkq {a : Int} {d : Nat} : mkRat a d = (a : Rat) / ((d : Int) : Rat) := by rw [Rat.mkRat_eq_div, Rat.intCast_natCast]
def resN (n : Nat) (l : List S32) (s : S32) : Int := s.f2 * den l n - nu l (rgt n l) n s.f1 + nu l (rgt n l) n s.f0
def cofN (n : Nat) (l : List S32) (a b : Int) : Int := nu l (rco n a b) n b - nu l (rco n a b) n a
def redN (n : Nat) (l : List S32) (s : S32) : Int := den l n - s.f3 * cofN n l s.f0 s.f1
theorem den_rat {n : Nat} {l : List S32} (hc : Gm.connB ((n : Int) + 1) l = true) : (((dn n l : Nat) : Int) : Rat) = (den l n : Rat) ∧ (den l n : Rat) ≠ 0 := ⟨by rw [(dn_pos hc).2.2], den_ne (ok_rgt hc)⟩
theorem res_mk {n : Nat} {l : List S32} (hc : Gm.connB ((n : Int) + 1) l = true) (s : S32) : res n l s = mkRat (resN n l s) (dn n l) := by
 obtain ⟨h1, h2⟩ := den_rat hc
 rw [mkq, h1]
 unfold res dif hts xs resN
 push_cast
 grind
theorem resN_size {n : Nat} {l : List S32} (hc : Gm.connB ((n : Int) + 1) l = true) (s : S32) (hs : s ∈ l) : (resN n l s).natAbs < 1099511627776 := by
 have hv := mem_at (conn_v hc) s hs
 have h1 := nu_size (ok_rgt hc) s.f1 (by omega)
 have h2 := nu_size (ok_rgt hc) s.f0 (by omega)
 have h3 := dn_pos hc
 have h4 := mulb (X := 100) (Y := 1073741824) (a := s.f2) (b := den l n) (by decide) (by decide) (by unfold Bd; omega) (by unfold Bd; omega)
 unfold Bd at h4
 unfold resN
 omega
theorem sm_mk {a : Int} {d : Nat} {k : Nat} (hd : 0 < d) (h1 : a.natAbs < 2 ^ k) (h2 : d < 2 ^ k) : Sm k (mkRat a d) := by
 have := Sm.divInt (a := a) (b := (d : Int)) (by omega) h1 (by rw [Int.natAbs_natCast]; exact h2)
 rwa [Rat.divInt_ofNat] at this
theorem rd_mem {l : List S32} {k : Nat} (hk : k < l.length) : rd_T32 l (k : Int) = l[k] := by simp only [rd_T32, Int.toNat_natCast]; rw [List.getD_eq_getElem?_getD, List.getElem?_eq_getElem hk]; rfl
def wp (p : Int) : Nat := p.toNat - 1
theorem wp_eq (n : Nat) : wp ((n : Int) + 1) = n := by unfold wp; omega
def adjL (p : Int) (l : List S32) : List Int := if Gm.connB p l = true then lowL (dn (wp p) l) (nuL l (rgt (wp p) l) (wp p)) else []
def adjD (p : Int) (l : List S32) : Int := if Gm.connB p l = true then ((dn (wp p) l / gcdAll (dn (wp p) l) (nuL l (rgt (wp p) l) (wp p)) : Nat) : Int) else 0
def resL (p : Int) (l : List S32) : List Int := if Gm.connB p l = true then lowL (dn (wp p) l) (l.map (resN (wp p) l)) else []
def resD (p : Int) (l : List S32) : Int := if Gm.connB p l = true then ((dn (wp p) l / gcdAll (dn (wp p) l) (l.map (resN (wp p) l)) : Nat) : Int) else 0
def redL (p : Int) (l : List S32) : List Int := if Gm.connB p l = true then lowL (dn (wp p) l) (l.map (redN (wp p) l)) else []
def redD (p : Int) (l : List S32) : Int := if Gm.connB p l = true then ((dn (wp p) l / gcdAll (dn (wp p) l) (l.map (redN (wp p) l)) : Nat) : Int) else 0
def Post3 (w : World) (d : Int) (xs : List Int) (ok : Bool) (e : Ending) (w' : World) : Prop := ∃ v : Value, e = .returned (.tuple #[.int .i64 d, v, .bool ok]) ∧ T w.heap.size w' v xs ∧ Below w.heap.size w w'
end Go.Proofs.Ytkafbmanmffliaa.Ex

/- The reference's l10Adjusted, l10Cofactor and l10Redundancies. -/
namespace Go.Proofs.Ytkafbmanmffliaa.Sp2
open Go Go.RowKit YtkafbmanmffliaaW.PrintWords YtkafbmanmffliaaW.PrintLast YtkafbmanmffliaaW.PrintMore Q Gd Gf Ge Gi Hb Ha Hc Gs Gn Kc Ke Kf Gt Gv Gw Ex
set_option linter.unusedVariables false
set_option linter.unusedSimpArgs false
set_option maxHeartbeats 4000000 in
set_option maxRecDepth 100000 in
theorem specAdj_any (n : Nat) (g0 : Nat) (l : List S32) (hc : Gm.connB ((n : Int) + 1) l = true) (A : Option Addr) (c : Nat) (w : World) (hb : w.heap[g0]? = some (.cells #[.int .i64 ((n : Int) + 1), .slice A l.length c] 26 (0, 0))) (hr : Kd.C k32 w A l.length l) :
  Calls Try.prog 77 #[.pointer (some ⟨g0, 0, none⟩)] w fun e w' => ∃ v : Value, e = .returned (.tuple #[v, .int .i64 (den l n)]) ∧ T w.heap.size w' v (nuL l (rgt n l) n) ∧ Below w.heap.size w w' := by
 have hu26 := Try.underlying26
 have hu32 := Try.underlying32
 have hn := conn_n hc
 have hn4 := hn.2.1
 have hl8 := hn.2.2
 have mk := mk28 (n + 1) (by omega)
 rw [show ((n + 1 : Nat) : Int) = (n : Int) + 1 by omega] at mk
 have HR := Aside0.mk hr
 have HX := Aside0.mk hb
 have HC := Aside0.mk hc
 have HV := Aside0.mk (conn_v hc)
 have c0 : w.cell? ⟨g0, 0, none⟩ = some (.int .i64 ((n : Int) + 1)) := (blk_cell hb 0).trans rfl
 clear hr hc hn hb
 go_enter Try.func77, Try.ntmps77
 go_wp2_with (fail)
 have t0 := Aside0.mk (T.made w (n + 1) (by omega) (Nat.le_refl w.heap.size))
 have tb := Aside0.mk (below_alloc (Below.refl w.heap.size w) (.cells (madeCells #[.int .i64 0] (n + 1)) 2))
 obtain ⟨g, hg⟩ : ∃ g, g = w.heap.size := ⟨_, rfl⟩
 rw [← hg]
 rw [← hg] at t0
 have HG := Aside0.mk hg.symm
 clear hg mk c0
 go_loopw [5] (fun v5 wz => ∃ i : Nat, v5 = .int .i64 (i : Int) ∧ i ≤ l.length ∧ Aside0 (T g wz (.slice (some ⟨g, 0, none⟩) (n + 1) (n + 1)) (rgtAt n l i)) ∧ Aside0 (Below w.heap.size w wz)) (fun v _ => l.length - (intOf v).toNat)
 case atStart => exact ⟨0, rfl, by omega, ⟨by rw [rgtAt_zero]; exact t0.out⟩, tb⟩
 case round =>
  clear t0 tb
  obtain ⟨i, rfl, hi, HT, HB⟩ := hrel
  by_cases hlt : i < l.length
  ·have p1 : decide ((i : Int) < (l.length : Int)) = true := decide_eq_true (by omega)
   obtain ⟨ad, e, x0, x1, x2, x3⟩ := at_T32 (Kd.C_below HR.out HB.out) (i : Int) (by omega) (by omega)
   subst e
   rw [Int.toNat_natCast] at x0 x1 x2 x3
   have cy : wr.cell? ⟨g0, 1, none⟩ = some (.slice (some ad) l.length c) := (blk_cell (blk_below HX.out HB.out) 1).trans rfl
   have hm : rd_T32 l i ∈ l := by simp only [rd_T32, Int.toNat_natCast]; rw [List.getD_eq_getElem?_getD, List.getElem?_eq_getElem hlt]; simp
   have hva := mem_at HV.out _ hm
   have HSU := Aside0.mk (rgtAt_succ n l i hlt)
   obtain ⟨s, hs⟩ : ∃ s, s = rd_T32 l i := ⟨_, rfl⟩
   rw [← hs] at x0 x1 x2 x3 hva HSU
   clear hs hm
   obtain ⟨f, t, ri, wt⟩ := s
   dsimp only at x0 x1 x2 x3 hva
   obtain ⟨y0, y1, y2, y3, y4, y5, y6, y7, y8⟩ := hva
   obtain ⟨f, rfl⟩ : ∃ q : Nat, f = q := ⟨f.toNat, by omega⟩
   obtain ⟨t, rfl⟩ : ∃ q : Nat, t = q := ⟨t.toNat, by omega⟩
   obtain ⟨r, hr⟩ : ∃ r, r = rgtAt n l i := ⟨_, rfl⟩
   have hrl : r.length = n + 1 := by rw [hr]; exact rgtAt_len n l i
   have hz : ∀ p : Int, -2400 ≤ rd r p ∧ rd r p ≤ 2400 := fun p => by rw [hr]; exact rgtAt_size HV.out i p
   rw [← hr] at HT HSU
   have hwr : -300 ≤ wt * ri ∧ wt * ri ≤ 300 := by
    have c3 : wt = 1 ∨ wt = 2 ∨ wt = 3 := by omega
    rcases c3 with e | e | e <;> rw [e] <;> omega
   obtain ⟨k, hk⟩ : ∃ k, k = wt * ri := ⟨_, rfl⟩
   rw [← hk] at hwr
   have hw1 : wrap64 (wt * ri) = k := by rw [← hk]; unfold wrap64; omega
   have HSU2 := Aside0.mk (show rgtAt n l (i + 1) = (r.set t (rd r (t : Int) + k)).set f (rd (r.set t (rd r (t : Int) + k)) (f : Int) - k) by rw [HSU.out, hk]; rfl)
   obtain ⟨v1, hv1⟩ : ∃ v1, v1 = rd r (t : Int) + k := ⟨_, rfl⟩
   have hzt := hz t
   have hw2 : wrap64 (rd r (t : Int) + k) = v1 := by rw [← hv1]; unfold wrap64; omega
   obtain ⟨r1, hr1⟩ : ∃ r1, r1 = r.set t v1 := ⟨_, rfl⟩
   have hzf := (ad_size (r := r) (t := t) (f := f) (m := 2400) (k := 0) (c := 0) (by omega) (by omega) (by omega) hz (by omega) (by omega) (by omega) (by omega) (by omega) f)
   have hzf1 : -2700 ≤ rd r1 (f : Int) ∧ rd r1 (f : Int) ≤ 2700 := by
    have e := rd_set (r := r) (t := t) (p := f) (v := v1) (by omega) (by omega) (by omega)
    rw [Int.toNat_natCast, ← hr1] at e
    rw [e]
    have := hz f
    split <;> omega
   obtain ⟨v2, hv2⟩ : ∃ v2, v2 = rd r1 (f : Int) - k := ⟨_, rfl⟩
   have hw3 : wrap64 (rd r1 (f : Int) - k) = v2 := by rw [← hv2]; unfold wrap64; omega
   have HSU3 := Aside0.mk (show rgtAt n l (i + 1) = r1.set f v2 by rw [HSU2.out, ← hv1, ← hr1, ← hv2])
   have HR1 := Aside0.mk hr1
   obtain ⟨vt, hvt⟩ : ∃ vt, vt = rd r (t : Int) := ⟨_, rfl⟩
   rw [← hvt] at hw2
   obtain ⟨vf, hvf⟩ : ∃ vf, vf = rd r1 (f : Int) := ⟨_, rfl⟩
   rw [← hvf] at hw3
   have HVT := Aside0.mk hvt
   have HVF := Aside0.mk hvf
   have HRL := Aside0.mk hrl
   clear hr hz hwr hk hv1 hv2 hzt hzf hzf1 hr1 hvt hvf hrl HSU HSU2
   have HBA := Aside0.mk (below_alloc (Below.refl wr.heap.size wr) (.cells #[.int .i64 (f : Int), .int .i64 (t : Int), .int .i64 ri, .int .i64 wt] 32))
   have HNA := Aside0.mk (heap_alloc_new wr (.cells #[.int .i64 (f : Int), .int .i64 (t : Int), .int .i64 ri, .int .i64 wt] 32))
   have HT1 := Aside0.mk (HT.out.below HBA.out)
   obtain ⟨z0, z1⟩ := HT1.out.cell t (by omega)
   rw [← HVT.out] at z0
   have i1 : (0 ≤ (t : Int)) = True := eq_true (by omega)
   have i2 : ((t : Int) < (n : Int) + 1) = True := eq_true (by omega)
   have i3 : (0 ≤ (f : Int)) = True := eq_true (by omega)
   have i4 : ((f : Int) < (n : Int) + 1) = True := eq_true (by omega)
   go_wp2_with (fail)
   go_region
   have hp1 := HT1.out.put t v1
   have hb1 := (HB.out.trans (HBA.out.mono (HB.out.size))).setCell (p := ⟨g, t, none⟩) (by show w.heap.size ≤ g; rw [HG.out]; exact Nat.le_refl _) (.int .i64 v1)
   rw [← HR1.out] at hp1
   have HT2 := Aside0.mk (hp1.1.below (below_drew (Below.refl _ _)))
   have HB2 := Aside0.mk (below_drew hb1)
   have hgs := HT.out.lt (k := g) rfl
   have HN2 := Aside0.mk (blk_drew (blk_grown HNA.out hp1.2 (by intro e; have := Option.some.inj e; omega)))
   clear hp1 hb1 hgs z0 z1 cy
   obtain ⟨wa, hwa⟩ : ∃ wa, wa = ((wr.alloc (.cells #[.int .i64 (f : Int), .int .i64 (t : Int), .int .i64 ri, .int .i64 wt] 32)).setCell ⟨g, t, none⟩ (.int .i64 v1)).drew := ⟨_, rfl⟩
   rw [← hwa] at HT2 HB2 HN2
   rw [← hwa]
   clear hwa
   obtain ⟨z0, z1⟩ := HT2.out.cell f (by omega)
   rw [← HVF.out] at z0
   have k0 : wa.cell? ⟨wr.heap.size, 0, none⟩ = some (.int .i64 (f : Int)) := (blk_cell HN2.out 0).trans rfl
   have k2 : wa.cell? ⟨wr.heap.size, 2, none⟩ = some (.int .i64 ri) := (blk_cell HN2.out 2).trans rfl
   have k3 : wa.cell? ⟨wr.heap.size, 3, none⟩ = some (.int .i64 wt) := (blk_cell HN2.out 3).trans rfl
   go_wp2_with (fail)
   go_region
   have hp2 := HT2.out.put f v2
   have hb2 := HB2.out.setCell (p := ⟨g, f, none⟩) (by show w.heap.size ≤ g; rw [HG.out]; exact Nat.le_refl _) (.int .i64 v2)
   rw [← HSU3.out] at hp2
   have HT3 := Aside0.mk (hp2.1.below (below_drew (Below.refl _ _)))
   have HB3 := Aside0.mk (below_drew hb2)
   clear hp2 hb2
   go_wp2_with (fail)
   go_roundw
   case rel => exact ⟨i + 1, by go_num, by omega, HT3, HB3⟩
   case measure => simp [intOf]; omega
  ·obtain rfl : l.length = i := by omega
   have p1 : decide ((l.length : Int) < (l.length : Int)) = false := decide_eq_false (by omega)
   rw [rgtAt_all] at HT
   have cy : wr.cell? ⟨g0, 1, none⟩ = some (.slice A l.length c) := (blk_cell (blk_below HX.out HB.out) 1).trans rfl
   have hC : Kd.C (Kd.int .i64) wr (some ⟨g, 0, none⟩) (rgt n l).length (rgt n l) := (Kd.R_reads' HT.out).2.2
   have hsv := solveS2_any n g0 l (rgt n l) (ok_rgt HC.out) hn4 A c (some ⟨g, 0, none⟩) (n + 1) wr (blk_below HX.out HB.out) (Kd.C_below HR.out HB.out) hC (rgt_len n l) (rgt_size HV.out)
   rw [rgt_len] at hsv
   clear hC
   go_wp2_with (fail)
   refine hsv.mono ?_
   rintro e w1 ⟨v, rfl, h1, h2⟩
   have H1 := Aside0.mk h1
   have H2 := Aside0.mk (below_step HB.out h2)
   have H3 := Aside0.mk HB.out.size
   clear h1 h2 hsv cy
   go_wp2_with (fail)
   go_ret2
   exact ⟨v, rfl, Kd.R_lower H1.out H3.out, H2.out⟩
end Go.Proofs.Ytkafbmanmffliaa.Sp2

namespace Go.Proofs.Ytkafbmanmffliaa.Q
open Go.RowKit YtkafbmanmffliaaW.PrintWords YtkafbmanmffliaaW.PrintLast YtkafbmanmffliaaW.PrintMore
attribute [local go_sem] max2_int min2_int max_two min_two max_three min_three max_four min_four
set_option linter.unusedVariables false
set_option linter.unusedSimpArgs false
def spec_l10Adjusted.f (s0_0 : Int) (s0_1 : List (S32)) : Option (List Int × Int × Int) := if Gm.connB s0_0 s0_1 = true then some (Gv.nuL s0_1 (Ke.rgt (Ex.wp s0_0) s0_1) (Ex.wp s0_0), Gn.den s0_1 (Ex.wp s0_0), s0_0) else none
theorem spec_l10Adjusted.calls (g : Nat) (s0_0 : Int) (s0_1 : List (S32)) (r1 : List Int) (r2 : Int) (r3 : Int) (w0 w : World) (hI : IsS26 w0 w g s0_0 s0_1) (hB : Below w0.heap.size w0 w) (h : spec_l10Adjusted.f s0_0 s0_1 = some (r1, r2, r3)) :
  Calls Try.prog 77 #[.pointer (some ⟨g, 0, none⟩)] w fun e w' => ∃ v0_ : Value, e = .returned (.tuple #[v0_, .int .i64 r2]) ∧ Kd.R (Kd.int .i64) 2 w' w.heap.size (fun _ => True) v0_ r1 ∧ IsS26 w0 w' g r3 s0_1 ∧ Below w0.heap.size w0 w' ∧ KeepBut w w' g none := by
 unfold spec_l10Adjusted.f at h
 by_cases hc : Gm.connB s0_0 s0_1 = true
 ·rw [if_pos hc] at h
  simp only [Option.some.injEq, Prod.mk.injEq] at h
  obtain ⟨rfl, rfl, rfl⟩ := h
  obtain ⟨A0, c0, hb, hg, hr⟩ := hI
  obtain ⟨n, rfl⟩ := Ex.conn_nat hc
  rw [Ex.wp_eq]
  refine (Sp2.specAdj_any n g s0_1 hc A0 c0 w hb (Kd.C_below hr hB)).mono ?_
  rintro e w' ⟨v, rfl, t, hw⟩
  exact ⟨v, rfl, t, IsS26.below ⟨A0, c0, hb, hg, hr⟩ hw, below_then hB hB.size hw, KeepBut.of_below hw g none⟩
 ·rw [if_neg hc] at h; cases h
end Go.Proofs.Ytkafbmanmffliaa.Q

namespace Go.Proofs.Ytkafbmanmffliaa.Q
open Go.RowKit YtkafbmanmffliaaW.PrintWords YtkafbmanmffliaaW.PrintLast YtkafbmanmffliaaW.PrintMore
attribute [local go_sem] max2_int min2_int max_two min_two max_three min_three max_four min_four
set_option linter.unusedVariables false
set_option linter.unusedSimpArgs false
def spec_l10Residuals.l0 : Nat → List Int → Int → List Int → Int → Int → List (S32) → Option (Int × List Int × Int)
 | 0, _, _, _, _, _, _ => none
 | k + 1, x4, x5, x6, x7, x1000, x1001 => if x7 < (x1001.length : Int) then (if 0 ≤ x7 then (if 0 ≤ ((rd_T32 x1001 x7).f1) then (if ((rd_T32 x1001 x7).f1) < (x4.length : Int) then (if 0 ≤ ((rd_T32 x1001 x7).f0) then (if ((rd_T32 x1001 x7).f0) < (x4.length : Int) then (if x6.length < 17592186044416 then (spec_l10Residuals.l0 k x4 x5 (x6 ++ [wrap64 ((wrap64 ((wrap64 (((rd_T32 x1001 x7).f2) * x5)) - (rd x4 ((rd_T32 x1001 x7).f1)))) + (rd x4 ((rd_T32 x1001 x7).f0)))]) (wrap64 (x7 + 1)) x1000 x1001) else (none)) else (none)) else (none)) else (none)) else (none)) else (none)) else ((spec_l10Lowest.f k x6 x5).bind fun bt350 => (some (bt350.1, bt350.2, x1000)))
def spec_l10Residuals.f (k : Nat) (s0_0 : Int) (s0_1 : List (S32)) : Option (Int × List Int × Int) := (spec_l10Adjusted.f s0_0 s0_1).bind fun bt335 => (spec_l10Residuals.l0 k bt335.1 bt335.2.1 (([] : List Int)) 0 bt335.2.2 s0_1)
def spec_l10Residuals.T7 : Bool × List (List Nat × List Nat) := (true, [([], []), ([], []), ([1], [1]), ([], []), ([2, 3], [2, 3]), ([], []), ([], []), ([6], [6]), ([5, 7], [5, 7]), ([8], [8]), ([4, 9], [4, 9]), ([], []), ([], []), ([12], [12]), ([11, 13], [11, 13]), ([14], [14]), ([10, 15], [10, 15]), ([16], [16]), ([0, 17], [0, 17]), ([18, 18, 0, 1, 2, 3, 4, 5, 6, 7, 8, 9, 10, 11, 12, 13, 14, 15, 16, 17, 18], [0, 18])])
def spec_l10Residuals.B7 : List Nat := [0, 0, 2, 0, 14, 0, 0, 64, 224, 480, 1022, 0, 0, 4096, 14336, 30720, 65534, 131070, 262143, 524287]
theorem spec_l10Residuals.tab7 : rtab .any (opsOf Try.f83 7) = spec_l10Residuals.T7 := by kernel_rfl
theorem spec_l10Residuals.bits7 : waitsOk spec_l10Residuals.T7.2 spec_l10Residuals.B7 = true := by kernel_rfl
set_option maxHeartbeats 8000000 in
set_option maxRecDepth 100000 in
theorem spec_l10Residuals.calls (k : Nat) (g : Nat) (s0_0 : Int) (s0_1 : List (S32)) (r1 : Int) (r2 : List Int) (r3 : Int) (w0 w : World) (hI : IsS26 w0 w g s0_0 s0_1) (hB : Below w0.heap.size w0 w) (h : spec_l10Residuals.f k s0_0 s0_1 = some (r1, r2, r3)) :
  Calls Try.prog 83 #[.pointer (some ⟨g, 0, none⟩)] w fun e w' => ∃ v1_ : Value, e = .returned (.tuple #[.int .i64 r1, v1_]) ∧ Kd.R (Kd.int .i64) 2 w' w.heap.size (fun _ => True) v1_ r2 ∧ IsS26 w0 w' g r3 s0_1 ∧ Below w0.heap.size w0 w' ∧ KeepBut w w' g none := by
 have hu32 := Try.underlying32
 have HI0 := Aside0.mk hI
 have HK := Aside0.mk (KeepBut.refl w g none)
 have HL := Aside0.mk hB.size
 clear hI
 have HW0 := Aside0.mk hB.size
 have HB := Aside0.mk hB
 clear hB
 have H : ((spec_l10Adjusted.f s0_0 s0_1).bind fun bt335 => (spec_l10Residuals.l0 k bt335.1 bt335.2.1 (([] : List Int)) 0 bt335.2.2 s0_1)) = some (r1, r2, r3) := h
 clear h
 replace H := Option.bind_eq_some_iff.mp H
 obtain ⟨⟨t335, t338, t339⟩, A20, H⟩ := H
 replace H : (spec_l10Residuals.l0 k t335 t338 (([] : List Int)) 0 t339 s0_1) = some (r1, r2, r3) := H
 have A2 := Aside0.mk A20
 clear A20
 obtain ⟨y340, hy340⟩ : ∃ y_ : List Int, y_ = (([] : List Int)) := ⟨_, rfl⟩
 replace H : (spec_l10Residuals.l0 k t335 t338 y340 0 t339 s0_1) = some (r1, r2, r3) := by first | (rw [hy340]; with_reducible exact H) | (have H2_ := (Option.bind_some _ _).symm.trans H; rw [hy340]; with_reducible exact H2_) | (have H2_ := (Option.bind_some _ _).symm.trans H; with_reducible exact H2_) | with_reducible exact H | (rw [hy340]; exact H) | exact H
 have Ny340 := Aside0.mk hy340
 clear hy340
 have H' := Aside0.mk H
 clear H
 go_enter Try.func83, Try.ntmps83
 go_wp2_with (first | ((with_reducible refine gate_callee (f := 77) rfl ?_); refine goesL_ (some 11) rfl rfl Try.func77 (by kernel_rfl) rfl #[.pointer (some ⟨g, 0, none⟩)] rfl (by (try simp only [List.map_toArray, List.map_cons, List.map_nil]); first | done | rfl | (simp only [List.length_drop, List.length_take]; rfl)) ?_; (with_reducible refine (spec_l10Adjusted.calls g s0_0 s0_1 t335 t338 t339 w0 _ ?side1 ?side2 A2.out).mono ?_); (case side1 => repeat (first | (with_reducible first | exact HI0.out | apply IsS26.alloc | apply IsS26.drewN | apply IsS26.drew | apply IsS26.set_0) | exact HI0.out)); (case side2 => repeat (first | (with_reducible first | exact HB.out | apply below_alloc | apply pw_below_drewN | apply below_drew1 | refine below_set ?_ (IsS26.ge HI0.out)) | exact HB.out)); rintro e w3 ⟨v336, rfl, ho0, hi, hb, hk⟩; refine ⟨_, rfl, ?_⟩; have n0_ := Aside0.mk (Kd.R_lower ho0 (keep_size (w := w) (g := g) (row := none) (by repeat (first | (with_reducible first | exact HK.out | apply KeepBut.set_ | apply keep_drewN | apply keep_drew | apply keep_alloc) | exact HK.out)))); have n1_ := Aside0.mk (KeepBut.trans (by repeat (first | (with_reducible first | exact HK.out | apply KeepBut.set_ | apply keep_drewN | apply keep_drew | apply keep_alloc) | exact HK.out)) hk (.inl rfl)); have n2_ := Aside0.mk (hb); have n3_ := Aside0.mk (hi); clear HK; clear HB; clear HI0; have HO337 := n0_; have HK := n1_; have HB := n2_; have HI0 := n3_; clear n0_ n1_ n2_ n3_; (try clear hb); (try clear hb2); (try clear hk); (try clear hi); (try clear ho0)) | ((with_reducible refine gate_dst (N := 14) rfl ?_); refine Kd.R_lit (Kd.int .i64) _ 2 ?hg (N := 14) ?hd (xs := ([] : List Int)) (inner := []) (ok := fun _ => True) (okp := fun _ => True) ?hr ?hp (fun _ hk => hk) trivial (Below.refl _ _) (Nat.le_refl _) (by simp) ?_; (case hd => rfl); (case hg => rfl); (case hr => first | (go_simp; done) | (go_simp; rfl)); (case hp => exact (Reps.none _ _)); intro v341 w4 ho5 hb hg_ hnew_; clear hg_ hnew_; (first | rw [← Ny340.out] at ho5 | (simp only [Int.reduceToNat] at ho5; rw [← Ny340.out] at ho5)); have n0_ := Aside0.mk (Kd.R_elder' (by (with_reducible repeat (first | apply Kd.R_alloc | apply Kd.R_drewN | apply Kd.R_drew)); exact HO337.out) (Kd.R_base ho5) hb); have n1_ := Aside0.mk (Kd.R_lower (Kd.R_new' ho5 (Kd.R_lt (by (with_reducible repeat (first | apply Kd.R_alloc | apply Kd.R_drewN | apply Kd.R_drew)); exact HO337.out))) (keep_size (w := w) (g := g) (row := none) (by repeat (first | (with_reducible first | exact HK.out | apply KeepBut.set_ | apply keep_drewN | apply keep_drew | apply keep_alloc) | exact HK.out)))); have n2_ := Aside0.mk (IsS26.below (by repeat (first | (with_reducible first | exact HI0.out | apply IsS26.alloc | apply IsS26.drewN | apply IsS26.drew | apply IsS26.set_0) | exact HI0.out)) hb); have n3_ := Aside0.mk (KeepBut.trans (by repeat (first | (with_reducible first | exact HK.out | apply KeepBut.set_ | apply keep_drewN | apply keep_drew | apply keep_alloc) | exact HK.out)) (KeepBut.of_below hb g none) (.inl rfl)); have n4_ := Aside0.mk (below_step (by repeat (first | (with_reducible first | exact HB.out | apply below_alloc | apply pw_below_drewN | apply below_drew1 | refine below_set ?_ (IsS26.ge HI0.out)) | exact HB.out)) hb); clear HO337; clear HI0; clear HK; clear HB; have HO337 := n0_; have HO342 := n1_; have HI0 := n2_; have HK := n3_; have HB := n4_; clear n0_ n1_ n2_ n3_ n4_; clear hb ho5))
 go_loopg [6, 7] k (fun kq v6 v7 w' => ∃ (x6_1 : List Int) (x7_1 : Int), v7 = .int .i64 x7_1 ∧ Aside0 (spec_l10Residuals.l0 kq t335 t338 x6_1 x7_1 t339 s0_1 = some (r1, r2, r3)) ∧ Aside0 (kq ≤ k) ∧ Aside0 (Kd.R (Kd.int .i64) 2 w' w.heap.size (fun k_ => some k_ ≠ (v6 : Value).ownBlock) v336 t335) ∧ Aside0 (Kd.R (Kd.int .i64) 2 w' w.heap.size (fun k_ => some k_ ≠ (v336 : Value).ownBlock) v6 x6_1) ∧ Aside0 (IsS26 w0 w' g t339 s0_1) ∧ Aside0 (KeepBut w w' g none) ∧ Aside0 (Below w0.heap.size w0 w'))
 case atStart => exact ⟨(y340), (0), (by first | rfl | (simp; done) | (simp [*]; done)), H', ⟨Nat.le_refl _⟩, ⟨by (with_reducible repeat (first | apply Kd.R_alloc | apply Kd.R_drewN | apply Kd.R_drew)); exact Kd.R_mono HO337.out (fun _ hk => hk.2)⟩, ⟨by (with_reducible repeat (first | apply Kd.R_alloc | apply Kd.R_drewN | apply Kd.R_drew)); exact Kd.R_mono HO342.out (fun _ hk => hk.2)⟩, ⟨by repeat (first | (with_reducible first | exact HI0.out | apply IsS26.alloc | apply IsS26.drewN | apply IsS26.drew | apply IsS26.set_0) | exact HI0.out)⟩, ⟨by repeat (first | (with_reducible first | exact HK.out | apply KeepBut.set_ | apply keep_drewN | apply keep_drew | apply keep_alloc) | exact HK.out)⟩, ⟨by repeat (first | (with_reducible first | exact HB.out | apply below_alloc | apply pw_below_drewN | apply below_drew1 | refine below_set ?_ (IsS26.ge HI0.out)) | exact HB.out)⟩⟩
 case round =>
  clear H'
  try clear p2
  obtain ⟨x6_1, x7_1, rfl, HA, HK1, HO_4, HO_6, HI0, HK, HB⟩ := hrel
  cases gk with
  | zero => exact absurd HA.out (by simp [spec_l10Residuals.l0])
  | succ k1 =>
   have H := HA.out
   clear HA
   simp only [spec_l10Residuals.l0] at H
   by_cases c6 : x7_1 < (s0_1.length : Int)
   ·rw [if_pos c6] at H
    have c6b0 : decide (x7_1 < (s0_1.length : Int)) = true := decide_eq_true c6
    clear c6
    by_cases c7 : 0 ≤ x7_1
    ·rw [if_pos c7] at H
     have c7b0 : decide (0 ≤ x7_1) = true := decide_eq_true c7
     clear c7
     by_cases c8 : 0 ≤ ((rd_T32 s0_1 x7_1).f1)
     ·rw [if_pos c8] at H
      have c8b0 : decide (0 ≤ ((rd_T32 s0_1 x7_1).f1)) = true := decide_eq_true c8
      clear c8
      by_cases c9 : ((rd_T32 s0_1 x7_1).f1) < (t335.length : Int)
      ·rw [if_pos c9] at H
       have c9b0 : decide (((rd_T32 s0_1 x7_1).f1) < (t335.length : Int)) = true := decide_eq_true c9
       clear c9
       by_cases c10 : 0 ≤ ((rd_T32 s0_1 x7_1).f0)
       ·rw [if_pos c10] at H
        have c10b0 : decide (0 ≤ ((rd_T32 s0_1 x7_1).f0)) = true := decide_eq_true c10
        clear c10
        by_cases c11 : ((rd_T32 s0_1 x7_1).f0) < (t335.length : Int)
        ·rw [if_pos c11] at H
         have c11b0 : decide (((rd_T32 s0_1 x7_1).f0) < (t335.length : Int)) = true := decide_eq_true c11
         clear c11
         by_cases c12 : x6_1.length < 17592186044416
         ·rw [if_pos c12] at H
          have LMc12 := Aside0.mk c12
          clear c12
          obtain ⟨y347, hy347⟩ : ∃ y_ : List Int, y_ = (x6_1 ++ [wrap64 ((wrap64 ((wrap64 (((rd_T32 s0_1 x7_1).f2) * t338)) - (rd t335 ((rd_T32 s0_1 x7_1).f1)))) + (rd t335 ((rd_T32 s0_1 x7_1).f0)))]) := ⟨_, rfl⟩
          replace H : (spec_l10Residuals.l0 k1 t335 t338 y347 (wrap64 (x7_1 + 1)) t339 s0_1) = some (r1, r2, r3) := by first | (rw [hy347]; with_reducible exact H) | (have H2_ := (Option.bind_some _ _).symm.trans H; rw [hy347]; with_reducible exact H2_) | (have H2_ := (Option.bind_some _ _).symm.trans H; with_reducible exact H2_) | with_reducible exact H | (rw [hy347]; exact H) | exact H
          have Ny347 := Aside0.mk hy347
          clear hy347
          have H' := Aside0.mk H
          clear H
          obtain ⟨ASz13_1, cSz13_1, HGz13, hgz13, HSz13_1⟩ := HI0.out
          have hcz13_0 := cellS26_0 HGz13
          have hcz13_1 := cellS26_1 HGz13
          have hfz13_0 := blk_frozen HGz13 0
          clear HGz13 hgz13
          have p343 : 0 ≤ (x7_1 : Int) := of_decide_eq_true (by first | (with_reducible assumption) | assumption)
          have q343 : x7_1 < (s0_1.length : Int) := of_decide_eq_true (by first | (with_reducible assumption) | assumption)
          obtain ⟨ad343, e343, hx343_0, hx343_1, hx343_2, hx343_3⟩ := at_T32 HSz13_1 x7_1 p343 q343
          cases e343
          replace hx343_0 := pw_cell_below HB.out hx343_0
          replace hx343_1 := pw_cell_below HB.out hx343_1
          replace hx343_2 := pw_cell_below HB.out hx343_2
          replace hx343_3 := pw_cell_below HB.out hx343_3
          replace p343 := eq_true p343
          replace q343 := eq_true q343
          try go_wp2_with (first | ((with_reducible refine gate_dst (N := 8) rfl ?_); refine box_event ?hg (N := 8) ?hd (cs := #[.int .i64 0, .int .i64 0, .int .i64 0, .int .i64 0]) (t := 32) ?hr ?_; (case hd => rfl); (case hg => rfl); (case hr => first | (go_simp; done) | (go_simp; rfl)); intro gb344 hg w14 hbox hb; have n0_ := Aside0.mk (Kd.R_below (by (with_reducible repeat (first | apply Kd.R_alloc | apply Kd.R_drewN | apply Kd.R_drew)); exact HO_4.out) hb); have n1_ := Aside0.mk (Kd.R_below (by (with_reducible repeat (first | apply Kd.R_alloc | apply Kd.R_drewN | apply Kd.R_drew)); exact HO_6.out) hb); have n2_ := Aside0.mk (IsS26.below (by repeat (first | (with_reducible first | exact HI0.out | apply IsS26.alloc | apply IsS26.drewN | apply IsS26.drew | apply IsS26.set_0) | exact HI0.out)) hb); have n3_ := Aside0.mk (KeepBut.trans (by repeat (first | (with_reducible first | exact HK.out | apply KeepBut.set_ | apply keep_drewN | apply keep_drew | apply keep_alloc) | exact HK.out)) (KeepBut.of_below hb g none) (.inl rfl)); have n4_ := Aside0.mk (below_step (by repeat (first | (with_reducible first | exact HB.out | apply below_alloc | apply pw_below_drewN | apply below_drew1 | refine below_set ?_ (IsS26.ge HI0.out)) | exact HB.out)) hb); have n5_ := Aside0.mk (hbox); have n6_ := Aside0.mk ((by rw [hg]; exact (keep_size (w := w) (g := g) (row := none) (by repeat (first | (with_reducible first | exact HK.out | apply KeepBut.set_ | apply keep_drewN | apply keep_drew | apply keep_alloc) | exact HK.out))) : w.heap.size ≤ gb344)); have n7_ := Aside0.mk ((Nat.le_trans HW0.out (by rw [hg]; exact (keep_size (w := w) (g := g) (row := none) (by repeat (first | (with_reducible first | exact HK.out | apply KeepBut.set_ | apply keep_drewN | apply keep_drew | apply keep_alloc) | exact HK.out))) : w.heap.size ≤ gb344) : w0.heap.size ≤ gb344)); have n8_ := Aside0.mk ((by rw [hg]; exact Nat.ne_of_lt (IsS26.lt (show IsS26 w0 _ g t339 s0_1 from by repeat (first | (with_reducible first | exact HI0.out | apply IsS26.alloc | apply IsS26.drewN | apply IsS26.drew | apply IsS26.set_0) | exact HI0.out))) : g ≠ gb344)); have n9_ := Aside0.mk ((by rw [hg]; exact Nat.ne_of_gt (IsS26.lt (show IsS26 w0 _ g t339 s0_1 from by repeat (first | (with_reducible first | exact HI0.out | apply IsS26.alloc | apply IsS26.drewN | apply IsS26.drew | apply IsS26.set_0) | exact HI0.out))) : gb344 ≠ g)); clear HO_4; clear HO_6; clear HI0; clear HK; clear HB; have HO_4 := n0_; have HO_6 := n1_; have HI0 := n2_; have HK := n3_; have HB := n4_; have BK344 := n5_; have GW344 := n6_; have GE344 := n7_; have NB0_344 := n8_; have NB344_0 := n9_; clear n0_ n1_ n2_ n3_ n4_ n5_ n6_ n7_ n8_ n9_; clear hb hbox hg; have hnb15 := NB344_0.out; have hnc15 := NB0_344.out; have hcz16_0 : w14.cell? ⟨gb344, 0, none⟩ = some (.int .i64 0) := (blk_cell BK344.out 0).trans rfl; have hcz16_1 : w14.cell? ⟨gb344, 1, none⟩ = some (.int .i64 0) := (blk_cell BK344.out 1).trans rfl; have hcz16_2 : w14.cell? ⟨gb344, 2, none⟩ = some (.int .i64 0) := (blk_cell BK344.out 2).trans rfl; have hcz16_3 : w14.cell? ⟨gb344, 3, none⟩ = some (.int .i64 0) := (blk_cell BK344.out 3).trans rfl; have hfz16_0 := blk_frozen BK344.out 0; have hfz16_1 := blk_frozen BK344.out 1; have hfz16_2 := blk_frozen BK344.out 2; have hfz16_3 := blk_frozen BK344.out 3))
          have n0_ : Aside0 (Kd.R (Kd.int .i64) 2 ((((w14.setCell ⟨gb344, 0, none⟩ (.int .i64 ((rd_T32 s0_1 x7_1).f0))).setCell ⟨gb344, 1, none⟩ (.int .i64 ((rd_T32 s0_1 x7_1).f1))).setCell ⟨gb344, 2, none⟩ (.int .i64 ((rd_T32 s0_1 x7_1).f2))).setCell ⟨gb344, 3, none⟩ (.int .i64 ((rd_T32 s0_1 x7_1).f3))) w.heap.size (fun k_ => some k_ ≠ (u6 : Value).ownBlock) v336 t335) := ⟨by (with_reducible repeat (first | apply Kd.R_alloc | apply Kd.R_drewN | apply Kd.R_drew)); exact Kd.R_mono (Kd.R_far (p := ⟨gb344, 3, none⟩) (Kd.R_far (p := ⟨gb344, 2, none⟩) (Kd.R_far (p := ⟨gb344, 1, none⟩) (Kd.R_far (p := ⟨gb344, 0, none⟩) (Kd.R_types HO_4.out BK344.out (by decide)) (fun _ hk => hk.2) (.int .i64 ((rd_T32 s0_1 x7_1).f0))) (fun _ hk => hk.2) (.int .i64 ((rd_T32 s0_1 x7_1).f1))) (fun _ hk => hk.2) (.int .i64 ((rd_T32 s0_1 x7_1).f2))) (fun _ hk => hk.2) (.int .i64 ((rd_T32 s0_1 x7_1).f3))) (fun _ hk => hk.1)⟩
          have n1_ : Aside0 (Kd.R (Kd.int .i64) 2 ((((w14.setCell ⟨gb344, 0, none⟩ (.int .i64 ((rd_T32 s0_1 x7_1).f0))).setCell ⟨gb344, 1, none⟩ (.int .i64 ((rd_T32 s0_1 x7_1).f1))).setCell ⟨gb344, 2, none⟩ (.int .i64 ((rd_T32 s0_1 x7_1).f2))).setCell ⟨gb344, 3, none⟩ (.int .i64 ((rd_T32 s0_1 x7_1).f3))) w.heap.size (fun k_ => some k_ ≠ (v336 : Value).ownBlock) u6 x6_1) := ⟨by (with_reducible repeat (first | apply Kd.R_alloc | apply Kd.R_drewN | apply Kd.R_drew)); exact Kd.R_mono (Kd.R_far (p := ⟨gb344, 3, none⟩) (Kd.R_far (p := ⟨gb344, 2, none⟩) (Kd.R_far (p := ⟨gb344, 1, none⟩) (Kd.R_far (p := ⟨gb344, 0, none⟩) (Kd.R_types HO_6.out BK344.out (by decide)) (fun _ hk => hk.2) (.int .i64 ((rd_T32 s0_1 x7_1).f0))) (fun _ hk => hk.2) (.int .i64 ((rd_T32 s0_1 x7_1).f1))) (fun _ hk => hk.2) (.int .i64 ((rd_T32 s0_1 x7_1).f2))) (fun _ hk => hk.2) (.int .i64 ((rd_T32 s0_1 x7_1).f3))) (fun _ hk => hk.1)⟩
          have n2_ : Aside0 (((((w14.setCell ⟨gb344, 0, none⟩ (.int .i64 ((rd_T32 s0_1 x7_1).f0))).setCell ⟨gb344, 1, none⟩ (.int .i64 ((rd_T32 s0_1 x7_1).f1))).setCell ⟨gb344, 2, none⟩ (.int .i64 ((rd_T32 s0_1 x7_1).f2))).setCell ⟨gb344, 3, none⟩ (.int .i64 ((rd_T32 s0_1 x7_1).f3))).heap[gb344]? = some (.cells #[.int .i64 ((rd_T32 s0_1 x7_1).f0), .int .i64 ((rd_T32 s0_1 x7_1).f1), .int .i64 ((rd_T32 s0_1 x7_1).f2), .int .i64 ((rd_T32 s0_1 x7_1).f3)] 32 (0, 0))) := ⟨by (with_reducible repeat (first | refine blk_drewN ?_ _ | refine blk_drew ?_ | refine blk_alloc ?_ _)); refine blk_put (cs := #[.int .i64 ((rd_T32 s0_1 x7_1).f0), .int .i64 ((rd_T32 s0_1 x7_1).f1), .int .i64 ((rd_T32 s0_1 x7_1).f2), .int .i64 0]) ?_ 3 _ rfl; (with_reducible repeat (first | refine blk_drewN ?_ _ | refine blk_drew ?_ | refine blk_alloc ?_ _)); refine blk_put (cs := #[.int .i64 ((rd_T32 s0_1 x7_1).f0), .int .i64 ((rd_T32 s0_1 x7_1).f1), .int .i64 0, .int .i64 0]) ?_ 2 _ rfl; (with_reducible repeat (first | refine blk_drewN ?_ _ | refine blk_drew ?_ | refine blk_alloc ?_ _)); refine blk_put (cs := #[.int .i64 ((rd_T32 s0_1 x7_1).f0), .int .i64 0, .int .i64 0, .int .i64 0]) ?_ 1 _ rfl; (with_reducible repeat (first | refine blk_drewN ?_ _ | refine blk_drew ?_ | refine blk_alloc ?_ _)); refine blk_put (cs := #[.int .i64 0, .int .i64 0, .int .i64 0, .int .i64 0]) ?_ 0 _ rfl; (with_reducible repeat (first | refine blk_drewN ?_ _ | refine blk_drew ?_ | refine blk_alloc ?_ _)); exact BK344.out⟩
          have n3_ : Aside0 (IsS26 w0 ((((w14.setCell ⟨gb344, 0, none⟩ (.int .i64 ((rd_T32 s0_1 x7_1).f0))).setCell ⟨gb344, 1, none⟩ (.int .i64 ((rd_T32 s0_1 x7_1).f1))).setCell ⟨gb344, 2, none⟩ (.int .i64 ((rd_T32 s0_1 x7_1).f2))).setCell ⟨gb344, 3, none⟩ (.int .i64 ((rd_T32 s0_1 x7_1).f3))) g t339 s0_1) := ⟨by repeat (first | (with_reducible first | exact HI0.out | apply IsS26.alloc | apply IsS26.drewN | apply IsS26.drew | apply IsS26.set_0 | refine IsS26.far ?_ NB0_344.out _) | exact HI0.out)⟩
          have n4_ : Aside0 (KeepBut w ((((w14.setCell ⟨gb344, 0, none⟩ (.int .i64 ((rd_T32 s0_1 x7_1).f0))).setCell ⟨gb344, 1, none⟩ (.int .i64 ((rd_T32 s0_1 x7_1).f1))).setCell ⟨gb344, 2, none⟩ (.int .i64 ((rd_T32 s0_1 x7_1).f2))).setCell ⟨gb344, 3, none⟩ (.int .i64 ((rd_T32 s0_1 x7_1).f3))) g none) := ⟨by repeat (first | (with_reducible first | exact HK.out | apply KeepBut.set_ | apply keep_drewN | apply keep_drew | apply keep_alloc | refine keep_far ?_ GW344.out _) | exact HK.out)⟩
          have n5_ : Aside0 (Below w0.heap.size w0 ((((w14.setCell ⟨gb344, 0, none⟩ (.int .i64 ((rd_T32 s0_1 x7_1).f0))).setCell ⟨gb344, 1, none⟩ (.int .i64 ((rd_T32 s0_1 x7_1).f1))).setCell ⟨gb344, 2, none⟩ (.int .i64 ((rd_T32 s0_1 x7_1).f2))).setCell ⟨gb344, 3, none⟩ (.int .i64 ((rd_T32 s0_1 x7_1).f3)))) := ⟨by repeat (first | (with_reducible first | exact HB.out | apply below_alloc | apply pw_below_drewN | apply below_drew1 | refine below_set ?_ (IsS26.ge HI0.out) | refine below_set ?_ GE344.out) | exact HB.out)⟩
          (try clear HO_4)
          (try clear HO_6)
          (try clear BK344)
          (try clear HI0)
          (try clear HK)
          (try clear HB)
          generalize ((((w14.setCell ⟨gb344, 0, none⟩ (.int .i64 ((rd_T32 s0_1 x7_1).f0))).setCell ⟨gb344, 1, none⟩ (.int .i64 ((rd_T32 s0_1 x7_1).f1))).setCell ⟨gb344, 2, none⟩ (.int .i64 ((rd_T32 s0_1 x7_1).f2))).setCell ⟨gb344, 3, none⟩ (.int .i64 ((rd_T32 s0_1 x7_1).f3))) = w17 at n0_ n1_ n2_ n3_ n4_ n5_ ⊢
          have HO_4 := n0_
          have HO_6 := n1_
          have BK344 := n2_
          have HI0 := n3_
          have HK := n4_
          have HB := n5_
          clear n0_ n1_ n2_ n3_ n4_ n5_
          have n0_ := Aside0.mk (Kd.R_drew HO_4.out)
          have n1_ := Aside0.mk (Kd.R_drew HO_6.out)
          have n2_ := Aside0.mk (blk_drew BK344.out)
          have n3_ := Aside0.mk (IsS26.drew HI0.out)
          have n4_ := Aside0.mk (keep_drew HK.out)
          have n5_ := Aside0.mk (below_drew1 HB.out)
          clear HO_4
          clear HO_6
          clear BK344
          clear HI0
          clear HK
          clear HB
          have HO_4 := n0_
          have HO_6 := n1_
          have BK344 := n2_
          have HI0 := n3_
          have HK := n4_
          have HB := n5_
          clear n0_ n1_ n2_ n3_ n4_ n5_
          obtain ⟨Ao19, co19, eo19⟩ := Kd.R_slice HO_4.out
          (first | subst eo19 | (injection eo19 with f1_ f2_ f3_; have f4_ := f1_.symm; have f5_ := f3_.symm; clear f1_ f2_ f3_; subst f4_; subst f5_))
          have p345 : 0 ≤ (((rd_T32 s0_1 x7_1).f1) : Int) := of_decide_eq_true (by first | (with_reducible assumption) | assumption)
          have q345 : ((rd_T32 s0_1 x7_1).f1) < (t335.length : Int) := of_decide_eq_true (by first | (with_reducible assumption) | assumption)
          obtain ⟨ad345, e345, hx345_0⟩ := Kd.at_int (Kd.R_reads' HO_4.out).2.2 ((rd_T32 s0_1 x7_1).f1) p345 q345
          cases e345
          replace p345 := eq_true p345
          replace q345 := eq_true q345
          have p346 : 0 ≤ (((rd_T32 s0_1 x7_1).f0) : Int) := of_decide_eq_true (by first | (with_reducible assumption) | assumption)
          have q346 : ((rd_T32 s0_1 x7_1).f0) < (t335.length : Int) := of_decide_eq_true (by first | (with_reducible assumption) | assumption)
          obtain ⟨ad346, e346, hx346_0⟩ := Kd.at_int (Kd.R_reads' HO_4.out).2.2 ((rd_T32 s0_1 x7_1).f0) p346 q346
          obtain rfl : ad345 = ad346 := (by injection e346)
          replace p346 := eq_true p346
          replace q346 := eq_true q346
          refine start_ (n := 20) (S := fun w' => w'.cell? ⟨gb344, 0, none⟩ = some (.int .i64 ((rd_T32 s0_1 x7_1).f0)) ∧ w'.cell? ⟨gb344, 1, none⟩ = some (.int .i64 ((rd_T32 s0_1 x7_1).f1)) ∧ w'.cell? ⟨gb344, 2, none⟩ = some (.int .i64 ((rd_T32 s0_1 x7_1).f2)) ∧ w'.cell? ⟨gb344, 3, none⟩ = some (.int .i64 ((rd_T32 s0_1 x7_1).f3)) ∧ w'.cell? (ad345.add (((rd_T32 s0_1 x7_1).f1)).toNat) = some (.int .i64 (rd t335 ((rd_T32 s0_1 x7_1).f1))) ∧ w'.cell? (ad345.add (((rd_T32 s0_1 x7_1).f0)).toNat) = some (.int .i64 (rd t335 ((rd_T32 s0_1 x7_1).f0)))) (ds := [17, 18]) #[false, false, false, false, false, false, false, false, false, false, false, false, false, false, false, false, false, false, false, false] (by kernel_rfl) rfl rfl ⟨(blk_cell BK344.out 0).trans rfl, (blk_cell BK344.out 1).trans rfl, (blk_cell BK344.out 2).trans rfl, (blk_cell BK344.out 3).trans rfl, hx345_0, hx346_0⟩ (fun hHeld => ?_); refine with_tabW spec_l10Residuals.tab7 spec_l10Residuals.bits7 (fun HT_ HW_ => ?_)
          generalize w17.drew = w18 at HO_4 HO_6 BK344 HI0 HK HB hx345_0 hx346_0 hHeld ⊢
          refine pure_ (i := 0) (N := some 31) (v := ?_) (a' := ?_) #[true, false, false, false, false, false, false, false, false, false, false, false, false, false, false, false, false, false, false, false] rfl rfl (any_of HT_.out (by kernel_rfl)) (fun _ _ _ h => h) (Or.inl ⟨by rfl, ?_⟩) ?_ ?_
          rotate_left
          ·intro w'
           go_simp
           with_reducible rfl
          rotate_left
          ·simp only [Act.put, List.setIfInBounds_toArray, List.set_cons_zero, List.set_cons_succ, i64_w, i32_w]
           rfl
          refine pure_ (i := 1) (N := some 32) (v := ?_) (a' := ?_) #[true, true, false, false, false, false, false, false, false, false, false, false, false, false, false, false, false, false, false, false] rfl rfl (any_of HT_.out (by kernel_rfl)) (fun _ _ _ h => h) (Or.inl ⟨by rfl, ?_⟩) ?_ ?_
          rotate_left
          ·intro w'
           go_simp
           with_reducible rfl
          rotate_left
          ·simp only [Act.put, List.setIfInBounds_toArray, List.set_cons_zero, List.set_cons_succ, i64_w, i32_w]
           rfl
          refine pure_ (i := 3) (N := some 34) (v := ?_) (a' := ?_) #[true, true, false, true, false, false, false, false, false, false, false, false, false, false, false, false, false, false, false, false] rfl rfl (any_of HT_.out (by kernel_rfl)) (fun _ _ _ h => h) (Or.inl ⟨by rfl, ?_⟩) ?_ ?_
          rotate_left
          ·intro w'
           go_simp
           with_reducible rfl
          rotate_left
          ·simp only [Act.put, List.setIfInBounds_toArray, List.set_cons_zero, List.set_cons_succ, i64_w, i32_w]
           rfl
          refine pure_ (i := 5) (N := some 36) (v := ?_) (a' := ?_) #[true, true, false, true, false, true, false, false, false, false, false, false, false, false, false, false, false, false, false, false] rfl rfl (any_of HT_.out (by kernel_rfl)) (fun _ _ _ h => h) (Or.inl ⟨by rfl, ?_⟩) ?_ ?_
          rotate_left
          ·intro w'
           go_simp
           with_reducible rfl
          rotate_left
          ·simp only [Act.put, List.setIfInBounds_toArray, List.set_cons_zero, List.set_cons_succ, i64_w, i32_w]
           rfl
          refine pure_ (i := 6) (N := some 37) (v := ?_) (a' := ?_) #[true, true, false, true, false, true, true, false, false, false, false, false, false, false, false, false, false, false, false, false] rfl rfl (any_of HT_.out (by kernel_rfl)) (fun _ _ _ h => h) (Or.inl ⟨by rfl, ?_⟩) ?_ ?_
          rotate_left
          ·intro w'
           go_simp
           with_reducible rfl
          rotate_left
          ·simp only [Act.put, List.setIfInBounds_toArray, List.set_cons_zero, List.set_cons_succ, i64_w, i32_w]
           rfl
          refine pure_ (i := 11) (N := some 42) (v := ?_) (a' := ?_) #[true, true, false, true, false, true, true, false, false, false, false, true, false, false, false, false, false, false, false, false] rfl rfl (any_of HT_.out (by kernel_rfl)) (fun _ _ _ h => h) (Or.inl ⟨by rfl, ?_⟩) ?_ ?_
          rotate_left
          ·intro w'
           go_simp
           with_reducible rfl
          rotate_left
          ·simp only [Act.put, List.setIfInBounds_toArray, List.set_cons_zero, List.set_cons_succ, i64_w, i32_w]
           rfl
          refine pure_ (i := 12) (N := some 43) (v := ?_) (a' := ?_) #[true, true, false, true, false, true, true, false, false, false, false, true, true, false, false, false, false, false, false, false] rfl rfl (any_of HT_.out (by kernel_rfl)) (fun _ _ _ h => h) (Or.inl ⟨by rfl, ?_⟩) ?_ ?_
          rotate_left
          ·intro w'
           go_simp
           with_reducible rfl
          rotate_left
          ·simp only [Act.put, List.setIfInBounds_toArray, List.set_cons_zero, List.set_cons_succ, i64_w, i32_w]
           rfl
          refine take_ (i := 2) (N := some 33) (v := ?_) (a' := ?_) #[true, true, true, true, false, true, true, false, false, false, false, true, true, false, false, false, false, false, false, false] rfl rfl (take_ofW HT_.out HW_.out (by kernel_rfl)) (fun _ _ _ h => h) (Or.inl ⟨by rfl, ?_⟩) hHeld ?_ ?_
          rotate_left
          ·rintro w' ⟨s0, s1, s2, s3, s4, s5⟩
           go_simp
           with_reducible rfl
          rotate_left
          ·simp only [Act.put, List.setIfInBounds_toArray, List.set_cons_zero, List.set_cons_succ, i64_w, i32_w]
           rfl
          refine pure_ (i := 4) (N := some 35) (v := ?_) (a' := ?_) #[true, true, true, true, true, true, true, false, false, false, false, true, true, false, false, false, false, false, false, false] rfl rfl (any_of HT_.out (by kernel_rfl)) (fun _ _ _ h => h) (Or.inl ⟨by rfl, ?_⟩) ?_ ?_
          rotate_left
          ·intro w'
           go_simp
           with_reducible rfl
          rotate_left
          ·simp only [Act.put, List.setIfInBounds_toArray, List.set_cons_zero, List.set_cons_succ, i64_w, i32_w]
           rfl
          refine take_ (i := 7) (N := some 38) (v := ?_) (a' := ?_) #[true, true, true, true, true, true, true, true, false, false, false, true, true, false, false, false, false, false, false, false] rfl rfl (take_ofW HT_.out HW_.out (by kernel_rfl)) (fun _ _ _ h => h) (Or.inl ⟨by rfl, ?_⟩) hHeld ?_ ?_
          rotate_left
          ·rintro w' ⟨s0, s1, s2, s3, s4, s5⟩
           go_simp
           with_reducible rfl
          rotate_left
          ·simp only [Act.put, List.setIfInBounds_toArray, List.set_cons_zero, List.set_cons_succ, i64_w, i32_w]
           rfl
          refine pure_ (i := 8) (N := some 39) (v := ?_) (a' := ?_) #[true, true, true, true, true, true, true, true, true, false, false, true, true, false, false, false, false, false, false, false] rfl rfl (any_of HT_.out (by kernel_rfl)) (fun _ _ _ h => h) (Or.inl ⟨by rfl, ?_⟩) ?_ ?_
          rotate_left
          ·intro w'
           go_simp
           with_reducible rfl
          rotate_left
          ·simp only [Act.put, List.setIfInBounds_toArray, List.set_cons_zero, List.set_cons_succ, i64_w, i32_w]
           rfl
          refine take_ (i := 9) (N := some 40) (v := ?_) (a' := ?_) #[true, true, true, true, true, true, true, true, true, true, false, true, true, false, false, false, false, false, false, false] rfl rfl (take_ofW HT_.out HW_.out (by kernel_rfl)) (fun _ _ _ h => h) (Or.inl ⟨by rfl, ?_⟩) hHeld ?_ ?_
          rotate_left
          ·rintro w' ⟨s0, s1, s2, s3, s4, s5⟩
           go_simp
           with_reducible rfl
          rotate_left
          ·simp only [Act.put, List.setIfInBounds_toArray, List.set_cons_zero, List.set_cons_succ, i64_w, i32_w]
           rfl
          refine pure_ (i := 10) (N := some 41) (v := ?_) (a' := ?_) #[true, true, true, true, true, true, true, true, true, true, true, true, true, false, false, false, false, false, false, false] rfl rfl (any_of HT_.out (by kernel_rfl)) (fun _ _ _ h => h) (Or.inl ⟨by rfl, ?_⟩) ?_ ?_
          rotate_left
          ·intro w'
           go_simp
           with_reducible rfl
          rotate_left
          ·simp only [Act.put, List.setIfInBounds_toArray, List.set_cons_zero, List.set_cons_succ, i64_w, i32_w]
           rfl
          refine take_ (i := 13) (N := some 44) (v := ?_) (a' := ?_) #[true, true, true, true, true, true, true, true, true, true, true, true, true, true, false, false, false, false, false, false] rfl rfl (take_ofW HT_.out HW_.out (by kernel_rfl)) (fun _ _ _ h => h) (Or.inl ⟨by rfl, ?_⟩) hHeld ?_ ?_
          rotate_left
          ·rintro w' ⟨s0, s1, s2, s3, s4, s5⟩
           go_simp
           with_reducible rfl
          rotate_left
          ·simp only [Act.put, List.setIfInBounds_toArray, List.set_cons_zero, List.set_cons_succ, i64_w, i32_w]
           rfl
          refine pure_ (i := 14) (N := some 45) (v := ?_) (a' := ?_) #[true, true, true, true, true, true, true, true, true, true, true, true, true, true, true, false, false, false, false, false] rfl rfl (any_of HT_.out (by kernel_rfl)) (fun _ _ _ h => h) (Or.inl ⟨by rfl, ?_⟩) ?_ ?_
          rotate_left
          ·intro w'
           go_simp
           with_reducible rfl
          rotate_left
          ·simp only [Act.put, List.setIfInBounds_toArray, List.set_cons_zero, List.set_cons_succ, i64_w, i32_w]
           rfl
          refine take_ (i := 15) (N := some 46) (v := ?_) (a' := ?_) #[true, true, true, true, true, true, true, true, true, true, true, true, true, true, true, true, false, false, false, false] rfl rfl (take_ofW HT_.out HW_.out (by kernel_rfl)) (fun _ _ _ h => h) (Or.inl ⟨by rfl, ?_⟩) hHeld ?_ ?_
          rotate_left
          ·rintro w' ⟨s0, s1, s2, s3, s4, s5⟩
           go_simp
           with_reducible rfl
          rotate_left
          ·simp only [Act.put, List.setIfInBounds_toArray, List.set_cons_zero, List.set_cons_succ, i64_w, i32_w]
           rfl
          refine pure_ (i := 16) (N := some 47) (v := ?_) (a' := ?_) #[true, true, true, true, true, true, true, true, true, true, true, true, true, true, true, true, true, false, false, false] rfl rfl (any_of HT_.out (by kernel_rfl)) (fun _ _ _ h => h) (Or.inl ⟨by rfl, ?_⟩) ?_ ?_
          rotate_left
          ·intro w'
           go_simp
           with_reducible rfl
          rotate_left
          ·simp only [Act.put, List.setIfInBounds_toArray, List.set_cons_zero, List.set_cons_succ, i64_w, i32_w]
           rfl
          refine last_ (i := 17) (N := some 48) #[true, true, true, true, true, true, true, true, true, true, true, true, true, true, true, true, true, true, false, false] rfl rfl (one_of HT_.out (by kernel_rfl)) (by decide) (fun K hK => ?_)
          refine value_ (w1 := ?_) (v := ?_) (by rfl) rfl ?_ ?_
          rotate_left 2
          ·go_simp
           constructor
           ·rfl
           ·rfl
          refine hK.out _ _ ?_
          clear hK K
          refine norm_ (a' := ?_) ?_ ?_
          rotate_left
          ·show Act.put _ (some 48) _ = _
           simp only [Act.put, List.setIfInBounds_toArray, List.set_cons_zero, List.set_cons_succ, i64_w, i32_w]
           rfl
          refine last_ (i := 18) (N := some 49) #[true, true, true, true, true, true, true, true, true, true, true, true, true, true, true, true, true, true, true, false] rfl rfl (one_of HT_.out (by kernel_rfl)) (by decide) (fun K hK => ?_)
          refine Kd.R_append_step (Kd.int .i64) w.heap.size (by rfl) (.tmp 31) (.tmp 48) 28 2 (.int .i64 0) 8 rfl Try.underlying28 info2 rfl (by decide) (by omega) u6 x6_1 (wrap64 ((wrap64 ((wrap64 (((rd_T32 s0_1 x7_1).f2) * t338)) - (rd t335 ((rd_T32 s0_1 x7_1).f1)))) + (rd t335 ((rd_T32 s0_1 x7_1).f0)))) [.int .i64 (wrap64 ((wrap64 ((wrap64 (((rd_T32 s0_1 x7_1).f2) * t338)) - (rd t335 ((rd_T32 s0_1 x7_1).f1)))) + (rd t335 ((rd_T32 s0_1 x7_1).f0))))] (fun k_ => some k_ ≠ (.slice (some ad345) t335.length co19 : Value).ownBlock) (fun _ => False) rfl rfl ?aP (fun _ hk => hk.elim) ?aF ?aO (Below.refl _ _) ?aS ?aL ?_
          (case aP => exact rfl)
          (case aF => exact (fun k_ hk => Kd.fresh' (Kd.R_lt (by (with_reducible repeat (first | apply Kd.R_alloc | apply Kd.R_drewN | apply Kd.R_drew)); exact HO_4.out)) k_ hk))
          (case aO => exact (by (with_reducible repeat (first | apply Kd.R_alloc | apply Kd.R_drewN | apply Kd.R_drew)); exact HO_6.out))
          (case aS => exact (keep_size (w := w) (g := g) (row := none) (by repeat (first | (with_reducible first | exact HK.out | apply KeepBut.set_ | apply keep_drewN | apply keep_drew | apply keep_alloc | refine keep_far ?_ GW344.out _) | exact HK.out))))
          (case aL => have := LMc12.out; omega)
          intro v348 w20 ho hb hg hat
          rw [← Ny347.out] at ho
          have n0_ := Aside0.mk (Kd.R_after (ok := (fun _ => True)) (by (with_reducible repeat (first | apply Kd.R_alloc | apply Kd.R_drewN | apply Kd.R_drew)); exact Kd.R_mono HO_4.out (fun _ hk => ⟨trivial, hk⟩)) hg hat)
          have n1_ := Aside0.mk (IsS26.grown (by repeat (first | (with_reducible first | exact HI0.out | apply IsS26.alloc | apply IsS26.drewN | apply IsS26.drew | apply IsS26.set_0 | refine IsS26.far ?_ NB0_344.out _) | exact HI0.out)) hg (IsS26.own_ne HI0.out HO_6.out (by decide)))
          have n2_ := Aside0.mk (blk_grown (g := gb344) (o := .cells #[.int .i64 ((rd_T32 s0_1 x7_1).f0), .int .i64 ((rd_T32 s0_1 x7_1).f1), .int .i64 ((rd_T32 s0_1 x7_1).f2), .int .i64 ((rd_T32 s0_1 x7_1).f3)] 32 (0, 0)) (by (with_reducible repeat (first | refine blk_drewN ?_ _ | refine blk_drew ?_ | refine blk_alloc ?_ _)); exact BK344.out) hg (Kd.R_ne HO_6.out BK344.out (by decide)))
          have n3_ := Aside0.mk (below_weaken (by repeat (first | (with_reducible first | exact HB.out | apply below_alloc | apply pw_below_drewN | apply below_drew1 | refine below_set ?_ (IsS26.ge HI0.out) | refine below_set ?_ GE344.out) | exact HB.out)) HL.out hb)
          have n4_ := Aside0.mk (KeepBut.trans (by repeat (first | (with_reducible first | exact HK.out | apply KeepBut.set_ | apply keep_drewN | apply keep_drew | apply keep_alloc | refine keep_far ?_ GW344.out _) | exact HK.out)) (KeepBut.of_grown hg g) (Kd.R_base2 HO_6.out))
          have n5_ := Aside0.mk (ho)
          clear HO_4
          clear HI0
          clear BK344
          clear HB
          clear HK
          clear HO_6
          have HO_4 := n0_
          have HI0 := n1_
          have BK344 := n2_
          have HB := n3_
          have HK := n4_
          have HO349 := n5_
          clear n0_ n1_ n2_ n3_ n4_ n5_
          clear ho hb hg hat
          refine hK.out _ _ ?_
          clear hK K
          refine norm_ (a' := ?_) ?_ ?_
          rotate_left
          ·show Act.put _ (some 49) _ = _
           simp only [Act.put, List.setIfInBounds_toArray, List.set_cons_zero, List.set_cons_succ, i64_w, i32_w]
           rfl
          refine pure_ (i := 19) (N := some 6) (v := ?_) (a' := ?_) #[true, true, true, true, true, true, true, true, true, true, true, true, true, true, true, true, true, true, true, true] rfl rfl (any_of HT_.out (by kernel_rfl)) (fun _ _ _ h => h) (Or.inl ⟨by rfl, ?_⟩) ?_ ?_
          rotate_left
          ·intro w'
           go_simp
           with_reducible rfl
          rotate_left
          ·simp only [Act.put, List.setIfInBounds_toArray, List.set_cons_zero, List.set_cons_succ, i64_w, i32_w]
           rfl
          refine done_ (done_of HT_.out (by kernel_rfl)) ?_
          try go_wp2
          go_roundg k1
          case measure => have := HK1.out; omega
          case rel => exact ⟨(y347), (wrap64 (x7_1 + 1)), (by first | rfl | (simp; done) | (simp [*]; done)), H', ⟨by have := HK1.out; omega⟩, ⟨by (with_reducible repeat (first | apply Kd.R_alloc | apply Kd.R_drewN | apply Kd.R_drew)); exact Kd.R_mono HO_4.out (fun _ hk => hk.2)⟩, ⟨by (with_reducible repeat (first | apply Kd.R_alloc | apply Kd.R_drewN | apply Kd.R_drew)); exact HO349.out⟩, ⟨by repeat (first | (with_reducible first | exact HI0.out | apply IsS26.alloc | apply IsS26.drewN | apply IsS26.drew | apply IsS26.set_0 | refine IsS26.far ?_ NB0_344.out _) | exact HI0.out)⟩, ⟨by repeat (first | (with_reducible first | exact HK.out | apply KeepBut.set_ | apply keep_drewN | apply keep_drew | apply keep_alloc | refine keep_far ?_ GW344.out _) | exact HK.out)⟩, ⟨by repeat (first | (with_reducible first | exact HB.out | apply below_alloc | apply pw_below_drewN | apply below_drew1 | refine below_set ?_ (IsS26.ge HI0.out) | refine below_set ?_ GE344.out) | exact HB.out)⟩⟩
         ·rw [if_neg c12] at H
          exact absurd H (by simp)
        ·rw [if_neg c11] at H
         exact absurd H (by simp)
       ·rw [if_neg c10] at H
        exact absurd H (by simp)
      ·rw [if_neg c9] at H
       exact absurd H (by simp)
     ·rw [if_neg c8] at H
      exact absurd H (by simp)
    ·rw [if_neg c7] at H
     exact absurd H (by simp)
   ·rw [if_neg c6] at H
    have c6b0 : decide (x7_1 < (s0_1.length : Int)) = false := decide_eq_false c6
    clear c6
    replace H := Option.bind_eq_some_iff.mp H
    obtain ⟨⟨t350, t351⟩, A210, H⟩ := H
    replace H : (some (t350, t351, t339)) = some (r1, r2, r3) := H
    have A21 := Aside0.mk A210
    clear A210
    simp only [Option.some.injEq, Prod.mk.injEq] at H
    obtain ⟨rfl, rfl, rfl⟩ := H
    obtain ⟨ASz22_1, cSz22_1, HGz22, hgz22, HSz22_1⟩ := HI0.out
    have hcz22_0 := cellS26_0 HGz22
    have hcz22_1 := cellS26_1 HGz22
    have hfz22_0 := blk_frozen HGz22 0
    clear HGz22 hgz22
    obtain ⟨Ao23, co23, eo23⟩ := Kd.R_slice HO_6.out
    subst eo23
    go_wp2_with (first | ((with_reducible refine gate_callee (f := 72) rfl ?_); refine goesL_ (some 52) rfl rfl Try.func72 (by kernel_rfl) rfl #[.slice Ao23 x6_1.length co23, .int .i64 t338] rfl (by (try simp only [List.map_toArray, List.map_cons, List.map_nil]); first | done | rfl | (simp only [List.length_drop, List.length_take]; rfl)) ?_; (with_reducible refine (spec_l10Lowest.calls k1 _ _ x6_1 t338 t350 t351 _ ?side1 ?side2 A21.out).mono ?_); (case side1 => repeat (first | exact (Kd.R_reads' HO_6.out).2.2 | (with_reducible refine Kd.C_alloc ?_ _) | (with_reducible refine Kd.C_drewN ?_ _) | (with_reducible refine Kd.C_drew ?_))); (case side2 => exact (Kd.R_reads' HO_6.out).2.1); rintro e w24 ⟨v352, rfl, ho0, hb⟩; refine ⟨_, rfl, ?_⟩; have n0_ := Aside0.mk (Kd.R_elder' (by (with_reducible repeat (first | apply Kd.R_alloc | apply Kd.R_drewN | apply Kd.R_drew)); exact HO_4.out) (Kd.R_base ho0) hb); have n1_ := Aside0.mk (Kd.R_elder' (by (with_reducible repeat (first | apply Kd.R_alloc | apply Kd.R_drewN | apply Kd.R_drew)); exact HO_6.out) (Kd.R_base ho0) hb); have n2_ := Aside0.mk (Kd.R_lower (Kd.R_new' (Kd.R_new' ho0 (Kd.R_lt (by (with_reducible repeat (first | apply Kd.R_alloc | apply Kd.R_drewN | apply Kd.R_drew)); exact HO_4.out))) (Kd.R_lt (by (with_reducible repeat (first | apply Kd.R_alloc | apply Kd.R_drewN | apply Kd.R_drew)); exact HO_6.out))) (keep_size (w := w) (g := g) (row := none) (by repeat (first | (with_reducible first | exact HK.out | apply KeepBut.set_ | apply keep_drewN | apply keep_drew | apply keep_alloc) | exact HK.out)))); have n3_ := Aside0.mk (IsS26.below (by repeat (first | (with_reducible first | exact HI0.out | apply IsS26.alloc | apply IsS26.drewN | apply IsS26.drew | apply IsS26.set_0) | exact HI0.out)) hb); have n4_ := Aside0.mk (KeepBut.trans (by repeat (first | (with_reducible first | exact HK.out | apply KeepBut.set_ | apply keep_drewN | apply keep_drew | apply keep_alloc) | exact HK.out)) (KeepBut.of_below hb g none) (.inl rfl)); have n5_ := Aside0.mk (below_step (by repeat (first | (with_reducible first | exact HB.out | apply below_alloc | apply pw_below_drewN | apply below_drew1 | refine below_set ?_ (IsS26.ge HI0.out)) | exact HB.out)) hb); clear HO_4; clear HO_6; clear HI0; clear HK; clear HB; have HO_4 := n0_; have HO_6 := n1_; have HO353 := n2_; have HI0 := n3_; have HK := n4_; have HB := n5_; clear n0_ n1_ n2_ n3_ n4_ n5_; (try clear hb); (try clear hb2); (try clear hk); (try clear hi); (try clear ho0)))
    go_ret2
    exact ⟨_, by first | rfl | (simp [errW_none, errW_some] <;> rfl) | (simp [*, errW_none, errW_some] <;> rfl), by (with_reducible repeat (first | apply Kd.R_alloc | apply Kd.R_drewN | apply Kd.R_drew)); exact Kd.R_mono HO353.out (fun _ hk => trivial), by repeat (first | (with_reducible first | exact HI0.out | apply IsS26.alloc | apply IsS26.drewN | apply IsS26.drew | apply IsS26.set_0) | exact HI0.out), by repeat (first | (with_reducible first | exact HB.out | apply below_alloc | apply pw_below_drewN | apply below_drew1 | refine below_set ?_ (IsS26.ge HI0.out)) | exact HB.out), by repeat (first | (with_reducible first | exact HK.out | apply KeepBut.set_ | apply keep_drewN | apply keep_drew | apply keep_alloc) | exact HK.out)⟩
end Go.Proofs.Ytkafbmanmffliaa.Q

