/- Parts of the proof that the law of this seat holds: Gt, Gu, Gx, Gy, Gw, Lo2, Ex, Sp2, Va2. -/
import Derived.Test.YtkafbmanmffliaaGBpm
import Derived.Test.YtkafbmanmffliaaGBpk
import Derived.Test.YtkafbmanmffliaaGBpj
import Derived.Test.YtkafbmanmffliaaGBpb
import Derived.Test.YtkafbmanmffliaaGBpc
import Derived.Test.YtkafbmanmffliaaGBpn
import Derived.Test.YtkafbmanmffliaaGBpa
set_option linter.unusedVariables false
set_option linter.unusedSimpArgs false
/- The program's adjusted heights: the right side is made, the equations are solved. -/
namespace Go.Proofs.Ytkafbmanmffliaa.Gt
open Go Go.RowKit YtkafbmanmffliaaW.PrintWords YtkafbmanmffliaaW.PrintLast YtkafbmanmffliaaW.PrintMore Q Bg Dd Bi Rt Ru Rx Ra Gd Gf Ge Hb Ha Hc Gs Gn Kc Ke Kf
set_option linter.unusedVariables false
set_option linter.unusedSimpArgs false
theorem mk28 (n : Nat) (hn : n ≤ 5) : ∀ W : World, (Instr.makeSlice 28 (.int .i64 (n : Int)) (.int .i64 (n : Int))).run Try.prog W = .ok (.slice (some ⟨W.heap.size, 0, none⟩) n n) (W.alloc (.cells (madeCells #[.int .i64 0] n) 2)) :=
 print_make_of 28 2 (.int .i64 0) 8 Try.underlying28 info2 rfl (by decide) n (by omega)
theorem T.made {B : Nat} (W : World) (n : Nat) (hn : n ≤ 5) (hB : B ≤ W.heap.size) : T B (W.alloc (.cells (madeCells #[.int .i64 0] n) 2)) (.slice (some ⟨W.heap.size, 0, none⟩) n n) (List.replicate n 0) := by
 have h := own_made_of (enc := Value.int .i64) (d := 0) W B 2 n hB (by omega)
 exact Kd.R_of_own (by simpa using h) (fun _ _ => trivial)
theorem solve_xs {n : Nat} {l : List S32} {right : List Int} (h : Ok n l right) {wq wz : World} {b cap : Nat} {us : List Value} (hr : RowIn wq wz b cap (n + 1) us (fun k => if k = 0 then 0 else gj (cst (tab l right n)) n (k - 1) n)) :
  RowIn wq wz b cap (n + 1) us (fun k => xs l right n k) := by
 refine hr.congr (fun k hk => ?_)
 by_cases e : k = 0
 ·subst e
  rw [if_pos rfl]
  exact (xs_zero l right n).symm
 ·rw [if_neg e, h.sol (k - 1) (by omega)]
  unfold xs nu
  rw [if_neg (by omega)]
  rfl
def rgtAt (n : Nat) (l : List S32) (i : Nat) : List Int := rgt n (l.take i)
theorem rgtAt_zero (n : Nat) (l : List S32) : rgtAt n l 0 = List.replicate (n + 1) 0 := by simp [rgtAt, rgt]
theorem rgtAt_all (n : Nat) (l : List S32) : rgtAt n l l.length = rgt n l := by simp [rgtAt]
theorem rgtAt_succ (n : Nat) (l : List S32) (i : Nat) (h : i < l.length) : rgtAt n l (i + 1) = stR (rgtAt n l i) (rd_T32 l i) := by
 unfold rgtAt rgt
 have e : l.take (i + 1) = l.take i ++ [rd_T32 l i] := by
  rw [List.take_succ_eq_append_getElem h]
  simp [rd_T32, h]
 rw [e, List.foldl_append]
 rfl
theorem rgtAt_len (n : Nat) (l : List S32) (i : Nat) : (rgtAt n l i).length = n + 1 := rgt_len _ _
theorem rgtAt_size {n : Nat} {l : List S32} (hv : surveyB ((n : Int) + 1) l = true) (i : Nat) (p : Int) : -2400 ≤ rd (rgtAt n l i) p ∧ rd (rgtAt n l i) p ≤ 2400 := by
 have hl8 : l.length ≤ 8 := by
  have := hv
  unfold surveyB at this
  simp only [Bool.and_eq_true, decide_eq_true_eq] at this
  have := this.1.2
  omega
 have := fold_size (l.take i) (fun s hs => mem_at hv s (List.mem_of_mem_take hs)) (List.replicate (n + 1) 0) (by simp) 0 (by omega) (fun p => by rw [rd_zeros]; omega) p
 have hl : (l.take i).length ≤ 8 := by simp; omega
 unfold rgtAt rgt
 omega
theorem T.drewN {B : Nat} {W : World} {v : Value} {xs : List Int} (h : T B W v xs) : T B W.drew v xs := h.below (below_drew (Below.refl _ _))
set_option maxHeartbeats 4000000 in
set_option maxRecDepth 100000 in
theorem adjusted_any (n : Nat) (l : List S32) (hc : Gm.connB ((n : Int) + 1) l = true) (A : Option Addr) (c : Nat) (w : World) (hr : Kd.C k32 w A l.length l) (hcl : l.length ≤ c) :
  Calls Try.prog 60 #[.agg #[.int .i64 ((n : Int) + 1), .slice A l.length c]] w fun e w' => ∃ (b cap : Nat) (us : List Value), e = .returned (.slice (some ⟨b, 0, none⟩) (n + 1) cap) ∧ RowIn w w' b cap (n + 1) us (fun k => hts n l k) := by
 have hu26 := Try.underlying26
 have hu32 := Try.underlying32
 have hn := conn_n hc
 have hn4 := hn.2.1
 have hl8 := hn.2.2
 have mk := mk28 (n + 1) (by omega)
 rw [show ((n + 1 : Nat) : Int) = (n : Int) + 1 by omega] at mk
 have hbx := below_alloc (Below.refl w.heap.size w) (SX ((n : Int) + 1) A l.length c)
 have HR := Aside0.mk (Kd.C_below hr hbx)
 have HX := Aside0.mk (heap_alloc_new w (SX ((n : Int) + 1) A l.length c))
 have HC := Aside0.mk hc
 have HV := Aside0.mk (conn_v hc)
 have HCL := Aside0.mk hcl
 clear hr hc hcl hn hbx
 go_enter Try.func60, Try.ntmps60
 go_wp2_with (fail)
 obtain ⟨W0, hW0⟩ : ∃ W0, W0 = w.alloc (SX ((n : Int) + 1) A l.length c) := ⟨_, rfl⟩
 have hs0 : W0.heap.size = w.heap.size + 1 := by rw [hW0]; simp
 rw [← hW0] at HR HX
 rw [← hW0]
 have HW0 := Aside0.mk hW0
 clear hW0 mk
 have t0 := Aside0.mk (T.made W0 (n + 1) (by omega) (Nat.le_refl W0.heap.size))
 have tb := Aside0.mk (below_alloc (Below.refl W0.heap.size W0) (.cells (madeCells #[.int .i64 0] (n + 1)) 2))
 obtain ⟨g, hg⟩ : ∃ g, g = w.heap.size + 1 := ⟨_, rfl⟩
 rw [← hg] at hs0
 rw [← hg]
 rw [hs0] at t0
 have HS0 := Aside0.mk (And.intro hs0 hg)
 clear hs0 hg
 go_loopw [12] (fun v12 wz => ∃ i : Nat, v12 = .int .i64 (i : Int) ∧ i ≤ l.length ∧ Aside0 (T g wz (.slice (some ⟨g, 0, none⟩) (n + 1) (n + 1)) (rgtAt n l i)) ∧ Aside0 (Below W0.heap.size W0 wz)) (fun v _ => l.length - (intOf v).toNat)
 case atStart => exact ⟨0, rfl, by omega, ⟨by rw [rgtAt_zero]; exact t0.out⟩, tb⟩
 case round =>
  clear t0 tb
  obtain ⟨i, rfl, hi, HT, HB⟩ := hrel
  by_cases hlt : i < l.length
  ·have p1 : decide ((i : Int) < (l.length : Int)) = true := decide_eq_true (by omega)
   obtain ⟨ad, e, x0, x1, x2, x3⟩ := at_T32 (Kd.C_below HR.out HB.out) (i : Int) (by omega) (by omega)
   subst e
   rw [Int.toNat_natCast] at x0 x1 x2 x3
   have hm : rd_T32 l i ∈ l := by simp only [rd_T32, Int.toNat_natCast]; rw [List.getD_eq_getElem?_getD, List.getElem?_eq_getElem hlt]; simp
   have hva := mem_at HV.out _ hm
   have HSU := Aside0.mk (rgtAt_succ n l i hlt)
   obtain ⟨s, hs⟩ : ∃ s, s = rd_T32 l i := ⟨_, rfl⟩
   rw [← hs] at x0 x1 x2 x3 hva HSU
   clear hs hm
   obtain ⟨f, t, ri, wt⟩ := s
   dsimp only at x0 x1 x2 x3 hva
   obtain ⟨y0, y1, y2, y3, y4, y5, y6, y7, y8⟩ := hva
   obtain ⟨f, rfl⟩ : ∃ q : Nat, f = q := ⟨f.toNat, by omega⟩
   obtain ⟨t, rfl⟩ : ∃ q : Nat, t = q := ⟨t.toNat, by omega⟩
   obtain ⟨r, hr⟩ : ∃ r, r = rgtAt n l i := ⟨_, rfl⟩
   have hrl : r.length = n + 1 := by rw [hr]; exact rgtAt_len n l i
   have hz : ∀ p : Int, -2400 ≤ rd r p ∧ rd r p ≤ 2400 := fun p => by rw [hr]; exact rgtAt_size HV.out i p
   rw [← hr] at HT HSU
   have hwr : -300 ≤ wt * ri ∧ wt * ri ≤ 300 := by
    have c3 : wt = 1 ∨ wt = 2 ∨ wt = 3 := by omega
    rcases c3 with e | e | e <;> rw [e] <;> omega
   obtain ⟨k, hk⟩ : ∃ k, k = wt * ri := ⟨_, rfl⟩
   rw [← hk] at hwr
   have hw1 : wrap64 (wt * ri) = k := by rw [← hk]; unfold wrap64; omega
   have HSU2 := Aside0.mk (show rgtAt n l (i + 1) = (r.set t (rd r (t : Int) + k)).set f (rd (r.set t (rd r (t : Int) + k)) (f : Int) - k) by rw [HSU.out, hk]; rfl)
   obtain ⟨v1, hv1⟩ : ∃ v1, v1 = rd r (t : Int) + k := ⟨_, rfl⟩
   have hzt := hz t
   have hw2 : wrap64 (rd r (t : Int) + k) = v1 := by rw [← hv1]; unfold wrap64; omega
   obtain ⟨r1, hr1⟩ : ∃ r1, r1 = r.set t v1 := ⟨_, rfl⟩
   have hzf := (ad_size (r := r) (t := t) (f := f) (m := 2400) (k := 0) (c := 0) (by omega) (by omega) (by omega) hz (by omega) (by omega) (by omega) (by omega) (by omega) f)
   have hzf1 : -2700 ≤ rd r1 (f : Int) ∧ rd r1 (f : Int) ≤ 2700 := by
    have e := rd_set (r := r) (t := t) (p := f) (v := v1) (by omega) (by omega) (by omega)
    rw [Int.toNat_natCast, ← hr1] at e
    rw [e]
    have := hz f
    split <;> omega
   obtain ⟨v2, hv2⟩ : ∃ v2, v2 = rd r1 (f : Int) - k := ⟨_, rfl⟩
   have hw3 : wrap64 (rd r1 (f : Int) - k) = v2 := by rw [← hv2]; unfold wrap64; omega
   have HSU3 := Aside0.mk (show rgtAt n l (i + 1) = r1.set f v2 by rw [HSU2.out, ← hv1, ← hr1, ← hv2])
   have HR1 := Aside0.mk hr1
   obtain ⟨vt, hvt⟩ : ∃ vt, vt = rd r (t : Int) := ⟨_, rfl⟩
   rw [← hvt] at hw2
   obtain ⟨vf, hvf⟩ : ∃ vf, vf = rd r1 (f : Int) := ⟨_, rfl⟩
   rw [← hvf] at hw3
   have HVT := Aside0.mk hvt
   have HVF := Aside0.mk hvf
   have HRL := Aside0.mk hrl
   clear hr hz hwr hk hv1 hv2 hzt hzf hzf1 hr1 hvt hvf hrl HSU HSU2
   have HBA := Aside0.mk (below_alloc (Below.refl wr.heap.size wr) (.cells #[.int .i64 (f : Int), .int .i64 (t : Int), .int .i64 ri, .int .i64 wt] 32))
   have HNA := Aside0.mk (heap_alloc_new wr (.cells #[.int .i64 (f : Int), .int .i64 (t : Int), .int .i64 ri, .int .i64 wt] 32))
   have HT1 := Aside0.mk (HT.out.below HBA.out)
   obtain ⟨z0, z1⟩ := HT1.out.cell t (by omega)
   rw [← HVT.out] at z0
   have i1 : (0 ≤ (t : Int)) = True := eq_true (by omega)
   have i2 : ((t : Int) < (n : Int) + 1) = True := eq_true (by omega)
   have i3 : (0 ≤ (f : Int)) = True := eq_true (by omega)
   have i4 : ((f : Int) < (n : Int) + 1) = True := eq_true (by omega)
   go_wp2_with (fail)
   go_region
   have hp1 := HT1.out.put t v1
   have hb1 := (HB.out.trans (HBA.out.mono (HB.out.size))).setCell (p := ⟨g, t, none⟩) (by show W0.heap.size ≤ g; rw [HS0.out.1]; exact Nat.le_refl _) (.int .i64 v1)
   rw [← HR1.out] at hp1
   have HT2 := Aside0.mk (hp1.1.below (below_drew (Below.refl _ _)))
   have HB2 := Aside0.mk (below_drew hb1)
   have hgs := HT.out.lt (k := g) rfl
   have HN2 := Aside0.mk (blk_drew (blk_grown HNA.out hp1.2 (by intro e; have := Option.some.inj e; omega)))
   clear hp1 hb1 hgs z0 z1
   obtain ⟨wa, hwa⟩ : ∃ wa, wa = ((wr.alloc (.cells #[.int .i64 (f : Int), .int .i64 (t : Int), .int .i64 ri, .int .i64 wt] 32)).setCell ⟨g, t, none⟩ (.int .i64 v1)).drew := ⟨_, rfl⟩
   rw [← hwa] at HT2 HB2 HN2
   rw [← hwa]
   clear hwa
   obtain ⟨z0, z1⟩ := HT2.out.cell f (by omega)
   rw [← HVF.out] at z0
   have k0 : wa.cell? ⟨wr.heap.size, 0, none⟩ = some (.int .i64 (f : Int)) := (blk_cell HN2.out 0).trans rfl
   have k2 : wa.cell? ⟨wr.heap.size, 2, none⟩ = some (.int .i64 ri) := (blk_cell HN2.out 2).trans rfl
   have k3 : wa.cell? ⟨wr.heap.size, 3, none⟩ = some (.int .i64 wt) := (blk_cell HN2.out 3).trans rfl
   go_wp2_with (fail)
   go_region
   have hp2 := HT2.out.put f v2
   have hb2 := HB2.out.setCell (p := ⟨g, f, none⟩) (by show W0.heap.size ≤ g; rw [HS0.out.1]; exact Nat.le_refl _) (.int .i64 v2)
   rw [← HSU3.out] at hp2
   have HT3 := Aside0.mk (hp2.1.below (below_drew (Below.refl _ _)))
   have HB3 := Aside0.mk (below_drew hb2)
   clear hp2 hb2
   go_wp2_with (fail)
   go_roundw
   case rel => exact ⟨i + 1, by go_num, by omega, HT3, HB3⟩
   case measure => simp [intOf]; omega
  ·obtain rfl : l.length = i := by omega
   have p1 : decide ((l.length : Int) < (l.length : Int)) = false := decide_eq_false (by omega)
   rw [rgtAt_all] at HT
   have hok := ok_rgt HC.out
   have hC : Kd.C (Kd.int .i64) wr (some ⟨g, 0, none⟩) (rgt n l).length (rgt n l) := (Kd.R_reads' HT.out).2.2
   have hsv := solve_any n hn4 l HV.out A c (some ⟨g, 0, none⟩) (n + 1) (rgt n l) wr (Kd.C_below HR.out HB.out) HCL.out hC (rgt_len n l) (fun i => by have := rgt_size HV.out i; omega) hok.piv
   rw [rgt_len] at hsv
   have HOK := Aside0.mk hok
   have hbk := blk_below HX.out HB.out
   have hcx : wr.cell? ⟨w.heap.size, 0, none⟩ = some (.int .i64 ((n : Int) + 1)) := (blk_cell hbk 0).trans rfl
   have hcy : wr.cell? ⟨w.heap.size, 1, none⟩ = some (.slice A l.length c) := (blk_cell hbk 1).trans rfl
   clear hok hC hbk
   go_wp2_with (fail)
   refine hsv.mono ?_
   rintro e w1 ⟨b, cap, us, rfl, h1⟩
   have H1 := Aside0.mk (solve_xs HOK.out h1)
   clear h1 hsv
   go_wp2_with (fail)
   go_ret
   exact ⟨b, cap, us, rfl, H1.out.outer (by rw [HW0.out]; exact below_alloc (Below.refl _ _) _) HB.out⟩
end Go.Proofs.Ytkafbmanmffliaa.Gt

/- The program's residuals, cofactors, redundancies and weighted squares: rows of fractions. -/
namespace Go.Proofs.Ytkafbmanmffliaa.Gu
open Go Go.RowKit YtkafbmanmffliaaW.PrintWords YtkafbmanmffliaaW.PrintLast YtkafbmanmffliaaW.PrintMore Q Bg Dd Bi Rt Ru Rx Ra Gd Gf Ge Gi Hb Ha Hc Gs Gn Ka Kc Ke Kf Gt
set_option linter.unusedVariables false
set_option linter.unusedSimpArgs false
theorem RowIn.growF {wq wr w1 w2 : World} {b cap j pb g1 cap1 : Nat} {us : List Value} {F : Nat → Rat} {x : Rat} (h : RowIn wq wr b cap j us F) (hb1 : Below wr.heap.size wr w1) (hx : RI w1 pb x)
  (hc : Cb w2 74 g1 cap1 (us ++ [.pointer (some ⟨pb, 0, none⟩)])) (hat : g1 = b ∨ w1.heap.size ≤ g1) (hg : w1.grownBy w2 (some b)) (e : x = F j) : RowIn wq w2 g1 cap1 (j + 1) (us ++ [.pointer (some ⟨pb, 0, none⟩)]) F := by
 refine (h.grow hb1 hx hc hat hg).congr (fun k hk => ?_)
 show (if k = j then _ else _) = _
 by_cases e2 : k = j
 ·rw [if_pos e2, e2]; exact e
 ·rw [if_neg e2]
theorem sm31 {z : Int} (h : -2147483648 < z ∧ z < 2147483648) : Sm 31 (z : Rat) := by
 have e : (2 : Nat) ^ 31 = 2147483648 := by decide
 refine Sm.int ?_ (by omega)
 rw [e]
 omega
theorem sm_xs {n : Nat} (hn4 : n ≤ 4) {l : List S32} {right : List Int} (h : Ok n l right) (p : Int) (h0 : 0 ≤ p) (hp : p ≤ n) : Sm 31 (xs l right n p) := by
 have hd := h.pos n (Nat.le_refl _)
 rw [h.last] at hd
 have hd2 : den l n ≤ 1073741824 := by
  rw [← h.last]
  by_cases e : n = 0
  ·subst e; show (1 : Int) ≤ _; decide
  ·obtain ⟨m, rfl⟩ : ∃ m, n = m + 1 := ⟨n - 1, by omega⟩
   rw [LL_succ _ m (by omega)]
   exact (h.size m m m (by omega) (by omega) (by omega)).2
 have e31 : (2 : Nat) ^ 31 = 2147483648 := by decide
 have hn : (nu l right n p).natAbs < 2 ^ 31 := by
  rw [e31]
  unfold nu
  split
  ·decide
  ·have := h.size n (p.toNat - 1) n (Nat.le_refl _) (by omega) (Nat.le_refl _)
   omega
 have := Sm.divInt (a := nu l right n p) (b := den l n) (by omega) hn (by rw [e31]; omega)
 unfold xs
 rw [Rat.divInt_eq_div] at this
 exact this
set_option maxHeartbeats 8000000 in
set_option maxRecDepth 100000 in
theorem residuals_any (n : Nat) (l : List S32) (hc : Gm.connB ((n : Int) + 1) l = true) (A : Option Addr) (c : Nat) (w : World) (hr : Kd.C k32 w A l.length l) (hcl : l.length ≤ c) :
  Calls Try.prog 61 #[.agg #[.int .i64 ((n : Int) + 1), .slice A l.length c]] w fun e w' => ∃ (b cap : Nat) (us : List Value), e = .returned (.slice (some ⟨b, 0, none⟩) l.length cap) ∧ RowIn w w' b cap l.length us (fun k => res n l (rd_T32 l k)) := by
 have hu26 := Try.underlying26
 have hu32 := Try.underlying32
 have hu24 := Try.underlying24
 have hu69 := Try.underlying69
 have hn := conn_n hc
 have hn4 := hn.2.1
 have hl8 := hn.2.2
 have hbx := below_alloc (Below.refl w.heap.size w) (SX ((n : Int) + 1) A l.length c)
 have HR := Aside0.mk (Kd.C_below hr hbx)
 have HX := Aside0.mk (heap_alloc_new w (SX ((n : Int) + 1) A l.length c))
 have HC := Aside0.mk hc
 have HV := Aside0.mk (conn_v hc)
 have HCL := Aside0.mk hcl
 clear hr hc hcl hn hbx
 have hadj := adjusted_any n l HC.out A c (w.alloc (SX ((n : Int) + 1) A l.length c)) HR.out HCL.out
 have HS31 := Aside0.mk (fun p h0 hp => sm_xs hn4 (ok_rgt HC.out) p h0 hp)
 go_enter Try.func61, Try.ntmps61
 go_wp2_with (go_at_call 60; (with_reducible refine hadj.mono ?_); rintro e w1 ⟨bH, capH, usH, rfl, hH⟩; have HH := Aside0.mk hH; have HX1 := Aside0.mk (blk_below HX.out hH.2.2.2); have HR1 := Aside0.mk (Kd.C_below HR.out hH.2.2.2); have cx : (w1.alloc (.cells #[] 74)).cell? ⟨w.heap.size, 1, none⟩ = some (.slice A l.length c) := (blk_cell (blk_alloc HX1.out _) 1).trans rfl; clear hH hadj)
 obtain ⟨wq, rfl⟩ : ∃ wq, wq = w1 := ⟨_, rfl⟩
 have t0 := Aside0.mk (RowIn.new wq (fun k => res n l (rd_T32 l k)))
 clear cx
 go_loopw [4, 13] (fun v4 v13 wz => ∃ (i b cap2 : Nat) (us : List Value), v4 = .slice (some ⟨b, 0, none⟩) i cap2 ∧ v13 = .int .i64 (i : Int) ∧ i ≤ l.length ∧ Aside0 (RowIn wq wz b cap2 i us (fun k => res n l (rd_T32 l k)))) (fun _ v _ => l.length - (intOf v).toNat)
 case atStart => exact ⟨0, _, 0, [], rfl, rfl, by omega, t0⟩
 case round =>
  clear t0
  obtain ⟨i, b, cap2, us, rfl, rfl, hi, HI⟩ := hrel
  by_cases hlt : i < l.length
  ·have p1 : decide ((i : Int) < (l.length : Int)) = true := decide_eq_true (by omega)
   obtain ⟨ad, e, x0, x1, x2, x3⟩ := at_T32 (Kd.C_below HR1.out (below_weaken (Below.refl _ _) (Nat.le_refl _) HI.out.2.2.2)) (i : Int) (by omega) (by omega)
   subst e
   rw [Int.toNat_natCast] at x0 x1 x2 x3
   have hm : rd_T32 l i ∈ l := by simp only [rd_T32, Int.toNat_natCast]; rw [List.getD_eq_getElem?_getD, List.getElem?_eq_getElem hlt]; simp
   have hva := mem_at HV.out _ hm
   have HRES := Aside0.mk (show res n l (rd_T32 l i) = ((rd_T32 l i).f2 : Rat) - hts n l (rd_T32 l i).f1 + hts n l (rd_T32 l i).f0 from by unfold res dif; grind)
   obtain ⟨s, hs⟩ : ∃ s, s = rd_T32 l i := ⟨_, rfl⟩
   rw [← hs] at x0 x1 x2 x3 hva HRES
   have HS := Aside0.mk hs
   clear hs hm
   obtain ⟨f, t, ri, wt⟩ := s
   dsimp only at x0 x1 x2 x3 hva HRES
   obtain ⟨y0, y1, y2, y3, y4, y5, y6, y7, y8⟩ := hva
   obtain ⟨f, rfl⟩ : ∃ q : Nat, f = q := ⟨f.toNat, by omega⟩
   obtain ⟨t, rfl⟩ : ∃ q : Nat, t = q := ⟨t.toNat, by omega⟩
   have hba := below_alloc (Below.refl wr.heap.size wr) (.cells #[.int .i64 (f : Int), .int .i64 (t : Int), .int .i64 ri, .int .i64 wt] 32)
   have hna := heap_alloc_new wr (.cells #[.int .i64 (f : Int), .int .i64 (t : Int), .int .i64 ri, .int .i64 wt] 32)
   have hH := HH.out.below (below_step HI.out.2.2.2 hba)
   obtain ⟨pt, e0, e1, hpt⟩ := row_at hH.2.1 hH.2.2.1 (show t < n + 1 by omega)
   obtain ⟨pf, e2, e3, hpf⟩ := row_at hH.2.1 hH.2.2.1 (show f < n + 1 by omega)
   have HPT := Aside0.mk hpt
   have HPF := Aside0.mk hpf
   have HT31 := Aside0.mk (HS31.out t (by omega) (by omega))
   have HF31 := Aside0.mk (HS31.out f (by omega) (by omega))
   have i1 : (0 ≤ (t : Int)) = True := eq_true (by omega)
   have i2 : ((t : Int) < (n : Int) + 1) = True := eq_true (by omega)
   have i3 : (0 ≤ (f : Int)) = True := eq_true (by omega)
   have i4 : ((f : Int) < (n : Int) + 1) = True := eq_true (by omega)
   have r0 : -9223372036854775808 ≤ ri := by omega
   have r1 : ri ≤ 9223372036854775807 := by omega
   have HRI := Aside0.mk (show Sm 31 ((ri : Int) : Rat) from sm31 (by omega))
   obtain ⟨wa, hwa⟩ : ∃ wa, wa = wr.alloc (.cells #[.int .i64 (f : Int), .int .i64 (t : Int), .int .i64 ri, .int .i64 wt] 32) := ⟨_, rfl⟩
   rw [← hwa] at hba hna e0 e2 HPT HPF
   have c0 : wa.cell? ⟨wr.heap.size, 0, none⟩ = some (.int .i64 (f : Int)) := (blk_cell hna 0).trans rfl
   have c1 : wa.cell? ⟨wr.heap.size, 1, none⟩ = some (.int .i64 (t : Int)) := (blk_cell hna 1).trans rfl
   have c2 : wa.cell? ⟨wr.heap.size, 2, none⟩ = some (.int .i64 ri) := (blk_cell hna 2).trans rfl
   have HI := Aside0.mk (HI.out.below hba)
   clear hH hpt hpf hna hba e1 e3
   go_wp2_with (fail)
   rw [← hwa]
   clear hwa x0 x1 x2 x3
   have HXF := Aside0.mk (show ((ri : Int) : Rat) - hts n l (t : Int) + hts n l (f : Int) = res n l (rd_T32 l i) by rw [← HS.out, HRES.out])
   refine start_ (n := 19) (S := fun w' => w'.cell? ⟨wr.heap.size, 0, none⟩ = some (.int .i64 (f : Int)) ∧ w'.cell? ⟨wr.heap.size, 1, none⟩ = some (.int .i64 (t : Int)) ∧ w'.cell? ⟨wr.heap.size, 2, none⟩ = some (.int .i64 ri) ∧ w'.cell? ⟨bH, t, none⟩ = some (.pointer (some ⟨pt, 0, none⟩)) ∧ w'.cell? ⟨bH, f, none⟩ = some (.pointer (some ⟨pf, 0, none⟩))) (ds := [17]) #[false, false, false, false, false, false, false, false, false, false, false, false, false, false, false, false, false, false, false] (by kernel_rfl) rfl rfl ⟨c0, c1, c2, e0, e2⟩ (fun hHeld => ?_)
   refine pure_ (i := 0) (N := some 17) (v := ?_) (a' := ?_) #[true, false, false, false, false, false, false, false, false, false, false, false, false, false, false, false, false, false, false] rfl rfl (by kernel_rfl) (fun _ _ _ h => h) (Or.inl ⟨by rfl, ?_⟩) ?_ ?_
   rotate_left
   ·intro w'
    go_simp
    with_reducible rfl
   rotate_left
   ·simp only [Act.put, List.setIfInBounds_toArray, List.set_cons_zero, List.set_cons_succ, i64_w, i32_w]
    rfl
   refine pure_ (i := 1) (N := some 18) (v := ?_) (a' := ?_) #[true, true, false, false, false, false, false, false, false, false, false, false, false, false, false, false, false, false, false] rfl rfl (by kernel_rfl) (fun _ _ _ h => h) (Or.inl ⟨by rfl, ?_⟩) ?_ ?_
   rotate_left
   ·intro w'
    go_simp
    with_reducible rfl
   rotate_left
   ·simp only [Act.put, List.setIfInBounds_toArray, List.set_cons_zero, List.set_cons_succ, i64_w, i32_w]
    rfl
   refine pure_ (i := 4) (N := some 21) (v := ?_) (a' := ?_) #[true, true, false, false, true, false, false, false, false, false, false, false, false, false, false, false, false, false, false] rfl rfl (by kernel_rfl) (fun _ _ _ h => h) (Or.inl ⟨by rfl, ?_⟩) ?_ ?_
   rotate_left
   ·intro w'
    go_simp
    with_reducible rfl
   rotate_left
   ·simp only [Act.put, List.setIfInBounds_toArray, List.set_cons_zero, List.set_cons_succ, i64_w, i32_w]
    rfl
   refine pure_ (i := 5) (N := some 22) (v := ?_) (a' := ?_) #[true, true, false, false, true, true, false, false, false, false, false, false, false, false, false, false, false, false, false] rfl rfl (by kernel_rfl) (fun _ _ _ h => h) (Or.inl ⟨by rfl, ?_⟩) ?_ ?_
   rotate_left
   ·intro w'
    go_simp
    with_reducible rfl
   rotate_left
   ·simp only [Act.put, List.setIfInBounds_toArray, List.set_cons_zero, List.set_cons_succ, i64_w, i32_w]
    rfl
   refine pure_ (i := 10) (N := some 27) (v := ?_) (a' := ?_) #[true, true, false, false, true, true, false, false, false, false, true, false, false, false, false, false, false, false, false] rfl rfl (by kernel_rfl) (fun _ _ _ h => h) (Or.inl ⟨by rfl, ?_⟩) ?_ ?_
   rotate_left
   ·intro w'
    go_simp
    with_reducible rfl
   rotate_left
   ·simp only [Act.put, List.setIfInBounds_toArray, List.set_cons_zero, List.set_cons_succ, i64_w, i32_w]
    rfl
   refine pure_ (i := 11) (N := some 28) (v := ?_) (a' := ?_) #[true, true, false, false, true, true, false, false, false, false, true, true, false, false, false, false, false, false, false] rfl rfl (by kernel_rfl) (fun _ _ _ h => h) (Or.inl ⟨by rfl, ?_⟩) ?_ ?_
   rotate_left
   ·intro w'
    go_simp
    with_reducible rfl
   rotate_left
   ·simp only [Act.put, List.setIfInBounds_toArray, List.set_cons_zero, List.set_cons_succ, i64_w, i32_w]
    rfl
   refine take_ (i := 2) (N := some 19) (v := ?_) (a' := ?_) #[true, true, true, false, true, true, false, false, false, false, true, true, false, false, false, false, false, false, false] rfl rfl (by kernel_rfl) (fun _ _ _ h => h) (Or.inl ⟨by rfl, ?_⟩) hHeld ?_ ?_
   rotate_left
   ·rintro w' ⟨s0, s1, s2, s3, s4⟩
    go_simp
    with_reducible rfl
   rotate_left
   ·simp only [Act.put, List.setIfInBounds_toArray, List.set_cons_zero, List.set_cons_succ, i64_w, i32_w]
    rfl
   refine take_ (i := 6) (N := some 23) (v := ?_) (a' := ?_) #[true, true, true, false, true, true, true, false, false, false, true, true, false, false, false, false, false, false, false] rfl rfl (by kernel_rfl) (fun _ _ _ h => h) (Or.inl ⟨by rfl, ?_⟩) hHeld ?_ ?_
   rotate_left
   ·rintro w' ⟨s0, s1, s2, s3, s4⟩
    go_simp
    with_reducible rfl
   rotate_left
   ·simp only [Act.put, List.setIfInBounds_toArray, List.set_cons_zero, List.set_cons_succ, i64_w, i32_w]
    rfl
   refine pure_ (i := 7) (N := some 24) (v := ?_) (a' := ?_) #[true, true, true, false, true, true, true, true, false, false, true, true, false, false, false, false, false, false, false] rfl rfl (by kernel_rfl) (fun _ _ _ h => h) (Or.inl ⟨by rfl, ?_⟩) ?_ ?_
   rotate_left
   ·intro w'
    go_simp
    with_reducible rfl
   rotate_left
   ·simp only [Act.put, List.setIfInBounds_toArray, List.set_cons_zero, List.set_cons_succ, i64_w, i32_w]
    rfl
   refine take_ (i := 8) (N := some 25) (v := ?_) (a' := ?_) #[true, true, true, false, true, true, true, true, true, false, true, true, false, false, false, false, false, false, false] rfl rfl (by kernel_rfl) (fun _ _ _ h => h) (Or.inl ⟨by rfl, ?_⟩) hHeld ?_ ?_
   rotate_left
   ·rintro w' ⟨s0, s1, s2, s3, s4⟩
    go_simp
    with_reducible rfl
   rotate_left
   ·simp only [Act.put, List.setIfInBounds_toArray, List.set_cons_zero, List.set_cons_succ, i64_w, i32_w]
    rfl
   refine take_ (i := 12) (N := some 29) (v := ?_) (a' := ?_) #[true, true, true, false, true, true, true, true, true, false, true, true, true, false, false, false, false, false, false] rfl rfl (by kernel_rfl) (fun _ _ _ h => h) (Or.inl ⟨by rfl, ?_⟩) hHeld ?_ ?_
   rotate_left
   ·rintro w' ⟨s0, s1, s2, s3, s4⟩
    go_simp
    with_reducible rfl
   rotate_left
   ·simp only [Act.put, List.setIfInBounds_toArray, List.set_cons_zero, List.set_cons_succ, i64_w, i32_w]
    rfl
   refine pure_ (i := 13) (N := some 30) (v := ?_) (a' := ?_) #[true, true, true, false, true, true, true, true, true, false, true, true, true, true, false, false, false, false, false] rfl rfl (by kernel_rfl) (fun _ _ _ h => h) (Or.inl ⟨by rfl, ?_⟩) ?_ ?_
   rotate_left
   ·intro w'
    go_simp
    with_reducible rfl
   rotate_left
   ·simp only [Act.put, List.setIfInBounds_toArray, List.set_cons_zero, List.set_cons_succ, i64_w, i32_w]
    rfl
   refine take_ (i := 14) (N := some 31) (v := ?_) (a' := ?_) #[true, true, true, false, true, true, true, true, true, false, true, true, true, true, true, false, false, false, false] rfl rfl (by kernel_rfl) (fun _ _ _ h => h) (Or.inl ⟨by rfl, ?_⟩) hHeld ?_ ?_
   rotate_left
   ·rintro w' ⟨s0, s1, s2, s3, s4⟩
    go_simp
    with_reducible rfl
   rotate_left
   ·simp only [Act.put, List.setIfInBounds_toArray, List.set_cons_zero, List.set_cons_succ, i64_w, i32_w]
    rfl
   refine one_ (i := 3) (N := some 20) #[true, true, true, true, true, true, true, true, true, false, true, true, true, true, true, false, false, false, false] rfl rfl (by kernel_rfl) (by decide) (fun K_ hK => ?_)
   refine goes_ Try.func66 (by kernel_rfl) rfl #[.int .i64 ri] (by rfl) rfl rfl (by (try simp only [List.map_toArray, List.map_cons, List.map_nil]); first | done | rfl) ?_
   refine (whole_any ri _ r0 r1).mono ?_
   rintro e w1 ⟨pz1, rfl, hpz, hri, hb1⟩
   have HB1 := Aside0.mk (below_step (below_drew (Below.refl wa.heap.size wa)) hb1)
   have HZ1 := Aside0.mk hri
   have HO1 := Aside0.mk hb1
   clear hpz hri hb1
   refine ⟨_, rfl, ?_⟩
   refine hK.out _ _ (⟨(HB1.out.cell (World.block_lt_of_cell? _ _ c0)).trans c0, (HB1.out.cell (World.block_lt_of_cell? _ _ c1)).trans c1, (HB1.out.cell (World.block_lt_of_cell? _ _ c2)).trans c2, (HB1.out.cell (World.block_lt_of_cell? _ _ e0)).trans e0, (HB1.out.cell (World.block_lt_of_cell? _ _ e2)).trans e2⟩) (fun hHeld => ?_)
   clear hK K_
   refine norm_ (a' := ?_) ?_ ?_
   rotate_left
   ·show Act.put _ (some 20) _ = _
    simp only [Act.put, List.setIfInBounds_toArray, List.set_cons_zero, List.set_cons_succ, i64_w, i32_w]
    rfl
   refine one_ (i := 9) (N := some 26) #[true, true, true, true, true, true, true, true, true, true, true, true, true, true, true, false, false, false, false] rfl rfl (by kernel_rfl) (by decide) (fun K_ hK => ?_)
   refine goes_ Try.func65 (by kernel_rfl) rfl #[.pointer (some ⟨pz1, 0, none⟩), .pointer (some ⟨pt, 0, none⟩)] (by rfl) rfl rfl (by (try simp only [List.map_toArray, List.map_cons, List.map_nil]); first | done | rfl) ?_
   refine (ratMinus_any pz1 pt ((ri : Int) : Rat) (hts n l (t : Int)) 31 w1 HZ1.out (RI.below HPT.out HB1.out) (by omega) HRI.out HT31.out).mono ?_
   rintro e w2 ⟨pz2, rfl, hpz, hri, hb1⟩
   have HB2 := Aside0.mk (below_step HB1.out hb1)
   have HZ2 := Aside0.mk hri
   have HO2 := Aside0.mk hb1
   clear hpz hri hb1
   refine ⟨_, rfl, ?_⟩
   refine hK.out _ _ (⟨(HB2.out.cell (World.block_lt_of_cell? _ _ c0)).trans c0, (HB2.out.cell (World.block_lt_of_cell? _ _ c1)).trans c1, (HB2.out.cell (World.block_lt_of_cell? _ _ c2)).trans c2, (HB2.out.cell (World.block_lt_of_cell? _ _ e0)).trans e0, (HB2.out.cell (World.block_lt_of_cell? _ _ e2)).trans e2⟩) (fun hHeld => ?_)
   clear hK K_
   refine norm_ (a' := ?_) ?_ ?_
   rotate_left
   ·show Act.put _ (some 26) _ = _
    simp only [Act.put, List.setIfInBounds_toArray, List.set_cons_zero, List.set_cons_succ, i64_w, i32_w]
    rfl
   refine one_ (i := 15) (N := some 32) #[true, true, true, true, true, true, true, true, true, true, true, true, true, true, true, true, false, false, false] rfl rfl (by kernel_rfl) (by decide) (fun K_ hK => ?_)
   refine goes_ Try.func68 (by kernel_rfl) rfl #[.pointer (some ⟨pz2, 0, none⟩), .pointer (some ⟨pf, 0, none⟩)] (by rfl) rfl rfl (by (try simp only [List.map_toArray, List.map_cons, List.map_nil]); first | done | rfl) ?_
   refine (ratPlus_any pz2 pf (((ri : Int) : Rat) - hts n l (t : Int)) (hts n l (f : Int)) 63 w2 HZ2.out (RI.below HPF.out HB2.out) (by omega) (Sm.sub HRI.out HT31.out) (Sm.mono (by omega) HF31.out)).mono ?_
   rintro e w3 ⟨pz3, rfl, hpz, hri, hb1⟩
   have HB3 := Aside0.mk (below_step HB2.out hb1)
   have HZ3 := Aside0.mk hri
   have HO3 := Aside0.mk hb1
   clear hpz hri hb1
   refine ⟨_, rfl, ?_⟩
   refine hK.out _ _ (⟨(HB3.out.cell (World.block_lt_of_cell? _ _ c0)).trans c0, (HB3.out.cell (World.block_lt_of_cell? _ _ c1)).trans c1, (HB3.out.cell (World.block_lt_of_cell? _ _ c2)).trans c2, (HB3.out.cell (World.block_lt_of_cell? _ _ e0)).trans e0, (HB3.out.cell (World.block_lt_of_cell? _ _ e2)).trans e2⟩) (fun hHeld => ?_)
   clear hK K_
   refine norm_ (a' := ?_) ?_ ?_
   rotate_left
   ·show Act.put _ (some 32) _ = _
    simp only [Act.put, List.setIfInBounds_toArray, List.set_cons_zero, List.set_cons_succ, i64_w, i32_w]
    rfl
   refine one_ (i := 16) (N := some 33) #[true, true, true, true, true, true, true, true, true, true, true, true, true, true, true, true, true, false, false] rfl rfl (by kernel_rfl) (by decide) (fun K_ hK => ?_)
   refine value_ (v := .slice (some ⟨w3.heap.size, 0, none⟩) 1 1) (w1 := w3.alloc (.cells #[.pointer (some ⟨pz3, 0, none⟩)] 74)) (by rfl) rfl ?_ ?_
   ·go_simp
    first | done | exact ⟨rfl, rfl⟩ | rfl
   have HBA := Aside0.mk (below_step HB3.out (below_alloc (Below.refl w3.heap.size w3) (.cells #[.pointer (some ⟨pz3, 0, none⟩)] 74)))
   have HCA := Aside0.mk ((blk_cell (heap_alloc_new w3 (.cells #[.pointer (some ⟨pz3, 0, none⟩)] 74)) 0).trans rfl)
   have HZA := Aside0.mk (RI.below HZ3.out (below_alloc (Below.refl w3.heap.size w3) (.cells #[.pointer (some ⟨pz3, 0, none⟩)] 74)))
   refine hK.out _ _ (⟨(HBA.out.cell (World.block_lt_of_cell? _ _ c0)).trans c0, (HBA.out.cell (World.block_lt_of_cell? _ _ c1)).trans c1, (HBA.out.cell (World.block_lt_of_cell? _ _ c2)).trans c2, (HBA.out.cell (World.block_lt_of_cell? _ _ e0)).trans e0, (HBA.out.cell (World.block_lt_of_cell? _ _ e2)).trans e2⟩) (fun hHeld => ?_)
   clear hK K_
   refine norm_ (a' := ?_) ?_ ?_
   rotate_left
   ·show Act.put _ (some 33) _ = _
    simp only [Act.put, List.setIfInBounds_toArray, List.set_cons_zero, List.set_cons_succ, i64_w, i32_w]
    rfl
   refine last_ (i := 17) (N := some 34) #[true, true, true, true, true, true, true, true, true, true, true, true, true, true, true, true, true, true, false] rfl rfl (by kernel_rfl) (by decide) (fun K_ hK => ?_)
   refine Cb.append_step (by rfl) (.tmp 17) (.tmp 33) 69 74 (.pointer none) 8 rfl Try.underlying69 info74 rfl (Pv.ptr _) (by decide) b cap2 w3.heap.size i us (.pointer (some ⟨pz3, 0, none⟩)) HI.out.len rfl rfl HCA.out rfl (Pv.ptr _) (HI.out.below HBA.out).2.1 (by rw [HI.out.len]; omega) ?_
   intro g1 cap1 w9 h1 h2 h3
   have HN := Aside0.mk (RowIn.growF HI.out HBA.out HZA.out h1 h2 h3 HXF.out)
   clear h1 h2 h3
   refine hK.out _ _ ?_
   clear hK K_
   refine norm_ (a' := ?_) ?_ ?_
   rotate_left
   ·show Act.put _ (some 34) _ = _
    simp only [Act.put, List.setIfInBounds_toArray, List.set_cons_zero, List.set_cons_succ, i64_w, i32_w]
    rfl
   refine pure_ (i := 18) (N := some 4) (v := ?_) (a' := ?_) #[true, true, true, true, true, true, true, true, true, true, true, true, true, true, true, true, true, true, true] rfl rfl (by kernel_rfl) (fun _ _ _ h => h) (Or.inl ⟨by rfl, ?_⟩) ?_ ?_
   rotate_left
   ·intro w'
    go_simp
    with_reducible rfl
   rotate_left
   ·simp only [Act.put, List.setIfInBounds_toArray, List.set_cons_zero, List.set_cons_succ, i64_w, i32_w]
    rfl
   refine done_ (by kernel_rfl) ?_
   go_wp2_with (fail)
   go_roundw
   case rel => exact ⟨i + 1, g1, cap1, _, by go_num, by go_num, by omega, HN⟩
   case measure => simp [intOf]; omega
  ·obtain rfl : l.length = i := by omega
   have p1 : decide ((l.length : Int) < (l.length : Int)) = false := decide_eq_false (by omega)
   go_wp2_with (fail)
   go_ret
   exact ⟨b, cap2, us, rfl, HI.out.outer (below_alloc (Below.refl _ _) _) HH.out.2.2.2⟩
end Go.Proofs.Ytkafbmanmffliaa.Gu

/- The program's cofactor of two points. -/
namespace Go.Proofs.Ytkafbmanmffliaa.Gx
open Go Go.RowKit YtkafbmanmffliaaW.PrintWords YtkafbmanmffliaaW.PrintLast YtkafbmanmffliaaW.PrintMore Q Bg Dd Bi Rt Ru Rx Ra Gd Gf Ge Gi Hb Ha Hc Gs Gn Ka Kc Ke Kf Gt Gu
set_option linter.unusedVariables false
set_option linter.unusedSimpArgs false
end Go.Proofs.Ytkafbmanmffliaa.Gx

/- The program's redundancies. -/
namespace Go.Proofs.Ytkafbmanmffliaa.Gy
open Go Go.RowKit YtkafbmanmffliaaW.PrintWords YtkafbmanmffliaaW.PrintLast YtkafbmanmffliaaW.PrintMore Q Bg Dd Bi Rt Ru Rx Ra Gd Gf Ge Gi Hb Ha Hc Gs Gn Ka Kc Ke Kf Gt Gu Gx
set_option linter.unusedVariables false
set_option linter.unusedSimpArgs false
def red (n : Nat) (l : List S32) (s : S32) : Rat := ((1 : Int) : Rat) - (s.f3 : Rat) * cof n l s.f0 s.f1
end Go.Proofs.Ytkafbmanmffliaa.Gy

/- The program's list: fractions as a denominator and numerators. -/
namespace Go.Proofs.Ytkafbmanmffliaa.Gw
open Go Go.RowKit YtkafbmanmffliaaW.PrintWords YtkafbmanmffliaaW.PrintLast YtkafbmanmffliaaW.PrintMore Q Bg Dd Bi Bj Bk Bm Bn Rt Ru Rx Ra Gd Gf Ge Gi Hc
set_option linter.unusedVariables false
set_option linter.unusedSimpArgs false
def lc (F : Nat → Rat) : Nat → Nat
 | 0 => 1
 | k + 1 => Nat.lcm (lc F k) (F k).den
theorem lc_dvd {F : Nat → Rat} {m D : Nat} (h : ∀ k, k < m → (F k).den ∣ D) (k : Nat) (hk : k ≤ m) : lc F k ∣ D := by
 induction k with
 | zero => exact Nat.one_dvd _
 | succ k ih => exact Nat.lcm_dvd (ih (by omega)) (h k (by omega))
theorem lcm_step (a b : Nat) (hb : 0 < b) : (a : Int) * ((b : Int).tdiv ((Int.gcd (a : Int) (b : Int) : Nat) : Int)) = (Nat.lcm a b : Nat) := by
 rw [Int.gcd_natCast_natCast, Int.tdiv_eq_ediv_of_nonneg (by omega)]
 have hg : 0 < Nat.gcd a b := Nat.gcd_pos_of_pos_right a hb
 obtain ⟨q, hq⟩ := Nat.gcd_dvd_right a b
 have e : Nat.lcm a b = a * q := by
  unfold Nat.lcm
  generalize Nat.gcd a b = g at *
  subst hq
  rw [Nat.mul_left_comm]
  exact Nat.mul_div_cancel_left _ hg
 rw [e]
 generalize Nat.gcd a b = g at *
 subst hq
 push_cast
 rw [Int.mul_ediv_cancel_left _ (by omega)]
theorem T.of_cb {B : Nat} {W : World} {g cap : Nat} {xs : List Int} (h : Cb W 2 g cap (xs.map (Value.int .i64))) (hB : B ≤ g) : T B W (.slice (some ⟨g, 0, none⟩) xs.length cap) xs := by
 obtain ⟨cs, h1, h2, h3, h4, h5, h6⟩ := h
 have ho : W.ownsRow B 2 1 (.slice (some ⟨g, 0, none⟩) xs.length cap) xs.length (encs (Value.int .i64) xs) :=
  ⟨by simp [encs], .inr ⟨g, cap, cs, rfl, hB, h1, by simpa using h3, h4, by simpa using h2, by simpa [encs] using h6⟩⟩
 exact Kd.R_of_own ho (fun _ _ => trivial)
def NumIn (wq wz : World) (b cap : Nat) (xs : List Int) : Prop := wq.heap.size ≤ b ∧ Cb wz 2 b cap (xs.map (Value.int .i64)) ∧ Below wq.heap.size wq wz
theorem NumIn.below {wq wz w1 : World} {b cap : Nat} {xs : List Int} (h : NumIn wq wz b cap xs) (hb : Below wz.heap.size wz w1) : NumIn wq w1 b cap xs := ⟨h.1, h.2.1.below hb, below_step h.2.2 hb⟩
theorem NumIn.new (wq : World) : NumIn wq (wq.alloc (.cells #[] 2)) wq.heap.size 0 [] := ⟨Nat.le_refl _, Cb.nil_new _ _, below_alloc (Below.refl _ _) _⟩
theorem NumIn.grow {wq wr w1 w2 : World} {b cap g1 cap1 : Nat} {xs : List Int} {z : Int} (h : NumIn wq wr b cap xs) (hb1 : Below wr.heap.size wr w1) (hc : Cb w2 2 g1 cap1 (xs.map (Value.int .i64) ++ [.int .i64 z])) (hat : g1 = b ∨ w1.heap.size ≤ g1) (hg : w1.grownBy w2 (some b)) :
  NumIn wq w2 g1 cap1 (xs ++ [z]) := by
 have h1 := h.below hb1
 have hs := h1.2.2.size
 refine ⟨?_, by rw [List.map_append]; exact hc, below_grownB h1.2.2 (Nat.le_refl _) hg h.1⟩
 have := h1.1
 rcases hat with e | e <;> omega
def numL (F : Nat → Rat) (L m : Nat) : List Int := (List.range m).map (fun k => (F k * ((L : Int) : Rat)).num)
theorem numL_succ (F : Nat → Rat) (L m : Nat) : numL F L (m + 1) = numL F L m ++ [(F m * ((L : Int) : Rat)).num] := by simp [numL, List.range_succ]
theorem numL_len (F : Nat → Rat) (L m : Nat) : (numL F L m).length = m := by simp [numL]
set_option maxHeartbeats 8000000 in
set_option maxRecDepth 100000 in
theorem list_any (b cap m : Nat) (us : List Value) (F : Nat → Rat) (D : Nat) (w : World) (hC : Cb w 74 b cap us) (hF : RowF w us m F) (hm8 : m ≤ 8) (hD0 : 0 < D) (hD : D < 2 ^ 62) (hdv : ∀ k, k < m → (F k).den ∣ D) (hsm : ∀ k, k < m → Sm 62 (F k)) (hn : ∀ k, k < m → (F k * ((lc F m : Int) : Rat)).num.natAbs < 2 ^ 63) :
  Calls Try.prog 59 #[.slice (some ⟨b, 0, none⟩) m cap] w fun e w' => ∃ v : Value, e = .returned (.tuple #[.int .i64 (lc F m : Nat), v]) ∧ T w.heap.size w' v (numL F (lc F m) m) ∧ Below w.heap.size w w' := by
 have hu69 := Try.underlying69
 have hlc : ∀ k, k ≤ m → lc F k < 2 ^ 62 := fun k hk => Nat.lt_of_le_of_lt (Nat.le_of_dvd hD0 (lc_dvd hdv k hk)) hD
 have HCC := Aside0.mk hC
 have HF := Aside0.mk hF
 have HLC := Aside0.mk hlc
 have HSM := Aside0.mk hsm
 have HNN := Aside0.mk hn
 clear hC hF hlc hsm hn hdv hD hD0
 go_enter Try.func59, Try.ntmps59
 go_wp2_with (fail)
 refine (newBig_any 1 w (by decide) (by decide)).mono ?_
 rintro e w1 ⟨p1, rfl, hp1, hbi, hrec, hb1⟩
 have HB1 := Aside0.mk (show BI w1 p1 0 ((lc F 0 : Nat) : Int) from hbi)
 have HW1 := Aside0.mk hb1
 clear hp1 hbi hrec hb1
 go_wp2_with (fail)
 go_loopw [4, 14] (fun v4 v14 wz => ∃ (i p : Nat), v4 = .pointer (some ⟨p, 0, none⟩) ∧ v14 = .int .i64 (i : Int) ∧ i ≤ m ∧ Aside0 (BI wz p 0 ((lc F i : Nat) : Int)) ∧ Aside0 (Below w.heap.size w wz)) (fun _ v _ => m - (intOf v).toNat)
 case atStart => exact ⟨0, p1, rfl, rfl, by omega, HB1, HW1⟩
 case round =>
  clear HB1 HW1
  obtain ⟨i, p, rfl, rfl, hi, HB, HW⟩ := hrel
  by_cases hlt : i < m
  ·have q1 : decide ((i : Int) < (m : Int)) = true := decide_eq_true (by omega)
   obtain ⟨px, c0, c1, hpx⟩ := row_at (HCC.out.below HW.out) (HF.out.par (Par.of_below HW.out)) hlt
   have HPX := Aside0.mk hpx
   have HS := Aside0.mk (HSM.out i hlt)
   have HL := Aside0.mk (HLC.out i (by omega))
   have hba := below_alloc (Below.refl wr.heap.size wr) ZB
   have hc1 := denom_any px (F i) 62 (wr.alloc ZB) (hpx.below hba) (by decide) HS.out
   have HBA := Aside0.mk hba
   have i1 : (0 ≤ (i : Int)) = True := eq_true (by omega)
   have i2 : ((i : Int) < (m : Int)) = True := eq_true (by omega)
   clear hpx hba
   go_wp2_with (fail)
   refine hc1.mono ?_
   rintro e w1 ⟨q1, rfl, g1, g2, g3, g4⟩
   have H1 := Aside0.mk g2
   have HB1 := Aside0.mk (HBA.out.trans (g4.mono (by rw [World.size_alloc]; omega)))
   have hc2 := gcd_any wr.heap.size 0 p 0 q1 0 ((lc F i : Nat) : Int) ((F i).den : Int) 62 w1 (HB.out.below HB1.out) g2 ((Rec.new wr).below g4) (by decide) (by have := HL.out; omega) (by have := HS.out.2; omega)
   have HR1 := Aside0.mk ((Rec.new wr).below g4)
   clear g1 g2 g3 g4 hc1 HBA
   go_wp2_with (fail)
   refine hc2.mono ?_
   rintro e w2 ⟨rfl, hp⟩
   have HG := Aside0.mk (hp.bi HR1.out)
   have HB2 := Aside0.mk (HB1.out.trans (hp.below (Nat.le_refl _) HB1.out.size))
   clear hp hc2
   have HBA := Aside0.mk (below_alloc (below_alloc (Below.refl w2.heap.size w2) ZB) ZB)
   have HRA := Aside0.mk ((Rec.new w2).below (below_alloc (Below.refl (w2.alloc ZB).heap.size (w2.alloc ZB)) ZB))
   have hc1 := denom_any px (F i) 62 ((w2.alloc ZB).alloc ZB) (HPX.out.below (below_step HB2.out HBA.out)) (by decide) HS.out
   have hsz : (w2.alloc ZB).heap.size = w2.heap.size + 1 := World.size_alloc _ _
   have hsz2 : ((w2.alloc ZB).alloc ZB).heap.size = w2.heap.size + 1 + 1 := by rw [World.size_alloc, hsz]
   go_wp2_with (fail)
   refine hc1.mono ?_
   rintro e w3 ⟨q3, rfl, g1, g2, g3, g4⟩
   have HQ3 := Aside0.mk g2
   have HB3 := Aside0.mk (HBA.out.trans (g4.mono (by rw [hsz2]; omega)))
   have HR23 := Aside0.mk (HRA.out.below g4)
   have HR25 := Aside0.mk ((Rec.new (w2.alloc ZB)).below g4)
   rw [hsz] at HR25
   have hgp : 0 < Int.gcd ((lc F i : Nat) : Int) ((F i).den : Int) := by
    rw [Int.gcd_natCast_natCast]
    exact Nat.gcd_pos_of_pos_right _ (F i).den_pos
   have hgl : Int.gcd ((lc F i : Nat) : Int) ((F i).den : Int) < 2 ^ 62 := by
    rw [Int.gcd_natCast_natCast]
    exact Nat.lt_of_le_of_lt (Nat.le_of_dvd (F i).den_pos (Nat.gcd_dvd_right _ _)) HS.out.2
   have hst := lcm_step (lc F i) (F i).den (F i).den_pos
   obtain ⟨G, hG⟩ : ∃ G, G = Int.gcd ((lc F i : Nat) : Int) ((F i).den : Int) := ⟨_, rfl⟩
   rw [← hG] at hst hgp hgl HG
   have hc2 := quo_any (w2.heap.size + 1) 0 q3 0 wr.heap.size 0 (w2.heap.size + 1) ((F i).den : Int) (G : Int) 62 w3 g2 (HG.out.below HB3.out) HR25.out (Nat.le_refl _) (by decide) (by have := HS.out.2; omega) (by omega) (by omega)
   have hqs : (((F i).den : Int).tdiv (G : Int)).natAbs < 2 ^ 62 := by
    rw [Int.tdiv_eq_ediv_of_nonneg (by omega), ← Int.natCast_ediv, Int.natAbs_natCast]
    exact Nat.lt_of_le_of_lt (Nat.div_le_self _ _) HS.out.2
   obtain ⟨qt, hqt⟩ : ∃ qt, qt = ((F i).den : Int).tdiv (G : Int) := ⟨_, rfl⟩
   rw [← hqt] at hst hqs hc2
   have HQS := Aside0.mk (And.intro hst hqs)
   clear g1 g2 g3 g4 hc1 HBA HRA hG hgp hgl hst hqs hqt
   go_wp2_with (fail)
   refine hc2.mono ?_
   rintro e w4 ⟨rfl, g1, g2, g3⟩
   have hs23 : w2.heap.size + 1 ≤ w3.heap.size := by have := HB3.out.size; have := HR23.out.lt; have := HR25.out.lt; omega
   have HB4 := Aside0.mk (HB3.out.trans (g3.mono (by omega)))
   have HR4 := Aside0.mk (show Rec w4 w2.heap.size 0 by
    obtain ⟨cs, T, n0, A0, k0, c0, e1, e2⟩ := HR23.out
    exact ⟨cs, T, n0, A0, k0, c0, (g3.block _ (by omega)).trans e1, e2⟩)
   have hc1 := mul_any w2.heap.size 0 p 0 (w2.heap.size + 1) 0 ((lc F i : Nat) : Int) qt 62 w4 (HB.out.below (below_step HB2.out HB4.out)) g1 HR4.out (by decide) (by have := HL.out; omega) HQS.out.2
   clear g1 g2 g3 hc2 hs23
   go_wp2_with (fail)
   refine hc1.mono ?_
   rintro e w5 ⟨rfl, hp⟩
   have HM := Aside0.mk (hp.bi HR4.out)
   have HB5 := Aside0.mk (HB4.out.trans (hp.below (Nat.le_refl _) HB4.out.size))
   clear hp hc1
   go_wp2_with (fail)
   go_roundw
   case rel => exact ⟨i + 1, w2.heap.size, rfl, by go_num, by omega, ⟨by have h := HM.out; rw [HQS.out.1] at h; exact h⟩, ⟨below_step HW.out (below_step HB2.out HB5.out)⟩⟩
   case measure => simp [intOf]; omega
  ·obtain rfl : m = i := by omega
   have q1 : decide ((m : Int) < (m : Int)) = false := decide_eq_false (by omega)
   go_wp2_with (fail)
   obtain ⟨wq, rfl⟩ : ∃ wq, wq = wr := ⟨_, rfl⟩
   have hba := below_alloc (Below.refl wq.heap.size wq) (.cells #[] 2)
   have HT := Aside0.mk (show NumIn wq (wq.alloc (.cells #[] 2)) wq.heap.size 0 (numL F (lc F m) 0) from NumIn.new wq)
   clear hba
   obtain ⟨L, hL⟩ : ∃ L, L = lc F m := ⟨_, rfl⟩
   have HL := Aside0.mk (show L < 2 ^ 62 by rw [hL]; exact HLC.out m (Nat.le_refl _))
   have HL2 := Aside0.mk (show ∀ k, k < m → (F k * ((L : Int) : Rat)).num.natAbs < 2 ^ 63 by rw [hL]; exact HNN.out)
   rw [← hL] at HT HB
   have HLE := Aside0.mk hL
   have HSL := Aside0.mk (show Sm 62 ((L : Int) : Rat) from Sm.int (i := 62) (by have := HL.out; omega) (by decide))
   clear hL
   go_loopw [8, 35] (fun v8 v35 wz => ∃ (i g cg : Nat), v8 = .slice (some ⟨g, 0, none⟩) i cg ∧ v35 = .int .i64 (i : Int) ∧ i ≤ m ∧ Aside0 (NumIn wq wz g cg (numL F L i))) (fun _ v _ => m - (intOf v).toNat)
   case atStart => exact ⟨0, _, 0, rfl, rfl, by omega, HT⟩
   case round =>
    clear HT
    obtain ⟨i, g, cg, rfl, rfl, hi, HT⟩ := hrel
    by_cases hlt : i < m
    ·have q2 : decide ((i : Int) < (m : Int)) = true := decide_eq_true (by omega)
     have HQ := Aside0.mk HT.out.2.2
     obtain ⟨px, c0, c1, hpx⟩ := row_at (HCC.out.below (below_step HW.out HQ.out)) (HF.out.par (Par.of_below (below_step HW.out HQ.out))) hlt
     have HPX := Aside0.mk hpx
     have HS := Aside0.mk (HSM.out i hlt)
     have HN := Aside0.mk (HL2.out i hlt)
     have hba := below_alloc (Below.refl wr.heap.size wr) ZR
     have hc1 := setInt_any wr.heap.size p 0 wr.heap.size (L : Int) 62 (wr.alloc ZR) ((HB.out.below HQ.out).below hba) (RR.new wr) (Nat.le_refl _) (by decide) (by decide) (by have := HL.out; omega)
     have HBA := Aside0.mk hba
     have i1 : (0 ≤ (i : Int)) = True := eq_true (by omega)
     have i2 : ((i : Int) < (m : Int)) = True := eq_true (by omega)
     clear hpx hba
     go_wp2_with (fail)
     refine hc1.mono ?_
     rintro e w1 ⟨rfl, g1, g2⟩
     have HB1 := Aside0.mk (HBA.out.trans g2)
     have hc2 := ratTimes_any px wr.heap.size (F i) ((L : Int) : Rat) 62 w1 (HPX.out.below HB1.out) g1 (by decide) HS.out HSL.out
     clear g1 g2 hc1 HBA
     go_wp2_with (fail)
     refine hc2.mono ?_
     rintro e w2 ⟨p2, rfl, g1, g2, g3⟩
     have HB2 := Aside0.mk (below_step HB1.out g3)
     have hc1 := num_any p2 (F i * ((L : Int) : Rat)) 124 w2 g2 (by decide) (Sm.mul HS.out HSL.out)
     clear g1 g2 g3 hc2
     go_wp2_with (fail)
     refine hc1.mono ?_
     rintro e w3 ⟨p3, rfl, g1, g2, g3, g4⟩
     have HB3 := Aside0.mk (below_step HB2.out g4)
     obtain ⟨z, hz⟩ : ∃ z, z = (F i * ((L : Int) : Rat)).num := ⟨_, rfl⟩
     rw [← hz] at HN g2
     have e63 : (2 : Nat) ^ 63 = 9223372036854775808 := by decide
     have hc2 := int64_any p3 0 z w3 g2 (by have := HN.out; omega) (by have := HN.out; omega)
     have HZ := Aside0.mk hz
     clear g1 g2 g3 g4 hc1 hz e63
     go_wp2_with (fail)
     refine hc2.mono ?_
     rintro e w4 ⟨rfl, g1⟩
     have HB4 := Aside0.mk (below_step HB3.out g1)
     clear g1 hc2
     have hba := below_alloc (Below.refl w4.heap.size w4) (.cells #[.int .i64 z] 2)
     have HBA := Aside0.mk (below_step HB4.out hba)
     clear hba
     go_wp2_with ((with_reducible refine gate_builtin (b := .append) (xs := #[.tmp 39, .tmp 47]) rfl ?_); at_builtin; refine Cb.append rfl (.tmp 39) (.tmp 47) 28 2 (.int .i64 0) 8 rfl Try.underlying28 info2 rfl (Pv.i64 _) (by decide) g cg i _ (.int .i64 z) (by rw [List.length_map, numL_len]) rfl rfl rfl (Pv.i64 _) (HT.out.below HB4.out).2.1 (by rw [List.length_map, numL_len]; omega) ?_; intro g1 cap1 w5 h1 h2 h3; have HT5 := Aside0.mk (HT.out.grow HB4.out h1 h2 h3); clear h1 h2 h3)
     rw [HZ.out, ← numL_succ] at HT5
     go_roundw
     case rel => exact ⟨i + 1, g1, cap1, by go_num, by go_num, by omega, HT5⟩
     case measure => simp [intOf]; omega
    ·obtain rfl : m = i := by omega
     have q2 : decide ((m : Int) < (m : Int)) = false := decide_eq_false (by omega)
     have e62 : (2 : Nat) ^ 62 = 4611686018427387904 := by decide
     have hc1 := int64_any p 0 (L : Int) wr (HB.out.below HT.out.2.2) (by have := HL.out; omega) (by have := HL.out; omega)
     clear e62
     go_wp2_with (fail)
     refine hc1.mono ?_
     rintro e w1 ⟨rfl, g1⟩
     have HG := Aside0.mk g1
     clear g1 hc1
     go_wp2_with (fail)
     go_ret2
     have h := HT.out.below HG.out
     have ht := T.of_cb (B := w.heap.size) h.2.1 (Nat.le_trans HW.out.size h.1)
     rw [numL_len] at ht
     refine ⟨_, ?_, by rw [← HLE.out]; exact ht, below_step HW.out h.2.2⟩
     rw [← HLE.out]
     rfl
end Go.Proofs.Ytkafbmanmffliaa.Gw

/- Plain: the program's list of fractions over one denominator is the reference's in lowest terms; the reference's l10Gcd and l10Lowest. -/
namespace Go.Proofs.Ytkafbmanmffliaa.Lo2
open Go Go.RowKit YtkafbmanmffliaaW.PrintWords Q Ra Gw Lo PuS
set_option linter.unusedVariables false
theorem lcmAll_append (L b : Nat) (S T : List Int) : lcmAll L b (S ++ T) = lcmAll L (lcmAll L b S) T := by simp [lcmAll]
theorem lc_take {S : List Int} {D : Nat} {F : Nat → Rat} (hF : ∀ k (h : k < S.length), F k = mkRat S[k] D) (m : Nat) (hm : m ≤ S.length) : lc F m = lcmAll D 1 (S.take m) := by
 induction m with
 | zero => rfl
 | succ m ih =>
  rw [List.take_succ_eq_append_getElem (by omega), lcmAll_append, ← ih (by omega)]
  show Nat.lcm (lc F m) (F m).den = Nat.lcm (lc F m) (mkRat S[m] D).den
  rw [hF m (by omega)]
theorem lc_low {S : List Int} {D : Nat} (hD : 0 < D) {F : Nat → Rat} (hF : ∀ k (h : k < S.length), F k = mkRat S[k] D) : lc F S.length = D / gcdAll D S := by
 rw [lc_take hF _ (Nat.le_refl _), List.take_length, ← lcm_gcd hD S D (Nat.dvd_refl D), Nat.div_self hD]
def lowL (D : Nat) (S : List Int) : List Int := S.map (fun s => s / (gcdAll D S : Int))
theorem numL_low {S : List Int} {D : Nat} (hD : 0 < D) {F : Nat → Rat} (hF : ∀ k (h : k < S.length), F k = mkRat S[k] D) : numL F (lc F S.length) S.length = lowL D S := by
 rw [lc_low hD hF]
 unfold numL lowL
 apply List.ext_getElem
 ·simp
 ·intro k h1 h2
  simp only [List.getElem_map, List.getElem_range]
  have hk : k < S.length := by simpa using h2
  rw [hF k hk]
  have := num_eq hD S S[k] (List.getElem_mem hk)
  rw [show ((((D / gcdAll D S : Nat) : Int) : Rat)) = (((D / gcdAll D S : Nat) : Nat) : Rat) from Rat.intCast_natCast _, this]
  rfl
theorem den_low {S : List Int} {D : Nat} (hD : 0 < D) {F : Nat → Rat} (hF : ∀ k (h : k < S.length), F k = mkRat S[k] D) (k : Nat) (hk : k < S.length) : (F k).den ∣ D := by
 rw [hF k hk, Rat.den_mkRat, if_neg (by omega)]
 exact Nat.div_dvd_of_dvd (Nat.gcd_dvd_left _ _)
theorem num_low {S : List Int} {D : Nat} (hD : 0 < D) {F : Nat → Rat} (hF : ∀ k (h : k < S.length), F k = mkRat S[k] D) (k : Nat) (hk : k < S.length) : (F k * ((lc F S.length : Int) : Rat)).num.natAbs ≤ S[k].natAbs := by
 rw [lc_low hD hF, hF k hk]
 have := num_eq hD S S[k] (List.getElem_mem hk)
 rw [show ((((D / gcdAll D S : Nat) : Int) : Rat)) = (((D / gcdAll D S : Nat) : Nat) : Rat) from Rat.intCast_natCast _, this]
 show (S[k] / (gcdAll D S : Int)).natAbs ≤ _
 rw [Int.natAbs_ediv_of_dvd (Int.natAbs_dvd_natAbs.1 (by simpa using (gcd_dvd S D).2 _ (List.getElem_mem hk))), Int.natAbs_natCast]
 exact Nat.div_le_self _ _
theorem abs_eq (a : Int) (h0 : -9223372036854775808 < a) (h1 : a ≤ 9223372036854775807) : spec_l02Abs.f a = some (a.natAbs : Int) := by
 unfold spec_l02Abs.f spec_l00Max.f
 rw [wrap_id (by omega) (by omega)]
 split
 ·simp only [Option.bind_some, Option.some.injEq]; omega
 ·simp only [Option.bind_some, Option.some.injEq]; omega
theorem gcd_l0 : ∀ (k a b : Nat), b < k → spec_l10Gcd.l0 k (a : Int) (b : Int) = some ((Nat.gcd a b : Nat) : Int) := by
 intro k
 induction k with
 | zero => intro a b h; omega
 | succ k ih =>
  intro a b h
  simp only [spec_l10Gcd.l0]
  by_cases hb : b = 0
  ·subst hb
   rw [if_neg (by omega), Nat.gcd_zero_right]
  ·rw [if_pos (by omega), if_neg (by omega), Int.tmod_eq_emod_of_nonneg (by omega), ← Int.natCast_emod]
   have hm := Nat.mod_lt a (show b > 0 by omega)
   rw [ih b (a % b) (by omega), Nat.gcd_comm a b, Nat.gcd_rec b a, Nat.gcd_comm]
theorem gcd_eq (k : Nat) (a b : Int) (ha0 : -9223372036854775808 < a) (ha1 : a ≤ 9223372036854775807) (hb0 : -9223372036854775808 < b) (hb1 : b ≤ 9223372036854775807) (hk : b.natAbs < k) : spec_l10Gcd.f k a b = some ((Nat.gcd a.natAbs b.natAbs : Nat) : Int) := by
 unfold spec_l10Gcd.f
 rw [abs_eq a ha0 ha1, abs_eq b hb0 hb1]
 exact gcd_l0 k _ _ hk
theorem gcdAll_le {D : Nat} (hD : 0 < D) (S : List Int) : 0 < gcdAll D S ∧ gcdAll D S ≤ D :=
 ⟨Nat.pos_of_dvd_of_pos (gcd_dvd S D).1 hD, Nat.le_of_dvd hD (gcd_dvd S D).1⟩
theorem low_l1 {S : List Int} {D g : Nat} (hg : 0 < g) (hD : D < 9223372036854775808) (hs : ∀ s, s ∈ S → s.natAbs < 9223372036854775808) (hd : ∀ s, s ∈ S → g ∣ s.natAbs) (hl : S.length ≤ 1048576) : ∀ (d i k : Nat), i + d = S.length → d < k →
  spec_l10Lowest.l1 k S (D : Int) (g : Int) ((S.take i).map (fun s => s / (g : Int))) i = some (((D / g : Nat) : Int), S.map (fun s => s / (g : Int))) := by
 intro d
 induction d with
 | zero =>
  intro i k hi hk
  obtain ⟨k, rfl⟩ : ∃ m, k = m + 1 := ⟨k - 1, by omega⟩
  simp only [spec_l10Lowest.l1]
  rw [if_neg (by omega), if_neg (by omega), List.take_of_length_le (by omega), Int.tdiv_eq_ediv_of_nonneg (by omega), ← Int.natCast_ediv]
  have := Nat.div_le_self D g
  obtain ⟨q, hq⟩ : ∃ q, q = D / g := ⟨_, rfl⟩
  rw [← hq] at this ⊢
  rw [wrap_id (by omega) (by omega)]
 | succ d ih =>
  intro i k hi hk
  obtain ⟨k, rfl⟩ : ∃ m, k = m + 1 := ⟨k - 1, by omega⟩
  have hlt : i < S.length := by omega
  have hr : rd S i = S[i] := by simp [rd, List.getD_eq_getElem?_getD, hlt]
  have hm := List.getElem_mem hlt
  have h1 := hs _ hm
  have h2 : (g : Int) ∣ S[i] := Int.natAbs_dvd_natAbs.1 (by simpa using hd _ hm)
  have h3 : (S[i] / (g : Int)).natAbs ≤ S[i].natAbs := by
   rw [Int.natAbs_ediv_of_dvd h2, Int.natAbs_natCast]
   exact Nat.div_le_self _ _
  simp only [spec_l10Lowest.l1]
  rw [if_pos (by omega), if_pos (by omega), if_neg (by omega), if_pos (by simp; omega), hr, Int.tdiv_eq_ediv_of_dvd h2, wrap_id (by omega) (by omega), wrap_id (by omega) (by omega)]
  have e := ih (i + 1) k (by omega) (by omega)
  rw [List.take_succ_eq_append_getElem hlt, List.map_append] at e
  exact_mod_cast e
theorem low_l0 {S : List Int} {D M : Nat} (hD0 : 0 < D) (hD : D < 9223372036854775808) (hs : ∀ s, s ∈ S → s.natAbs < 9223372036854775808) (hM : ∀ s, s ∈ S → s.natAbs < M) (hl : S.length ≤ 1048576) : ∀ (d i k : Nat), i + d = S.length → M + d + S.length + 2 < k →
  spec_l10Lowest.l0 k S (D : Int) ((gcdAll D (S.take i) : Nat) : Int) i = some (((D / gcdAll D S : Nat) : Int), lowL D S) := by
 intro d
 induction d with
 | zero =>
  intro i k hi hk
  obtain ⟨k, rfl⟩ : ∃ m, k = m + 1 := ⟨k - 1, by omega⟩
  simp only [spec_l10Lowest.l0]
  rw [if_neg (by omega), List.take_of_length_le (by omega)]
  have := low_l1 (S := S) (D := D) (g := gcdAll D S) (gcdAll_le hD0 S).1 hD hs (fun s h => (gcd_dvd S D).2 s h) hl S.length 0 k (by omega) (by omega)
  exact this
 | succ d ih =>
  intro i k hi hk
  obtain ⟨k, rfl⟩ : ∃ m, k = m + 1 := ⟨k - 1, by omega⟩
  have hlt : i < S.length := by omega
  have hr : rd S i = S[i] := by simp [rd, List.getD_eq_getElem?_getD, hlt]
  have hm := List.getElem_mem hlt
  have h1 := hs _ hm
  have h2 := hM _ hm
  have h3 := (gcdAll_le hD0 (S.take i)).2
  simp only [spec_l10Lowest.l0]
  rw [if_pos (by omega), if_pos (by omega), hr, gcd_eq k _ _ (by omega) (by omega) (by omega) (by omega) (by omega), Option.bind_some, Int.natAbs_natCast, wrap_id (by omega) (by omega)]
  have e := ih (i + 1) k (by omega) (by omega)
  rw [List.take_succ_eq_append_getElem hlt] at e
  have e2 : gcdAll D (S.take i ++ [S[i]]) = Nat.gcd (gcdAll D (S.take i)) S[i].natAbs := by unfold gcdAll; rw [List.foldl_append]; rfl
  rw [e2] at e
  exact_mod_cast e
theorem lowest_eq {S : List Int} {D M : Nat} (hD0 : 0 < D) (hD : D < 9223372036854775808) (hM : ∀ s, s ∈ S → s.natAbs < M) (hM2 : M ≤ 9223372036854775808) (hl : S.length ≤ 1048576) (k : Nat) (hk : M + S.length + S.length + 2 < k) :
  spec_l10Lowest.f k S (D : Int) = some (((D / gcdAll D S : Nat) : Int), lowL D S) := by
 have := low_l0 hD0 hD (fun s h => by have := hM s h; omega) hM hl S.length 0 k (by omega) (by omega)
 exact this
end Go.Proofs.Ytkafbmanmffliaa.Lo2

/- The program's AdjustSurvey, ResidualsOf, RedundanciesOf, CofactorOf, RiseBetween: what they return. -/
namespace Go.Proofs.Ytkafbmanmffliaa.Ex
open Go Go.RowKit YtkafbmanmffliaaW.PrintWords YtkafbmanmffliaaW.PrintLast YtkafbmanmffliaaW.PrintMore Q Bg Dd Bi Rt Ru Rx Ra Gd Gf Ge Hb Ha Hc Gs Gn Kc Ke Kf Gt Gu Gx Gy Gv Lo Lo2
set_option linter.unusedVariables false
set_option linter.unusedSimpArgs false
theorem conn_any (p : Int) (l : List S32) (A : Option Addr) (c : Nat) (w : World) (hr : Kd.C k32 w A l.length l) (hc : l.length ≤ c) (hl : l.length ≤ 1048576) :
  Calls Try.prog 40 #[.agg #[.int .i64 p, .slice A l.length c]] w fun e w' => e = .returned (.bool (Gm.connB p l)) ∧ Below w.heap.size w w' :=
 Hw.isConn_any p l A c w hr hl
def ptsB (p : Int) (l : List S32) (a b : Int) : Bool := Gm.connB p l && (inB 0 (p - 1) a && inB 0 (p - 1) b)
theorem conn_nat {p : Int} {l : List S32} (h : Gm.connB p l = true) : ∃ n : Nat, p = (n : Int) + 1 := by
 have hv := h
 unfold Gm.connB surveyB inB at hv
 simp only [Bool.and_eq_true, decide_eq_true_eq] at hv
 exact ⟨p.toNat - 1, by omega⟩
def dn (n : Nat) (l : List S32) : Nat := (den l n).toNat
theorem dn_pos {n : Nat} {l : List S32} (hc : Gm.connB ((n : Int) + 1) l = true) : 0 < dn n l ∧ dn n l ≤ 1073741824 ∧ ((dn n l : Nat) : Int) = den l n := by
 have h := ok_rgt hc
 have hd := h.pos n (Nat.le_refl _)
 rw [h.last] at hd
 have hn := conn_n hc
 have hd2 : den l n ≤ 1073741824 := by
  rw [← h.last]
  obtain ⟨m, rfl⟩ : ∃ m, n = m + 1 := ⟨n - 1, by omega⟩
  rw [LL_succ _ m (by omega)]
  exact (h.size m m m (by omega) (by omega) (by omega)).2
 unfold dn
 omega
theorem nu_size {n : Nat} {l : List S32} {right : List Int} (h : Ok n l right) (p : Int) (hp : p ≤ n) : -1073741824 ≤ nu l right n p ∧ nu l right n p ≤ 1073741824 := by
 unfold nu
 split
 ·omega
 ·exact h.size n (p.toNat - 1) n (Nat.le_refl _) (by omega) (Nat.le_refl _)
theorem mkq {a : Int} {d : Nat} : mkRat a d = (a : Rat) / ((d : Int) : Rat) := by rw [Rat.mkRat_eq_div, Rat.intCast_natCast]
def resN (n : Nat) (l : List S32) (s : S32) : Int := s.f2 * den l n - nu l (rgt n l) n s.f1 + nu l (rgt n l) n s.f0
def cofN (n : Nat) (l : List S32) (a b : Int) : Int := nu l (rco n a b) n b - nu l (rco n a b) n a
def redN (n : Nat) (l : List S32) (s : S32) : Int := den l n - s.f3 * cofN n l s.f0 s.f1
theorem den_rat {n : Nat} {l : List S32} (hc : Gm.connB ((n : Int) + 1) l = true) : (((dn n l : Nat) : Int) : Rat) = (den l n : Rat) ∧ (den l n : Rat) ≠ 0 := ⟨by rw [(dn_pos hc).2.2], den_ne (ok_rgt hc)⟩
theorem res_mk {n : Nat} {l : List S32} (hc : Gm.connB ((n : Int) + 1) l = true) (s : S32) : res n l s = mkRat (resN n l s) (dn n l) := by
 obtain ⟨h1, h2⟩ := den_rat hc
 rw [mkq, h1]
 unfold res dif hts xs resN
 push_cast
 grind
theorem resN_size {n : Nat} {l : List S32} (hc : Gm.connB ((n : Int) + 1) l = true) (s : S32) (hs : s ∈ l) : (resN n l s).natAbs < 1099511627776 := by
 have hv := mem_at (conn_v hc) s hs
 have h1 := nu_size (ok_rgt hc) s.f1 (by omega)
 have h2 := nu_size (ok_rgt hc) s.f0 (by omega)
 have h3 := dn_pos hc
 have h4 := mulb (X := 100) (Y := 1073741824) (a := s.f2) (b := den l n) (by decide) (by decide) (by unfold Bd; omega) (by unfold Bd; omega)
 unfold Bd at h4
 unfold resN
 omega
theorem sm_mk {a : Int} {d : Nat} {k : Nat} (hd : 0 < d) (h1 : a.natAbs < 2 ^ k) (h2 : d < 2 ^ k) : Sm k (mkRat a d) := by
 have := Sm.divInt (a := a) (b := (d : Int)) (by omega) h1 (by rw [Int.natAbs_natCast]; exact h2)
 rwa [Rat.divInt_ofNat] at this
theorem list_low (b cap : Nat) (us : List Value) (F : Nat → Rat) (w : World) (S : List Int) (D : Nat) (hC : Cb w 74 b cap us) (hF : RowF w us S.length F) (hl : S.length ≤ 8) (hD0 : 0 < D) (hD : D ≤ 1073741824) (hS : ∀ s, s ∈ S → s.natAbs < 1099511627776) (hFS : ∀ k (h : k < S.length), F k = mkRat S[k] D) :
  Calls Try.prog 59 #[.slice (some ⟨b, 0, none⟩) S.length cap] w fun e w' => ∃ v : Value, e = .returned (.tuple #[.int .i64 ((D / gcdAll D S : Nat) : Int), v]) ∧ T w.heap.size w' v (lowL D S) ∧ Below w.heap.size w w' := by
 have e62 : (2 : Nat) ^ 62 = 4611686018427387904 := by decide
 have e63 : (2 : Nat) ^ 63 = 9223372036854775808 := by decide
 have h := Gw.list_any b cap S.length us F D w hC hF hl hD0 (by omega) (den_low hD0 hFS) (fun k hk => by
  rw [hFS k hk]
  exact sm_mk hD0 (by have := hS _ (List.getElem_mem hk); omega) (by omega)) (fun k hk => by
  have h1 := num_low hD0 hFS k hk
  have h2 := hS _ (List.getElem_mem hk)
  omega)
 rw [numL_low hD0 hFS, lc_low hD0 hFS] at h
 exact h
theorem rd_mem {l : List S32} {k : Nat} (hk : k < l.length) : rd_T32 l (k : Int) = l[k] := by simp only [rd_T32, Int.toNat_natCast]; rw [List.getD_eq_getElem?_getD, List.getElem?_eq_getElem hk]; rfl
def wp (p : Int) : Nat := p.toNat - 1
theorem wp_eq (n : Nat) : wp ((n : Int) + 1) = n := by unfold wp; omega
def adjL (p : Int) (l : List S32) : List Int := if Gm.connB p l = true then lowL (dn (wp p) l) (nuL l (rgt (wp p) l) (wp p)) else []
def adjD (p : Int) (l : List S32) : Int := if Gm.connB p l = true then ((dn (wp p) l / gcdAll (dn (wp p) l) (nuL l (rgt (wp p) l) (wp p)) : Nat) : Int) else 0
def resL (p : Int) (l : List S32) : List Int := if Gm.connB p l = true then lowL (dn (wp p) l) (l.map (resN (wp p) l)) else []
def resD (p : Int) (l : List S32) : Int := if Gm.connB p l = true then ((dn (wp p) l / gcdAll (dn (wp p) l) (l.map (resN (wp p) l)) : Nat) : Int) else 0
def redL (p : Int) (l : List S32) : List Int := if Gm.connB p l = true then lowL (dn (wp p) l) (l.map (redN (wp p) l)) else []
def redD (p : Int) (l : List S32) : Int := if Gm.connB p l = true then ((dn (wp p) l / gcdAll (dn (wp p) l) (l.map (redN (wp p) l)) : Nat) : Int) else 0
def Post3 (w : World) (d : Int) (xs : List Int) (ok : Bool) (e : Ending) (w' : World) : Prop := ∃ v : Value, e = .returned (.tuple #[.int .i64 d, v, .bool ok]) ∧ T w.heap.size w' v xs ∧ Below w.heap.size w w'
set_option maxHeartbeats 4000000 in
set_option maxRecDepth 100000 in
theorem resid_any (p : Int) (l : List S32) (A : Option Addr) (c : Nat) (w : World) (hr : Kd.C k32 w A l.length l) (hcl : l.length ≤ c) (hl : l.length ≤ 1048576) :
  Calls Try.prog 20 #[.agg #[.int .i64 p, .slice A l.length c]] w (Post3 w (resD p l) (resL p l) (Gm.connB p l)) := by
 have hu26 := Try.underlying26
 have hbx := below_alloc (Below.refl w.heap.size w) (SX p A l.length c)
 have HR := Aside0.mk (Kd.C_below hr hbx)
 have HX := Aside0.mk (heap_alloc_new w (SX p A l.length c))
 have hc0 := conn_any p l A c (w.alloc (SX p A l.length c)) HR.out hcl hl
 have HCL := Aside0.mk hcl
 have HB := Aside0.mk hbx
 clear hr hcl hl hbx
 by_cases h : Gm.connB p l = true
 ·obtain ⟨n, rfl⟩ := conn_nat h
  have HC := Aside0.mk h
  have HAD := Aside0.mk (show resD ((n : Int) + 1) l = ((dn n l / gcdAll (dn n l) (l.map (resN n l)) : Nat) : Int) by unfold resD; rw [if_pos h, wp_eq])
  have HAL := Aside0.mk (show resL ((n : Int) + 1) l = lowL (dn n l) (l.map (resN n l)) by unfold resL; rw [if_pos h, wp_eq])
  rw [h] at hc0
  rw [h]
  clear h
  go_enter Try.func20, Try.ntmps20
  go_wp2_with (fail)
  refine hc0.mono ?_
  rintro e w1 ⟨rfl, hb1⟩
  have HB1 := Aside0.mk (below_step HB.out hb1)
  have hbk := blk_below HX.out hb1
  have c0 : w1.cell? ⟨w.heap.size, 0, none⟩ = some (.int .i64 ((n : Int) + 1)) := (blk_cell hbk 0).trans rfl
  have c1 : w1.cell? ⟨w.heap.size, 1, none⟩ = some (.slice A l.length c) := (blk_cell hbk 1).trans rfl
  have hc1 := residuals_any n l HC.out A c w1 (Kd.C_below HR.out hb1) HCL.out
  clear hb1 hc0 hbk
  go_wp2_with (fail)
  refine hc1.mono ?_
  rintro e w2 ⟨bH, capH, usH, rfl, hH⟩
  have hlen : (l.map (resN n l)).length = l.length := by simp
  have hc2 := list_low bH capH usH (fun k => res n l (rd_T32 l k)) w2 (l.map (resN n l)) (dn n l) hH.2.1 (by rw [hlen]; exact hH.2.2.1) (by have := conn_n HC.out; omega) (dn_pos HC.out).1 (dn_pos HC.out).2.1 (fun s hs => by
   obtain ⟨k, hk, rfl⟩ := List.mem_map.1 hs
   exact resN_size HC.out k hk) (fun k hk => by
   have hk' : k < l.length := by simpa using hk
   rw [res_mk HC.out, rd_mem hk', List.getElem_map])
  rw [hlen] at hc2
  have HB2 := Aside0.mk (below_step HB1.out hH.2.2.2)
  clear hc1 hH hlen c0 c1
  go_wp2_with (fail)
  refine hc2.mono ?_
  rintro e w3 ⟨v, rfl, t3, hb3⟩
  have HT3 := Aside0.mk t3
  have HB3 := Aside0.mk (below_step HB2.out hb3)
  clear hc2 t3 hb3
  go_wp2_with (fail)
  go_ret3
  rw [HAD.out, HAL.out]
  exact ⟨v, rfl, Kd.R_lower HT3.out HB2.out.size, HB3.out⟩
 ·have h' : Gm.connB p l = false := by simpa using h
  have HAD := Aside0.mk (show resD p l = 0 by unfold resD; rw [if_neg h])
  have HAL := Aside0.mk (show resL p l = [] by unfold resL; rw [if_neg h])
  rw [h'] at hc0
  rw [h']
  clear h h'
  go_enter Try.func20, Try.ntmps20
  go_wp2_with (fail)
  refine hc0.mono ?_
  rintro e w1 ⟨rfl, hb1⟩
  have HB1 := Aside0.mk (below_step HB.out hb1)
  clear hb1 hc0
  go_wp2_with (fail)
  go_ret3
  rw [HAD.out, HAL.out]
  exact ⟨_, rfl, T.nil, HB1.out⟩
end Go.Proofs.Ytkafbmanmffliaa.Ex

/- The reference's l10Adjusted, l10Cofactor and l10Redundancies. -/
namespace Go.Proofs.Ytkafbmanmffliaa.Sp2
open Go Go.RowKit YtkafbmanmffliaaW.PrintWords YtkafbmanmffliaaW.PrintLast YtkafbmanmffliaaW.PrintMore Q Gd Gf Ge Gi Hb Ha Hc Gs Gn Kc Ke Kf Gt Gv Gw Ex
set_option linter.unusedVariables false
set_option linter.unusedSimpArgs false
set_option maxHeartbeats 4000000 in
set_option maxRecDepth 100000 in
theorem specAdj_any (n : Nat) (g0 : Nat) (l : List S32) (hc : Gm.connB ((n : Int) + 1) l = true) (A : Option Addr) (c : Nat) (w : World) (hb : w.heap[g0]? = some (.cells #[.int .i64 ((n : Int) + 1), .slice A l.length c] 26 (0, 0))) (hr : Kd.C k32 w A l.length l) :
  Calls Try.prog 77 #[.pointer (some ⟨g0, 0, none⟩)] w fun e w' => ∃ v : Value, e = .returned (.tuple #[v, .int .i64 (den l n)]) ∧ T w.heap.size w' v (nuL l (rgt n l) n) ∧ Below w.heap.size w w' := by
 have hu26 := Try.underlying26
 have hu32 := Try.underlying32
 have hn := conn_n hc
 have hn4 := hn.2.1
 have hl8 := hn.2.2
 have mk := mk28 (n + 1) (by omega)
 rw [show ((n + 1 : Nat) : Int) = (n : Int) + 1 by omega] at mk
 have HR := Aside0.mk hr
 have HX := Aside0.mk hb
 have HC := Aside0.mk hc
 have HV := Aside0.mk (conn_v hc)
 have c0 : w.cell? ⟨g0, 0, none⟩ = some (.int .i64 ((n : Int) + 1)) := (blk_cell hb 0).trans rfl
 clear hr hc hn hb
 go_enter Try.func77, Try.ntmps77
 go_wp2_with (fail)
 have t0 := Aside0.mk (T.made w (n + 1) (by omega) (Nat.le_refl w.heap.size))
 have tb := Aside0.mk (below_alloc (Below.refl w.heap.size w) (.cells (madeCells #[.int .i64 0] (n + 1)) 2))
 obtain ⟨g, hg⟩ : ∃ g, g = w.heap.size := ⟨_, rfl⟩
 rw [← hg]
 rw [← hg] at t0
 have HG := Aside0.mk hg.symm
 clear hg mk c0
 go_loopw [5] (fun v5 wz => ∃ i : Nat, v5 = .int .i64 (i : Int) ∧ i ≤ l.length ∧ Aside0 (T g wz (.slice (some ⟨g, 0, none⟩) (n + 1) (n + 1)) (rgtAt n l i)) ∧ Aside0 (Below w.heap.size w wz)) (fun v _ => l.length - (intOf v).toNat)
 case atStart => exact ⟨0, rfl, by omega, ⟨by rw [rgtAt_zero]; exact t0.out⟩, tb⟩
 case round =>
  clear t0 tb
  obtain ⟨i, rfl, hi, HT, HB⟩ := hrel
  by_cases hlt : i < l.length
  ·have p1 : decide ((i : Int) < (l.length : Int)) = true := decide_eq_true (by omega)
   obtain ⟨ad, e, x0, x1, x2, x3⟩ := at_T32 (Kd.C_below HR.out HB.out) (i : Int) (by omega) (by omega)
   subst e
   rw [Int.toNat_natCast] at x0 x1 x2 x3
   have cy : wr.cell? ⟨g0, 1, none⟩ = some (.slice (some ad) l.length c) := (blk_cell (blk_below HX.out HB.out) 1).trans rfl
   have hm : rd_T32 l i ∈ l := by simp only [rd_T32, Int.toNat_natCast]; rw [List.getD_eq_getElem?_getD, List.getElem?_eq_getElem hlt]; simp
   have hva := mem_at HV.out _ hm
   have HSU := Aside0.mk (rgtAt_succ n l i hlt)
   obtain ⟨s, hs⟩ : ∃ s, s = rd_T32 l i := ⟨_, rfl⟩
   rw [← hs] at x0 x1 x2 x3 hva HSU
   clear hs hm
   obtain ⟨f, t, ri, wt⟩ := s
   dsimp only at x0 x1 x2 x3 hva
   obtain ⟨y0, y1, y2, y3, y4, y5, y6, y7, y8⟩ := hva
   obtain ⟨f, rfl⟩ : ∃ q : Nat, f = q := ⟨f.toNat, by omega⟩
   obtain ⟨t, rfl⟩ : ∃ q : Nat, t = q := ⟨t.toNat, by omega⟩
   obtain ⟨r, hr⟩ : ∃ r, r = rgtAt n l i := ⟨_, rfl⟩
   have hrl : r.length = n + 1 := by rw [hr]; exact rgtAt_len n l i
   have hz : ∀ p : Int, -2400 ≤ rd r p ∧ rd r p ≤ 2400 := fun p => by rw [hr]; exact rgtAt_size HV.out i p
   rw [← hr] at HT HSU
   have hwr : -300 ≤ wt * ri ∧ wt * ri ≤ 300 := by
    have c3 : wt = 1 ∨ wt = 2 ∨ wt = 3 := by omega
    rcases c3 with e | e | e <;> rw [e] <;> omega
   obtain ⟨k, hk⟩ : ∃ k, k = wt * ri := ⟨_, rfl⟩
   rw [← hk] at hwr
   have hw1 : wrap64 (wt * ri) = k := by rw [← hk]; unfold wrap64; omega
   have HSU2 := Aside0.mk (show rgtAt n l (i + 1) = (r.set t (rd r (t : Int) + k)).set f (rd (r.set t (rd r (t : Int) + k)) (f : Int) - k) by rw [HSU.out, hk]; rfl)
   obtain ⟨v1, hv1⟩ : ∃ v1, v1 = rd r (t : Int) + k := ⟨_, rfl⟩
   have hzt := hz t
   have hw2 : wrap64 (rd r (t : Int) + k) = v1 := by rw [← hv1]; unfold wrap64; omega
   obtain ⟨r1, hr1⟩ : ∃ r1, r1 = r.set t v1 := ⟨_, rfl⟩
   have hzf := (ad_size (r := r) (t := t) (f := f) (m := 2400) (k := 0) (c := 0) (by omega) (by omega) (by omega) hz (by omega) (by omega) (by omega) (by omega) (by omega) f)
   have hzf1 : -2700 ≤ rd r1 (f : Int) ∧ rd r1 (f : Int) ≤ 2700 := by
    have e := rd_set (r := r) (t := t) (p := f) (v := v1) (by omega) (by omega) (by omega)
    rw [Int.toNat_natCast, ← hr1] at e
    rw [e]
    have := hz f
    split <;> omega
   obtain ⟨v2, hv2⟩ : ∃ v2, v2 = rd r1 (f : Int) - k := ⟨_, rfl⟩
   have hw3 : wrap64 (rd r1 (f : Int) - k) = v2 := by rw [← hv2]; unfold wrap64; omega
   have HSU3 := Aside0.mk (show rgtAt n l (i + 1) = r1.set f v2 by rw [HSU2.out, ← hv1, ← hr1, ← hv2])
   have HR1 := Aside0.mk hr1
   obtain ⟨vt, hvt⟩ : ∃ vt, vt = rd r (t : Int) := ⟨_, rfl⟩
   rw [← hvt] at hw2
   obtain ⟨vf, hvf⟩ : ∃ vf, vf = rd r1 (f : Int) := ⟨_, rfl⟩
   rw [← hvf] at hw3
   have HVT := Aside0.mk hvt
   have HVF := Aside0.mk hvf
   have HRL := Aside0.mk hrl
   clear hr hz hwr hk hv1 hv2 hzt hzf hzf1 hr1 hvt hvf hrl HSU HSU2
   have HBA := Aside0.mk (below_alloc (Below.refl wr.heap.size wr) (.cells #[.int .i64 (f : Int), .int .i64 (t : Int), .int .i64 ri, .int .i64 wt] 32))
   have HNA := Aside0.mk (heap_alloc_new wr (.cells #[.int .i64 (f : Int), .int .i64 (t : Int), .int .i64 ri, .int .i64 wt] 32))
   have HT1 := Aside0.mk (HT.out.below HBA.out)
   obtain ⟨z0, z1⟩ := HT1.out.cell t (by omega)
   rw [← HVT.out] at z0
   have i1 : (0 ≤ (t : Int)) = True := eq_true (by omega)
   have i2 : ((t : Int) < (n : Int) + 1) = True := eq_true (by omega)
   have i3 : (0 ≤ (f : Int)) = True := eq_true (by omega)
   have i4 : ((f : Int) < (n : Int) + 1) = True := eq_true (by omega)
   go_wp2_with (fail)
   go_region
   have hp1 := HT1.out.put t v1
   have hb1 := (HB.out.trans (HBA.out.mono (HB.out.size))).setCell (p := ⟨g, t, none⟩) (by show w.heap.size ≤ g; rw [HG.out]; exact Nat.le_refl _) (.int .i64 v1)
   rw [← HR1.out] at hp1
   have HT2 := Aside0.mk (hp1.1.below (below_drew (Below.refl _ _)))
   have HB2 := Aside0.mk (below_drew hb1)
   have hgs := HT.out.lt (k := g) rfl
   have HN2 := Aside0.mk (blk_drew (blk_grown HNA.out hp1.2 (by intro e; have := Option.some.inj e; omega)))
   clear hp1 hb1 hgs z0 z1 cy
   obtain ⟨wa, hwa⟩ : ∃ wa, wa = ((wr.alloc (.cells #[.int .i64 (f : Int), .int .i64 (t : Int), .int .i64 ri, .int .i64 wt] 32)).setCell ⟨g, t, none⟩ (.int .i64 v1)).drew := ⟨_, rfl⟩
   rw [← hwa] at HT2 HB2 HN2
   rw [← hwa]
   clear hwa
   obtain ⟨z0, z1⟩ := HT2.out.cell f (by omega)
   rw [← HVF.out] at z0
   have k0 : wa.cell? ⟨wr.heap.size, 0, none⟩ = some (.int .i64 (f : Int)) := (blk_cell HN2.out 0).trans rfl
   have k2 : wa.cell? ⟨wr.heap.size, 2, none⟩ = some (.int .i64 ri) := (blk_cell HN2.out 2).trans rfl
   have k3 : wa.cell? ⟨wr.heap.size, 3, none⟩ = some (.int .i64 wt) := (blk_cell HN2.out 3).trans rfl
   go_wp2_with (fail)
   go_region
   have hp2 := HT2.out.put f v2
   have hb2 := HB2.out.setCell (p := ⟨g, f, none⟩) (by show w.heap.size ≤ g; rw [HG.out]; exact Nat.le_refl _) (.int .i64 v2)
   rw [← HSU3.out] at hp2
   have HT3 := Aside0.mk (hp2.1.below (below_drew (Below.refl _ _)))
   have HB3 := Aside0.mk (below_drew hb2)
   clear hp2 hb2
   go_wp2_with (fail)
   go_roundw
   case rel => exact ⟨i + 1, by go_num, by omega, HT3, HB3⟩
   case measure => simp [intOf]; omega
  ·obtain rfl : l.length = i := by omega
   have p1 : decide ((l.length : Int) < (l.length : Int)) = false := decide_eq_false (by omega)
   rw [rgtAt_all] at HT
   have cy : wr.cell? ⟨g0, 1, none⟩ = some (.slice A l.length c) := (blk_cell (blk_below HX.out HB.out) 1).trans rfl
   have hC : Kd.C (Kd.int .i64) wr (some ⟨g, 0, none⟩) (rgt n l).length (rgt n l) := (Kd.R_reads' HT.out).2.2
   have hsv := solveS2_any n g0 l (rgt n l) (ok_rgt HC.out) hn4 A c (some ⟨g, 0, none⟩) (n + 1) wr (blk_below HX.out HB.out) (Kd.C_below HR.out HB.out) hC (rgt_len n l) (rgt_size HV.out)
   rw [rgt_len] at hsv
   clear hC
   go_wp2_with (fail)
   refine hsv.mono ?_
   rintro e w1 ⟨v, rfl, h1, h2⟩
   have H1 := Aside0.mk h1
   have H2 := Aside0.mk (below_step HB.out h2)
   have H3 := Aside0.mk HB.out.size
   clear h1 h2 hsv cy
   go_wp2_with (fail)
   go_ret2
   exact ⟨v, rfl, Kd.R_lower H1.out H3.out, H2.out⟩
end Go.Proofs.Ytkafbmanmffliaa.Sp2

namespace Go.Proofs.Ytkafbmanmffliaa.Q
open Go.RowKit YtkafbmanmffliaaW.PrintWords YtkafbmanmffliaaW.PrintLast YtkafbmanmffliaaW.PrintMore
attribute [local go_sem] max2_int min2_int max_two min_two max_three min_three max_four min_four
set_option linter.unusedVariables false
set_option linter.unusedSimpArgs false
def spec_l10Adjusted.f (s0_0 : Int) (s0_1 : List (S32)) : Option (List Int × Int × Int) := if Gm.connB s0_0 s0_1 = true then some (Gv.nuL s0_1 (Ke.rgt (Ex.wp s0_0) s0_1) (Ex.wp s0_0), Gn.den s0_1 (Ex.wp s0_0), s0_0) else none
theorem spec_l10Adjusted.calls (g : Nat) (s0_0 : Int) (s0_1 : List (S32)) (r1 : List Int) (r2 : Int) (r3 : Int) (w0 w : World) (hI : IsS26 w0 w g s0_0 s0_1) (hB : Below w0.heap.size w0 w) (h : spec_l10Adjusted.f s0_0 s0_1 = some (r1, r2, r3)) :
  Calls Try.prog 77 #[.pointer (some ⟨g, 0, none⟩)] w fun e w' => ∃ v0_ : Value, e = .returned (.tuple #[v0_, .int .i64 r2]) ∧ Kd.R (Kd.int .i64) 2 w' w.heap.size (fun _ => True) v0_ r1 ∧ IsS26 w0 w' g r3 s0_1 ∧ Below w0.heap.size w0 w' ∧ KeepBut w w' g none := by
 unfold spec_l10Adjusted.f at h
 by_cases hc : Gm.connB s0_0 s0_1 = true
 ·rw [if_pos hc] at h
  simp only [Option.some.injEq, Prod.mk.injEq] at h
  obtain ⟨rfl, rfl, rfl⟩ := h
  obtain ⟨A0, c0, hb, hg, hr⟩ := hI
  obtain ⟨n, rfl⟩ := Ex.conn_nat hc
  rw [Ex.wp_eq]
  refine (Sp2.specAdj_any n g s0_1 hc A0 c0 w hb (Kd.C_below hr hB)).mono ?_
  rintro e w' ⟨v, rfl, t, hw⟩
  exact ⟨v, rfl, t, IsS26.below ⟨A0, c0, hb, hg, hr⟩ hw, below_then hB hB.size hw, KeepBut.of_below hw g none⟩
 ·rw [if_neg hc] at h; cases h
end Go.Proofs.Ytkafbmanmffliaa.Q

