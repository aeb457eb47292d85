/- Parts of the proof that the law of this seat holds: LwCF. -/
import Derived.Test.YtkafbmanmffliaaGVpm
import Derived.Test.YtkafbmanmffliaaGVpo
set_option linter.unusedVariables false
set_option linter.unusedSimpArgs false
/- The law on the uncertainties between points, walked. -/
namespace Go.Proofs.Ytkafbmanmffliaa.LwCF
open Go Go.RowKit YtkafbmanmffliaaW.PrintWords YtkafbmanmffliaaW.PrintLast YtkafbmanmffliaaW.PrintMore Q Dd Ha Hc Kf Ex Ex2 Dr Rr Pc Pd Lg
theorem ptsB_ok {n : Nat} {l : List S32} (hc : Gm.connB ((n : Int) + 1) l = true) {a b : Int} (ha0 : 0 ≤ a) (ha : a ≤ n) (hb0 : 0 ≤ b) (hb : b ≤ n) : ptsB ((n : Int) + 1) l a b = true := by
 unfold ptsB inB
 rw [hc]
 simp
 omega
theorem cof_call {n m : Nat} (hm : m = n + 1) {l : List S32} (hc : Gm.connB ((n : Int) + 1) l = true) {a b : Int} (ha0 : 0 ≤ a) (ha : a ≤ n) (hb0 : 0 ≤ b) (hb : b ≤ n) (A : Option Addr) (c : Nat) (w : World) (hr : Kd.C k32 w A l.length l) (hcl : l.length ≤ c) :
  Calls Try.prog 22 #[.agg #[.int .i64 (m : Int), .slice A l.length c], .int .i64 a, .int .i64 b] w fun e w' => e = .returned (.tuple #[.int .i64 (cof n l a b).num, .int .i64 ((cof n l a b).den : Int), .bool true]) ∧ Below w.heap.size w w' := by
 have h := cofactorOf_any ((n : Int) + 1) l a b A c w hr hcl (by have := (conn_n hc).2.2; omega)
 rw [ptsB_ok hc ha0 ha hb0 hb, wp_eq] at h
 unfold Post2 okN okD at h
 rw [if_pos rfl, if_pos rfl] at h
 rw [show ((m : Nat) : Int) = (n : Int) + 1 by omega]
 exact h
theorem rise_call {n m : Nat} (hm : m = n + 1) {l : List S32} (hc : Gm.connB ((n : Int) + 1) l = true) {a b : Int} (ha0 : 0 ≤ a) (ha : a ≤ n) (hb0 : 0 ≤ b) (hb : b ≤ n) (A : Option Addr) (c : Nat) (w : World) (hr : Kd.C k32 w A l.length l) (hcl : l.length ≤ c) :
  Calls Try.prog 23 #[.agg #[.int .i64 (m : Int), .slice A l.length c], .int .i64 a, .int .i64 b] w fun e w' => e = .returned (.tuple #[.int .i64 (rise n l a b).num, .int .i64 ((rise n l a b).den : Int), .bool true]) ∧ Below w.heap.size w w' := by
 have h := riseBetween_any ((n : Int) + 1) l a b A c w hr hcl (by have := (conn_n hc).2.2; omega)
 rw [ptsB_ok hc ha0 ha hb0 hb, wp_eq] at h
 unfold Post2 okN okD at h
 rw [if_pos rfl, if_pos rfl] at h
 rw [show ((m : Nat) : Int) = (n : Int) + 1 by omega]
 exact h
theorem mulN {X Y a b : Int} (hX : 0 ≤ X) (hY : 0 ≤ Y) (ha : -X ≤ a ∧ a ≤ X) (hb : -Y ≤ b ∧ b ≤ Y) : -(X * Y) ≤ a * b ∧ a * b ≤ X * Y := Gn.mulb hX hY ha hb
section
variable {n : Nat} {l : List S32} (hc : Gm.connB ((n : Int) + 1) l = true) {a b c : Int} (ha : 0 ≤ a ∧ a ≤ n) (hb : 0 ≤ b ∧ b ≤ n) (hcc : 0 ≤ c ∧ c ≤ n)
include hc ha hb
theorem cf_same {x : Int} (hx : x = (cof n l a b).num) : ∃ bb : Bool, (x == 0) = bb ∧ (a == b) = bb ∧ (bb != bb) = false := by
 have h := (cof_nums hc ha.1 ha.2 hb.1 hb.2).2.2.2.2
 rw [← hx] at h
 refine ⟨(x == 0), rfl, ?_, bne_self_eq_false _⟩
 rw [Bool.eq_iff_iff, beq_iff_eq, beq_iff_eq]
 exact h.symm
include hcc
theorem cf_test {x xd y yd z zd : Int} (hx : x = (cof n l a b).num ∧ xd = ((cof n l a b).den : Int)) (hy : y = (cof n l b c).num ∧ yd = ((cof n l b c).den : Int)) (hz : z = (cof n l a c).num ∧ zd = ((cof n l a c).den : Int)) :
  ∃ X10 Y10 Z10 : Int, wrap64 (10 * xd) = X10 ∧ wrap64 (10 * yd) = Y10 ∧ wrap64 (10 * zd) = Z10 ∧ decide (xd < 1) = false ∧ decide (yd < 1) = false ∧ decide (zd < 1) = false ∧ decide (100000 < xd) = false ∧ decide (100000 < yd) = false ∧ decide (100000 < zd) = false ∧
   decide (x < 0) = false ∧ decide (y < 0) = false ∧ decide (z < 0) = false ∧ decide (X10 < x) = false ∧ decide (Y10 < y) = false ∧ decide (Z10 < z) = false := by
 have h1 := cof_nums hc ha.1 ha.2 hb.1 hb.2
 have h2 := cof_nums hc hb.1 hb.2 hcc.1 hcc.2
 have h3 := cof_nums hc ha.1 ha.2 hcc.1 hcc.2
 rw [← hx.1, ← hx.2] at h1
 rw [← hy.1, ← hy.2] at h2
 rw [← hz.1, ← hz.2] at h3
 exact ⟨10 * xd, 10 * yd, 10 * zd, Dw.wrap_id (by omega) (by omega), Dw.wrap_id (by omega) (by omega), Dw.wrap_id (by omega) (by omega), decide_eq_false (by omega), decide_eq_false (by omega), decide_eq_false (by omega), decide_eq_false (by omega), decide_eq_false (by omega), decide_eq_false (by omega), decide_eq_false (by omega), decide_eq_false (by omega), decide_eq_false (by omega), decide_eq_false (by omega), decide_eq_false (by omega), decide_eq_false (by omega)⟩
theorem cf_rises {x xd y yd z zd : Int} (hx : x = (rise n l a b).num ∧ xd = ((rise n l a b).den : Int)) (hy : y = (rise n l b c).num ∧ yd = ((rise n l b c).den : Int)) (hz : z = (rise n l a c).num ∧ zd = ((rise n l a c).den : Int)) :
  ∃ X10 Y10 Z10 : Int, wrap64 (1000 * xd) = X10 ∧ wrap64 (1000 * yd) = Y10 ∧ wrap64 (1000 * zd) = Z10 ∧ decide (xd < 1) = false ∧ decide (yd < 1) = false ∧ decide (zd < 1) = false ∧ decide (100000 < xd) = false ∧ decide (100000 < yd) = false ∧ decide (100000 < zd) = false ∧
   decide (X10 < (x.natAbs : Int)) = false ∧ decide (Y10 < (y.natAbs : Int)) = false ∧ decide (Z10 < (z.natAbs : Int)) = false ∧ x.natAbs < 9223372036854775808 ∧ y.natAbs < 9223372036854775808 ∧ z.natAbs < 9223372036854775808 ∧
   ∃ P1 P2 P3 P4 ZZ : Int, wrap64 (x * yd) = P1 ∧ wrap64 (y * xd) = P2 ∧ wrap64 (P1 + P2) = P3 ∧ wrap64 (P3 * zd) = ZZ ∧ wrap64 (z * xd) = P4 ∧ wrap64 (P4 * yd) = ZZ := by
 have h1 := rise_nums hc ha.1 ha.2 hb.1 hb.2
 have h2 := rise_nums hc hb.1 hb.2 hcc.1 hcc.2
 have h3 := rise_nums hc ha.1 ha.2 hcc.1 hcc.2
 have h4 := add_nums hc ha.1 ha.2 hb.1 hb.2 hcc.1 hcc.2
 rw [← hx.1, ← hx.2] at h1
 rw [← hy.1, ← hy.2] at h2
 rw [← hz.1, ← hz.2] at h3
 rw [← hx.1, ← hx.2, ← hy.1, ← hy.2, ← hz.1, ← hz.2] at h4
 have m1 := mulN (X := 27648000) (Y := 27648) (a := x) (b := yd) (by decide) (by decide) (by omega) (by omega)
 have m2 := mulN (X := 27648000) (Y := 27648) (a := y) (b := xd) (by decide) (by decide) (by omega) (by omega)
 have m3 := mulN (X := 27648000) (Y := 27648) (a := z) (b := xd) (by decide) (by decide) (by omega) (by omega)
 have m4 := mulN (X := 764411904000) (Y := 27648) (a := z * xd) (b := yd) (by decide) (by decide) (by omega) (by omega)
 refine ⟨1000 * xd, 1000 * yd, 1000 * zd, Dw.wrap_id (by omega) (by omega), Dw.wrap_id (by omega) (by omega), Dw.wrap_id (by omega) (by omega), decide_eq_false (by omega), decide_eq_false (by omega), decide_eq_false (by omega), decide_eq_false (by omega), decide_eq_false (by omega), decide_eq_false (by omega), decide_eq_false (by omega), decide_eq_false (by omega), decide_eq_false (by omega), by omega, by omega, by omega,
  x * yd, y * xd, x * yd + y * xd, z * xd, z * xd * yd, Dw.wrap_id (by omega) (by omega), Dw.wrap_id (by omega) (by omega), Dw.wrap_id (by omega) (by omega), ?_, Dw.wrap_id (by omega) (by omega), Dw.wrap_id (by omega) (by omega)⟩
 rw [h4]
 exact Dw.wrap_id (by omega) (by omega)
theorem cf_tri {x xd y yd z zd : Int} (hx : x = (cof n l a b).num ∧ xd = ((cof n l a b).den : Int)) (hy : y = (cof n l b c).num ∧ yd = ((cof n l b c).den : Int)) (hz : z = (cof n l a c).num ∧ zd = ((cof n l a c).den : Int)) :
  ∃ A1 A2 A3 A4 A5 A6 : Int, wrap64 (z * xd) = A1 ∧ wrap64 (A1 * yd) = A2 ∧ wrap64 (x * yd) = A3 ∧ wrap64 (y * xd) = A4 ∧ wrap64 (A3 + A4) = A5 ∧ wrap64 (A5 * zd) = A6 ∧ decide (A2 ≤ A6) = true := by
 have h1 := cof_nums hc ha.1 ha.2 hb.1 hb.2
 have h2 := cof_nums hc hb.1 hb.2 hcc.1 hcc.2
 have h3 := cof_nums hc ha.1 ha.2 hcc.1 hcc.2
 have h4 := tri_nums hc ha.1 ha.2 hb.1 hb.2 hcc.1 hcc.2
 rw [← hx.1, ← hx.2] at h1
 rw [← hy.1, ← hy.2] at h2
 rw [← hz.1, ← hz.2] at h3
 rw [← hx.1, ← hx.2, ← hy.1, ← hy.2, ← hz.1, ← hz.2] at h4
 have m1 := mulN (X := 110592) (Y := 27648) (a := x) (b := yd) (by decide) (by decide) (by omega) (by omega)
 have m2 := mulN (X := 110592) (Y := 27648) (a := y) (b := xd) (by decide) (by decide) (by omega) (by omega)
 have m3 := mulN (X := 110592) (Y := 27648) (a := z) (b := xd) (by decide) (by decide) (by omega) (by omega)
 have m4 := mulN (X := 3057647616) (Y := 27648) (a := z * xd) (b := yd) (by decide) (by decide) (by omega) (by omega)
 have m5 := mulN (X := 6115295232) (Y := 27648) (a := x * yd + y * xd) (b := zd) (by decide) (by decide) (by omega) (by omega)
 exact ⟨z * xd, z * xd * yd, x * yd, y * xd, x * yd + y * xd, (x * yd + y * xd) * zd, Dw.wrap_id (by omega) (by omega), Dw.wrap_id (by omega) (by omega), Dw.wrap_id (by omega) (by omega), Dw.wrap_id (by omega) (by omega), Dw.wrap_id (by omega) (by omega), Dw.wrap_id (by omega) (by omega), decide_eq_true h4⟩
end
set_option maxHeartbeats 8000000 in
set_option maxRecDepth 100000 in
theorem law_any (A : Option Addr) (c0 : Nat) (code : List Int) (A2 : Option Addr) (c2 : Nat) (more : List Int) (w : World) (hr : Kd.C (Kd.int .u8) w A code.length code) (hc : code.length ≤ c0) (hb : ∀ b ∈ code, 0 ≤ b ∧ b ≤ 255) (hr2 : Kd.C (Kd.int .u8) w A2 more.length more) (hc2 : more.length ≤ c2) (hb2 : ∀ b ∈ more, 0 ≤ b ∧ b ≤ 255) :
  Calls Try.prog 4 #[.slice A code.length c0, .slice A2 more.length c2] w fun e w' => e = .returned (.bool true) ∧ Below w.heap.size w w' := by
 have hu26 := Try.underlying26
 have hu32 := Try.underlying32
 obtain ⟨lb, hlb, hz⟩ := long_any A c0 code A2 c2 more w hr hc hr2 hc2
 have HR := Aside0.mk hr
 have HC := Aside0.mk hc
 have HBY := Aside0.mk hb
 have HR2 := Aside0.mk hr2
 have HC2 := Aside0.mk hc2
 have HB2Y := Aside0.mk hb2
 clear hr hc hb hr2 hc2 hlb hb2
 cases lb with
 | true =>
  go_enter Try.func4, Try.ntmps4
  go_wp2_with (fail)
  refine hz.mono ?_
  rintro e w1 ⟨rfl, hd⟩
  have HB1 := Aside0.mk (below_drawn0 hd)
  clear hz hd
  go_wp2_with (fail)
  go_ret
  exact ⟨rfl, HB1.out⟩
 | false =>
  go_enter Try.func4, Try.ntmps4
  go_wp2_with (fail)
  refine hz.mono ?_
  rintro e w1 ⟨rfl, hd⟩
  have HB1 := Aside0.mk (below_drawn0 hd)
  have hs := survey_any code HBY.out A c0 w1 (Kd.C_below HR.out HB1.out) HC.out
  clear hz hd
  go_wp2_with (fail)
  refine hs.mono ?_
  rintro e w2 ⟨p, l, v, rfl, hcn, hts, hb2⟩
  obtain ⟨n, rfl⟩ := conn_nat hcn
  obtain ⟨m, hm⟩ : ∃ m : Nat, m = n + 1 := ⟨_, rfl⟩
  rw [show ((n : Int) + 1) = (m : Int) by omega]
  obtain ⟨Av, cv, rfl⟩ := Kd.R_slice hts
  have HCN := Aside0.mk hcn
  have HM := Aside0.mk hm
  have HB2 := Aside0.mk (below_step HB1.out hb2)
  have hbx := below_alloc (Below.refl w2.heap.size w2) (.cells #[.int .i64 (m : Int), .slice Av l.length cv] 26)
  have X3 := Aside0.mk (blk_new w2 (.cells #[.int .i64 (m : Int), .slice Av l.length cv] 26))
  have L3 := Aside0.mk (Kd.C_below (Kd.R_reads' hts).2.2 hbx)
  have CV := Aside0.mk (Kd.R_reads' hts).2.1
  have HB3 := Aside0.mk (below_step HB2.out hbx)
  clear hs hts hb2 hbx hcn hm HR HC HBY
  have hz := at_any A2 c2 more HB2Y.out 0 (m : Int) (by decide) _ (Kd.C_below HR2.out HB3.out) HC2.out
  go_wp2_with (fail)
  refine hz.mono ?_
  rintro e w4 ⟨rfl, hb_⟩
  have HB4 := Aside0.mk (below_step HB3.out hb_)
  have X4 := Aside0.mk (blk_below X3.out hb_)
  have L4 := Aside0.mk (Kd.C_below L3.out hb_)
  clear hz hb_ HB3 X3 L3
  obtain ⟨a, ha⟩ : ∃ x, x = atV more 0 (m : Int) := ⟨_, rfl⟩
  have HVa := Aside0.mk (show 0 ≤ a ∧ a ≤ n by have h := atV_le more HB2Y.out 0 (m : Int) (by decide) (by have := HM.out; omega); rw [← ha] at h; have := HM.out; omega)
  rw [← ha]
  clear ha
  have hz := at_any A2 c2 more HB2Y.out 1 (m : Int) (by decide) w4 (Kd.C_below HR2.out HB4.out) HC2.out
  have e0 : w4.cell? ⟨w2.heap.size, 0, none⟩ = some (.int .i64 (m : Int)) := (blk_cell X4.out 0).trans rfl
  have e1 : w4.cell? ⟨w2.heap.size, 1, none⟩ = some (.slice Av l.length cv) := (blk_cell X4.out 1).trans rfl
  go_wp2_with (fail)
  refine hz.mono ?_
  rintro e w5 ⟨rfl, hb_⟩
  have HB5 := Aside0.mk (below_step HB4.out hb_)
  have X5 := Aside0.mk (blk_below X4.out hb_)
  have L5 := Aside0.mk (Kd.C_below L4.out hb_)
  clear hz hb_ HB4 X4 L4 e0 e1
  obtain ⟨b, hb⟩ : ∃ x, x = atV more 1 (m : Int) := ⟨_, rfl⟩
  have HVb := Aside0.mk (show 0 ≤ b ∧ b ≤ n by have h := atV_le more HB2Y.out 1 (m : Int) (by decide) (by have := HM.out; omega); rw [← hb] at h; have := HM.out; omega)
  rw [← hb]
  clear hb
  have hz := at_any A2 c2 more HB2Y.out 2 (m : Int) (by decide) w5 (Kd.C_below HR2.out HB5.out) HC2.out
  have e0 : w5.cell? ⟨w2.heap.size, 0, none⟩ = some (.int .i64 (m : Int)) := (blk_cell X5.out 0).trans rfl
  have e1 : w5.cell? ⟨w2.heap.size, 1, none⟩ = some (.slice Av l.length cv) := (blk_cell X5.out 1).trans rfl
  go_wp2_with (fail)
  refine hz.mono ?_
  rintro e w6 ⟨rfl, hb_⟩
  have HB6 := Aside0.mk (below_step HB5.out hb_)
  have X6 := Aside0.mk (blk_below X5.out hb_)
  have L6 := Aside0.mk (Kd.C_below L5.out hb_)
  clear hz hb_ HB5 X5 L5 e0 e1
  obtain ⟨c, hc⟩ : ∃ x, x = atV more 2 (m : Int) := ⟨_, rfl⟩
  have HVc := Aside0.mk (show 0 ≤ c ∧ c ≤ n by have h := atV_le more HB2Y.out 2 (m : Int) (by decide) (by have := HM.out; omega); rw [← hc] at h; have := HM.out; omega)
  rw [← hc]
  clear hc
  have hz := cof_call HM.out HCN.out HVa.out.1 HVa.out.2 HVb.out.1 HVb.out.2 Av cv w6 L6.out CV.out
  have e0 : w6.cell? ⟨w2.heap.size, 0, none⟩ = some (.int .i64 (m : Int)) := (blk_cell X6.out 0).trans rfl
  have e1 : w6.cell? ⟨w2.heap.size, 1, none⟩ = some (.slice Av l.length cv) := (blk_cell X6.out 1).trans rfl
  go_wp2_with (fail)
  refine hz.mono ?_
  rintro e w7 ⟨rfl, hb_⟩
  have HB7 := Aside0.mk (below_step HB6.out hb_)
  have X7 := Aside0.mk (blk_below X6.out hb_)
  have L7 := Aside0.mk (Kd.C_below L6.out hb_)
  clear hz hb_ HB6 X6 L6 e0 e1
  obtain ⟨x, hx⟩ : ∃ q, q = (cof n l a b).num := ⟨_, rfl⟩
  obtain ⟨xd, hxd⟩ : ∃ q, q = ((cof n l a b).den : Int) := ⟨_, rfl⟩
  rw [← hx, ← hxd]
  have Ex := Aside0.mk (And.intro hx hxd)
  clear hx hxd
  have hz := cof_call HM.out HCN.out HVb.out.1 HVb.out.2 HVc.out.1 HVc.out.2 Av cv w7 L7.out CV.out
  have e0 : w7.cell? ⟨w2.heap.size, 0, none⟩ = some (.int .i64 (m : Int)) := (blk_cell X7.out 0).trans rfl
  have e1 : w7.cell? ⟨w2.heap.size, 1, none⟩ = some (.slice Av l.length cv) := (blk_cell X7.out 1).trans rfl
  go_wp2_with (fail)
  refine hz.mono ?_
  rintro e w8 ⟨rfl, hb_⟩
  have HB8 := Aside0.mk (below_step HB7.out hb_)
  have X8 := Aside0.mk (blk_below X7.out hb_)
  have L8 := Aside0.mk (Kd.C_below L7.out hb_)
  clear hz hb_ HB7 X7 L7 e0 e1
  obtain ⟨y, hy⟩ : ∃ q, q = (cof n l b c).num := ⟨_, rfl⟩
  obtain ⟨yd, hyd⟩ : ∃ q, q = ((cof n l b c).den : Int) := ⟨_, rfl⟩
  rw [← hy, ← hyd]
  have Ey := Aside0.mk (And.intro hy hyd)
  clear hy hyd
  have hz := cof_call HM.out HCN.out HVa.out.1 HVa.out.2 HVc.out.1 HVc.out.2 Av cv w8 L8.out CV.out
  have e0 : w8.cell? ⟨w2.heap.size, 0, none⟩ = some (.int .i64 (m : Int)) := (blk_cell X8.out 0).trans rfl
  have e1 : w8.cell? ⟨w2.heap.size, 1, none⟩ = some (.slice Av l.length cv) := (blk_cell X8.out 1).trans rfl
  go_wp2_with (fail)
  refine hz.mono ?_
  rintro e w9 ⟨rfl, hb_⟩
  have HB9 := Aside0.mk (below_step HB8.out hb_)
  have X9 := Aside0.mk (blk_below X8.out hb_)
  have L9 := Aside0.mk (Kd.C_below L8.out hb_)
  clear hz hb_ HB8 X8 L8 e0 e1
  obtain ⟨z, hz⟩ : ∃ q, q = (cof n l a c).num := ⟨_, rfl⟩
  obtain ⟨zd, hzd⟩ : ∃ q, q = ((cof n l a c).den : Int) := ⟨_, rfl⟩
  rw [← hz, ← hzd]
  have Ez := Aside0.mk (And.intro hz hzd)
  clear hz hzd
  have hz := cof_call HM.out HCN.out HVb.out.1 HVb.out.2 HVa.out.1 HVa.out.2 Av cv w9 L9.out CV.out
  have e0 : w9.cell? ⟨w2.heap.size, 0, none⟩ = some (.int .i64 (m : Int)) := (blk_cell X9.out 0).trans rfl
  have e1 : w9.cell? ⟨w2.heap.size, 1, none⟩ = some (.slice Av l.length cv) := (blk_cell X9.out 1).trans rfl
  go_wp2_with (fail)
  refine hz.mono ?_
  rintro e w10 ⟨rfl, hb_⟩
  have HB10 := Aside0.mk (below_step HB9.out hb_)
  have X10 := Aside0.mk (blk_below X9.out hb_)
  have L10 := Aside0.mk (Kd.C_below L9.out hb_)
  clear hz hb_ HB9 X9 L9 e0 e1
  rw [cof_symm HCN.out HVa.out.1 HVa.out.2 HVb.out.1 HVb.out.2, ← Ex.out.1, ← Ex.out.2]
  have e0 : w10.cell? ⟨w2.heap.size, 0, none⟩ = some (.int .i64 (m : Int)) := (blk_cell X10.out 0).trans rfl
  have e1 : w10.cell? ⟨w2.heap.size, 1, none⟩ = some (.slice Av l.length cv) := (blk_cell X10.out 1).trans rfl
  have F1 := Aside0.mk (cf_test HCN.out HVa.out HVb.out HVc.out Ex.out Ey.out Ez.out)
  obtain ⟨NX, NY, NZ, u1, u2, u3, t1, t2, t3, t4, t5, t6, t7, t8, t9, t10, t11, t12⟩ := F1.out
  obtain ⟨bb, g1, g2, g3⟩ := cf_same HCN.out HVa.out HVb.out Ex.out.1
  have g4 : (x != x) = false := bne_self_eq_false x
  have g5 : (xd != xd) = false := bne_self_eq_false xd
  clear F1
  have hz := rise_call HM.out HCN.out HVa.out.1 HVa.out.2 HVb.out.1 HVb.out.2 Av cv w10 L10.out CV.out
  go_wp2_with (fail)
  refine hz.mono ?_
  rintro e w11 ⟨rfl, hb_⟩
  have HB11 := Aside0.mk (below_step HB10.out hb_)
  have X11 := Aside0.mk (blk_below X10.out hb_)
  have L11 := Aside0.mk (Kd.C_below L10.out hb_)
  clear hz hb_ HB10 X10 L10 e0 e1 u1 u2 u3 t1 t2 t3 t4 t5 t6 t7 t8 t9 t10 t11 t12 g1 g2 g3 g4 g5
  obtain ⟨p, hp⟩ : ∃ q, q = (rise n l a b).num := ⟨_, rfl⟩
  obtain ⟨pd, hpd⟩ : ∃ q, q = ((rise n l a b).den : Int) := ⟨_, rfl⟩
  rw [← hp, ← hpd]
  have Ep := Aside0.mk (And.intro hp hpd)
  clear hp hpd
  have hz := rise_call HM.out HCN.out HVb.out.1 HVb.out.2 HVc.out.1 HVc.out.2 Av cv w11 L11.out CV.out
  have e0 : w11.cell? ⟨w2.heap.size, 0, none⟩ = some (.int .i64 (m : Int)) := (blk_cell X11.out 0).trans rfl
  have e1 : w11.cell? ⟨w2.heap.size, 1, none⟩ = some (.slice Av l.length cv) := (blk_cell X11.out 1).trans rfl
  go_wp2_with (fail)
  refine hz.mono ?_
  rintro e w12 ⟨rfl, hb_⟩
  have HB12 := Aside0.mk (below_step HB11.out hb_)
  have X12 := Aside0.mk (blk_below X11.out hb_)
  have L12 := Aside0.mk (Kd.C_below L11.out hb_)
  clear hz hb_ HB11 X11 L11 e0 e1
  obtain ⟨q, hq⟩ : ∃ q, q = (rise n l b c).num := ⟨_, rfl⟩
  obtain ⟨qd, hqd⟩ : ∃ q, q = ((rise n l b c).den : Int) := ⟨_, rfl⟩
  rw [← hq, ← hqd]
  have Eq := Aside0.mk (And.intro hq hqd)
  clear hq hqd
  have hz := rise_call HM.out HCN.out HVa.out.1 HVa.out.2 HVc.out.1 HVc.out.2 Av cv w12 L12.out CV.out
  have e0 : w12.cell? ⟨w2.heap.size, 0, none⟩ = some (.int .i64 (m : Int)) := (blk_cell X12.out 0).trans rfl
  have e1 : w12.cell? ⟨w2.heap.size, 1, none⟩ = some (.slice Av l.length cv) := (blk_cell X12.out 1).trans rfl
  go_wp2_with (fail)
  refine hz.mono ?_
  rintro e w13 ⟨rfl, hb_⟩
  have HB13 := Aside0.mk (below_step HB12.out hb_)
  have X13 := Aside0.mk (blk_below X12.out hb_)
  have L13 := Aside0.mk (Kd.C_below L12.out hb_)
  clear hz hb_ HB12 X12 L12 e0 e1
  obtain ⟨r, hr⟩ : ∃ q, q = (rise n l a c).num := ⟨_, rfl⟩
  obtain ⟨rd, hrd⟩ : ∃ q, q = ((rise n l a c).den : Int) := ⟨_, rfl⟩
  rw [← hr, ← hrd]
  have Er := Aside0.mk (And.intro hr hrd)
  clear hr hrd
  have F2 := Aside0.mk (cf_rises HCN.out HVa.out HVb.out HVc.out Ep.out Eq.out Er.out)
  obtain ⟨NP, NQ, NR, u1, u2, u3, t1, t2, t3, t4, t5, t6, t7, t8, t9, s1, s2, s3, P1, P2, P3, P4, ZZ, v1, v2, v3, v4, v5, v6⟩ := F2.out
  have zz : (ZZ != ZZ) = false := bne_self_eq_false ZZ
  have ab1 := abs_any p s1 w13
  clear F2
  go_wp2_with (fail)
  refine ab1.mono ?_
  rintro e w14 ⟨rfl, hb_⟩
  have HB14 := Aside0.mk (below_step HB13.out (below_drawn0 hb_))
  clear ab1 hb_
  have ab1 := abs_any q s2 w14
  go_wp2_with (fail)
  refine ab1.mono ?_
  rintro e w15 ⟨rfl, hb_⟩
  have HB15 := Aside0.mk (below_step HB14.out (below_drawn0 hb_))
  clear ab1 hb_
  have ab1 := abs_any r s3 w15
  go_wp2_with (fail)
  refine ab1.mono ?_
  rintro e w16 ⟨rfl, hb_⟩
  have HB16 := Aside0.mk (below_step HB15.out (below_drawn0 hb_))
  clear ab1 hb_ s1 s2 s3
  obtain ⟨A1, A2', A3, A4, A5, A6, y1, y2, y3, y4, y5, y6, y7⟩ := cf_tri HCN.out HVa.out HVb.out HVc.out Ex.out Ey.out Ez.out
  go_wp2_with (fail)
  go_ret
  exact ⟨rfl, HB16.out⟩
end Go.Proofs.Ytkafbmanmffliaa.LwCF

