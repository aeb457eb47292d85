/- Parts of the proof that the law of this seat holds: LwRE. -/
import Derived.Test.YtkafbmanmffliaaGRpn
import Derived.Test.YtkafbmanmffliaaGRpo
import Derived.Deep.QuietTactic
import Derived.BigQuiet
set_option linter.unusedVariables false
set_option linter.unusedSimpArgs false
/- The law on the redundancies, walked. -/
namespace Go.Proofs.Ytkafbmanmffliaa.LwRE
open Go Go.RowKit YtkafbmanmffliaaW.PrintWords YtkafbmanmffliaaW.PrintLast YtkafbmanmffliaaW.PrintMore Q Dd Gs Hc Hw Kc Kf Ex Dr Pa Pg Ud Lg
theorem res_call {n m : Nat} (hm : m = n + 1) {l : List S32} (hc : Gm.connB ((n : Int) + 1) l = true) (A : Option Addr) (c : Nat) (w : World) (hr : Kd.C k32 w A l.length l) (hcl : l.length ≤ c) :
  Calls Try.prog 20 #[.agg #[.int .i64 (m : Int), .slice A l.length c]] w fun e w' => ∃ (A' : Option Addr) (c' : Nat), e = .returned (.tuple #[.int .i64 (eD n l), .slice A' l.length c', .bool true]) ∧ T w.heap.size w' (.slice A' l.length c') (l.map (ev n l)) ∧ Below w.heap.size w w' := by
 have h := resid_any ((n : Int) + 1) l A c w hr hcl (by have := (conn_n hc).2.2; omega)
 rw [hc, (resL_eq hc).1, (resL_eq hc).2] at h
 rw [show ((m : Nat) : Int) = (n : Int) + 1 by omega]
 refine h.mono ?_
 rintro e w' ⟨v, rfl, hT, hb⟩
 obtain ⟨A', c', rfl⟩ := Kd.R_slice hT
 rw [show (l.map (ev n l)).length = l.length by simp] at hT ⊢
 exact ⟨A', c', rfl, hT, hb⟩
theorem red_call {n m : Nat} (hm : m = n + 1) {l : List S32} (hc : Gm.connB ((n : Int) + 1) l = true) (A : Option Addr) (c : Nat) (w : World) (hr : Kd.C k32 w A l.length l) (hcl : l.length ≤ c) :
  Calls Try.prog 37 #[.agg #[.int .i64 (m : Int), .slice A l.length c]] w fun e w' => ∃ (A' : Option Addr) (c' : Nat), e = .returned (.tuple #[.int .i64 (rD n l), .slice A' l.length c', .bool true]) ∧ T w.heap.size w' (.slice A' l.length c') (l.map (rv n l)) ∧ Below w.heap.size w w' := by
 have h := redund_any ((n : Int) + 1) l A c w hr hcl (by have := (conn_n hc).2.2; omega)
 rw [hc, (redL_eq hc).1, (redL_eq hc).2] at h
 rw [show ((m : Nat) : Int) = (n : Int) + 1 by omega]
 refine h.mono ?_
 rintro e w' ⟨v, rfl, hT, hb⟩
 obtain ⟨A', c', rfl⟩ := Kd.R_slice hT
 rw [show (l.map (rv n l)).length = l.length by simp] at hT ⊢
 exact ⟨A', c', rfl, hT, hb⟩
theorem unk_call {n m : Nat} (hm : m = n + 1) {l : List S32} (hc : Gm.connB ((n : Int) + 1) l = true) (A : Option Addr) (c : Nat) (w : World) (hr : Kd.C k32 w A l.length l) :
  Calls Try.prog 38 #[.agg #[.int .i64 (m : Int), .slice A l.length c]] w fun e w' => ∃ (A' : Option Addr) (k' c' : Nat), k' = (unk m l l.length).length ∧ e = .returned (.tuple #[.slice A' k' c', .bool true]) ∧ T w.heap.size w' (.slice A' k' c') (unk m l l.length) ∧ Below w.heap.size w w' := by
 have e : (n : Int) + 1 = (m : Int) := by omega
 rw [e] at hc
 refine (unk_any m l (by have := conn_v (n := n) (l := l) (by rw [e]; exact hc); rw [e] at this; exact this) hc A c w hr).mono ?_
 rintro e w' ⟨v, rfl, hT, hb⟩
 obtain ⟨A', c', rfl⟩ := Kd.R_slice hT
 exact ⟨A', _, c', rfl, rfl, hT, hb⟩
theorem has_call {n m : Nat} (hm : m = n + 1) {l : List S32} (hc : Gm.connB ((n : Int) + 1) l = true) (A : Option Addr) (k c : Nat) (B : Nat) (w : World) (hT : T B w (.slice A k c) (unk m l l.length)) {i : Nat} (hi : i < l.length) :
  Calls Try.prog 35 #[.slice A k c, .int .i64 (i : Int)] w fun e w' => e = .returned (.bool (rv n l (rd_T32 l i) == 0)) ∧ Drawn0 w w' := by
 have h1 := Kd.R_reads' hT
 have h2 := unk_len m l l.length
 have h3 := (conn_n hc).2.2
 have h4 := laws_r8Has.calls _ A c (unk m l l.length) (i : Int) _ w h1.2.2 (by have := h1.2.1; omega) (has_f _ _ (by omega))
 rw [unk_mem m l l.length i hi, show ((m : Nat) : Int) = (n : Int) + 1 by omega, rv_bridge hc hi] at h4
 rw [show k = (unk m l l.length).length from h1.1]
 rw [show ((m : Nat) : Int) = (n : Int) + 1 by omega] 
 exact h4
theorem drop_call {n m : Nat} (hm : m = n + 1) {l : List S32} (hc : Gm.connB ((n : Int) + 1) l = true) (A : Option Addr) (c : Nat) (w : World) (hr : Kd.C k32 w A l.length l) {i : Nat} (hi : i < l.length) :
  Calls Try.prog 39 #[.agg #[.int .i64 (m : Int), .slice A l.length c], .int .i64 (i : Int)] w fun e w' => ∃ (A' : Option Addr) (k' c' : Nat), k' = (l.eraseIdx i).length ∧ e = .returned (.tuple #[.agg #[.int .i64 (m : Int), .slice A' k' c'], .bool true]) ∧ Kd.C k32 w' A' k' (l.eraseIdx i) ∧ Below w.heap.size w w' := by
 have hv := conn_v hc
 rw [show (n : Int) + 1 = (m : Int) by omega] at hv
 refine (drop_any (m : Int) A c l i hi hv w hr).mono ?_
 rintro e w' ⟨v, rfl, hT, hb⟩
 obtain ⟨A', c', rfl⟩ := Kd.R_slice hT
 exact ⟨A', _, c', rfl, rfl, (Kd.R_reads' hT).2.2, hb⟩
theorem conn_call {n m : Nat} (hm : m = n + 1) {l : List S32} (hc : Gm.connB ((n : Int) + 1) l = true) {i : Nat} (hi : i < l.length) (A : Option Addr) (k c : Nat) (hk : k = (l.eraseIdx i).length) (w : World) (hr : Kd.C k32 w A k (l.eraseIdx i)) :
  Calls Try.prog 40 #[.agg #[.int .i64 (m : Int), .slice A k c]] w fun e w' => e = .returned (.bool (!(rv n l (rd_T32 l i) == 0))) ∧ Below w.heap.size w w' := by
 subst hk
 have h := isConn_any (m : Int) (l.eraseIdx i) A c w hr (by have := List.length_eraseIdx_le l i; have := (conn_n hc).2.2; omega)
 rw [show ((m : Nat) : Int) = (n : Int) + 1 by omega] at h ⊢
 rw [← rv_bridge hc hi, Bool.not_not]
 exact h
theorem sum_q {n : Nat} {l : List S32} (hc : Gm.connB ((n : Int) + 1) l = true) (A : Option Addr) (c : Nat) (B : Nat) (w : World) (k : Nat) (hT : T B w (.slice A l.length c) (l.map (rv n l))) :
  Calls Try.prog 41 #[.slice A l.length c] (w.drewN k) fun e w' => e = .returned (.int .i64 (rD n l * ((l.length : Int) - n))) ∧ ∃ m, w' = w.drewN m := by
 have h1 := Kd.R_reads' hT
 have h3 := (conn_n hc).2.2
 have h4 := laws_r8Sum.calls _ A c (l.map (rv n l)) _ (w.drewN k) (Kd.C_below h1.2.2 (pw_below_drewN (Below.refl _ _) k)) (by have := h1.2.1; simp at this ⊢; omega) (sum_f _ (by simp; omega) (fun x hx => by
  obtain ⟨s, hs, rfl⟩ := List.mem_map.1 hx
  obtain ⟨j, hj, rfl⟩ := List.mem_iff_getElem.1 hs
  have h5 := rv_range hc hj
  have h6 := rD_pos hc
  rw [rd_mem hj] at h5
  omega))
 rw [sumI_map, rv_sum hc] at h4
 rw [show (l.map (rv n l)).length = l.length by simp] at h4
 exact Calls.quiet_of (h4.mono fun _ _ h => ⟨h.1, h.2.out⟩)
set_option maxHeartbeats 8000000 in
set_option maxRecDepth 100000 in
theorem law_any (A : Option Addr) (c0 : Nat) (code : List Int) (A2 : Option Addr) (c2 : Nat) (more : List Int) (w : World) (hr : Kd.C (Kd.int .u8) w A code.length code) (hc : code.length ≤ c0) (hb : ∀ b ∈ code, 0 ≤ b ∧ b ≤ 255) (hr2 : Kd.C (Kd.int .u8) w A2 more.length more) (hc2 : more.length ≤ c2) :
  Calls Try.prog 9 #[.slice A code.length c0, .slice A2 more.length c2] w fun e w' => e = .returned (.bool true) ∧ Below w.heap.size w w' := by
 have hu26 := Try.underlying26
 have hu32 := Try.underlying32
 obtain ⟨lb, hlb, hz⟩ := long_any A c0 code A2 c2 more w hr hc hr2 hc2
 have HR := Aside0.mk hr
 have HC := Aside0.mk hc
 have HBY := Aside0.mk hb
 clear hr hc hb hr2 hc2 hlb
 cases lb with
 | true =>
  go_enter Try.func9, Try.ntmps9
  go_wp2_with (fail)
  refine hz.mono ?_
  rintro e w1 ⟨rfl, hd⟩
  have HB1 := Aside0.mk (below_drawn0 hd)
  clear hz hd
  go_wp2_with (fail)
  go_ret
  exact ⟨rfl, HB1.out⟩
 | false =>
  go_enter Try.func9, Try.ntmps9
  go_wp2_with (fail)
  refine hz.mono ?_
  rintro e w1 ⟨rfl, hd⟩
  have HB1 := Aside0.mk (below_drawn0 hd)
  have hs := survey_any code HBY.out A c0 w1 (Kd.C_below HR.out HB1.out) HC.out
  clear hz hd
  go_wp2_with (fail)
  refine hs.mono ?_
  rintro e w2 ⟨p, l, v, rfl, hcn, hts, hb2⟩
  obtain ⟨n, rfl⟩ := conn_nat hcn
  obtain ⟨m, hm⟩ : ∃ m : Nat, m = n + 1 := ⟨_, rfl⟩
  rw [show ((n : Int) + 1) = (m : Int) by omega]
  obtain ⟨Av, cv, rfl⟩ := Kd.R_slice hts
  have hl8 := (conn_n hcn).2.2
  have hn4 := (conn_n hcn).2.1
  have HCN := Aside0.mk hcn
  have HM := Aside0.mk hm
  have HB2 := Aside0.mk (below_step HB1.out hb2)
  have hbx := below_alloc (Below.refl w2.heap.size w2) (.cells #[.int .i64 (m : Int), .slice Av l.length cv] 26)
  have X3 := Aside0.mk (blk_new w2 (.cells #[.int .i64 (m : Int), .slice Av l.length cv] 26))
  have L3 := Aside0.mk (Kd.C_below (Kd.R_reads' hts).2.2 hbx)
  have CV := Aside0.mk (Kd.R_reads' hts).2.1
  have HB3 := Aside0.mk (below_step HB2.out hbx)
  have hz := red_call hm hcn Av cv _ L3.out CV.out
  clear hs hts hb2 hbx hcn hm HR HC HBY
  go_wp2_with (fail)
  refine hz.mono ?_
  rintro e w4 ⟨AR, cR, rfl, tR, hb4⟩
  have TR := Aside0.mk tR
  have HB4 := Aside0.mk (below_step HB3.out hb4)
  have X4 := Aside0.mk (blk_below X3.out hb4)
  have L4 := Aside0.mk (Kd.C_below L3.out hb4)
  clear hz hb4 tR HB3 X3 L3
  have e0 : w4.cell? ⟨w2.heap.size, 0, none⟩ = some (.int .i64 (m : Int)) := (blk_cell X4.out 0).trans rfl
  have e1 : w4.cell? ⟨w2.heap.size, 1, none⟩ = some (.slice Av l.length cv) := (blk_cell X4.out 1).trans rfl
  have hz := unk_call HM.out HCN.out Av cv _ L4.out
  go_wp2_with (fail)
  refine hz.mono ?_
  rintro e w5 ⟨AU, kU, cU, -, rfl, tU, hb5⟩
  have TU := Aside0.mk tU
  have TR5 := Aside0.mk (TR.out.below hb5)
  have HB5 := Aside0.mk (below_step HB4.out hb5)
  have X5 := Aside0.mk (blk_below X4.out hb5)
  have L5 := Aside0.mk (Kd.C_below L4.out hb5)
  clear hz hb5 tU HB4 X4 L4 TR e0 e1
  have e0 : w5.cell? ⟨w2.heap.size, 0, none⟩ = some (.int .i64 (m : Int)) := (blk_cell X5.out 0).trans rfl
  have e1 : w5.cell? ⟨w2.heap.size, 1, none⟩ = some (.slice Av l.length cv) := (blk_cell X5.out 1).trans rfl
  have hz := res_call HM.out HCN.out Av cv _ L5.out CV.out
  go_wp2_with (fail)
  refine hz.mono ?_
  rintro e w6 ⟨AE, cE, rfl, tE, hb6⟩
  have TE := Aside0.mk tE
  have TR6 := Aside0.mk (TR5.out.below hb6)
  have TU6 := Aside0.mk (TU.out.below hb6)
  have HB6 := Aside0.mk (below_step HB5.out hb6)
  have X6 := Aside0.mk (blk_below X5.out hb6)
  have L6 := Aside0.mk (Kd.C_below L5.out hb6)
  have HLOW := Aside0.mk (eD_pos HCN.out)
  have HDEN := Aside0.mk (rD_pos HCN.out)
  obtain ⟨low, hll⟩ : ∃ d, d = eD n l := ⟨_, rfl⟩
  obtain ⟨D, hD⟩ : ∃ d, d = rD n l := ⟨_, rfl⟩
  rw [← hll] at HLOW ⊢
  rw [← hD] at HDEN ⊢
  have HD := Aside0.mk hD
  have t1 : decide (low < 1) = false := decide_eq_false (by have := HLOW.out; omega)
  have t2 : decide (D < 1) = false := decide_eq_false (by have := HDEN.out; omega)
  have t5 : ((l.length : Int) != (l.length : Int)) = false := bne_self_eq_false _
  clear hz hb6 tE hll hD HB5 X5 L5 TR5 TU e0 e1
  have e1 : w6.cell? ⟨w2.heap.size, 1, none⟩ = some (.slice Av l.length cv) := (blk_cell X6.out 1).trans rfl
  go_wp2_with (fail)
  clear e1 t1 t2 t5
  have HEL := Aside0.mk (show (l.map (ev n l)).length = l.length by simp)
  have HRL := Aside0.mk (show (l.map (rv n l)).length = l.length by simp)
  go_loopw [14] (fun v14 wz => ∃ i : Nat, v14 = .int .i64 (i : Int) ∧ i ≤ l.length ∧ Aside0 (Below w6.heap.size w6 wz)) (fun v _ => l.length - (intOf v).toNat)
  case atStart => exact ⟨0, rfl, by omega, ⟨Below.refl _ _⟩⟩
  case round =>
   obtain ⟨i, rfl, hi, HB⟩ := hrel
   have e0 : wr.cell? ⟨w2.heap.size, 0, none⟩ = some (.int .i64 (m : Int)) := (blk_cell (blk_below X6.out HB.out) 0).trans rfl
   have e1 : wr.cell? ⟨w2.heap.size, 1, none⟩ = some (.slice Av l.length cv) := (blk_cell (blk_below X6.out HB.out) 1).trans rfl
   by_cases hlt : i < l.length
   ·have p1 : decide ((i : Int) < (l.length : Int)) = true := decide_eq_true (by omega)
    have hz := has_call HM.out HCN.out AU kU cU _ wr (TU6.out.below HB.out) hlt
    have hrg := rv_range HCN.out hlt
    have hrs := rv_res HCN.out hlt
    have hcc := fun (A : Option Addr) (k c : Nat) (hk : k = (l.eraseIdx i).length) (W : World) (hr : Kd.C k32 W A k (l.eraseIdx i)) => conn_call HM.out HCN.out hlt A k c hk W hr
    have hre : rd (l.map (ev n l)) (i : Int) = ev n l (rd_T32 l i) := by rw [rd_mem hlt]; simp [rd, List.getD_eq_getElem?_getD, hlt]
    have hrr : rd (l.map (rv n l)) (i : Int) = rv n l (rd_T32 l i) := by rw [rd_mem hlt]; simp [rd, List.getD_eq_getElem?_getD, hlt]
    obtain ⟨gE, hgE⟩ : ∃ gE, AE = some ⟨gE, 0, none⟩ := by
     obtain ⟨gE, kE, eqE, -, -⟩ := TE.out.form (by rw [HEL.out]; omega)
     injection eqE with e1' _ _
     exact ⟨gE, e1'⟩
    subst hgE
    obtain ⟨gR, hgR⟩ : ∃ gR, AR = some ⟨gR, 0, none⟩ := by
     obtain ⟨gR, kR, eqR, -, -⟩ := TR6.out.form (by rw [HRL.out]; omega)
     injection eqR with e1' _ _
     exact ⟨gR, e1'⟩
    subst hgR
    have CE := Aside0.mk (fun (W : World) (h : Below w6.heap.size w6 W) => ((TE.out.below h).cell i hlt).1)
    have CR := Aside0.mk (fun (W : World) (h : Below w6.heap.size w6 W) => ((TR6.out.below h).cell i hlt).1)
    rw [hre] at CE
    rw [hrr] at CR
    rw [← HD.out] at hrg
    obtain ⟨E, hE⟩ : ∃ E, E = ev n l (rd_T32 l i) := ⟨_, rfl⟩
    obtain ⟨R, hR⟩ : ∃ R, R = rv n l (rd_T32 l i) := ⟨_, rfl⟩
    rw [← hE] at CE hrs
    rw [← hR] at CR hrs hrg hz
    have HCC := Aside0.mk hcc
    rw [← hR] at HCC
    have t1 : decide (R < 0) = false := decide_eq_false (by omega)
    have t2 : decide (R ≥ D) = false := decide_eq_false (by omega)
    have t2' : decide (D ≤ R) = false := decide_eq_false (by omega)
    by_cases h0 : R = 0
    ·have q0 : (R == 0) = true := by rw [h0]; rfl
     have q1 : (E != 0) = false := by rw [hrs h0]; rfl
     rw [q0] at hz HCC
     have nn : (true != true) = false := rfl
     have nm : (false == true) = false := rfl
     clear hre hrr hE hR hrg hrs h0 hcc
     go_wp2_with (fail)
     refine hz.mono ?_
     rintro e w7 ⟨rfl, hd7⟩
     have HB7 := Aside0.mk (below_step HB.out (below_drawn0 hd7))
     have e0 : w7.cell? ⟨w2.heap.size, 0, none⟩ = some (.int .i64 (m : Int)) := (blk_cell (blk_below X6.out HB7.out) 0).trans rfl
     have e1 : w7.cell? ⟨w2.heap.size, 1, none⟩ = some (.slice Av l.length cv) := (blk_cell (blk_below X6.out HB7.out) 1).trans rfl
     have ce := CE.out w7 HB7.out
     have cr := CR.out w7 HB7.out
     have hz := drop_call HM.out HCN.out Av cv w7 (Kd.C_below L6.out HB7.out) hlt
     clear hd7
     go_wp2_with (fail)
     refine hz.mono ?_
     rintro e w8 ⟨AL, kL, cL, hkL, rfl, hL, hb8⟩
     have HB8 := Aside0.mk (below_step HB7.out hb8)
     have hbx := below_alloc (Below.refl w8.heap.size w8) (.cells #[.int .i64 (m : Int), .slice AL kL cL] 26)
     have HB9 := Aside0.mk (below_step HB8.out hbx)
     have hz := HCC.out AL kL cL hkL _ (Kd.C_below hL hbx)
     have HN9 := Aside0.mk (blk_new w8 (.cells #[.int .i64 (m : Int), .slice AL kL cL] 26))
     clear hb8 hbx hL hkL e0 e1 ce cr
     simp only [Bool.not_true] at hz
     go_wp2_with (fail)
     refine hz.mono ?_
     rintro e wA ⟨rfl, hbA⟩
     have HBA := Aside0.mk (below_step HB9.out hbA)
     clear hz hbA
     go_wp2_with (fail)
     go_roundw
     case rel => exact ⟨i + 1, by go_num, by omega, HBA⟩
     case measure => simp [intOf]; omega
    ·have q0 : (R == 0) = false := by simp [h0]
     rw [q0] at hz HCC
     have nn : (false != false) = false := rfl
     have nm : (true == false) = false := rfl
     clear hre hrr hE hR hrg hrs h0 hcc
     go_wp2_with (fail)
     refine hz.mono ?_
     rintro e w7 ⟨rfl, hd7⟩
     have HB7 := Aside0.mk (below_step HB.out (below_drawn0 hd7))
     have e0 : w7.cell? ⟨w2.heap.size, 0, none⟩ = some (.int .i64 (m : Int)) := (blk_cell (blk_below X6.out HB7.out) 0).trans rfl
     have e1 : w7.cell? ⟨w2.heap.size, 1, none⟩ = some (.slice Av l.length cv) := (blk_cell (blk_below X6.out HB7.out) 1).trans rfl
     have ce := CE.out w7 HB7.out
     have cr := CR.out w7 HB7.out
     have hz := drop_call HM.out HCN.out Av cv w7 (Kd.C_below L6.out HB7.out) hlt
     clear hd7
     go_wp2_with (fail)
     refine hz.mono ?_
     rintro e w8 ⟨AL, kL, cL, hkL, rfl, hL, hb8⟩
     have HB8 := Aside0.mk (below_step HB7.out hb8)
     have hbx := below_alloc (Below.refl w8.heap.size w8) (.cells #[.int .i64 (m : Int), .slice AL kL cL] 26)
     have HB9 := Aside0.mk (below_step HB8.out hbx)
     have hz := HCC.out AL kL cL hkL _ (Kd.C_below hL hbx)
     have HN9 := Aside0.mk (blk_new w8 (.cells #[.int .i64 (m : Int), .slice AL kL cL] 26))
     clear hb8 hbx hL hkL e0 e1 ce cr
     simp only [Bool.not_false] at hz
     go_wp2_with (fail)
     refine hz.mono ?_
     rintro e wA ⟨rfl, hbA⟩
     have HBA := Aside0.mk (below_step HB9.out hbA)
     clear hz hbA
     go_wp2_with (fail)
     go_roundw
     case rel => exact ⟨i + 1, by go_num, by omega, HBA⟩
     case measure => simp [intOf]; omega
   ·obtain rfl : i = l.length := by omega
    have p1 : decide ((l.length : Int) < (l.length : Int)) = false := decide_eq_false (by omega)
    have HQ := Aside0.mk (fun k => by have h := sum_q HCN.out AR cR _ wr k (TR6.out.below HB.out); rw [← HD.out] at h; exact h)
    obtain ⟨K, hK⟩ : ∃ K, K = (l.length : Int) - n := ⟨_, rfl⟩
    rw [← hK] at HQ
    have hm := HM.out
    have hden := HDEN.out
    have m1 := Gn.mulb (X := 27648) (Y := 100) (a := D) (b := K) (by decide) (by decide) (by unfold Gn.Bd; omega) (by unfold Gn.Bd; omega)
    unfold Gn.Bd at m1
    obtain ⟨S, hS⟩ : ∃ S, S = D * K := ⟨_, rfl⟩
    rw [← hS] at HQ m1
    obtain ⟨J, hJ⟩ : ∃ J, J = (l.length : Int) - m := ⟨_, rfl⟩
    have u1 : wrap64 ((l.length : Int) - m) = J := by rw [← hJ]; exact Dw.wrap_id (by omega) (by omega)
    have u2 : wrap64 (J + 1) = K := by rw [Dw.wrap_id (by omega) (by omega)]; omega
    have u3 : wrap64 (D * K) = S := by rw [← hS]; exact Dw.wrap_id (by omega) (by omega)
    have t1 : (S == S) = true := beq_self_eq_true _
    have HBZ := Aside0.mk (below_step HB6.out HB.out)
    clear m1 hS hK hJ hm hden
    go_wp2_with (fail)
    go_quiet (first | (go_at_call 41; with_reducible exact HQ.out _))
    go_wp2_with (fail)
    go_ret
    exact ⟨rfl, pw_below_drewN HBZ.out _⟩
end Go.Proofs.Ytkafbmanmffliaa.LwRE

