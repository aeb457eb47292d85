/- Parts of the proof that the law of this seat holds: LwLO. -/
import Derived.Test.YtkafbmanmffliaaGLpn
import Derived.Test.YtkafbmanmffliaaGLpo
import Derived.Test.YtkafbmanmffliaaGLpp
import Derived.Deep.QuietTactic
import Derived.BigQuiet
set_option linter.unusedVariables false
set_option linter.unusedSimpArgs false
/- The law on the loops, walked. -/
namespace Go.Proofs.Ytkafbmanmffliaa.LwLO
open Go Go.RowKit YtkafbmanmffliaaW.PrintWords YtkafbmanmffliaaW.PrintLast YtkafbmanmffliaaW.PrintMore Q Dd Gs Hc Kc Ke Kf Ex Dr Pa Tl Pl Lg PuT He
section
variable {n m : Nat} (hm : m = n + 1) {l : List S32} (hc : Gm.connB ((n : Int) + 1) l = true)
include hm hc
theorem tree_call (A : Option Addr) (c : Nat) (w : World) (hr : Kd.C k32 w A l.length l) :
  Calls Try.prog 32 #[.agg #[.int .i64 (m : Int), .slice A l.length c]] w fun e w' => ∃ (g c' : Nat), e = .returned (.tuple #[.slice (some ⟨g, 0, none⟩) n c', .bool true]) ∧ T w.heap.size w' (.slice (some ⟨g, 0, none⟩) n c') (treeG m l).out ∧ Below w.heap.size w w' := by
 subst hm
 refine (sights_any (n + 1) l (valid_m hc) (conn_m hc) A c w hr).mono ?_
 rintro e w' ⟨v, rfl, hT, hb⟩
 have h1 := tree_len hc
 have h2 := (conn_n hc).1
 obtain ⟨g, c', rfl⟩ := T.formn hT (m := n) (by omega) (by omega)
 exact ⟨g, c', rfl, hT, hb⟩
theorem hgt_call (A : Option Addr) (c : Nat) (w : World) (hr : Kd.C k32 w A l.length l) (hcl : l.length ≤ c) :
  Calls Try.prog 33 #[.agg #[.int .i64 (m : Int), .slice A l.length c]] w fun e w' => ∃ (g c' : Nat), e = .returned (.tuple #[.slice (some ⟨g, 0, none⟩) m c', .bool true]) ∧ T w.heap.size w' (.slice (some ⟨g, 0, none⟩) m c') (hgt m l) ∧ Below w.heap.size w w' := by
 subst hm
 refine (heightsOf_any (n + 1) l (valid_m hc) (conn_m hc) A c w hr hcl).mono ?_
 rintro e w' ⟨v, rfl, hT, hb⟩
 obtain ⟨g, c', rfl⟩ := T.formn hT (m := n + 1) (hgt_len hc) (by omega)
 exact ⟨g, c', rfl, hT, hb⟩
theorem err_call (A : Option Addr) (c : Nat) (w : World) (hr : Kd.C k32 w A l.length l) (hcl : l.length ≤ c) :
  Calls Try.prog 34 #[.agg #[.int .i64 (m : Int), .slice A l.length c]] w fun e w' => ∃ (A' : Option Addr) (c' : Nat), e = .returned (.tuple #[.slice A' l.length c', .bool true]) ∧ T w.heap.size w' (.slice A' l.length c') (l.map (er (hgt m l))) ∧ Below w.heap.size w w' := by
 subst hm
 refine (loops_any (n + 1) l (valid_m hc) (conn_m hc) A c w hr hcl).mono ?_
 rintro e w' ⟨v, rfl, hT, hb⟩
 obtain ⟨A', c', rfl⟩ := Kd.R_slice hT
 rw [show (l.map (er (hgt (n + 1) l))).length = l.length by simp] at hT ⊢
 exact ⟨A', c', rfl, hT, hb⟩
theorem adj_call (A : Option Addr) (c : Nat) (w : World) (hr : Kd.C k32 w A l.length l) (hcl : l.length ≤ c) :
  Calls Try.prog 19 #[.agg #[.int .i64 (m : Int), .slice A l.length c]] w fun e w' => ∃ (g c' : Nat), e = .returned (.tuple #[.int .i64 (hD n l), .slice (some ⟨g, 0, none⟩) m c', .bool true]) ∧ T w.heap.size w' (.slice (some ⟨g, 0, none⟩) m c') ((List.range (n + 1)).map (fun p : Nat => hv n l p)) ∧ Below w.heap.size w w' := by
 subst hm
 have h := adjust_any ((n : Int) + 1) l A c w hr hcl (by have := (conn_n hc).2.2; omega)
 rw [hc, (adjL_eq hc).1, (adjL_eq hc).2] at h
 rw [show (((n + 1 : Nat)) : Int) = (n : Int) + 1 by omega]
 refine h.mono ?_
 rintro e w' ⟨v, rfl, hT, hb⟩
 obtain ⟨g, c', rfl⟩ := T.formn hT (m := n + 1) (by simp) (by omega)
 exact ⟨g, c', rfl, hT, hb⟩
theorem res_call (A : Option Addr) (c : Nat) (w : World) (hr : Kd.C k32 w A l.length l) (hcl : l.length ≤ c) :
  Calls Try.prog 20 #[.agg #[.int .i64 (m : Int), .slice A l.length c]] w fun e w' => ∃ (A' : Option Addr) (c' : Nat), e = .returned (.tuple #[.int .i64 (eD n l), .slice A' l.length c', .bool true]) ∧ T w.heap.size w' (.slice A' l.length c') (l.map (ev n l)) ∧ Below w.heap.size w w' := by
 have h := resid_any ((n : Int) + 1) l A c w hr hcl (by have := (conn_n hc).2.2; omega)
 rw [hc, (resL_eq hc).1, (resL_eq hc).2] at h
 rw [show ((m : Nat) : Int) = (n : Int) + 1 by omega]
 refine h.mono ?_
 rintro e w' ⟨v, rfl, hT, hb⟩
 obtain ⟨A', c', rfl⟩ := Kd.R_slice hT
 rw [show (l.map (ev n l)).length = l.length by simp] at hT ⊢
 exact ⟨A', c', rfl, hT, hb⟩
theorem has_q (g c : Nat) (B : Nat) (w : World) (k : Nat) (i : Nat) (hT : T B w (.slice (some ⟨g, 0, none⟩) n c) (treeG m l).out) :
  Calls Try.prog 35 #[.slice (some ⟨g, 0, none⟩) n c, .int .i64 (i : Int)] (w.drewN k) fun e w' => e = .returned (.bool (decide ((i : Int) ∈ (treeG m l).out))) ∧ ∃ q, w' = w.drewN q := by
 subst hm
 have h1 := Kd.R_reads' hT
 have h2 := tree_len hc
 have h3 := (conn_n hc).2.1
 have h4 := laws_r8Has.calls _ (some ⟨g, 0, none⟩) c (treeG ((n + 1 : Nat) : Int) l).out (i : Int) _ (w.drewN k) (Kd.C_below h1.2.2 (pw_below_drewN (Below.refl _ _) k)) (by have := h1.2.1; omega) (Pg.has_f _ _ (by omega))
 rw [show (treeG ((n + 1 : Nat) : Int) l).out.length = n by omega] at h4
 exact Calls.quiet_of (h4.mono fun _ _ h => ⟨h.1, h.2.out⟩)
end
theorem take_all (p : S32 → Bool) {l : List S32} {i : Nat} (hi : i < l.length) : (l.take (i + 1)).all p = ((l.take i).all p && p (rd_T32 l i)) := by
 rw [List.take_succ_eq_append_getElem hi, List.all_append, rd_mem hi]
 simp
theorem rd_map32 (f : S32 → Int) {l : List S32} {i : Nat} (hi : i < l.length) : rd (l.map f) (i : Int) = f (rd_T32 l i) := by
 rw [rd_mem hi]; simp [rd, List.getD_eq_getElem?_getD, hi]
set_option maxHeartbeats 8000000 in
set_option maxRecDepth 100000 in
theorem law_any (A : Option Addr) (c0 : Nat) (code : List Int) (A2 : Option Addr) (c2 : Nat) (more : List Int) (w : World) (hr : Kd.C (Kd.int .u8) w A code.length code) (hc : code.length ≤ c0) (hb : ∀ b ∈ code, 0 ≤ b ∧ b ≤ 255) (hr2 : Kd.C (Kd.int .u8) w A2 more.length more) (hc2 : more.length ≤ c2) :
  Calls Try.prog 7 #[.slice A code.length c0, .slice A2 more.length c2] w fun e w' => e = .returned (.bool true) ∧ Below w.heap.size w w' := by
 have hu26 := Try.underlying26
 have hu32 := Try.underlying32
 obtain ⟨lb, hlb, hz⟩ := long_any A c0 code A2 c2 more w hr hc hr2 hc2
 have HR := Aside0.mk hr
 have HC := Aside0.mk hc
 have HBY := Aside0.mk hb
 clear hr hc hb hr2 hc2 hlb
 cases lb with
 | true =>
  go_enter Try.func7, Try.ntmps7
  go_wp2_with (fail)
  refine hz.mono ?_
  rintro e w1 ⟨rfl, hd⟩
  have HB1 := Aside0.mk (below_drawn0 hd)
  clear hz hd
  go_wp2_with (fail)
  go_ret
  exact ⟨rfl, HB1.out⟩
 | false =>
  go_enter Try.func7, Try.ntmps7
  go_wp2_with (fail)
  refine hz.mono ?_
  rintro e w1 ⟨rfl, hd⟩
  have HB1 := Aside0.mk (below_drawn0 hd)
  have hs := survey_any code HBY.out A c0 w1 (Kd.C_below HR.out HB1.out) HC.out
  clear hz hd
  go_wp2_with (fail)
  refine hs.mono ?_
  rintro e w2 ⟨p, l, v, rfl, hcn, hts, hb2⟩
  obtain ⟨n, rfl⟩ := conn_nat hcn
  obtain ⟨m, hm⟩ : ∃ m : Nat, m = n + 1 := ⟨_, rfl⟩
  rw [show ((n : Int) + 1) = (m : Int) by omega]
  obtain ⟨Av, cv, rfl⟩ := Kd.R_slice hts
  have hl8 := (conn_n hcn).2.2
  have hn4 := (conn_n hcn).2.1
  have HCN := Aside0.mk hcn
  have HM := Aside0.mk hm
  have HB2 := Aside0.mk (below_step HB1.out hb2)
  have hbx := below_alloc (Below.refl w2.heap.size w2) (.cells #[.int .i64 (m : Int), .slice Av l.length cv] 26)
  have X3 := Aside0.mk (blk_new w2 (.cells #[.int .i64 (m : Int), .slice Av l.length cv] 26))
  have L3 := Aside0.mk (Kd.C_below (Kd.R_reads' hts).2.2 hbx)
  have CV := Aside0.mk (Kd.R_reads' hts).2.1
  have HB3 := Aside0.mk (below_step HB2.out hbx)
  have hz := tree_call hm hcn Av cv _ L3.out
  have HN1 := Aside0.mk (conn_n hcn).1
  clear hs hts hb2 hbx hcn hm HR HC HBY
  go_wp2_with (fail)
  refine hz.mono ?_
  rintro e w4 ⟨gT, cT, rfl, tT, hb4⟩
  have TT4 := Aside0.mk tT
  have HB4 := Aside0.mk (below_step HB3.out hb4)
  have X4 := Aside0.mk (blk_below X3.out hb4)
  have L4 := Aside0.mk (Kd.C_below L3.out hb4)
  clear hz hb4 tT HB3 X3 L3
  have e0 : w4.cell? ⟨w2.heap.size, 0, none⟩ = some (.int .i64 (m : Int)) := (blk_cell X4.out 0).trans rfl
  have e1 : w4.cell? ⟨w2.heap.size, 1, none⟩ = some (.slice Av l.length cv) := (blk_cell X4.out 1).trans rfl
  have hz := hgt_call HM.out HCN.out Av cv _ L4.out CV.out
  go_wp2_with (fail)
  refine hz.mono ?_
  rintro e w5 ⟨gH, cH, rfl, tH, hb5⟩
  have TH5 := Aside0.mk tH
  have TT5 := Aside0.mk (TT4.out.below hb5)
  have HB5 := Aside0.mk (below_step HB4.out hb5)
  have X5 := Aside0.mk (blk_below X4.out hb5)
  have L5 := Aside0.mk (Kd.C_below L4.out hb5)
  clear hz hb5 tH HB4 X4 L4 TT4 e0 e1
  have e0 : w5.cell? ⟨w2.heap.size, 0, none⟩ = some (.int .i64 (m : Int)) := (blk_cell X5.out 0).trans rfl
  have e1 : w5.cell? ⟨w2.heap.size, 1, none⟩ = some (.slice Av l.length cv) := (blk_cell X5.out 1).trans rfl
  have hz := err_call HM.out HCN.out Av cv _ L5.out CV.out
  go_wp2_with (fail)
  refine hz.mono ?_
  rintro e w6 ⟨AL, cL, rfl, tL, hb6⟩
  have TL6 := Aside0.mk tL
  have TT6 := Aside0.mk (TT5.out.below hb6)
  have TH6 := Aside0.mk (TH5.out.below hb6)
  have HB6 := Aside0.mk (below_step HB5.out hb6)
  have X6 := Aside0.mk (blk_below X5.out hb6)
  have L6 := Aside0.mk (Kd.C_below L5.out hb6)
  clear hz hb6 tL HB5 X5 L5 TT5 TH5 e0 e1
  have e0 : w6.cell? ⟨w2.heap.size, 0, none⟩ = some (.int .i64 (m : Int)) := (blk_cell X6.out 0).trans rfl
  have e1 : w6.cell? ⟨w2.heap.size, 1, none⟩ = some (.slice Av l.length cv) := (blk_cell X6.out 1).trans rfl
  have hz := adj_call HM.out HCN.out Av cv _ L6.out CV.out
  go_wp2_with (fail)
  refine hz.mono ?_
  rintro e w7 ⟨gA, cA, rfl, tA, hb7⟩
  have TA7 := Aside0.mk tA
  have TL7 := Aside0.mk (TL6.out.below hb7)
  have TT7 := Aside0.mk (TT6.out.below hb7)
  have TH7 := Aside0.mk (TH6.out.below hb7)
  have HB7 := Aside0.mk (below_step HB6.out hb7)
  have X7 := Aside0.mk (blk_below X6.out hb7)
  have L7 := Aside0.mk (Kd.C_below L6.out hb7)
  clear hz hb7 tA HB6 X6 L6 TT6 TH6 TL6 e0 e1
  have e0 : w7.cell? ⟨w2.heap.size, 0, none⟩ = some (.int .i64 (m : Int)) := (blk_cell X7.out 0).trans rfl
  have e1 : w7.cell? ⟨w2.heap.size, 1, none⟩ = some (.slice Av l.length cv) := (blk_cell X7.out 1).trans rfl
  have hz := res_call HM.out HCN.out Av cv _ L7.out CV.out
  go_wp2_with (fail)
  refine hz.mono ?_
  rintro e w8 ⟨AE, cE, rfl, tE, hb8⟩
  have TE := Aside0.mk tE
  have TA := Aside0.mk (TA7.out.below hb8)
  have TL := Aside0.mk (TL7.out.below hb8)
  have TT := Aside0.mk (TT7.out.below hb8)
  have TH := Aside0.mk (TH7.out.below hb8)
  have HB8 := Aside0.mk (below_step HB7.out hb8)
  have X8 := Aside0.mk (blk_below X7.out hb8)
  have L8 := Aside0.mk (Kd.C_below L7.out hb8)
  clear hz hb8 tE HB7 X7 L7 TT7 TH7 TL7 TA7 e0 e1
  have e0 : w8.cell? ⟨w2.heap.size, 0, none⟩ = some (.int .i64 (m : Int)) := (blk_cell X8.out 0).trans rfl
  have e1 : w8.cell? ⟨w2.heap.size, 1, none⟩ = some (.slice Av l.length cv) := (blk_cell X8.out 1).trans rfl
  have u1 : wrap64 ((m : Int) - 1) = (n : Int) := by have := HM.out; rw [Dw.wrap_id (by omega) (by omega)]; omega
  have t1 : ((n : Int) != (n : Int)) = false := bne_self_eq_false _
  have t2 : ((m : Int) != (m : Int)) = false := bne_self_eq_false _
  have t5 : ((l.length : Int) != (l.length : Int)) = false := bne_self_eq_false _
  go_wp2_with (fail)
  clear e0 e1 u1 t1 t2 t5
  have HAS := Aside0.mk (show (l.all fun s => er (hgt m l) s == 0) = l.all fun s => ev n l s == 0 by rw [HM.out]; exact agree_same HCN.out)
  have HHV := Aside0.mk (fun (h : (l.all fun s => er (hgt m l) s == 0) = true) (p : Int) (h0 : 0 ≤ p) (hp : p ≤ n) => (show hv n l p = hD n l * rd (hgt m l) p by rw [HM.out] at h ⊢; exact hv_hgt HCN.out h p h0 hp))
  have HEE := Aside0.mk (fun (s : S32) (hs : s ∈ l) => (show er (hgt m l) s = s.f2 - rd (hgt m l) s.f1 + rd (hgt m l) s.f0 by rw [HM.out]; exact er_eq HCN.out s hs))
  have HTZ := Aside0.mk (fun (i : Nat) (hi : i < l.length) (h : (i : Int) ∈ (treeG m l).out) => (show er (hgt m l) (rd_T32 l i) = 0 by rw [HM.out] at h ⊢; exact tree_zero HCN.out i hi h))
  have HLE := Aside0.mk (fun x : Int => (show -6400 ≤ rd (hgt m l) x ∧ rd (hgt m l) x ≤ 6400 by rw [HM.out]; exact hgt_le HCN.out x))
  have HZ0 := Aside0.mk (show rd (hgt m l) 0 = 0 by rw [HM.out]; exact hgt_zero HCN.out)
  have HTQ := Aside0.mk (fun (W : World) (k i : Nat) (h : Below w8.heap.size w8 W) => has_q HM.out HCN.out gT cT _ W k i (TT.out.below h))
  have HVA := Aside0.mk (fun (s : S32) (hs : s ∈ l) => mem_at (conn_v HCN.out) s hs)
  obtain ⟨D, hD⟩ : ∃ D, D = hD n l := ⟨_, rfl⟩
  have HDP := Aside0.mk (hD_pos HCN.out)
  rw [← hD] at HHV HDP ⊢
  clear hD
  obtain ⟨O, hO⟩ : ∃ O, O = (treeG m l).out := ⟨_, rfl⟩
  rw [← hO] at HTZ HTQ
  clear hO TT
  obtain ⟨H, hH⟩ : ∃ H, H = hgt m l := ⟨_, rfl⟩
  have HHN := Aside0.mk (show (hgt m l).length = m by rw [HM.out]; exact hgt_len HCN.out)
  rw [← hH] at HAS HHV HEE HTZ HLE HZ0 TH TL HHN
  clear hH
  have HEL := Aside0.mk (show (l.map (ev n l)).length = l.length by simp)
  have HLL := Aside0.mk (show (l.map (er H)).length = l.length by simp)
  go_loopw [18, 19, 20] (fun v18 v19 v20 wz => ∃ i : Nat, v20 = .int .i64 (i : Int) ∧ i ≤ l.length ∧ v18 = .bool ((l.take i).all fun s => er H s == 0) ∧ v19 = .bool ((l.take i).all fun s => ev n l s == 0) ∧ Aside0 (Below w8.heap.size w8 wz)) (fun _ _ v _ => l.length - (intOf v).toNat)
  case atStart => exact ⟨0, rfl, by omega, rfl, rfl, ⟨Below.refl _ _⟩⟩
  case round =>
   obtain ⟨i, rfl, hi, rfl, rfl, HB⟩ := hrel
   have e1 : wr.cell? ⟨w2.heap.size, 1, none⟩ = some (.slice Av l.length cv) := (blk_cell (blk_below X8.out HB.out) 1).trans rfl
   by_cases hlt : i < l.length
   ·have p1 : decide ((i : Int) < (l.length : Int)) = true := decide_eq_true (by omega)
    obtain ⟨ad, e, x0, x1, x2, x3⟩ := at_T32 (Kd.C_below L8.out HB.out) (i : Int) (by omega) (by omega)
    subst e
    rw [Int.toNat_natCast] at x0 x1 x2 x3
    have hmm : rd_T32 l i ∈ l := by rw [rd_mem hlt]; exact List.getElem_mem hlt
    have hva := HVA.out _ hmm
    have hee := HEE.out _ hmm
    have htz := HTZ.out i hlt
    have HTA := Aside0.mk (take_all (fun s => er H s == 0) hlt)
    have HTS := Aside0.mk (take_all (fun s => ev n l s == 0) hlt)
    obtain ⟨gE, hgE⟩ : ∃ gE, AE = some ⟨gE, 0, none⟩ := by
     obtain ⟨gE, kE, eqE, -, -⟩ := TE.out.form (by rw [HEL.out]; omega)
     injection eqE with e1' _ _
     exact ⟨gE, e1'⟩
    subst hgE
    obtain ⟨gL, hgL⟩ : ∃ gL, AL = some ⟨gL, 0, none⟩ := by
     obtain ⟨gL, kL, eqL, -, -⟩ := TL.out.form (by rw [HLL.out]; omega)
     injection eqL with e1' _ _
     exact ⟨gL, e1'⟩
    subst hgL
    have CE := Aside0.mk (fun (W : World) (h : Below w8.heap.size w8 W) => ((TE.out.below h).cell i hlt).1)
    have CL := Aside0.mk (fun (W : World) (h : Below w8.heap.size w8 W) => ((TL.out.below h).cell i hlt).1)
    rw [rd_map32 _ hlt] at CE CL
    obtain ⟨s, hs⟩ : ∃ s, s = rd_T32 l i := ⟨_, rfl⟩
    rw [← hs] at x0 x1 x2 x3 hva hee htz CE CL HTA HTS
    clear hs hmm
    obtain ⟨E, hE⟩ : ∃ E, E = ev n l s := ⟨_, rfl⟩
    obtain ⟨L, hL⟩ : ∃ L, L = er H s := ⟨_, rfl⟩
    rw [← hE] at CE HTS
    rw [← hL] at CL hee htz HTA
    clear hE hL
    obtain ⟨f, t, ri, wt⟩ := s
    dsimp only at x0 x1 x2 x3 hva hee
    obtain ⟨y0, y1, y2, y3, -, y5, y6, -, -⟩ := hva
    have CA := Aside0.mk (fun (W : World) (h : Below w8.heap.size w8 W) => ((TH.out.below h).cell t.toNat (by have := HM.out; omega)).1)
    have CB := Aside0.mk (fun (W : World) (h : Below w8.heap.size w8 W) => ((TH.out.below h).cell f.toNat (by have := HM.out; omega)).1)
    rw [Int.toNat_of_nonneg y2] at CA
    rw [Int.toNat_of_nonneg y0] at CB
    have g1 := HLE.out t
    have g2 := HLE.out f
    obtain ⟨a, ha⟩ : ∃ a, a = rd H t := ⟨_, rfl⟩
    obtain ⟨b, hb⟩ : ∃ b, b = rd H f := ⟨_, rfl⟩
    rw [← ha] at CA g1 hee
    rw [← hb] at CB g2 hee
    obtain ⟨D1, hD1⟩ : ∃ x, x = ri - a := ⟨_, rfl⟩
    have u1 : wrap64 (ri - a) = D1 := by rw [← hD1]; exact Dw.wrap_id (by omega) (by omega)
    have u2 : wrap64 (D1 + b) = L := by rw [Dw.wrap_id (by omega) (by omega)]; omega
    have u1' : IntKind.i64.wrap (ri - a) = D1 := (i64_w _).trans u1
    have u2' : IntKind.i64.wrap (D1 + b) = L := (i64_w _).trans u2
    have t1 : (L != L) = false := bne_self_eq_false _
    have i1 : (0 ≤ t) = True := eq_true y2
    have i2 : (t < (m : Int)) = True := eq_true (by have := HM.out; omega)
    have i3 : (0 ≤ f) = True := eq_true y0
    have i4 : (f < (m : Int)) = True := eq_true (by have := HM.out; omega)
    have i5 : (0 ≤ (i : Int)) = True := eq_true (by omega)
    have i6 : ((i : Int) < (l.length : Int)) = True := eq_true (by omega)
    clear hee ha hb hD1 g1 g2 y0 y1 y2 y3 y5 y6
    go_wp2_with (fail)
    obtain ⟨wq, hwq⟩ : ∃ wq, wq = wr.alloc (.cells #[.int .i64 f, .int .i64 t, .int .i64 ri, .int .i64 wt] 32) := ⟨_, rfl⟩
    have HBQ := Aside0.mk (show Below w8.heap.size w8 wq by rw [hwq]; exact below_alloc HB.out _)
    have HNQ := Aside0.mk (show wq.heap[wr.heap.size]? = some (.cells #[.int .i64 f, .int .i64 t, .int .i64 ri, .int .i64 wt] 32) by rw [hwq]; exact heap_alloc_new wr _)
    rw [← hwq]
    clear hwq x0 x1 x2 x3 e1
    have k0 : wq.cell? ⟨wr.heap.size, 0, none⟩ = some (.int .i64 f) := (blk_cell HNQ.out 0).trans rfl
    have k1 : wq.cell? ⟨wr.heap.size, 1, none⟩ = some (.int .i64 t) := (blk_cell HNQ.out 1).trans rfl
    have k2 : wq.cell? ⟨wr.heap.size, 2, none⟩ = some (.int .i64 ri) := (blk_cell HNQ.out 2).trans rfl
    have ca := CA.out wq HBQ.out
    have cb := CB.out wq HBQ.out
    have cl := CL.out wq HBQ.out
    have ce := CE.out wq HBQ.out
    have HQ := Aside0.mk (fun k => HTQ.out wq k i HBQ.out)
    obtain ⟨bt, hbt⟩ : ∃ b, b = decide ((i : Int) ∈ O) := ⟨_, rfl⟩
    rw [← hbt] at HQ
    have hb0 : bt = true → L = 0 := fun h => htz (of_decide_eq_true (by rw [← hbt]; exact h))
    obtain ⟨ag, hag⟩ : ∃ b, b = (l.take i).all fun s => er H s == 0 := ⟨_, rfl⟩
    obtain ⟨sm, hsm⟩ : ∃ b, b = (l.take i).all fun s => ev n l s == 0 := ⟨_, rfl⟩
    rw [← hag] at HTA ⊢
    rw [← hsm] at HTS ⊢
    clear hbt htz hag hsm CA CB CL CE
    cases bt with
    | true =>
     obtain rfl : L = 0 := hb0 rfl
     have z0 : ((0 : Int) != 0) = false := rfl
     clear hb0
     cases ag <;> cases sm
     all_goals (
      go_quiet (first | (go_at_call 35; with_reducible exact HQ.out _))
      go_wp2_with (fail)
      go_roundw
      case rel => exact ⟨i + 1, by go_num, by omega, by rw [HTA.out]; first | rfl | simp, by rw [HTS.out]; first | rfl | simp, ⟨pw_below_drewN HBQ.out _⟩⟩
      case measure => simp [intOf]; omega)
    | false =>
     clear hb0
     cases ag <;> cases sm
     all_goals (
      go_quiet (first | (go_at_call 35; with_reducible exact HQ.out _))
      go_wp2_with (fail)
      go_roundw
      case rel => exact ⟨i + 1, by go_num, by omega, by rw [HTA.out]; first | rfl | simp, by rw [HTS.out]; first | rfl | simp, ⟨pw_below_drewN HBQ.out _⟩⟩
      case measure => simp [intOf]; omega)
   ·obtain rfl : i = l.length := by omega
    have p1 : decide ((l.length : Int) < (l.length : Int)) = false := decide_eq_false (by omega)
    have c0 := ((TH.out.below HB.out).cell 0 (by have := HM.out; omega)).1
    have hzz : rd H ((0 : Nat) : Int) = 0 := HZ0.out
    rw [hzz] at c0
    have z1 : ((0 : Int) == 0) = true := rfl
    rw [List.take_of_length_le (Nat.le_refl _), ← HAS.out]
    obtain ⟨ag, hag⟩ : ∃ b, b = l.all fun s => er H s == 0 := ⟨_, rfl⟩
    rw [← hag] at HHV ⊢
    have HB9 := Aside0.mk (below_step HB8.out HB.out)
    have hm5 : m ≤ 5 := by have := HM.out; omega
    have hm0 : 0 < m := by have := HM.out; omega
    have i7 : ((0 : Int) < (m : Int)) = True := eq_true (by omega)
    have t7 : (true != true) = false := rfl
    have t8 : (false != false) = false := rfl
    have q0 : decide (0 < (m : Int)) = true := decide_eq_true (by have := HM.out; omega)
    clear hag hzz
    cases ag with
    | false =>
     go_wp2_with (fail)
     go_loopw [22] (fun v22 wz => v22 = .int .i64 0 ∧ wz = wr) (fun v _ => 0)
     case atStart => exact ⟨rfl, rfl⟩
     case round =>
      obtain ⟨rfl, rfl⟩ := hrel
      go_wp2_with (fail)
      go_ret
      exact ⟨rfl, HB9.out⟩
    | true =>
     have HHW := Aside0.mk (HHV.out rfl)
     go_wp2_with (fail)
     clear c0
     go_loopw [22] (fun v22 wz => ∃ k : Nat, v22 = .int .i64 (k : Int) ∧ k ≤ m ∧ Aside0 (Below w8.heap.size w8 wz)) (fun v _ => m - (intOf v).toNat)
     case atStart => exact ⟨0, rfl, by omega, HB⟩
     case round =>
      obtain ⟨k, rfl, hk, HBk⟩ := hrel
      by_cases hkm : k < m
      ·have p2 : decide ((k : Int) < (m : Int)) = true := decide_eq_true (by omega)
       have cx := ((TH.out.below HBk.out).cell k hkm).1
       have cy := ((TA.out.below HBk.out).cell k hkm).1
       have hvk : rd ((List.range (n + 1)).map (fun p : Nat => hv n l p)) (k : Int) = hv n l (k : Int) := by
        have : k < n + 1 := by have := HM.out; omega
        simp [rd, List.getD_eq_getElem?_getD, this]
       rw [hvk, HHW.out (k : Int) (by omega) (by have := HM.out; omega)] at cy
       have g1 := HLE.out (k : Int)
       have g2 := HDP.out
       obtain ⟨a, ha⟩ : ∃ a, a = rd H (k : Int) := ⟨_, rfl⟩
       rw [← ha] at cx cy g1
       have m1 := Gn.mulb (X := 27648) (Y := 6400) (a := D) (b := a) (by decide) (by decide) (by unfold Gn.Bd; omega) (by unfold Gn.Bd; omega)
       unfold Gn.Bd at m1
       obtain ⟨M, hM⟩ : ∃ M, M = D * a := ⟨_, rfl⟩
       rw [← hM] at m1 cy
       have u1 : wrap64 (D * a) = M := by rw [← hM]; exact Dw.wrap_id (by omega) (by omega)
       have u1' : IntKind.i64.wrap (D * a) = M := (i64_w _).trans u1
       have t1 : (M != M) = false := bne_self_eq_false _
       have i1 : (0 ≤ (k : Int)) = True := eq_true (by omega)
       have i2 : ((k : Int) < (m : Int)) = True := eq_true (by omega)
       clear hvk ha hM m1 g1 g2
       go_wp2_with (fail)
       go_quiet (fail)
       go_wp2_with (fail)
       go_roundw
       case rel => exact ⟨k + 1, by go_num, by omega, ⟨pw_below_drewN HBk.out _⟩⟩
       case measure => simp [intOf]; omega
      ·obtain rfl : k = m := by omega
       have p2 : decide ((k : Int) < (k : Int)) = false := decide_eq_false (by omega)
       have c0 := ((TH.out.below HBk.out).cell 0 (by have := HM.out; omega)).1
       have hzz : rd H ((0 : Nat) : Int) = 0 := HZ0.out
       rw [hzz] at c0
       have HBZ := Aside0.mk (below_step HB8.out HBk.out)
       clear hzz
       go_wp2_with (fail)
       go_ret
       exact ⟨rfl, HBZ.out⟩
end Go.Proofs.Ytkafbmanmffliaa.LwLO

