/- Parts of the proof that the law of this seat holds: Q128, Q129, Q130, Q131, Q89, Q90, Ha, Hb, Q10, Hc, Hd. -/
import Derived.Test.YtkafbmanmffliaaGBpa
import Derived.Test.YtkafbmanmffliaaProg
import Derived.Test.YtkafbmanmffliaaGBwa
import Derived.Test.YtkafbmanmffliaaGBwb
import Derived.Lib.Hide
import Derived.Outline
set_option linter.unusedVariables false
set_option linter.unusedSimpArgs false
namespace Go.Proofs.Ytkafbmanmffliaa.Q
open Go.RowKit YtkafbmanmffliaaW.PrintWords YtkafbmanmffliaaW.PrintLast YtkafbmanmffliaaW.PrintMore
attribute [local go_sem] max2_int min2_int max_two min_two max_three min_three max_four min_four
set_option linter.unusedVariables false
set_option linter.unusedSimpArgs false
def laws_markSightS.l0 : Nat → List (S32) → Int → Int → Option (Int × (List (S32)))
 | 0, _, _, _ => none
 | k + 1, x0, x1, x5 => if x5 < (x0.length : Int) then (if 0 ≤ x5 then ((some (x0.set (x5 : Int).toNat (⟨x1, (rd_T32 x0 x5).f1, (rd_T32 x0 x5).f2, (rd_T32 x0 x5).f3⟩ : S32) : List (S32))).bind fun y546 => ((some (y546.set (x5 : Int).toNat (⟨(rd_T32 y546 x5).f0, wrap64 (x1 + 1), (rd_T32 y546 x5).f2, (rd_T32 y546 x5).f3⟩ : S32) : List (S32))).bind fun y547 => ((some (y547.set (x5 : Int).toNat (⟨(rd_T32 y547 x5).f0, (rd_T32 y547 x5).f1, wrap64 ((wrap64 (x1 + 1)) + 1), (rd_T32 y547 x5).f3⟩ : S32) : List (S32))).bind fun y548 => (laws_markSightS.l0 k (y548.set (x5 : Int).toNat (⟨(rd_T32 y548 x5).f0, (rd_T32 y548 x5).f1, (rd_T32 y548 x5).f2, wrap64 ((wrap64 ((wrap64 (x1 + 1)) + 1)) + 1)⟩ : S32)) (wrap64 ((wrap64 ((wrap64 ((wrap64 (x1 + 1)) + 1)) + 1)) + 1)) (wrap64 (x5 + 1)))))) else (none)) else (some (x1, x0))
def laws_markSightS.f (k : Nat) (l0 : List (S32)) (a1 : Int) : Option (Int × (List (S32))) := laws_markSightS.l0 k l0 a1 0
set_option maxHeartbeats 8000000 in
set_option maxRecDepth 100000 in
theorem laws_markSightS.calls (k : Nat) (P0_ : Nat → Prop) (u9000_ : Value) (l0 : List (S32)) (a1 : Int) (r1 : Int) (r2 : List (S32)) (w0 w : World) (hB : Below w0.heap.size w0 w) (ho0 : Kd.R k32 32 w w0.heap.size P0_ u9000_ l0) (h : laws_markSightS.f k l0 a1 = some (r1, r2)) :
  Calls Try.prog 85 #[u9000_, .int .i64 a1] w fun e w' => e = .returned (.int .i64 r1) ∧ Kd.R k32 32 w' w0.heap.size (fun k_ => (P0_ k_ ∨ w.heap.size ≤ k_)) u9000_ r2 ∧ Below w0.heap.size w0 w' ∧ Kept w w' (fun k_ => P0_ k_) := by
 have HO0 := Aside0.mk (show Kd.R k32 32 w w0.heap.size (fun k_ => (P0_ k_ ∨ w.heap.size ≤ k_)) u9000_ l0 from Kd.R_mono ho0 (fun k_ hk => (.inl hk)))
 have HK := Aside0.mk (Kept.refl w (fun k_ => P0_ k_))
 have HW0 := Aside0.mk hB.size
 have HB := Aside0.mk hB
 clear hB
 have H : (laws_markSightS.l0 k l0 a1 0) = some (r1, r2) := h
 clear h
 have H' := Aside0.mk H
 clear H
 go_enter Try.func85, Try.ntmps85
 go_wp2
 go_loopg [1, 5] k (fun kq v1 v5 w' => ∃ (x0_1 : List (S32)) (x1_1 : Int) (x5_1 : Int), v1 = .int .i64 x1_1 ∧ v5 = .int .i64 x5_1 ∧ Aside0 (laws_markSightS.l0 kq x0_1 x1_1 x5_1 = some (r1, r2)) ∧ Aside0 (kq ≤ k) ∧ Aside0 (Kd.R k32 32 w' w0.heap.size (fun k_ => (P0_ k_ ∨ w.heap.size ≤ k_)) u9000_ x0_1) ∧ Aside0 (Kept w w' (fun k_ => P0_ k_)) ∧ Aside0 (Below w0.heap.size w0 w'))
 case atStart => exact ⟨(l0), (a1), (0), (by first | rfl | (simp; done) | (simp [*]; done)), (by first | rfl | (simp; done) | (simp [*]; done)), H', ⟨Nat.le_refl _⟩, ⟨by (with_reducible repeat (first | apply Kd.R_alloc | apply Kd.R_drewN | apply Kd.R_drew)); exact HO0.out⟩, ⟨by repeat (first | (with_reducible first | exact HK.out | apply Kept.alloc | apply Kept.drewN | apply Kept.drew) | exact HK.out)⟩, ⟨by repeat (first | (with_reducible first | exact HB.out | apply below_alloc | apply pw_below_drewN | apply below_drew1) | exact HB.out)⟩⟩
 case round =>
  clear H'
  try clear p2
  obtain ⟨x0_1, x1_1, x5_1, rfl, rfl, HA, HK1, HO_0, HK, HB⟩ := hrel
  cases gk with
  | zero => exact absurd HA.out (by simp [laws_markSightS.l0])
  | succ k1 =>
   have H := HA.out
   clear HA
   simp only [laws_markSightS.l0] at H
   by_cases c3 : x5_1 < (x0_1.length : Int)
   ·rw [if_pos c3] at H
    have c3b0 : decide (x5_1 < (x0_1.length : Int)) = true := decide_eq_true c3
    clear c3
    by_cases c4 : 0 ≤ x5_1
    ·rw [if_pos c4] at H
     have c4b0 : decide (0 ≤ x5_1) = true := decide_eq_true c4
     clear c4
     obtain ⟨y546, hy546⟩ : ∃ y_ : List (S32), y_ = (x0_1.set (x5_1 : Int).toNat (⟨x1_1, (rd_T32 x0_1 x5_1).f1, (rd_T32 x0_1 x5_1).f2, (rd_T32 x0_1 x5_1).f3⟩ : S32)) := ⟨_, rfl⟩
     replace H : ((some (y546.set (x5_1 : Int).toNat (⟨(rd_T32 y546 x5_1).f0, wrap64 (x1_1 + 1), (rd_T32 y546 x5_1).f2, (rd_T32 y546 x5_1).f3⟩ : S32) : List (S32))).bind fun y547 => ((some (y547.set (x5_1 : Int).toNat (⟨(rd_T32 y547 x5_1).f0, (rd_T32 y547 x5_1).f1, wrap64 ((wrap64 (x1_1 + 1)) + 1), (rd_T32 y547 x5_1).f3⟩ : S32) : List (S32))).bind fun y548 => (laws_markSightS.l0 k1 (y548.set (x5_1 : Int).toNat (⟨(rd_T32 y548 x5_1).f0, (rd_T32 y548 x5_1).f1, (rd_T32 y548 x5_1).f2, wrap64 ((wrap64 ((wrap64 (x1_1 + 1)) + 1)) + 1)⟩ : S32)) (wrap64 ((wrap64 ((wrap64 ((wrap64 (x1_1 + 1)) + 1)) + 1)) + 1)) (wrap64 (x5_1 + 1))))) = some (r1, r2) := by first | (rw [hy546]; with_reducible exact H) | (have H2_ := (Option.bind_some _ _).symm.trans H; rw [hy546]; with_reducible exact H2_) | (have H2_ := (Option.bind_some _ _).symm.trans H; with_reducible exact H2_) | with_reducible exact H | (rw [hy546]; exact H) | exact H
     have Ny546 := Aside0.mk hy546
     clear hy546
     obtain ⟨y547, hy547⟩ : ∃ y_ : List (S32), y_ = (y546.set (x5_1 : Int).toNat (⟨(rd_T32 y546 x5_1).f0, wrap64 (x1_1 + 1), (rd_T32 y546 x5_1).f2, (rd_T32 y546 x5_1).f3⟩ : S32)) := ⟨_, rfl⟩
     replace H : ((some (y547.set (x5_1 : Int).toNat (⟨(rd_T32 y547 x5_1).f0, (rd_T32 y547 x5_1).f1, wrap64 ((wrap64 (x1_1 + 1)) + 1), (rd_T32 y547 x5_1).f3⟩ : S32) : List (S32))).bind fun y548 => (laws_markSightS.l0 k1 (y548.set (x5_1 : Int).toNat (⟨(rd_T32 y548 x5_1).f0, (rd_T32 y548 x5_1).f1, (rd_T32 y548 x5_1).f2, wrap64 ((wrap64 ((wrap64 (x1_1 + 1)) + 1)) + 1)⟩ : S32)) (wrap64 ((wrap64 ((wrap64 ((wrap64 (x1_1 + 1)) + 1)) + 1)) + 1)) (wrap64 (x5_1 + 1)))) = some (r1, r2) := by first | (rw [hy547]; with_reducible exact H) | (have H2_ := (Option.bind_some _ _).symm.trans H; rw [hy547]; with_reducible exact H2_) | (have H2_ := (Option.bind_some _ _).symm.trans H; with_reducible exact H2_) | with_reducible exact H | (rw [hy547]; exact H) | exact H
     have Ny547 := Aside0.mk hy547
     clear hy547
     obtain ⟨y548, hy548⟩ : ∃ y_ : List (S32), y_ = (y547.set (x5_1 : Int).toNat (⟨(rd_T32 y547 x5_1).f0, (rd_T32 y547 x5_1).f1, wrap64 ((wrap64 (x1_1 + 1)) + 1), (rd_T32 y547 x5_1).f3⟩ : S32)) := ⟨_, rfl⟩
     replace H : (laws_markSightS.l0 k1 (y548.set (x5_1 : Int).toNat (⟨(rd_T32 y548 x5_1).f0, (rd_T32 y548 x5_1).f1, (rd_T32 y548 x5_1).f2, wrap64 ((wrap64 ((wrap64 (x1_1 + 1)) + 1)) + 1)⟩ : S32)) (wrap64 ((wrap64 ((wrap64 ((wrap64 (x1_1 + 1)) + 1)) + 1)) + 1)) (wrap64 (x5_1 + 1))) = some (r1, r2) := by first | (rw [hy548]; with_reducible exact H) | (have H2_ := (Option.bind_some _ _).symm.trans H; rw [hy548]; with_reducible exact H2_) | (have H2_ := (Option.bind_some _ _).symm.trans H; with_reducible exact H2_) | with_reducible exact H | (rw [hy548]; exact H) | exact H
     have Ny548 := Aside0.mk hy548
     clear hy548
     obtain ⟨y549, hy549⟩ : ∃ y_ : List (S32), y_ = (y548.set (x5_1 : Int).toNat (⟨(rd_T32 y548 x5_1).f0, (rd_T32 y548 x5_1).f1, (rd_T32 y548 x5_1).f2, wrap64 ((wrap64 ((wrap64 (x1_1 + 1)) + 1)) + 1)⟩ : S32)) := ⟨_, rfl⟩
     replace H : (laws_markSightS.l0 k1 y549 (wrap64 ((wrap64 ((wrap64 ((wrap64 (x1_1 + 1)) + 1)) + 1)) + 1)) (wrap64 (x5_1 + 1))) = some (r1, r2) := by first | (rw [hy549]; with_reducible exact H) | (have H2_ := (Option.bind_some _ _).symm.trans H; rw [hy549]; with_reducible exact H2_) | (have H2_ := (Option.bind_some _ _).symm.trans H; with_reducible exact H2_) | with_reducible exact H | (rw [hy549]; exact H) | exact H
     have Ny549 := Aside0.mk hy549
     clear hy549
     have H' := Aside0.mk H
     clear H
     obtain ⟨Ao9, co9, eo9⟩ := Kd.R_slice HO_0.out
     subst eo9
     have p5 : 0 ≤ (x5_1 : Int) := of_decide_eq_true (by first | (with_reducible assumption) | assumption)
     have q5 : (x5_1 : Int) < ((x0_1.length : Int) : Int) := of_decide_eq_true (by first | (with_reducible assumption) | assumption)
     obtain ⟨go5, co5, eo5, gb5, gl5, cl5, HG5⟩ := Kd.R_form HO_0.out (by omega)
     (first | cases eo5 | (injection eo5 with ea_ en_ ec_; (first | subst ea_ | (injection ea_ with ea_; subst ea_)); subst ec_; clear en_))
     have GB5 := Aside0.mk gb5
     have GG5 := Aside0.mk HG5
     clear gb5 gl5 HG5
     have HMgo5 := Aside0.mk (show (P0_ go5 ∨ w.heap.size ≤ go5) from (HO_0.out.1 _ rfl))
     obtain ⟨ce5, hcl5, hM5, hcc5, hfr5⟩ := Kd.R_elem HO_0.out z32 (x5_1 : Int) p5 q5
     obtain rfl := k32_openM hM5
     have hx5_0 : wr.cell? ⟨go5, (x5_1 : Int).toNat * 4, none⟩ = some (.int .i64 ((rd_T32 x0_1 x5_1).f0)) := hcc5 0 _ rfl
     have hx5_1 : wr.cell? ⟨go5, (x5_1 : Int).toNat * 4 + 1, none⟩ = some (.int .i64 ((rd_T32 x0_1 x5_1).f1)) := hcc5 1 _ rfl
     have hx5_2 : wr.cell? ⟨go5, (x5_1 : Int).toNat * 4 + 2, none⟩ = some (.int .i64 ((rd_T32 x0_1 x5_1).f2)) := hcc5 2 _ rfl
     have hx5_3 : wr.cell? ⟨go5, (x5_1 : Int).toNat * 4 + 3, none⟩ = some (.int .i64 ((rd_T32 x0_1 x5_1).f3)) := hcc5 3 _ rfl
     have hf5_0 : wr.frozen? ⟨go5, (x5_1 : Int).toNat * 4, none⟩ = false := hfr5 0
     have hf5_1 : wr.frozen? ⟨go5, (x5_1 : Int).toNat * 4 + 1, none⟩ = false := hfr5 1
     have hf5_2 : wr.frozen? ⟨go5, (x5_1 : Int).toNat * 4 + 2, none⟩ = false := hfr5 2
     have hf5_3 : wr.frozen? ⟨go5, (x5_1 : Int).toNat * 4 + 3, none⟩ = false := hfr5 3
     clear hcl5 hcc5 hfr5 hM5
     replace p5 := eq_true p5
     replace q5 := eq_true q5
     have HX10 := Aside0.mk (show Kd.R k32 32 wr w0.heap.size (fun k_ => (P0_ k_ ∨ w.heap.size ≤ k_)) (.slice (some ⟨go5, 0, none⟩) x0_1.length co9) x0_1 from (by (with_reducible repeat (first | apply Kd.R_alloc | apply Kd.R_drewN | apply Kd.R_drew)); exact HO_0.out))
     obtain ⟨ce10, hcl10, hM10, hcc10, hfr10⟩ := Kd.R_elem HX10.out z32 (x5_1 : Int) (of_decide_eq_true (by first | (with_reducible assumption) | assumption)) (by have h_ : (x5_1 : Int) < ((x0_1.length : Int) : Int) := of_decide_eq_true (by first | (with_reducible assumption) | assumption); first | exact h_ | (have e_ := (Kd.R_reads' HO_0.out).1; omega) | simpa using h_)
     obtain rfl := k32_openM hM10
     have HP10 := Kd.R_seg HX10.out (x5_1 : Int) (of_decide_eq_true (by first | (with_reducible assumption) | assumption)) (by have h_ : (x5_1 : Int) < ((x0_1.length : Int) : Int) := of_decide_eq_true (by first | (with_reducible assumption) | assumption); first | exact h_ | (have e_ := (Kd.R_reads' HO_0.out).1; omega) | simpa using h_) (seg := [.int .i64 x1_1]) (j := 0) hcl10 hcc10 (show 1 ≤ 4 from by decide) (x' := (⟨x1_1, (rd_T32 x0_1 x5_1).f1, (rd_T32 x0_1 x5_1).f2, (rd_T32 x0_1 x5_1).f3⟩ : S32)) (k32_mkM _ _ _ (⟨x1_1, (rd_T32 x0_1 x5_1).f1, (rd_T32 x0_1 x5_1).f2, (rd_T32 x0_1 x5_1).f3⟩ : S32) ) (fun _ hk => hk)
     have hx10_0 := hcc10 0 _ rfl
     (try simp only [show (k32).sz = 4 from rfl, Nat.mul_one, Nat.add_zero] at hx10_0)
     have hf10_0 := hfr10 0
     (try simp only [show (k32).sz = 4 from rfl, Nat.mul_one, Nat.add_zero] at hf10_0)
     clear hcl10 hcc10 hfr10 hM10
     go_wp2_with (first | ((with_reducible refine gate_store (t := 2) (p := 16) rfl ?_); refine store_event (t := 2) (p := 16) (v := ?vo_w11) (w1 := (wr.setCell ⟨go5, (x5_1 : Int).toNat * 4, none⟩ (.int .i64 x1_1))) ?hg ?ho ?hn ?hr ?_; (case ho => rfl); (case hg => rfl); (case hn => rfl); (case hr => first | (go_simp; done) | (go_simp; rfl)); intro w11 hw; have hg : wr.grownBy w11 (some go5) := (by rw [hw]; exact HP10.2); have hp_ : Kd.R k32 32 w11 w0.heap.size (fun k_ => (P0_ k_ ∨ w.heap.size ≤ k_)) (.slice (some ⟨go5, 0, none⟩) x0_1.length co9) y546 := (by rw [hw, Ny546.out]; exact HP10.1); clear HP10; have n0_ := Aside0.mk (hp_); have n1_ := Aside0.mk ((by rw [hw]; exact below_set (HB.out) GB5.out : Below w0.heap.size w0 w11)); have n2_ := Aside0.mk (Kept.of_grown (S := (fun k_ => P0_ k_)) hg (by repeat (first | (with_reducible first | exact HK.out | apply Kept.alloc | apply Kept.drewN | apply Kept.drew) | exact HK.out)) (fun k_ e_ => (HO_0.out.1 k_ e_))); clear HO_0; clear HB; clear HK; have HO_0 := n0_; have HB := n1_; have HK := n2_; clear n0_ n1_ n2_; clear hg hw hp_; have p6 : 0 ≤ (x5_1 : Int) := of_decide_eq_true (by first | (with_reducible assumption) | assumption); have q6 : (x5_1 : Int) < ((x0_1.length : Int) : Int) := of_decide_eq_true (by first | (with_reducible assumption) | assumption); obtain ⟨ce6, hcl6, hM6, hcc6, hfr6⟩ := Kd.R_elem HO_0.out z32 (x5_1 : Int) p6 q6; obtain rfl := k32_openM hM6; have hx6_0 : w11.cell? ⟨go5, (x5_1 : Int).toNat * 4, none⟩ = some (.int .i64 ((rd_T32 y546 x5_1).f0)) := hcc6 0 _ rfl; have hx6_1 : w11.cell? ⟨go5, (x5_1 : Int).toNat * 4 + 1, none⟩ = some (.int .i64 ((rd_T32 y546 x5_1).f1)) := hcc6 1 _ rfl; have hx6_2 : w11.cell? ⟨go5, (x5_1 : Int).toNat * 4 + 2, none⟩ = some (.int .i64 ((rd_T32 y546 x5_1).f2)) := hcc6 2 _ rfl; have hx6_3 : w11.cell? ⟨go5, (x5_1 : Int).toNat * 4 + 3, none⟩ = some (.int .i64 ((rd_T32 y546 x5_1).f3)) := hcc6 3 _ rfl; have hf6_0 : w11.frozen? ⟨go5, (x5_1 : Int).toNat * 4, none⟩ = false := hfr6 0; have hf6_1 : w11.frozen? ⟨go5, (x5_1 : Int).toNat * 4 + 1, none⟩ = false := hfr6 1; have hf6_2 : w11.frozen? ⟨go5, (x5_1 : Int).toNat * 4 + 2, none⟩ = false := hfr6 2; have hf6_3 : w11.frozen? ⟨go5, (x5_1 : Int).toNat * 4 + 3, none⟩ = false := hfr6 3; (try clear hM6); clear hcl6 hcc6 hfr6; replace p6 := eq_true p6; replace q6 := eq_true q6; have HX12 := Aside0.mk (show Kd.R k32 32 w11 w0.heap.size (fun k_ => (P0_ k_ ∨ w.heap.size ≤ k_)) (.slice (some ⟨go5, 0, none⟩) x0_1.length co9) y546 from (by (with_reducible repeat (first | apply Kd.R_alloc | apply Kd.R_drewN | apply Kd.R_drew)); exact HO_0.out)); obtain ⟨ce12, hcl12, hM12, hcc12, hfr12⟩ := Kd.R_elem HX12.out z32 (x5_1 : Int) (of_decide_eq_true (by first | (with_reducible assumption) | assumption)) (by have h_ : (x5_1 : Int) < ((x0_1.length : Int) : Int) := of_decide_eq_true (by first | (with_reducible assumption) | assumption); first | exact h_ | (have e_ := (Kd.R_reads' HO_0.out).1; omega) | simpa using h_); obtain rfl := k32_openM hM12; have HP12 := Kd.R_seg HX12.out (x5_1 : Int) (of_decide_eq_true (by first | (with_reducible assumption) | assumption)) (by have h_ : (x5_1 : Int) < ((x0_1.length : Int) : Int) := of_decide_eq_true (by first | (with_reducible assumption) | assumption); first | exact h_ | (have e_ := (Kd.R_reads' HO_0.out).1; omega) | simpa using h_) (seg := [.int .i64 (wrap64 (x1_1 + 1))]) (j := 1) hcl12 hcc12 (show 2 ≤ 4 from by decide) (x' := (⟨(rd_T32 y546 x5_1).f0, wrap64 (x1_1 + 1), (rd_T32 y546 x5_1).f2, (rd_T32 y546 x5_1).f3⟩ : S32)) (k32_mkM _ _ _ (⟨(rd_T32 y546 x5_1).f0, wrap64 (x1_1 + 1), (rd_T32 y546 x5_1).f2, (rd_T32 y546 x5_1).f3⟩ : S32) ) (fun _ hk => hk); have hx12_1 := hcc12 1 _ rfl; (try simp only [show (k32).sz = 4 from rfl, Nat.mul_one, Nat.add_zero] at hx12_1); have hf12_1 := hfr12 1; (try simp only [show (k32).sz = 4 from rfl, Nat.mul_one, Nat.add_zero] at hf12_1); (try clear hM12); clear hcl12 hcc12 hfr12) | ((with_reducible refine gate_store (t := 2) (p := 23) rfl ?_); refine store_event (t := 2) (p := 23) (v := ?vo_w13) (w1 := (w11.setCell ⟨go5, (x5_1 : Int).toNat * 4 + 1, none⟩ (.int .i64 (wrap64 (x1_1 + 1))))) ?hg ?ho ?hn ?hr ?_; (case ho => rfl); (case hg => rfl); (case hn => rfl); (case hr => first | (go_simp; done) | (go_simp; rfl)); intro w13 hw; have hg : w11.grownBy w13 (some go5) := (by rw [hw]; exact HP12.2); have hp_ : Kd.R k32 32 w13 w0.heap.size (fun k_ => (P0_ k_ ∨ w.heap.size ≤ k_)) (.slice (some ⟨go5, 0, none⟩) x0_1.length co9) y547 := (by rw [hw, Ny547.out]; exact HP12.1); clear HP12; have n0_ := Aside0.mk (hp_); have n1_ := Aside0.mk ((by rw [hw]; exact below_set (HB.out) GB5.out : Below w0.heap.size w0 w13)); have n2_ := Aside0.mk (Kept.of_grown (S := (fun k_ => P0_ k_)) hg (by repeat (first | (with_reducible first | exact HK.out | apply Kept.alloc | apply Kept.drewN | apply Kept.drew) | exact HK.out)) (fun k_ e_ => (HO_0.out.1 k_ e_))); clear HO_0; clear HB; clear HK; have HO_0 := n0_; have HB := n1_; have HK := n2_; clear n0_ n1_ n2_; clear hg hw hp_; have p7 : 0 ≤ (x5_1 : Int) := of_decide_eq_true (by first | (with_reducible assumption) | assumption); have q7 : (x5_1 : Int) < ((x0_1.length : Int) : Int) := of_decide_eq_true (by first | (with_reducible assumption) | assumption); obtain ⟨ce7, hcl7, hM7, hcc7, hfr7⟩ := Kd.R_elem HO_0.out z32 (x5_1 : Int) p7 q7; obtain rfl := k32_openM hM7; have hx7_0 : w13.cell? ⟨go5, (x5_1 : Int).toNat * 4, none⟩ = some (.int .i64 ((rd_T32 y547 x5_1).f0)) := hcc7 0 _ rfl; have hx7_1 : w13.cell? ⟨go5, (x5_1 : Int).toNat * 4 + 1, none⟩ = some (.int .i64 ((rd_T32 y547 x5_1).f1)) := hcc7 1 _ rfl; have hx7_2 : w13.cell? ⟨go5, (x5_1 : Int).toNat * 4 + 2, none⟩ = some (.int .i64 ((rd_T32 y547 x5_1).f2)) := hcc7 2 _ rfl; have hx7_3 : w13.cell? ⟨go5, (x5_1 : Int).toNat * 4 + 3, none⟩ = some (.int .i64 ((rd_T32 y547 x5_1).f3)) := hcc7 3 _ rfl; have hf7_0 : w13.frozen? ⟨go5, (x5_1 : Int).toNat * 4, none⟩ = false := hfr7 0; have hf7_1 : w13.frozen? ⟨go5, (x5_1 : Int).toNat * 4 + 1, none⟩ = false := hfr7 1; have hf7_2 : w13.frozen? ⟨go5, (x5_1 : Int).toNat * 4 + 2, none⟩ = false := hfr7 2; have hf7_3 : w13.frozen? ⟨go5, (x5_1 : Int).toNat * 4 + 3, none⟩ = false := hfr7 3; (try clear hM7); clear hcl7 hcc7 hfr7; replace p7 := eq_true p7; replace q7 := eq_true q7; have HX14 := Aside0.mk (show Kd.R k32 32 w13 w0.heap.size (fun k_ => (P0_ k_ ∨ w.heap.size ≤ k_)) (.slice (some ⟨go5, 0, none⟩) x0_1.length co9) y547 from (by (with_reducible repeat (first | apply Kd.R_alloc | apply Kd.R_drewN | apply Kd.R_drew)); exact HO_0.out)); obtain ⟨ce14, hcl14, hM14, hcc14, hfr14⟩ := Kd.R_elem HX14.out z32 (x5_1 : Int) (of_decide_eq_true (by first | (with_reducible assumption) | assumption)) (by have h_ : (x5_1 : Int) < ((x0_1.length : Int) : Int) := of_decide_eq_true (by first | (with_reducible assumption) | assumption); first | exact h_ | (have e_ := (Kd.R_reads' HO_0.out).1; omega) | simpa using h_); obtain rfl := k32_openM hM14; have HP14 := Kd.R_seg HX14.out (x5_1 : Int) (of_decide_eq_true (by first | (with_reducible assumption) | assumption)) (by have h_ : (x5_1 : Int) < ((x0_1.length : Int) : Int) := of_decide_eq_true (by first | (with_reducible assumption) | assumption); first | exact h_ | (have e_ := (Kd.R_reads' HO_0.out).1; omega) | simpa using h_) (seg := [.int .i64 (wrap64 ((wrap64 (x1_1 + 1)) + 1))]) (j := 2) hcl14 hcc14 (show 3 ≤ 4 from by decide) (x' := (⟨(rd_T32 y547 x5_1).f0, (rd_T32 y547 x5_1).f1, wrap64 ((wrap64 (x1_1 + 1)) + 1), (rd_T32 y547 x5_1).f3⟩ : S32)) (k32_mkM _ _ _ (⟨(rd_T32 y547 x5_1).f0, (rd_T32 y547 x5_1).f1, wrap64 ((wrap64 (x1_1 + 1)) + 1), (rd_T32 y547 x5_1).f3⟩ : S32) ) (fun _ hk => hk); have hx14_2 := hcc14 2 _ rfl; (try simp only [show (k32).sz = 4 from rfl, Nat.mul_one, Nat.add_zero] at hx14_2); have hf14_2 := hfr14 2; (try simp only [show (k32).sz = 4 from rfl, Nat.mul_one, Nat.add_zero] at hf14_2); (try clear hM14); clear hcl14 hcc14 hfr14) | ((with_reducible refine gate_store (t := 2) (p := 30) rfl ?_); refine store_event (t := 2) (p := 30) (v := ?vo_w15) (w1 := (w13.setCell ⟨go5, (x5_1 : Int).toNat * 4 + 2, none⟩ (.int .i64 (wrap64 ((wrap64 (x1_1 + 1)) + 1))))) ?hg ?ho ?hn ?hr ?_; (case ho => rfl); (case hg => rfl); (case hn => rfl); (case hr => first | (go_simp; done) | (go_simp; rfl)); intro w15 hw; have hg : w13.grownBy w15 (some go5) := (by rw [hw]; exact HP14.2); have hp_ : Kd.R k32 32 w15 w0.heap.size (fun k_ => (P0_ k_ ∨ w.heap.size ≤ k_)) (.slice (some ⟨go5, 0, none⟩) x0_1.length co9) y548 := (by rw [hw, Ny548.out]; exact HP14.1); clear HP14; have n0_ := Aside0.mk (hp_); have n1_ := Aside0.mk ((by rw [hw]; exact below_set (HB.out) GB5.out : Below w0.heap.size w0 w15)); have n2_ := Aside0.mk (Kept.of_grown (S := (fun k_ => P0_ k_)) hg (by repeat (first | (with_reducible first | exact HK.out | apply Kept.alloc | apply Kept.drewN | apply Kept.drew) | exact HK.out)) (fun k_ e_ => (HO_0.out.1 k_ e_))); clear HO_0; clear HB; clear HK; have HO_0 := n0_; have HB := n1_; have HK := n2_; clear n0_ n1_ n2_; clear hg hw hp_; have p8 : 0 ≤ (x5_1 : Int) := of_decide_eq_true (by first | (with_reducible assumption) | assumption); have q8 : (x5_1 : Int) < ((x0_1.length : Int) : Int) := of_decide_eq_true (by first | (with_reducible assumption) | assumption); obtain ⟨ce8, hcl8, hM8, hcc8, hfr8⟩ := Kd.R_elem HO_0.out z32 (x5_1 : Int) p8 q8; obtain rfl := k32_openM hM8; have hx8_0 : w15.cell? ⟨go5, (x5_1 : Int).toNat * 4, none⟩ = some (.int .i64 ((rd_T32 y548 x5_1).f0)) := hcc8 0 _ rfl; have hx8_1 : w15.cell? ⟨go5, (x5_1 : Int).toNat * 4 + 1, none⟩ = some (.int .i64 ((rd_T32 y548 x5_1).f1)) := hcc8 1 _ rfl; have hx8_2 : w15.cell? ⟨go5, (x5_1 : Int).toNat * 4 + 2, none⟩ = some (.int .i64 ((rd_T32 y548 x5_1).f2)) := hcc8 2 _ rfl; have hx8_3 : w15.cell? ⟨go5, (x5_1 : Int).toNat * 4 + 3, none⟩ = some (.int .i64 ((rd_T32 y548 x5_1).f3)) := hcc8 3 _ rfl; have hf8_0 : w15.frozen? ⟨go5, (x5_1 : Int).toNat * 4, none⟩ = false := hfr8 0; have hf8_1 : w15.frozen? ⟨go5, (x5_1 : Int).toNat * 4 + 1, none⟩ = false := hfr8 1; have hf8_2 : w15.frozen? ⟨go5, (x5_1 : Int).toNat * 4 + 2, none⟩ = false := hfr8 2; have hf8_3 : w15.frozen? ⟨go5, (x5_1 : Int).toNat * 4 + 3, none⟩ = false := hfr8 3; (try clear hM8); clear hcl8 hcc8 hfr8; replace p8 := eq_true p8; replace q8 := eq_true q8; have HX16 := Aside0.mk (show Kd.R k32 32 w15 w0.heap.size (fun k_ => (P0_ k_ ∨ w.heap.size ≤ k_)) (.slice (some ⟨go5, 0, none⟩) x0_1.length co9) y548 from (by (with_reducible repeat (first | apply Kd.R_alloc | apply Kd.R_drewN | apply Kd.R_drew)); exact HO_0.out)); obtain ⟨ce16, hcl16, hM16, hcc16, hfr16⟩ := Kd.R_elem HX16.out z32 (x5_1 : Int) (of_decide_eq_true (by first | (with_reducible assumption) | assumption)) (by have h_ : (x5_1 : Int) < ((x0_1.length : Int) : Int) := of_decide_eq_true (by first | (with_reducible assumption) | assumption); first | exact h_ | (have e_ := (Kd.R_reads' HO_0.out).1; omega) | simpa using h_); obtain rfl := k32_openM hM16; have HP16 := Kd.R_seg HX16.out (x5_1 : Int) (of_decide_eq_true (by first | (with_reducible assumption) | assumption)) (by have h_ : (x5_1 : Int) < ((x0_1.length : Int) : Int) := of_decide_eq_true (by first | (with_reducible assumption) | assumption); first | exact h_ | (have e_ := (Kd.R_reads' HO_0.out).1; omega) | simpa using h_) (seg := [.int .i64 (wrap64 ((wrap64 ((wrap64 (x1_1 + 1)) + 1)) + 1))]) (j := 3) hcl16 hcc16 (show 4 ≤ 4 from by decide) (x' := (⟨(rd_T32 y548 x5_1).f0, (rd_T32 y548 x5_1).f1, (rd_T32 y548 x5_1).f2, wrap64 ((wrap64 ((wrap64 (x1_1 + 1)) + 1)) + 1)⟩ : S32)) (k32_mkM _ _ _ (⟨(rd_T32 y548 x5_1).f0, (rd_T32 y548 x5_1).f1, (rd_T32 y548 x5_1).f2, wrap64 ((wrap64 ((wrap64 (x1_1 + 1)) + 1)) + 1)⟩ : S32) ) (fun _ hk => hk); have hx16_3 := hcc16 3 _ rfl; (try simp only [show (k32).sz = 4 from rfl, Nat.mul_one, Nat.add_zero] at hx16_3); have hf16_3 := hfr16 3; (try simp only [show (k32).sz = 4 from rfl, Nat.mul_one, Nat.add_zero] at hf16_3); (try clear hM16); clear hcl16 hcc16 hfr16) | ((with_reducible refine gate_store (t := 2) (p := 37) rfl ?_); refine store_event (t := 2) (p := 37) (v := ?vo_w17) (w1 := (w15.setCell ⟨go5, (x5_1 : Int).toNat * 4 + 3, none⟩ (.int .i64 (wrap64 ((wrap64 ((wrap64 (x1_1 + 1)) + 1)) + 1))))) ?hg ?ho ?hn ?hr ?_; (case ho => rfl); (case hg => rfl); (case hn => rfl); (case hr => first | (go_simp; done) | (go_simp; rfl)); intro w17 hw; have hg : w15.grownBy w17 (some go5) := (by rw [hw]; exact HP16.2); have hp_ : Kd.R k32 32 w17 w0.heap.size (fun k_ => (P0_ k_ ∨ w.heap.size ≤ k_)) (.slice (some ⟨go5, 0, none⟩) x0_1.length co9) y549 := (by rw [hw, Ny549.out]; exact HP16.1); clear HP16; have n0_ := Aside0.mk (hp_); have n1_ := Aside0.mk ((by rw [hw]; exact below_set (HB.out) GB5.out : Below w0.heap.size w0 w17)); have n2_ := Aside0.mk (Kept.of_grown (S := (fun k_ => P0_ k_)) hg (by repeat (first | (with_reducible first | exact HK.out | apply Kept.alloc | apply Kept.drewN | apply Kept.drew) | exact HK.out)) (fun k_ e_ => (HO_0.out.1 k_ e_))); clear HO_0; clear HB; clear HK; have HO_0 := n0_; have HB := n1_; have HK := n2_; clear n0_ n1_ n2_; clear hg hw hp_))
     go_roundg k1
     case measure => have := HK1.out; omega
     case rel => exact ⟨(y549), (wrap64 ((wrap64 ((wrap64 ((wrap64 (x1_1 + 1)) + 1)) + 1)) + 1)), (wrap64 (x5_1 + 1)), (by first | rfl | (simp; done) | (simp [*]; done)), (by first | rfl | (simp; done) | (simp [*]; done)), H', ⟨by have := HK1.out; omega⟩, ⟨by (with_reducible repeat (first | apply Kd.R_alloc | apply Kd.R_drewN | apply Kd.R_drew)); exact HO_0.out⟩, ⟨by repeat (first | (with_reducible first | exact HK.out | apply Kept.alloc | apply Kept.drewN | apply Kept.drew) | exact HK.out)⟩, ⟨by repeat (first | (with_reducible first | exact HB.out | apply below_alloc | apply pw_below_drewN | apply below_drew1) | exact HB.out)⟩⟩
    ·rw [if_neg c4] at H
     exact absurd H (by simp)
   ·rw [if_neg c3] at H
    have c3b0 : decide (x5_1 < (x0_1.length : Int)) = false := decide_eq_false c3
    clear c3
    simp only [Option.some.injEq, Prod.mk.injEq] at H
    obtain ⟨rfl, rfl⟩ := H
    obtain ⟨Ao18, co18, eo18⟩ := Kd.R_slice HO_0.out
    subst eo18
    go_wp2
    go_ret
    exact ⟨by first | rfl | (simp [errW_none, errW_some] <;> rfl) | (simp [*, errW_none, errW_some] <;> rfl), by (with_reducible repeat (first | apply Kd.R_alloc | apply Kd.R_drewN | apply Kd.R_drew)); exact HO_0.out, by repeat (first | (with_reducible first | exact HB.out | apply below_alloc | apply pw_below_drewN | apply below_drew1) | exact HB.out), by repeat (first | (with_reducible first | exact HK.out | apply Kept.alloc | apply Kept.drewN | apply Kept.drew) | exact HK.out)⟩
end Go.Proofs.Ytkafbmanmffliaa.Q

namespace Go.Proofs.Ytkafbmanmffliaa.Q
open Go.RowKit YtkafbmanmffliaaW.PrintWords YtkafbmanmffliaaW.PrintLast YtkafbmanmffliaaW.PrintMore
attribute [local go_sem] max2_int min2_int max_two min_two max_three min_three max_four min_four
set_option linter.unusedVariables false
set_option linter.unusedSimpArgs false
def laws_markSurvey.f (k : Nat) (a0_0 : Int) (l0_1 : List (S32)) (a1 : Int) : Option (Int × (List (S32))) := (laws_markSightS.f k l0_1 a1).bind fun bt551 => (some (bt551.1, bt551.2))
set_option maxHeartbeats 8000000 in
set_option maxRecDepth 100000 in
theorem laws_markSurvey.calls (k : Nat) (a0_0 : Int) (P0_1_ : Nat → Prop) (u9000_ : Value) (l0_1 : List (S32)) (a1 : Int) (r1 : Int) (r2 : List (S32)) (w0 w : World) (hB : Below w0.heap.size w0 w) (ho0_1 : Kd.R k32 32 w w0.heap.size P0_1_ u9000_ l0_1) (h : laws_markSurvey.f k a0_0 l0_1 a1 = some (r1, r2)) :
  Calls Try.prog 45 #[.agg #[.int .i64 a0_0, u9000_], .int .i64 a1] w fun e w' => e = .returned (.int .i64 r1) ∧ Kd.R k32 32 w' w0.heap.size (fun k_ => (P0_1_ k_ ∨ w.heap.size ≤ k_)) u9000_ r2 ∧ Below w0.heap.size w0 w' ∧ Kept w w' (fun k_ => P0_1_ k_) := by
 have hu26 := Try.underlying26
 have HO0_1 := Aside0.mk (show Kd.R k32 32 w w0.heap.size (fun k_ => (P0_1_ k_ ∨ w.heap.size ≤ k_)) u9000_ l0_1 from Kd.R_mono ho0_1 (fun k_ hk => (.inl hk)))
 have HK := Aside0.mk (Kept.refl w (fun k_ => P0_1_ k_))
 have HW0 := Aside0.mk hB.size
 have HB := Aside0.mk hB
 clear hB
 have H : ((laws_markSightS.f k l0_1 a1).bind fun bt551 => (some (bt551.1, bt551.2))) = some (r1, r2) := h
 clear h
 replace H := Option.bind_eq_some_iff.mp H
 obtain ⟨⟨t551, t552⟩, A30, H⟩ := H
 replace H : (some (t551, t552)) = some (r1, r2) := H
 have A3 := Aside0.mk A30
 clear A30
 simp only [Option.some.injEq, Prod.mk.injEq] at H
 obtain ⟨rfl, rfl⟩ := H
 obtain ⟨Ao4, co4, eo4⟩ := Kd.R_slice HO0_1.out
 subst eo4
 go_enter Try.func45, Try.ntmps45
 go_wp2_with (first | ((with_reducible refine gate_dst (N := 2) rfl ?_); refine box_event ?hg (N := 2) ?hd (cs := #[.int .i64 a0_0, .slice Ao4 l0_1.length co4]) (t := 26) ?hr ?_; (case hd => rfl); (case hg => rfl); (case hr => first | (go_simp; done) | (go_simp; rfl)); intro gb550 hg w5 hbox hb; have n0_ := Aside0.mk (Kd.R_below (by (with_reducible repeat (first | apply Kd.R_alloc | apply Kd.R_drewN | apply Kd.R_drew)); exact HO0_1.out) hb); have n1_ := Aside0.mk (Kept.below (S := (fun k_ => P0_1_ k_)) (by repeat (first | (with_reducible first | exact HK.out | apply Kept.alloc | apply Kept.drewN | apply Kept.drew) | exact HK.out)) hb); have n2_ := Aside0.mk (below_step (by repeat (first | (with_reducible first | exact HB.out | apply below_alloc | apply pw_below_drewN | apply below_drew1) | exact HB.out)) hb); have n3_ := Aside0.mk (hbox); have n4_ := Aside0.mk ((by rw [hg]; exact (by first | exact HK.out.1 | exact (show Kept w _ (fun k_ => P0_1_ k_) from by repeat (first | (with_reducible first | exact HK.out | apply Kept.alloc | apply Kept.drewN | apply Kept.drew) | exact HK.out)).1) : w.heap.size ≤ gb550)); have n5_ := Aside0.mk ((by rw [hg]; exact (below_size (by repeat (first | (with_reducible first | exact HB.out | apply below_alloc | apply pw_below_drewN | apply below_drew1) | exact HB.out))) : w0.heap.size ≤ gb550)); clear HO0_1; clear HK; clear HB; have HO0_1 := n0_; have HK := n1_; have HB := n2_; have BK550 := n3_; have GW550 := n4_; have GE550 := n5_; clear n0_ n1_ n2_ n3_ n4_ n5_; clear hb hbox hg; have hcz6_0 : w5.cell? ⟨gb550, 0, none⟩ = some (.int .i64 a0_0) := (blk_cell BK550.out 0).trans rfl; have hcz6_1 : w5.cell? ⟨gb550, 1, none⟩ = some (.slice Ao4 l0_1.length co4) := (blk_cell BK550.out 1).trans rfl; have hfz6_0 := blk_frozen BK550.out 0; have hfz6_1 := blk_frozen BK550.out 1) | ((with_reducible refine gate_callee (f := 85) rfl ?_); refine goesL_ (some 8) rfl rfl Try.func85 (by kernel_rfl) rfl #[.slice Ao4 l0_1.length co4, .int .i64 a1] rfl (by (try simp only [List.map_toArray, List.map_cons, List.map_nil]); first | done | rfl | (simp only [List.length_drop, List.length_take]; rfl)) ?_; (with_reducible refine (laws_markSightS.calls k (fun k_ => some k_ = (.slice Ao4 l0_1.length co4 : Value).ownBlock) (.slice Ao4 l0_1.length co4) l0_1 a1 t551 t552 w0 _ ?side1 ?side2 A3.out).mono ?_); (case side1 => repeat (first | (with_reducible first | exact HB.out | apply below_alloc | apply pw_below_drewN | apply below_drew1 | refine below_set ?_ GE550.out) | exact HB.out)); (case side2 => exact Kd.R_tight rfl HO0_1.out); rintro e w7 ⟨rfl, hy0, hb, hkp⟩; refine ⟨_, rfl, ?_⟩; have n0_ := Aside0.mk (Kd.R_reok rfl hy0 (fun k_ e_ => HO0_1.out.1 k_ e_)); have n1_ := Aside0.mk (blk_kept (by (with_reducible repeat (first | refine blk_drewN ?_ _ | refine blk_drew ?_ | refine blk_alloc ?_ _)); exact BK550.out) hkp (fun hs_ => (fun e_ => (Kd.R_ne HO0_1.out BK550.out (by decide)) e_) hs_)); have n2_ := Aside0.mk (Kept.then_ (S := (fun k_ => P0_1_ k_)) (by repeat (first | (with_reducible first | exact HK.out | apply Kept.alloc | apply Kept.drewN | apply Kept.drew | refine Kept.setCell ?_ (.inr GW550.out) _) | exact HK.out)) hkp (fun k_ hs_ => (fun e_ => (HO0_1.out.1 k_ e_.symm)) hs_)); have n3_ := Aside0.mk (hb); clear HO0_1; clear BK550; clear HK; clear HB; have HO0_1 := n0_; have BK550 := n1_; have HK := n2_; have HB := n3_; clear n0_ n1_ n2_ n3_; (try clear hb); (try clear hkp); (try clear hy0)))
 go_ret
 exact ⟨by first | rfl | (simp [errW_none, errW_some] <;> rfl) | (simp [*, errW_none, errW_some] <;> rfl), by (with_reducible repeat (first | apply Kd.R_alloc | apply Kd.R_drewN | apply Kd.R_drew)); exact HO0_1.out, by repeat (first | (with_reducible first | exact HB.out | apply below_alloc | apply pw_below_drewN | apply below_drew1 | refine below_set ?_ GE550.out) | exact HB.out), by repeat (first | (with_reducible first | exact HK.out | apply Kept.alloc | apply Kept.drewN | apply Kept.drew | refine Kept.setCell ?_ (.inr GW550.out) _) | exact HK.out)⟩
end Go.Proofs.Ytkafbmanmffliaa.Q

namespace Go.Proofs.Ytkafbmanmffliaa.Q
open Go.RowKit YtkafbmanmffliaaW.PrintWords YtkafbmanmffliaaW.PrintLast YtkafbmanmffliaaW.PrintMore
attribute [local go_sem] max2_int min2_int max_two min_two max_three min_three max_four min_four
set_option linter.unusedVariables false
set_option linter.unusedSimpArgs false
def laws_markInt64S.l0 : Nat → List Int → Int → Int → Option (Int × List Int)
 | 0, _, _, _ => none
 | k + 1, x0, x1, x5 => if x5 < (x0.length : Int) then (if 0 ≤ x5 then (laws_markInt64S.l0 k (x0.set (x5 : Int).toNat x1) (wrap64 (x1 + 1)) (wrap64 (x5 + 1))) else (none)) else (some (x1, x0))
def laws_markInt64S.f (k : Nat) (l0 : List Int) (a1 : Int) : Option (Int × List Int) := laws_markInt64S.l0 k l0 a1 0
set_option maxHeartbeats 8000000 in
set_option maxRecDepth 100000 in
theorem laws_markInt64S.calls (k : Nat) (P0_ : Nat → Prop) (u9000_ : Value) (l0 : List Int) (a1 : Int) (r1 : Int) (r2 : List Int) (w0 w : World) (hB : Below w0.heap.size w0 w) (ho0 : Kd.R (Kd.int .i64) 2 w w0.heap.size P0_ u9000_ l0) (h : laws_markInt64S.f k l0 a1 = some (r1, r2)) :
  Calls Try.prog 46 #[u9000_, .int .i64 a1] w fun e w' => e = .returned (.int .i64 r1) ∧ Kd.R (Kd.int .i64) 2 w' w0.heap.size (fun k_ => (P0_ k_ ∨ w.heap.size ≤ k_)) u9000_ r2 ∧ Below w0.heap.size w0 w' ∧ Kept w w' (fun k_ => P0_ k_) := by
 have HO0 := Aside0.mk (show Kd.R (Kd.int .i64) 2 w w0.heap.size (fun k_ => (P0_ k_ ∨ w.heap.size ≤ k_)) u9000_ l0 from Kd.R_mono ho0 (fun k_ hk => (.inl hk)))
 have HK := Aside0.mk (Kept.refl w (fun k_ => P0_ k_))
 have HW0 := Aside0.mk hB.size
 have HB := Aside0.mk hB
 clear hB
 have H : (laws_markInt64S.l0 k l0 a1 0) = some (r1, r2) := h
 clear h
 have H' := Aside0.mk H
 clear H
 go_enter Try.func46, Try.ntmps46
 go_wp2
 go_loopg [1, 5] k (fun kq v1 v5 w' => ∃ (x0_1 : List Int) (x1_1 : Int) (x5_1 : Int), v1 = .int .i64 x1_1 ∧ v5 = .int .i64 x5_1 ∧ Aside0 (laws_markInt64S.l0 kq x0_1 x1_1 x5_1 = some (r1, r2)) ∧ Aside0 (kq ≤ k) ∧ Aside0 (Kd.R (Kd.int .i64) 2 w' w0.heap.size (fun k_ => (P0_ k_ ∨ w.heap.size ≤ k_)) u9000_ x0_1) ∧ Aside0 (Kept w w' (fun k_ => P0_ k_)) ∧ Aside0 (Below w0.heap.size w0 w'))
 case atStart => exact ⟨(l0), (a1), (0), (by first | rfl | (simp; done) | (simp [*]; done)), (by first | rfl | (simp; done) | (simp [*]; done)), H', ⟨Nat.le_refl _⟩, ⟨by (with_reducible repeat (first | apply Kd.R_alloc | apply Kd.R_drewN | apply Kd.R_drew)); exact HO0.out⟩, ⟨by repeat (first | (with_reducible first | exact HK.out | apply Kept.alloc | apply Kept.drewN | apply Kept.drew) | exact HK.out)⟩, ⟨by repeat (first | (with_reducible first | exact HB.out | apply below_alloc | apply pw_below_drewN | apply below_drew1) | exact HB.out)⟩⟩
 case round =>
  clear H'
  try clear p2
  obtain ⟨x0_1, x1_1, x5_1, rfl, rfl, HA, HK1, HO_0, HK, HB⟩ := hrel
  cases gk with
  | zero => exact absurd HA.out (by simp [laws_markInt64S.l0])
  | succ k1 =>
   have H := HA.out
   clear HA
   simp only [laws_markInt64S.l0] at H
   by_cases c3 : x5_1 < (x0_1.length : Int)
   ·rw [if_pos c3] at H
    have c3b0 : decide (x5_1 < (x0_1.length : Int)) = true := decide_eq_true c3
    clear c3
    by_cases c4 : 0 ≤ x5_1
    ·rw [if_pos c4] at H
     have c4b0 : decide (0 ≤ x5_1) = true := decide_eq_true c4
     clear c4
     obtain ⟨y553, hy553⟩ : ∃ y_ : List Int, y_ = (x0_1.set (x5_1 : Int).toNat x1_1) := ⟨_, rfl⟩
     replace H : (laws_markInt64S.l0 k1 y553 (wrap64 (x1_1 + 1)) (wrap64 (x5_1 + 1))) = some (r1, r2) := by first | (rw [hy553]; with_reducible exact H) | (have H2_ := (Option.bind_some _ _).symm.trans H; rw [hy553]; with_reducible exact H2_) | (have H2_ := (Option.bind_some _ _).symm.trans H; with_reducible exact H2_) | with_reducible exact H | (rw [hy553]; exact H) | exact H
     have Ny553 := Aside0.mk hy553
     clear hy553
     have H' := Aside0.mk H
     clear H
     obtain ⟨Ao6, co6, eo6⟩ := Kd.R_slice HO_0.out
     subst eo6
     have p5 : 0 ≤ (x5_1 : Int) := of_decide_eq_true (by first | (with_reducible assumption) | assumption)
     have q5 : (x5_1 : Int) < ((x0_1.length : Int) : Int) := of_decide_eq_true (by first | (with_reducible assumption) | assumption)
     obtain ⟨go5, co5, eo5, gb5, gl5, cl5, HG5⟩ := Kd.R_form HO_0.out (by omega)
     (first | cases eo5 | (injection eo5 with ea_ en_ ec_; (first | subst ea_ | (injection ea_ with ea_; subst ea_)); subst ec_; clear en_))
     have GB5 := Aside0.mk gb5
     have GG5 := Aside0.mk HG5
     clear gb5 gl5 HG5
     have HMgo5 := Aside0.mk (show (P0_ go5 ∨ w.heap.size ≤ go5) from (HO_0.out.1 _ rfl))
     obtain ⟨hx5_0, hf5_0⟩ := Kd.R_celln 0 HO_0.out (x5_1 : Int) p5 q5
     replace p5 := eq_true p5
     replace q5 := eq_true q5
     have HP7 := Kd.R_putg HO_0.out (x5_1 : Int) x1_1
     go_wp2_with (first | ((with_reducible refine gate_store (t := 2) (p := 15) rfl ?_); refine store_event (t := 2) (p := 15) (v := ?vo_w8) (w1 := (wr.setCell ⟨go5, (x5_1 : Int).toNat, none⟩ (.int .i64 x1_1))) ?hg ?ho ?hn ?hr ?_; (case ho => rfl); (case hg => rfl); (case hn => rfl); (case hr => first | (go_simp; done) | (go_simp; rfl)); intro w8 hw; have hg : wr.grownBy w8 (some go5) := (by rw [hw]; exact HP7.2); have hp_ : Kd.R (Kd.int .i64) 2 w8 w0.heap.size (fun k_ => (P0_ k_ ∨ w.heap.size ≤ k_)) (.slice (some ⟨go5, 0, none⟩) x0_1.length co6) y553 := (by rw [hw, Ny553.out]; exact HP7.1); clear HP7; have n0_ := Aside0.mk (hp_); have n1_ := Aside0.mk ((by rw [hw]; exact below_set (HB.out) GB5.out : Below w0.heap.size w0 w8)); have n2_ := Aside0.mk (Kept.of_grown (S := (fun k_ => P0_ k_)) hg (by repeat (first | (with_reducible first | exact HK.out | apply Kept.alloc | apply Kept.drewN | apply Kept.drew) | exact HK.out)) (fun k_ e_ => (HO_0.out.1 k_ e_))); clear HO_0; clear HB; clear HK; have HO_0 := n0_; have HB := n1_; have HK := n2_; clear n0_ n1_ n2_; clear hg hw hp_))
     go_roundg k1
     case measure => have := HK1.out; omega
     case rel => exact ⟨(y553), (wrap64 (x1_1 + 1)), (wrap64 (x5_1 + 1)), (by first | rfl | (simp; done) | (simp [*]; done)), (by first | rfl | (simp; done) | (simp [*]; done)), H', ⟨by have := HK1.out; omega⟩, ⟨by (with_reducible repeat (first | apply Kd.R_alloc | apply Kd.R_drewN | apply Kd.R_drew)); exact HO_0.out⟩, ⟨by repeat (first | (with_reducible first | exact HK.out | apply Kept.alloc | apply Kept.drewN | apply Kept.drew) | exact HK.out)⟩, ⟨by repeat (first | (with_reducible first | exact HB.out | apply below_alloc | apply pw_below_drewN | apply below_drew1) | exact HB.out)⟩⟩
    ·rw [if_neg c4] at H
     exact absurd H (by simp)
   ·rw [if_neg c3] at H
    have c3b0 : decide (x5_1 < (x0_1.length : Int)) = false := decide_eq_false c3
    clear c3
    simp only [Option.some.injEq, Prod.mk.injEq] at H
    obtain ⟨rfl, rfl⟩ := H
    obtain ⟨Ao9, co9, eo9⟩ := Kd.R_slice HO_0.out
    subst eo9
    go_wp2
    go_ret
    exact ⟨by first | rfl | (simp [errW_none, errW_some] <;> rfl) | (simp [*, errW_none, errW_some] <;> rfl), by (with_reducible repeat (first | apply Kd.R_alloc | apply Kd.R_drewN | apply Kd.R_drew)); exact HO_0.out, by repeat (first | (with_reducible first | exact HB.out | apply below_alloc | apply pw_below_drewN | apply below_drew1) | exact HB.out), by repeat (first | (with_reducible first | exact HK.out | apply Kept.alloc | apply Kept.drewN | apply Kept.drew) | exact HK.out)⟩
end Go.Proofs.Ytkafbmanmffliaa.Q

namespace Go.Proofs.Ytkafbmanmffliaa.Q
open Go.RowKit YtkafbmanmffliaaW.PrintWords YtkafbmanmffliaaW.PrintLast YtkafbmanmffliaaW.PrintMore
attribute [local go_sem] max2_int min2_int max_two min_two max_three min_three max_four min_four
set_option linter.unusedVariables false
set_option linter.unusedSimpArgs false
def laws_heldInt64S.l0 : Nat → List Int → Int → Int → Option (Int)
 | 0, _, _, _ => none
 | k + 1, x0, x1, x5 => if x5 < (x0.length : Int) then (if 0 ≤ x5 then (if (rd x0 x5) = x1 then (laws_heldInt64S.l0 k x0 (wrap64 (x1 + 1)) (wrap64 (x5 + 1))) else (some (-1))) else (none)) else (some x1)
def laws_heldInt64S.f (k : Nat) (l0 : List Int) (a1 : Int) : Option (Int) := laws_heldInt64S.l0 k l0 a1 0
set_option maxHeartbeats 8000000 in
set_option maxRecDepth 100000 in
theorem laws_heldInt64S.calls (k : Nat) (A0 : Option Addr) (c0 : Nat) (l0 : List Int) (a1 : Int) (r : Int) (w : World) (hr0 : Kd.C (Kd.int .i64) w A0 l0.length l0) (hc0 : l0.length ≤ c0) (h : laws_heldInt64S.f k l0 a1 = some r) :
  Calls Try.prog 47 #[.slice A0 l0.length c0, .int .i64 a1] w fun e w' => e = .returned (.int .i64 r) ∧ Drawn0 w w' := by
 have HR0 := Aside0.mk hr0
 have HC0 := Aside0.mk hc0
 clear hr0 hc0
 have H : (laws_heldInt64S.l0 k l0 a1 0) = some r := h
 clear h
 have H' := Aside0.mk H
 clear H
 go_enter Try.func47, Try.ntmps47
 go_wp2
 go_loopg [1, 5] k (fun kq v1 v5 w' => ∃ (x1_1 : Int) (x5_1 : Int), v1 = .int .i64 x1_1 ∧ v5 = .int .i64 x5_1 ∧ Aside0 (laws_heldInt64S.l0 kq l0 x1_1 x5_1 = some r) ∧ Aside0 (kq ≤ k) ∧ Drawn0 w w')
 case atStart => exact ⟨(a1), (0), (by first | rfl | (simp; done) | (simp [*]; done)), (by first | rfl | (simp; done) | (simp [*]; done)), H', ⟨Nat.le_refl _⟩, by repeat (first | exact Drawn0.refl _ | apply Drawn0.step)⟩
 case round =>
  clear H'
  try clear p2
  obtain ⟨x1_1, x5_1, rfl, rfl, HA, HK1, ⟨m1, rfl⟩⟩ := hrel
  cases gk with
  | zero => exact absurd HA.out (by simp [laws_heldInt64S.l0])
  | succ k1 =>
   have H := HA.out
   clear HA
   simp only [laws_heldInt64S.l0] at H
   by_cases c3 : x5_1 < (l0.length : Int)
   ·rw [if_pos c3] at H
    have c3b0 : decide (x5_1 < (l0.length : Int)) = true := decide_eq_true c3
    clear c3
    by_cases c4 : 0 ≤ x5_1
    ·rw [if_pos c4] at H
     have c4b0 : decide (0 ≤ x5_1) = true := decide_eq_true c4
     clear c4
     by_cases c5 : (rd l0 x5_1) = x1_1
     ·rw [if_pos c5] at H
      have c5b0 : ((rd l0 x5_1) == x1_1) = true := beq_iff_eq.mpr c5
      have c5b1 : ((rd l0 x5_1) != x1_1) = false := bne_eq_false_iff_eq.mpr c5
      clear c5
      have H' := Aside0.mk H
      clear H
      have p554 : 0 ≤ (x5_1 : Int) := of_decide_eq_true (by first | (with_reducible assumption) | assumption)
      have q554 : x5_1 < (l0.length : Int) := of_decide_eq_true (by first | (with_reducible assumption) | assumption)
      obtain ⟨ad554, e554, hx554_0⟩ := Kd.at_int HR0.out x5_1 p554 q554
      cases e554
      replace p554 := eq_true p554
      replace q554 := eq_true q554
      go_wp2
      go_roundg k1
      case measure => have := HK1.out; omega
      case rel => exact ⟨(wrap64 (x1_1 + 1)), (wrap64 (x5_1 + 1)), (by first | rfl | (simp; done) | (simp [*]; done)), (by first | rfl | (simp; done) | (simp [*]; done)), H', ⟨by have := HK1.out; omega⟩, by repeat (first | exact Drawn0.refl _ | apply Drawn0.step)⟩
     ·rw [if_neg c5] at H
      have c5b0 : ((rd l0 x5_1) == x1_1) = false := beq_eq_false_iff_ne.mpr c5
      have c5b1 : ((rd l0 x5_1) != x1_1) = true := bne_iff_ne.mpr c5
      obtain rfl := Option.some.inj H
      have p554 : 0 ≤ (x5_1 : Int) := of_decide_eq_true (by first | (with_reducible assumption) | assumption)
      have q554 : x5_1 < (l0.length : Int) := of_decide_eq_true (by first | (with_reducible assumption) | assumption)
      obtain ⟨ad554, e554, hx554_0⟩ := Kd.at_int HR0.out x5_1 p554 q554
      cases e554
      replace p554 := eq_true p554
      replace q554 := eq_true q554
      go_wp2
      go_ret
      exact ⟨by first | rfl | (simp; done) | (simp [*]; done), by repeat (first | exact Drawn0.refl _ | apply Drawn0.step)⟩
    ·rw [if_neg c4] at H
     exact absurd H (by simp)
   ·rw [if_neg c3] at H
    have c3b0 : decide (x5_1 < (l0.length : Int)) = false := decide_eq_false c3
    clear c3
    obtain rfl := Option.some.inj H
    go_wp2
    go_ret
    exact ⟨by first | rfl | (simp; done) | (simp [*]; done), by repeat (first | exact Drawn0.refl _ | apply Drawn0.step)⟩
end Go.Proofs.Ytkafbmanmffliaa.Q

namespace Go.Proofs.Ytkafbmanmffliaa.Q
open Go.RowKit YtkafbmanmffliaaW.PrintWords YtkafbmanmffliaaW.PrintLast YtkafbmanmffliaaW.PrintMore
attribute [local go_sem] max2_int min2_int max_two min_two max_three min_three max_four min_four
set_option linter.unusedVariables false
set_option linter.unusedSimpArgs false
def laws_szSightS.f (l0 : List (S121)) (a1 : Int) : Option (Int) := if (wrap64 (a1 - (l0.length : Int))) < 0 then (some (-1)) else (some (wrap64 (a1 - (l0.length : Int))))
set_option maxHeartbeats 8000000 in
set_option maxRecDepth 100000 in
theorem laws_szSightS.calls (A0 : Option Addr) (c0 : Nat) (l0 : List (S121)) (a1 : Int) (r : Int) (w : World) (hr0 : Kd.C k121 w A0 l0.length l0) (hc0 : l0.length ≤ c0) (h : laws_szSightS.f l0 a1 = some r) :
  Calls Try.prog 69 #[.slice A0 l0.length c0, .int .i64 a1] w fun e w' => e = .returned (.int .i64 r) ∧ Drawn0 w w' := by
 have HR0 := Aside0.mk hr0
 have HC0 := Aside0.mk hc0
 clear hr0 hc0
 have H : (if (wrap64 (a1 - (l0.length : Int))) < 0 then (some (-1)) else (some (wrap64 (a1 - (l0.length : Int))))) = some r := h
 clear h
 by_cases c3 : (wrap64 (a1 - (l0.length : Int))) < 0
 ·rw [if_pos c3] at H
  have c3b0 : decide ((wrap64 (a1 - (l0.length : Int))) < 0) = true := decide_eq_true c3
  clear c3
  obtain rfl := Option.some.inj H
  go_enter Try.func69, Try.ntmps69
  go_wp2
  go_ret
  exact ⟨by first | rfl | (simp; done) | (simp [*]; done), by repeat (first | exact Drawn0.refl _ | apply Drawn0.step)⟩
 ·rw [if_neg c3] at H
  have c3b0 : decide ((wrap64 (a1 - (l0.length : Int))) < 0) = false := decide_eq_false c3
  clear c3
  obtain rfl := Option.some.inj H
  go_enter Try.func69, Try.ntmps69
  go_wp2
  go_ret
  exact ⟨by first | rfl | (simp; done) | (simp [*]; done), by repeat (first | exact Drawn0.refl _ | apply Drawn0.step)⟩
end Go.Proofs.Ytkafbmanmffliaa.Q

namespace Go.Proofs.Ytkafbmanmffliaa.Q
open Go.RowKit YtkafbmanmffliaaW.PrintWords YtkafbmanmffliaaW.PrintLast YtkafbmanmffliaaW.PrintMore
attribute [local go_sem] max2_int min2_int max_two min_two max_three min_three max_four min_four
set_option linter.unusedVariables false
set_option linter.unusedSimpArgs false
def laws_szSurvey.f (a0_0 : Int) (l0_1 : List (S121)) (a1 : Int) : Option (Int) := (laws_szSightS.f l0_1 a1).bind fun t373 => (if t373 < 0 then (some (-1)) else (some t373))
set_option maxHeartbeats 8000000 in
set_option maxRecDepth 100000 in
theorem laws_szSurvey.calls (a0_0 : Int) (A0_1 : Option Addr) (c0_1 : Nat) (l0_1 : List (S121)) (a1 : Int) (r : Int) (w : World) (hr0_1 : Kd.C k121 w A0_1 l0_1.length l0_1) (hc0_1 : l0_1.length ≤ c0_1) (h : laws_szSurvey.f a0_0 l0_1 a1 = some r) :
  Calls Try.prog 28 #[.agg #[.int .i64 a0_0, .slice A0_1 l0_1.length c0_1], .int .i64 a1] w fun e w' => e = .returned (.int .i64 r) ∧ Below w.heap.size w w' := by
 have hu42 := Try.underlying42
 have HR0_1 := Aside0.mk hr0_1
 have HC0_1 := Aside0.mk hc0_1
 clear hr0_1 hc0_1
 have HB := Aside0.mk (Below.refl w.heap.size w)
 have H : ((laws_szSightS.f l0_1 a1).bind fun t373 => (if t373 < 0 then (some (-1)) else (some t373))) = some r := h
 clear h
 replace H := Option.bind_eq_some_iff.mp H
 obtain ⟨t373, A30, H⟩ := H
 replace H : (if t373 < 0 then (some (-1)) else (some t373)) = some r := H
 have A3 := Aside0.mk A30
 clear A30
 by_cases c4 : t373 < 0
 ·rw [if_pos c4] at H
  have c4b0 : decide (t373 < 0) = true := decide_eq_true c4
  clear c4
  obtain rfl := Option.some.inj H
  go_enter Try.func28, Try.ntmps28
  go_wp2_with (first | ((with_reducible refine gate_dst (N := 2) rfl ?_); refine box_event ?hg (N := 2) ?hd (cs := #[.int .i64 a0_0, .slice A0_1 l0_1.length c0_1]) (t := 42) ?hr ?_; (case hd => rfl); (case hg => rfl); (case hr => first | (go_simp; done) | (go_simp; rfl)); intro gb372 hg w5 hbox hb; have n0_ := Aside0.mk (below_step (by repeat (first | (with_reducible first | exact HB.out | apply below_alloc | apply pw_below_drewN | apply below_drew1) | exact HB.out)) hb); have n1_ := Aside0.mk (hbox); have n2_ := Aside0.mk ((by rw [hg]; exact (below_size (by repeat (first | (with_reducible first | exact HB.out | apply below_alloc | apply pw_below_drewN | apply below_drew1) | exact HB.out))) : w.heap.size ≤ gb372)); have n3_ := Aside0.mk ((by rw [hg]; exact (below_size (by repeat (first | (with_reducible first | exact HB.out | apply below_alloc | apply pw_below_drewN | apply below_drew1) | exact HB.out))) : w.heap.size ≤ gb372)); clear HB; have HB := n0_; have BK372 := n1_; have GW372 := n2_; have GE372 := n3_; clear n0_ n1_ n2_ n3_; clear hb hbox hg; have hcz6_0 : w5.cell? ⟨gb372, 0, none⟩ = some (.int .i64 a0_0) := (blk_cell BK372.out 0).trans rfl; have hcz6_1 : w5.cell? ⟨gb372, 1, none⟩ = some (.slice A0_1 l0_1.length c0_1) := (blk_cell BK372.out 1).trans rfl; have hfz6_0 := blk_frozen BK372.out 0; have hfz6_1 := blk_frozen BK372.out 1) | ((with_reducible refine gate_callee (f := 69) rfl ?_); refine goesL_ (some 8) rfl rfl Try.func69 (by kernel_rfl) rfl #[.slice A0_1 l0_1.length c0_1, .int .i64 a1] rfl (by (try simp only [List.map_toArray, List.map_cons, List.map_nil]); first | done | rfl | (simp only [List.length_drop, List.length_take]; rfl)) ?_; (with_reducible refine (laws_szSightS.calls _ _ l0_1 a1 t373 _ ?side1 ?side2 A3.out).mono ?_); (case side1 => repeat (first | exact (Kd.C_below HR0_1.out HB.out) | (with_reducible refine Kd.C_alloc ?_ _) | (with_reducible refine Kd.C_drewN ?_ _) | (with_reducible refine Kd.C_drew ?_))); (case side2 => exact HC0_1.out); rintro e w' ⟨rfl, ⟨nd, rfl⟩⟩; refine ⟨_, rfl, ?_⟩))
  go_ret
  exact ⟨by first | rfl | (simp [errW_none, errW_some] <;> rfl) | (simp [*, errW_none, errW_some] <;> rfl), by repeat (first | (with_reducible first | exact HB.out | apply below_alloc | apply pw_below_drewN | apply below_drew1 | refine below_set ?_ GE372.out) | exact HB.out)⟩
 ·rw [if_neg c4] at H
  have c4b0 : decide (t373 < 0) = false := decide_eq_false c4
  clear c4
  obtain rfl := Option.some.inj H
  go_enter Try.func28, Try.ntmps28
  go_wp2_with (first | ((with_reducible refine gate_dst (N := 2) rfl ?_); refine box_event ?hg (N := 2) ?hd (cs := #[.int .i64 a0_0, .slice A0_1 l0_1.length c0_1]) (t := 42) ?hr ?_; (case hd => rfl); (case hg => rfl); (case hr => first | (go_simp; done) | (go_simp; rfl)); intro gb372 hg w7 hbox hb; have n0_ := Aside0.mk (below_step (by repeat (first | (with_reducible first | exact HB.out | apply below_alloc | apply pw_below_drewN | apply below_drew1) | exact HB.out)) hb); have n1_ := Aside0.mk (hbox); have n2_ := Aside0.mk ((by rw [hg]; exact (below_size (by repeat (first | (with_reducible first | exact HB.out | apply below_alloc | apply pw_below_drewN | apply below_drew1) | exact HB.out))) : w.heap.size ≤ gb372)); have n3_ := Aside0.mk ((by rw [hg]; exact (below_size (by repeat (first | (with_reducible first | exact HB.out | apply below_alloc | apply pw_below_drewN | apply below_drew1) | exact HB.out))) : w.heap.size ≤ gb372)); clear HB; have HB := n0_; have BK372 := n1_; have GW372 := n2_; have GE372 := n3_; clear n0_ n1_ n2_ n3_; clear hb hbox hg; have hcz8_0 : w7.cell? ⟨gb372, 0, none⟩ = some (.int .i64 a0_0) := (blk_cell BK372.out 0).trans rfl; have hcz8_1 : w7.cell? ⟨gb372, 1, none⟩ = some (.slice A0_1 l0_1.length c0_1) := (blk_cell BK372.out 1).trans rfl; have hfz8_0 := blk_frozen BK372.out 0; have hfz8_1 := blk_frozen BK372.out 1) | ((with_reducible refine gate_callee (f := 69) rfl ?_); refine goesL_ (some 8) rfl rfl Try.func69 (by kernel_rfl) rfl #[.slice A0_1 l0_1.length c0_1, .int .i64 a1] rfl (by (try simp only [List.map_toArray, List.map_cons, List.map_nil]); first | done | rfl | (simp only [List.length_drop, List.length_take]; rfl)) ?_; (with_reducible refine (laws_szSightS.calls _ _ l0_1 a1 t373 _ ?side1 ?side2 A3.out).mono ?_); (case side1 => repeat (first | exact (Kd.C_below HR0_1.out HB.out) | (with_reducible refine Kd.C_alloc ?_ _) | (with_reducible refine Kd.C_drewN ?_ _) | (with_reducible refine Kd.C_drew ?_))); (case side2 => exact HC0_1.out); rintro e w' ⟨rfl, ⟨nd, rfl⟩⟩; refine ⟨_, rfl, ?_⟩))
  go_ret
  exact ⟨by first | rfl | (simp [errW_none, errW_some] <;> rfl) | (simp [*, errW_none, errW_some] <;> rfl), by repeat (first | (with_reducible first | exact HB.out | apply below_alloc | apply pw_below_drewN | apply below_drew1 | refine below_set ?_ GE372.out) | exact HB.out)⟩
end Go.Proofs.Ytkafbmanmffliaa.Q

namespace Go.Proofs.Ytkafbmanmffliaa.Ha
open Go.RowKit YtkafbmanmffliaaW.PrintWords YtkafbmanmffliaaW.PrintLast YtkafbmanmffliaaW.PrintMore
theorem ret_bool {a b : Bool} (h : a = b) : Ending.returned (.bool a) = .returned (.bool b) := by rw [h]
theorem ret_int {k : IntKind} {a b : Int} (h : a = b) : Ending.returned (.int k a) = .returned (.int k b) := by rw [h]
def inB (lo hi n : Int) : Bool := decide (lo ≤ n) && decide (n ≤ hi)
theorem within_any (n lo hi : Int) (w : World) :
  Calls Try.prog 82 #[.int .i64 n, .int .i64 lo, .int .i64 hi] w fun e w' => e = .returned (.bool (inB lo hi n)) ∧ w' = w := by
 by_cases h : lo ≤ n
 ·go_enter Try.func82, Try.ntmps82
  go_wp2
  go_ret
  exact ⟨ret_bool (by simp [inB, h]), rfl⟩
 ·have h' : decide (lo ≤ n) = false := by simpa using h
  go_enter Try.func82, Try.ntmps82
  go_wp2
  go_ret
  exact ⟨ret_bool (by simp [inB]; omega), rfl⟩
theorem lit1_any (n lo hi : Int) (b1 b2 : Nat) (w : World) (h1 : w.cell? ⟨b1, 0, none⟩ = some (.int .i64 lo)) (h2 : w.cell? ⟨b2, 0, none⟩ = some (.int .i64 hi)) :
  Calls Try.prog 140 #[.int .i64 n, .pointer (some ⟨b1, 0, none⟩), .pointer (some ⟨b2, 0, none⟩)] w fun e w' => e = .returned (.bool (!inB lo hi n)) ∧ w' = w := by
 go_enter Try.func140, Try.ntmps140
 go_wp2_with (go_at_call 82; refine (within_any _ _ _ _).mono ?_; rintro e w' ⟨rfl, rfl⟩)
 go_ret
 exact ⟨rfl, rfl⟩
def idxOf (p : Int → Bool) : List Int → Int → Int
 | [], _ => -1
 | x :: xs, k => if p x then k else idxOf p xs (k + 1)
theorem idx_any (lo hi : Int) (b1 b2 : Nat) (A : Option Addr) (c : Nat) (l : List Int) (w : World) (h1 : w.cell? ⟨b1, 0, none⟩ = some (.int .i64 lo)) (h2 : w.cell? ⟨b2, 0, none⟩ = some (.int .i64 hi))
  (hr : Kd.C (Kd.int .i64) w A l.length l) :
  Calls Try.prog 149 #[.slice A l.length c, .func (.func 140) #[] #[.pointer (some ⟨b1, 0, none⟩), .pointer (some ⟨b2, 0, none⟩)]] w fun e w' => e = .returned (.int .i64 (idxOf (fun n => !inB lo hi n) l 0)) ∧ w' = w := by
 have hlen : l.length ≤ 9223372036854775807 := hr.2.1
 go_enter Try.func149, Try.ntmps149
 go_wp2
 go_loop [8, 5] (fun i _ => ∃ k : Nat, k ≤ l.length ∧ i = .int .i64 k ∧ idxOf (fun n => !inB lo hi n) l 0 = idxOf (fun n => !inB lo hi n) (l.drop k) k) (fun i _ => l.length - (intOf i).toNat)
 case atStart => exact ⟨0, by omega, rfl, by simp⟩
 case round =>
  obtain ⟨k, hk, rfl, hi⟩ := hrel
  have HI := Lib.hid hi
  clear hi
  by_cases hlt : k < l.length
  ·obtain ⟨ad, rfl, hc⟩ := Kd.at_int hr (k : Int) (by omega) (by omega)
   have hc' : w.cell? (ad.add k) = some (.int .i64 (rd l k)) := by simpa using hc
   have hd : l.drop k = rd l k :: l.drop (k + 1) := by rw [List.drop_eq_getElem_cons hlt]; simp [rd, hlt]
   have HD := Lib.hid hd
   clear hd
   by_cases hin : inB lo hi (rd l k) = true
   ·go_wp2_with (go_at_call 140; refine (lit1_any _ _ _ _ _ _ h1 h2).mono ?_; rintro e w' ⟨rfl, rfl⟩)
    go_round
    case rel => exact ⟨k + 1, by omega, by go_num, by rw [HI.out, HD.out]; simp [idxOf, hin]⟩
    case measure => simp [intOf]; omega
   ·have hin' : inB lo hi (rd l k) = false := by simpa using hin
    clear hin
    go_wp2_with (go_at_call 140; refine (lit1_any _ _ _ _ _ _ h1 h2).mono ?_; rintro e w' ⟨rfl, rfl⟩)
    go_ret
    exact ⟨ret_int (by rw [HI.out, HD.out]; simp [idxOf, hin']), rfl⟩
  ·go_wp2
   go_ret
   have : k = l.length := by omega
   subst this
   exact ⟨ret_int (by rw [HI.out]; simp [idxOf]), rfl⟩
theorem idxOf_neg (p : Int → Bool) (l : List Int) (k : Int) (hk : 0 ≤ k) : decide (idxOf p l k ≥ 0) = l.any p := by
 induction l generalizing k with
 | nil => simp [idxOf]
 | cons x xs ih =>
  by_cases h : p x = true
  ·simp [idxOf, h, hk]
  ·simp only [idxOf, h]; simp [ih (k + 1) (by omega), h]
theorem contains_any (lo hi : Int) (b1 b2 : Nat) (A : Option Addr) (c : Nat) (l : List Int) (w : World) (h1 : w.cell? ⟨b1, 0, none⟩ = some (.int .i64 lo)) (h2 : w.cell? ⟨b2, 0, none⟩ = some (.int .i64 hi))
  (hr : Kd.C (Kd.int .i64) w A l.length l) :
  Calls Try.prog 139 #[.slice A l.length c, .func (.func 140) #[] #[.pointer (some ⟨b1, 0, none⟩), .pointer (some ⟨b2, 0, none⟩)]] w fun e w' => e = .returned (.bool (l.any fun n => !inB lo hi n)) ∧ w' = w := by
 have HR := Lib.hid (idxOf_neg (fun n => !inB lo hi n) l 0 (by omega))
 go_enter Try.func139, Try.ntmps139
 go_wp2_with (go_at_call 149; refine (idx_any _ _ _ _ _ _ _ _ h1 h2 hr).mono ?_; rintro e w' ⟨rfl, rfl⟩)
 go_ret
 exact ⟨ret_bool HR.out, rfl⟩
def areIn (l : List Int) (lo hi : Int) : Bool := l.all fun n => inB lo hi n
theorem areIn_any (l : List Int) (lo hi : Int) : (!l.any fun n => !inB lo hi n) = areIn l lo hi := by
 simp [areIn, List.any_eq_not_all_not]
theorem areWithin_any (A : Option Addr) (c : Nat) (l : List Int) (lo hi : Int) (w : World) (hr : Kd.C (Kd.int .i64) w A l.length l) :
  Calls Try.prog 110 #[.slice A l.length c, .int .i64 lo, .int .i64 hi] w fun e w' => e = .returned (.bool (areIn l lo hi)) ∧ Below w.heap.size w w' := by
 have HX := Lib.hid (areIn_any l lo hi)
 have hC := fun W hW h1 h2 => contains_any lo hi w.heap.size (w.heap.size + 1) A c l W h1 h2 hW
 go_enter Try.func110, Try.ntmps110
 go_wp2_with (go_at_call 139; refine (hC _ (Kd.C_alloc (Kd.C_alloc hr _) _) (by simp) (by simp)).mono ?_; rintro e w' ⟨rfl, rfl⟩)
 go_ret
 exact ⟨ret_bool HX.out, below_alloc (below_alloc (Below.refl _ _) _) _⟩
end Go.Proofs.Ytkafbmanmffliaa.Ha

namespace Go.Proofs.Ytkafbmanmffliaa.Hb
open Go.RowKit YtkafbmanmffliaaW.PrintWords YtkafbmanmffliaaW.PrintLast YtkafbmanmffliaaW.PrintMore Q Ha
theorem l00In_any (n lo hi : Int) (w : World) :
  Calls Try.prog 114 #[.int .i64 n, .int .i64 lo, .int .i64 hi] w fun e w' => e = .returned (.bool (inB lo hi n)) ∧ w' = w := by
 by_cases h : lo ≤ n
 ·have h' : decide (lo ≤ n) = true := by simpa using h
  go_enter Try.func114, Try.ntmps114
  go_wp2
  go_ret
  exact ⟨ret_bool (by simp [inB, h]), rfl⟩
 ·have h' : decide (lo ≤ n) = false := by simpa using h
  go_enter Try.func114, Try.ntmps114
  go_wp2
  go_ret
  exact ⟨ret_bool (by simp [inB]; omega), rfl⟩
def sightB (pts : Int) (s : S32) : Bool :=
 inB 0 (wrap64 (pts - 1)) s.f0 && inB 0 (wrap64 (pts - 1)) s.f1 && !(s.f0 == s.f1) && inB (-100) 100 s.f2 && inB 1 3 s.f3
def surveyB (pts : Int) (l : List S32) : Bool := inB 2 5 pts && decide ((l.length : Int) ≤ 8) && l.all (sightB pts)
theorem surveyB_no (pts : Int) (l : List S32) (k : Nat) (hk : k < l.length) (h : sightB pts (rd_T32 l k) = false) : surveyB pts l = false := by
 have hm : rd_T32 l k ∈ l := by simp only [rd_T32, Int.toNat_natCast]; rw [List.getD_eq_getElem?_getD, List.getElem?_eq_getElem hk]; simp
 have : l.all (sightB pts) = false := by
  rw [List.all_eq_false]; exact ⟨_, hm, by simp [h]⟩
 simp [surveyB, this]
theorem all_step (pts : Int) (l : List S32) (k : Nat) (hk : k < l.length) (hp : (l.take k).all (sightB pts) = true) (h : sightB pts (rd_T32 l k) = true) : (l.take (k + 1)).all (sightB pts) = true := by
 have : l.take (k + 1) = l.take k ++ [rd_T32 l k] := by
  rw [List.take_succ_eq_append_getElem hk]; simp [rd_T32, hk]
 rw [this, List.all_append, hp]; simp [h]
theorem l10Is_round (g : Nat) (pts : Int) (A : Option Addr) (c : Nat) (l : List S32) (w : World) (hb : w.heap[g]? = some (.cells #[.int .i64 pts, .slice A l.length c] 26 (0, 0))) (hr : Kd.C k32 w A l.length l)
  (h1 : inB 2 5 pts = true) (h2 : (l.length : Int) ≤ 8) :
  Calls Try.prog 98 #[.pointer (some ⟨g, 0, none⟩)] w fun e w' => e = .returned (.bool (surveyB pts l)) ∧ Below w.heap.size w w' := by
 have hu32 := Try.underlying32
 have hlen : l.length ≤ 9223372036854775807 := hr.2.1
 have hc0 : w.cell? ⟨g, 0, none⟩ = some (.int .i64 pts) := (blk_cell hb 0).trans rfl
 have hc1 : w.cell? ⟨g, 1, none⟩ = some (.slice A l.length c) := (blk_cell hb 1).trans rfl
 have HB := Aside0.mk hb
 have HR := Aside0.mk hr
 have HW := Aside0.mk (Below.refl w.heap.size w)
 clear hb hr
 have h2' : decide ((8 : Int) < (l.length : Int)) = false := by simpa using h2
 go_enter Try.func98, Try.ntmps98
 go_wp2_with (go_at_call 114; refine (l00In_any _ _ _ _).mono ?_; rintro e w' ⟨rfl, rfl⟩)
 go_loopw [3] (fun i wr => ∃ k : Nat, k ≤ l.length ∧ i = .int .i64 k ∧ Aside0 ((l.take k).all (sightB pts) = true) ∧ Aside0 (Below w'.heap.size w' wr)) (fun i _ => l.length - (intOf i).toNat)
 case atStart => exact ⟨0, by omega, rfl, ⟨by simp⟩, ⟨Below.refl _ _⟩⟩
 case round =>
  rename_i wr _
  obtain ⟨k, hk, rfl, hall, hbw⟩ := hrel
  clear hc0 hc1
  have HB1 := Aside0.mk (blk_below HB.out hbw.out)
  have hc0 : wr.cell? ⟨g, 0, none⟩ = some (.int .i64 pts) := (blk_cell HB1.out 0).trans rfl
  have hc1 : wr.cell? ⟨g, 1, none⟩ = some (.slice A l.length c) := (blk_cell HB1.out 1).trans rfl
  by_cases hlt : k < l.length
  ·have hr1 := Kd.C_below HR.out hbw.out
   obtain ⟨ad, rfl, hx0, hx1, hx2, hx3⟩ := at_T32 hr1 (k : Int) (by omega) (by omega)
   clear hr1
   simp only [Int.toNat_natCast] at hx0 hx1 hx2 hx3
   go_wp2
   have hgl : g < wr.heap.size := blk_lt HB1.out
   have HA := Aside0.mk (hbw.out.alloc hbw.out.size (.cells #[.int .i64 (rd_T32 l ↑k).f0, .int .i64 (rd_T32 l ↑k).f1, .int .i64 (rd_T32 l ↑k).f2, .int .i64 (rd_T32 l ↑k).f3] 32))
   by_cases e0 : inB 0 (wrap64 (pts - 1)) (rd_T32 l k).f0 = true
   ·by_cases e1 : inB 0 (wrap64 (pts - 1)) (rd_T32 l k).f1 = true
    ·by_cases e2 : (rd_T32 l k).f0 = (rd_T32 l k).f1
     ·have HF := Aside0.mk (show sightB pts (rd_T32 l k) = false by simp [sightB, e2])
      have e2' : ((rd_T32 l k).f0 == (rd_T32 l k).f1) = true := by simpa using e2
      clear e2
      go_quiet ((go_at_call 114; exact Calls.quiet_of_same (l00In_any _ _ _ _)))
      go_wp2
      go_ret
      exact ⟨ret_bool (surveyB_no pts l k hlt HF.out).symm, pw_below_drewN HA.out _⟩
     ·have e2' : ((rd_T32 l k).f0 == (rd_T32 l k).f1) = false := by simpa using e2
      clear e2
      by_cases e3 : inB (-100) 100 (rd_T32 l k).f2 = true
      ·by_cases e4 : inB 1 3 (rd_T32 l k).f3 = true
       ·have HF := Aside0.mk (show sightB pts (rd_T32 l k) = true by simp [sightB, e0, e1, e2', e3, e4])
        go_quiet ((go_at_call 114; exact Calls.quiet_of_same (l00In_any _ _ _ _)))
        go_wp2
        go_roundw
        case rel => exact ⟨k + 1, by omega, by go_num, ⟨all_step pts l k hlt hall.out HF.out⟩, ⟨pw_below_drewN HA.out _⟩⟩
        case measure => simp [intOf]; omega
       ·have e4 : inB 1 3 (rd_T32 l k).f3 = false := by simpa using e4
        have HF := Aside0.mk (show sightB pts (rd_T32 l k) = false by simp [sightB, e4])
        go_quiet ((go_at_call 114; exact Calls.quiet_of_same (l00In_any _ _ _ _)))
        go_wp2
        go_ret
        exact ⟨ret_bool (surveyB_no pts l k hlt HF.out).symm, pw_below_drewN HA.out _⟩
      ·have e3 : inB (-100) 100 (rd_T32 l k).f2 = false := by simpa using e3
       have HF := Aside0.mk (show sightB pts (rd_T32 l k) = false by simp [sightB, e3])
       go_quiet ((go_at_call 114; exact Calls.quiet_of_same (l00In_any _ _ _ _)))
       go_wp2
       go_ret
       exact ⟨ret_bool (surveyB_no pts l k hlt HF.out).symm, pw_below_drewN HA.out _⟩
    ·have e1 : inB 0 (wrap64 (pts - 1)) (rd_T32 l k).f1 = false := by simpa using e1
     have HF := Aside0.mk (show sightB pts (rd_T32 l k) = false by simp [sightB, e1])
     go_quiet ((go_at_call 114; exact Calls.quiet_of_same (l00In_any _ _ _ _)))
     go_wp2
     go_ret
     exact ⟨ret_bool (surveyB_no pts l k hlt HF.out).symm, pw_below_drewN HA.out _⟩
   ·have e0 : inB 0 (wrap64 (pts - 1)) (rd_T32 l k).f0 = false := by simpa using e0
    have HF := Aside0.mk (show sightB pts (rd_T32 l k) = false by simp [sightB, e0])
    go_quiet ((go_at_call 114; exact Calls.quiet_of_same (l00In_any _ _ _ _)))
    go_wp2
    go_ret
    exact ⟨ret_bool (surveyB_no pts l k hlt HF.out).symm, pw_below_drewN HA.out _⟩
  ·obtain rfl : k = l.length := by omega
   have HF := Aside0.mk (show surveyB pts l = true by have := hall.out; simp at this; simp [surveyB, h1, h2]; exact this)
   go_wp2
   go_ret
   exact ⟨ret_bool HF.out.symm, hbw.out⟩
theorem l10Is_any (g : Nat) (pts : Int) (A : Option Addr) (c : Nat) (l : List S32) (w : World) (hb : w.heap[g]? = some (.cells #[.int .i64 pts, .slice A l.length c] 26 (0, 0))) (hr : Kd.C k32 w A l.length l) :
  Calls Try.prog 98 #[.pointer (some ⟨g, 0, none⟩)] w fun e w' => e = .returned (.bool (surveyB pts l)) ∧ Below w.heap.size w w' := by
 by_cases h1 : inB 2 5 pts = true
 ·by_cases h2 : (l.length : Int) ≤ 8
  ·exact l10Is_round g pts A c l w hb hr h1 h2
  ·have HF := Aside0.mk (show surveyB pts l = false by simp [surveyB]; omega)
   have hc0 : w.cell? ⟨g, 0, none⟩ = some (.int .i64 pts) := (blk_cell hb 0).trans rfl
   have hc1 : w.cell? ⟨g, 1, none⟩ = some (.slice A l.length c) := (blk_cell hb 1).trans rfl
   clear hb hr
   have h2' : decide ((8 : Int) < (l.length : Int)) = true := by simp; omega
   go_enter Try.func98, Try.ntmps98
   go_wp2_with (go_at_call 114; refine (l00In_any _ _ _ _).mono ?_; rintro e w' ⟨rfl, rfl⟩)
   go_ret
   exact ⟨ret_bool HF.out.symm, Below.refl _ _⟩
 ·have h1 : inB 2 5 pts = false := by simpa using h1
  have HF := Aside0.mk (show surveyB pts l = false by simp [surveyB, h1])
  have hc0 : w.cell? ⟨g, 0, none⟩ = some (.int .i64 pts) := (blk_cell hb 0).trans rfl
  have hc1 : w.cell? ⟨g, 1, none⟩ = some (.slice A l.length c) := (blk_cell hb 1).trans rfl
  clear hb hr
  go_enter Try.func98, Try.ntmps98
  go_wp2_with (go_at_call 114; refine (l00In_any _ _ _ _).mono ?_; rintro e w' ⟨rfl, rfl⟩)
  go_ret
  exact ⟨ret_bool HF.out.symm, Below.refl _ _⟩
end Go.Proofs.Ytkafbmanmffliaa.Hb

namespace Go.Proofs.Ytkafbmanmffliaa.Q
open Go.RowKit YtkafbmanmffliaaW.PrintWords YtkafbmanmffliaaW.PrintLast YtkafbmanmffliaaW.PrintMore
attribute [local go_sem] max2_int min2_int max_two min_two max_three min_three max_four min_four
set_option linter.unusedVariables false
set_option linter.unusedSimpArgs false
def IsS26 (w0 W : World) (g : Nat) (f0 : Int) (f1 : List (S32)) : Prop := ∃ A1 c1, W.heap[g]? = some (.cells #[.int .i64 f0, .slice A1 f1.length c1] 26 (0, 0)) ∧ w0.heap.size ≤ g ∧ Kd.C k32 w0 A1 f1.length f1
theorem IsS26.grown {w0 W : World} {g : Nat} {f0 : Int} {f1 : List (S32)} {W1 : World} {row : Option Nat} (h : IsS26 w0 W g f0 f1) (hw : W.grownBy W1 row) (hne : some g ≠ row) : IsS26 w0 W1 g f0 f1 := by
 obtain ⟨A1, c1, hb, hg, hr1⟩ := h
 exact ⟨A1, c1, blk_grown hb hw hne, hg, hr1⟩
theorem IsS26.kept {w0 W : World} {g : Nat} {f0 : Int} {f1 : List (S32)} {W1 : World} {S : Nat → Prop} (h : IsS26 w0 W g f0 f1) (hk : Kept W W1 S) (hne : ¬ S g) : IsS26 w0 W1 g f0 f1 := by
 obtain ⟨A1, c1, hb, hg, hr1⟩ := h
 exact ⟨A1, c1, blk_kept hb hk hne, hg, hr1⟩
theorem IsS26.below {w0 W : World} {g : Nat} {f0 : Int} {f1 : List (S32)} {W1 : World} (h : IsS26 w0 W g f0 f1) (hw : Below W.heap.size W W1) : IsS26 w0 W1 g f0 f1 := h.grown (grown_of_below hw none) (by simp)
theorem IsS26.alloc {w0 W : World} {g : Nat} {f0 : Int} {f1 : List (S32)} (h : IsS26 w0 W g f0 f1) (o : Obj) : IsS26 w0 (W.alloc o) g f0 f1 := h.below (below_alloc (Below.refl _ _) o)
theorem IsS26.drewN {w0 W : World} {g : Nat} {f0 : Int} {f1 : List (S32)} (h : IsS26 w0 W g f0 f1) (m : Nat) : IsS26 w0 (W.drewN m) g f0 f1 := h
theorem IsS26.drew {w0 W : World} {g : Nat} {f0 : Int} {f1 : List (S32)} (h : IsS26 w0 W g f0 f1) : IsS26 w0 W.drew g f0 f1 := h
theorem IsS26.at_ {w0 W : World} {g : Nat} {f0 : Int} {f1 : List (S32)} {w' : World} {m : Nat} (hq : W.drewN m = w') (h : IsS26 w0 W g f0 f1) : IsS26 w0 w' g f0 f1 := by subst hq; exact IsS26.drewN h m
theorem IsS26.apart {w0 W : World} {g : Nat} {f0 : Int} {f1 : List (S32)} {α : Type} {d : Kd α} {e : Nat} {base : Nat} {ok : Nat → Prop} {v : Value} {xs : List α} (h : IsS26 w0 W g f0 f1) (ho : d.R e W base ok v xs) (ht : ∀ q, q ∈ e :: d.E → q ≠ 26) : d.R e W base (fun k => ok k ∧ k ≠ g) v xs := by
 obtain ⟨A1, c1, hb, hg, hr1⟩ := h
 exact Kd.R_types ho hb ht
theorem IsS26.own_ne {w0 W : World} {g : Nat} {f0 : Int} {f1 : List (S32)} {α : Type} {d : Kd α} {e : Nat} {base : Nat} {ok : Nat → Prop} {v : Value} {xs : List α} (h : IsS26 w0 W g f0 f1) (ho : d.R e W base ok v xs) (ht : e ≠ 26) : some g ≠ v.ownBlock := by
 obtain ⟨A1, c1, hb, hg, hr1⟩ := h
 exact Kd.R_ne ho hb ht
theorem IsS26.lt {w0 W : World} {g : Nat} {f0 : Int} {f1 : List (S32)} (h : IsS26 w0 W g f0 f1) : g < W.heap.size := by
 obtain ⟨A1, c1, hb, hg, hr1⟩ := h
 exact blk_lt hb
theorem IsS26.ge {w0 W : World} {g : Nat} {f0 : Int} {f1 : List (S32)} (h : IsS26 w0 W g f0 f1) : w0.heap.size ≤ g := by
 obtain ⟨A1, c1, hb, hg, hr1⟩ := h
 exact hg
theorem IsS26.far {w0 W : World} {g : Nat} {f0 : Int} {f1 : List (S32)} {p : Addr} (h : IsS26 w0 W g f0 f1) (hne : g ≠ p.block) (u : Value) : IsS26 w0 (W.setCell p u) g f0 f1 := by
 obtain ⟨A1, c1, hb, hg, hr1⟩ := h
 exact ⟨A1, c1, blk_far hb hne u, hg, hr1⟩
theorem cellS26_0 {W : World} {g : Nat} {A1 : Option Addr} {c1 : Nat} {f0 : Int} {f1 : List (S32)} (h : W.heap[g]? = some (.cells #[.int .i64 f0, .slice A1 f1.length c1] 26 (0, 0))) : W.cell? ⟨g, 0, none⟩ = some (.int .i64 f0) := (blk_cell h 0).trans rfl
theorem IsS26.set_0 {w0 W : World} {g : Nat} {f0 : Int} {f1 : List (S32)} (h : IsS26 w0 W g f0 f1) (x : Int) : IsS26 w0 (W.setCell ⟨g, 0, none⟩ (.int .i64 x)) g x f1 := by
 obtain ⟨A1, c1, hb, hg, hr1⟩ := h
 exact ⟨A1, c1, by simpa using blk_set hb 0 (.int .i64 x), hg, hr1⟩
theorem cellS26_1 {W : World} {g : Nat} {A1 : Option Addr} {c1 : Nat} {f0 : Int} {f1 : List (S32)} (h : W.heap[g]? = some (.cells #[.int .i64 f0, .slice A1 f1.length c1] 26 (0, 0))) : W.cell? ⟨g, 1, none⟩ = some (.slice A1 f1.length c1) := (blk_cell h 1).trans rfl
theorem IsS26.new (w0 W : World) (A1 : Option Addr) (c1 : Nat) (f0 : Int) (f1 : List (S32)) (hB : Below w0.heap.size w0 W) (hr1 : Kd.C k32 w0 A1 f1.length f1) : IsS26 w0 (W.alloc (.cells #[.int .i64 f0, .slice A1 f1.length c1] 26)) W.heap.size f0 f1 := ⟨A1, c1, by simpa using heap_alloc_new W _, hB.size, hr1⟩
def spec_l10Is.f (s0_0 : Int) (s0_1 : List (S32)) : Option (Bool × Int) := some (Hb.surveyB s0_0 s0_1, s0_0)
theorem spec_l10Is.calls (g : Nat) (s0_0 : Int) (s0_1 : List (S32)) (r1 : Bool) (r2 : Int) (w0 w : World) (hI : IsS26 w0 w g s0_0 s0_1) (hB : Below w0.heap.size w0 w) (h : spec_l10Is.f s0_0 s0_1 = some (r1, r2)) :
  Calls Try.prog 98 #[.pointer (some ⟨g, 0, none⟩)] w fun e w' => e = .returned (.bool r1) ∧ IsS26 w0 w' g r2 s0_1 ∧ Below w0.heap.size w0 w' ∧ KeepBut w w' g none := by
 simp only [spec_l10Is.f, Option.some.injEq, Prod.mk.injEq] at h
 obtain ⟨rfl, rfl⟩ := h
 obtain ⟨A1, c1, hb, hg, hr⟩ := hI
 refine (Hb.l10Is_any g s0_0 A1 c1 s0_1 w hb (Kd.C_below hr hB)).mono ?_
 rintro e w' ⟨rfl, hw⟩
 exact ⟨rfl, IsS26.below ⟨A1, c1, hb, hg, hr⟩ hw, below_then hB hB.size hw, KeepBut.of_below hw g none⟩
end Go.Proofs.Ytkafbmanmffliaa.Q

/- Rows of int64 numbers that a call has made: small laws over the kinds; and a list that is rewritten from its beginning on. -/
namespace Go.Proofs.Ytkafbmanmffliaa.Hc
open Go.RowKit YtkafbmanmffliaaW.PrintWords YtkafbmanmffliaaW.PrintLast YtkafbmanmffliaaW.PrintMore Q
def T (B : Nat) (W : World) (v : Value) (xs : List Int) : Prop := (Kd.int .i64).R 2 W B (fun _ => True) v xs
def NE (u v : Value) : Prop := ∀ k, u.ownBlock = some k → v.ownBlock ≠ some k
theorem NE.symm {u v : Value} (h : NE u v) : NE v u := fun k hk hu => h k hu hk
variable {B : Nat} {W w1 : World} {u v v1 : Value} {xs ys : List Int}
theorem T.of {ok : Nat → Prop} (h : (Kd.int .i64).R 2 W B ok v xs) : T B W v xs := Kd.R_mono h (fun _ _ => trivial)
theorem T.lt (h : T B W v xs) {k : Nat} (hk : v.ownBlock = some k) : k < W.heap.size := Kd.R_lt h k hk
theorem T.grown (h : T B W u xs) (hg : W.grownBy w1 v.ownBlock) (hn : NE u v) : T B w1 u xs :=
 T.of (Kd.R_grown (Kd.R_tight rfl h) hg (fun k hk e => hn k hk.symm e.symm))
theorem T.below (h : T B W u xs) (hb : Below W.heap.size W w1) : T B w1 u xs := Kd.R_below h hb
theorem NE.after (hu : T B W u xs) (hn : NE u v) (hat : v1.ownBlock = v.ownBlock ∨ ∃ b, v1.ownBlock = some b ∧ W.heap.size ≤ b) : NE u v1 := by
 intro k hk h1
 rcases hat with e | ⟨b, e, hb⟩
 ·exact hn k hk (e ▸ h1)
 ·have := hu.lt hk
  rw [e] at h1; injection h1 with h1; omega
theorem NE.new (hu : T B W u xs) (hat : ∃ b, v1.ownBlock = some b ∧ W.heap.size ≤ b) : NE u v1 := by
 intro k hk h1
 obtain ⟨b, e, hb⟩ := hat
 have := hu.lt hk
 rw [e] at h1; injection h1 with h1; omega
theorem T.form (h : T B W v xs) (hp : 0 < xs.length) : ∃ g cap, v = .slice (some ⟨g, 0, none⟩) xs.length cap ∧ B ≤ g ∧ g < W.heap.size := by
 obtain ⟨g, cap, he, hb, hl, _⟩ := Kd.R_form h hp
 exact ⟨g, cap, he, hb, hl⟩
theorem T.cell {g n cap : Nat} (h : T B W (.slice (some ⟨g, 0, none⟩) n cap) xs) (i : Nat) (hi : i < n) : W.cell? ⟨g, i, none⟩ = some (.int .i64 (rd xs i)) ∧ W.frozen? ⟨g, i, none⟩ = false :=
 Kd.R_celln 0 h (i : Int) (by omega) (by omega)
theorem T.put {g n cap : Nat} (h : T B W (.slice (some ⟨g, 0, none⟩) n cap) xs) (i : Nat) (x : Int) : T B (W.setCell ⟨g, i, none⟩ (.int .i64 x)) (.slice (some ⟨g, 0, none⟩) n cap) (xs.set i x) ∧ W.grownBy (W.setCell ⟨g, i, none⟩ (.int .i64 x)) (some g) :=
 Kd.R_putg h (i : Int) x
theorem T.len {g n cap : Nat} (h : T B W (.slice (some ⟨g, 0, none⟩) n cap) xs) : n = xs.length := (Kd.R_reads' h).1
theorem T.nil_new (hB : B ≤ W.heap.size) : T B (W.alloc (.cells #[] 2)) (.slice (some ⟨W.heap.size, 0, none⟩) 0 0) [] := by
 have ho : (W.alloc (.cells #[] 2)).ownsRow B 2 1 (.slice (some ⟨W.heap.size, 0, none⟩) 0 0) ([] : List Int).length (encs (Value.int .i64) []) :=
  ⟨rfl, .inr ⟨W.heap.size, 0, #[], rfl, hB, by simpa using heap_alloc_new W _, Nat.le_refl _, by simp [maxLen], rfl, rfl⟩⟩
 exact Kd.R_of_own ho (fun _ _ => trivial)
theorem NE.of {a b : Nat} {n1 c1 n2 c2 : Nat} (h : a ≠ b) : NE (.slice (some ⟨a, 0, none⟩) n1 c1) (.slice (some ⟨b, 0, none⟩) n2 c2) := by
 intro k h1 h2
 simp [Value.ownBlock] at h1 h2
 omega
theorem NE.nil {v : Value} : NE (.slice none 0 0) v := by intro k h; simp [Value.ownBlock] at h
theorem T.nil : T B W (.slice none 0 0) [] := Kd.R_nil _ _ _ _ _
theorem T.append {P : Program} {ops : Array Oper} {Q : Exit → Act → World → Prop} {rest : List Oper} {o : Oper} {a : Act} {w0 : World} (hP : P = Try.prog) (hgd : o.guard = none) (s x : Operand)
  (ho : o.op = .call { callee := .builtin .append, args := #[s, x], argTypes := #[28, 28] }) (p : Int) (hs : a.eval s = v) (hx : a.eval x = .slice (some ⟨W.heap.size, 0, none⟩) 1 1)
  (HO : T B W v xs) (HB : Below B w0 W) (hbase : B ≤ W.heap.size) (hl : xs.length ≤ 1048576)
  (h : ∀ v1 w1, T B w1 v1 (xs ++ [p]) → Below B w0 w1 → W.grownBy w1 v.ownBlock → (v1.ownBlock = v.ownBlock ∨ ∃ b, v1.ownBlock = some b ∧ W.heap.size ≤ b) → wpList P ops Q rest (a.put o.dst v1) w1) :
  wpList P ops Q (o :: rest) a (W.alloc (.cells #[.int .i64 p] 2)) := by
 subst hP
 exact Kd.R_append (Kd.int .i64) (w0 := w0) B hgd s x 28 2 (.int .i64 0) 8 ho Try.underlying28 info2 rfl (by decide) (by omega) v xs p [.int .i64 p] (fun _ => True) (fun _ => False) hs hx rfl (fun _ hk => hk.elim) (fun _ _ => trivial) HO HB hbase (by omega) h
def TB (B : Nat) (W : World) (v : Value) (xs : List Bool) : Prop := Kd.bool.R 4 W B (fun _ => True) v xs
section
variable {bs : List Bool}
theorem TB.of {ok : Nat → Prop} (h : Kd.bool.R 4 W B ok v bs) : TB B W v bs := Kd.R_mono h (fun _ _ => trivial)
theorem TB.lt (h : TB B W v bs) {k : Nat} (hk : v.ownBlock = some k) : k < W.heap.size := Kd.R_lt h k hk
theorem TB.grown (h : TB B W u bs) (hg : W.grownBy w1 v.ownBlock) (hn : NE u v) : TB B w1 u bs :=
 TB.of (Kd.R_grown (Kd.R_tight rfl h) hg (fun k hk e => hn k hk.symm e.symm))
theorem TB.below (h : TB B W u bs) (hb : Below W.heap.size W w1) : TB B w1 u bs := Kd.R_below h hb
theorem TB.form (h : TB B W v bs) (hp : 0 < bs.length) : ∃ g cap, v = .slice (some ⟨g, 0, none⟩) bs.length cap ∧ B ≤ g ∧ g < W.heap.size := by
 obtain ⟨g, cap, he, hb, hl, _⟩ := Kd.R_form h hp
 exact ⟨g, cap, he, hb, hl⟩
theorem TB.cell {g n cap : Nat} (h : TB B W (.slice (some ⟨g, 0, none⟩) n cap) bs) (i : Nat) (hi : i < n) : W.cell? ⟨g, i, none⟩ = some (.bool (rdOf false bs i)) ∧ W.frozen? ⟨g, i, none⟩ = false :=
 Kd.R_celln false h (i : Int) (by omega) (by omega)
theorem TB.put {g n cap : Nat} (h : TB B W (.slice (some ⟨g, 0, none⟩) n cap) bs) (i : Nat) (x : Bool) : TB B (W.setCell ⟨g, i, none⟩ (.bool x)) (.slice (some ⟨g, 0, none⟩) n cap) (bs.set i x) ∧ W.grownBy (W.setCell ⟨g, i, none⟩ (.bool x)) (some g) :=
 Kd.R_putg h (i : Int) x
theorem TB.len {g n cap : Nat} (h : TB B W (.slice (some ⟨g, 0, none⟩) n cap) bs) : n = bs.length := (Kd.R_reads' h).1
end
def upd {α : Type} (new old : List α) (k : Nat) : List α := new.take k ++ old.drop k
section
variable {α : Type} {new old : List α} {k : Nat}
theorem upd_zero : upd new old 0 = old := by simp [upd]
theorem upd_all (h : new.length = old.length) : upd new old old.length = new := by simp [upd, ← h]
theorem upd_len (h : new.length = old.length) (hk : k ≤ old.length) : (upd new old k).length = old.length := by simp [upd]; omega
theorem upd_get (h : new.length = old.length) (hk : k < old.length) : (upd new old k)[k]? = old[k]? := by
 rw [upd, List.getElem?_append_right (by simp; omega)]; simp [show min k new.length = k by omega]
theorem upd_set (h : new.length = old.length) (hk : k < old.length) : (upd new old k).set k (new[k]'(by omega)) = upd new old (k + 1) := by
 rw [upd, List.set_append_right _ _ (by simp; omega), List.length_take, show k - min k new.length = 0 by omega, List.drop_eq_getElem_cons hk, List.set_cons_zero, upd, List.take_succ_eq_append_getElem (by omega), List.append_assoc]; rfl
theorem upd_same (h : new.length = old.length) (hk : k < old.length) (he : new[k]'(by omega) = old[k]) : upd new old (k + 1) = upd new old k := by
 rw [upd, List.take_succ_eq_append_getElem (by omega), he, List.append_assoc, upd, List.drop_eq_getElem_cons hk]; rfl
end
theorem rd_upd {new old : List Int} {k : Nat} (h : new.length = old.length) (hk : k < old.length) : rd (upd new old k) k = rd old k := by
 simp only [rd, Int.toNat_natCast, List.getD_eq_getElem?_getD]; rw [upd_get h hk]
theorem rd_nat (l : List Int) (k : Nat) (h : k < l.length) : rd l k = l[k] := by simp [rd, List.getD_eq_getElem?_getD, h]
end Go.Proofs.Ytkafbmanmffliaa.Hc

/- The reference's l10Tree: the sights that connect points without loops, and the heights that follow. -/
namespace Go.Proofs.Ytkafbmanmffliaa.Hd
open Go.RowKit YtkafbmanmffliaaW.PrintWords YtkafbmanmffliaaW.PrintLast YtkafbmanmffliaaW.PrintMore Q Ha Hb Hc
def mxI (a b : Int) : Int := if b < a then a else b
def mnI (a b : Int) : Int := if a < b then a else b
theorem max_any (a b : Int) (w : World) : Calls Try.prog 95 #[.int .i64 a, .int .i64 b] w fun e w' => e = .returned (.int .i64 (mxI a b)) ∧ w' = w := by
 by_cases h : b < a
 ·have h' : decide (b < a) = true := by simpa using h
  go_enter Try.func95, Try.ntmps95
  go_wp2
  go_ret
  exact ⟨ret_int (by simp [mxI, h]), rfl⟩
 ·have h' : decide (b < a) = false := by simpa using h
  go_enter Try.func95, Try.ntmps95
  go_wp2
  go_ret
  exact ⟨ret_int (by simp [mxI]; omega), rfl⟩
theorem min_any (a b : Int) (w : World) : Calls Try.prog 129 #[.int .i64 a, .int .i64 b] w fun e w' => e = .returned (.int .i64 (mnI a b)) ∧ w' = w := by
 by_cases h : a < b
 ·have h' : decide (a < b) = true := by simpa using h
  go_enter Try.func129, Try.ntmps129
  go_wp2
  go_ret
  exact ⟨ret_int (by simp [mnI, h]), rfl⟩
 ·have h' : decide (a < b) = false := by simpa using h
  go_enter Try.func129, Try.ntmps129
  go_wp2
  go_ret
  exact ⟨ret_int (by simp [mnI]; omega), rfl⟩
structure St where
 out : List Int
 part : List Int
 hts : List Int
def liftOf (st : St) (s : S32) : Int :=
 let lf := wrap64 (wrap64 (rd st.hts s.f0 + s.f2) - rd st.hts s.f1)
 if rd st.part s.f1 < rd st.part s.f0 then wrap64 (-lf) else lf
def newPart (part : List Int) (a b : Int) : List Int := part.map fun v => if v = mxI a b then mnI a b else v
def newHts (part hts : List Int) (a b lf : Int) : List Int := List.zipWith (fun v h => if v = mxI a b then wrap64 (h + lf) else h) part hts
def step (st : St) (x : S32 × Nat) : St :=
 if rd st.part x.1.f0 = rd st.part x.1.f1 then st
 else ⟨st.out ++ [(x.2 : Int)], newPart st.part (rd st.part x.1.f0) (rd st.part x.1.f1), newHts st.part st.hts (rd st.part x.1.f0) (rd st.part x.1.f1) (liftOf st x.1)⟩
def start (pts : Int) : St := ⟨[], (List.range pts.toNat).map fun k : Nat => (k : Int), List.replicate pts.toNat 0⟩
def treeS (pts : Int) (l : List S32) : St := l.zipIdx.foldl step (start pts)
theorem newPart_len (part : List Int) (a b : Int) : (newPart part a b).length = part.length := by simp [newPart]
theorem newHts_len (part hts : List Int) (a b lf : Int) (h : part.length = hts.length) : (newHts part hts a b lf).length = hts.length := by simp [newHts, h]
theorem step_len (n : Nat) (st : St) (x : S32 × Nat) (h : st.part.length = n ∧ st.hts.length = n) : (step st x).part.length = n ∧ (step st x).hts.length = n := by
 unfold step
 split
 ·exact h
 ·exact ⟨by simp [newPart_len, h.1], by simp [newHts, h.1, h.2]⟩
theorem foldl_len (n : Nat) (l : List (S32 × Nat)) (st : St) (h : st.part.length = n ∧ st.hts.length = n) : (l.foldl step st).part.length = n ∧ (l.foldl step st).hts.length = n := by
 induction l generalizing st with
 | nil => exact h
 | cons x xs ih => exact ih _ (step_len n st x h)
theorem out_len (l : List (S32 × Nat)) (st : St) : (l.foldl step st).out.length ≤ st.out.length + l.length := by
 induction l generalizing st with
 | nil => simp
 | cons x xs ih =>
  have h1 := ih (step st x)
  have h2 : (step st x).out.length ≤ st.out.length + 1 := by unfold step; split <;> simp
  simp only [List.foldl_cons, List.length_cons]; omega
def at_ (pts : Int) (l : List S32) (k : Nat) : St := (l.zipIdx.take k).foldl step (start pts)
theorem at_zero (pts : Int) (l : List S32) : at_ pts l 0 = start pts := by simp [at_]
theorem at_all (pts : Int) (l : List S32) : at_ pts l l.length = treeS pts l := by
 unfold at_ treeS; rw [List.take_of_length_le (by simp)]
theorem at_succ (pts : Int) (l : List S32) (k : Nat) (h : k < l.length) : at_ pts l (k + 1) = step (at_ pts l k) (rd_T32 l k, k) := by
 unfold at_
 rw [List.take_succ_eq_append_getElem (by simpa using h), List.foldl_append]
 simp [rd_T32, h, List.getElem_zipIdx]
theorem at_len (pts : Int) (l : List S32) (k : Nat) : (at_ pts l k).part.length = pts.toNat ∧ (at_ pts l k).hts.length = pts.toNat :=
 foldl_len _ _ _ (by simp [start])
theorem at_out (pts : Int) (l : List S32) (k : Nat) : (at_ pts l k).out.length ≤ k := by
 have := out_len (l.zipIdx.take k) (start pts)
 simp only [start, List.length_nil, List.length_take, List.length_zipIdx] at this
 unfold at_; simp only [start]; omega
theorem valid_pts {pts : Int} {l : List S32} (h : surveyB pts l = true) : 2 ≤ pts ∧ pts ≤ 5 ∧ l.length ≤ 8 := by
 simp [surveyB, inB] at h; omega
theorem valid_at {pts : Int} {l : List S32} (h : surveyB pts l = true) (k : Nat) (hk : k < l.length) : 0 ≤ (rd_T32 l k).f0 ∧ (rd_T32 l k).f0 < pts ∧ 0 ≤ (rd_T32 l k).f1 ∧ (rd_T32 l k).f1 < pts := by
 have hp := valid_pts h
 have hm : rd_T32 l k ∈ l := by simp only [rd_T32, Int.toNat_natCast]; rw [List.getD_eq_getElem?_getD, List.getElem?_eq_getElem hk]; simp
 have h1 : l.all (sightB pts) = true := by simp only [surveyB, Bool.and_eq_true] at h; exact h.2
 have h2 := List.all_eq_true.1 h1 _ hm
 have e : wrap64 (pts - 1) = pts - 1 := by unfold wrap64; omega
 simp [sightB, inB, e] at h2
 omega
section
variable {part hts : List Int} {a b lf : Int} {j : Nat}
theorem np_hit (hj : j < part.length) (h : rd part j = mxI a b) : (upd (newPart part a b) part j).set j (mnI a b) = upd (newPart part a b) part (j + 1) := by
 have e : (newPart part a b)[j]'(by simp [newPart_len, hj]) = mnI a b := by
  rw [rd_nat _ _ hj] at h; simp [newPart, h]
 rw [← upd_set (newPart_len ..) hj, e]
theorem np_miss (hj : j < part.length) (h : ¬ rd part j = mxI a b) : upd (newPart part a b) part (j + 1) = upd (newPart part a b) part j := by
 rw [rd_nat _ _ hj] at h
 exact upd_same (newPart_len ..) hj (by simp [newPart, h])
theorem nh_hit (hl : part.length = hts.length) (hj : j < hts.length) (h : rd part j = mxI a b) : (upd (newHts part hts a b lf) hts j).set j (wrap64 (rd hts j + lf)) = upd (newHts part hts a b lf) hts (j + 1) := by
 have e : (newHts part hts a b lf)[j]'(by simp [newHts, hl, hj]) = wrap64 (rd hts j + lf) := by
  rw [rd_nat _ _ (by omega)] at h; simp [newHts, h, rd_nat _ _ hj]
 rw [← upd_set (newHts_len _ _ _ _ _ hl) hj, e]
theorem nh_miss (hl : part.length = hts.length) (hj : j < hts.length) (h : ¬ rd part j = mxI a b) : upd (newHts part hts a b lf) hts (j + 1) = upd (newHts part hts a b lf) hts j := by
 rw [rd_nat _ _ (by omega)] at h
 exact upd_same (newHts_len _ _ _ _ _ hl) hj (by simp [newHts, h])
end
def Ends (w : World) (pts : Int) (l : List S32) (e : Ending) (w' : World) : Prop :=
 ∃ v0 v1 : Value, ∃ ok : Bool, e = .returned (.tuple #[v0, v1, .bool ok]) ∧ ok = (treeS pts l).part.all (· == 0) ∧
  T w.heap.size w' v0 (if ok then (treeS pts l).out else []) ∧ T w.heap.size w' v1 (if ok then (treeS pts l).hts else []) ∧ NE v0 v1 ∧ Below w.heap.size w w'
set_option maxHeartbeats 4000000 in
set_option maxRecDepth 100000 in
theorem l10Tree_any (g : Nat) (pts : Int) (A : Option Addr) (c : Nat) (l : List S32) (w : World) (hb : w.heap[g]? = some (.cells #[.int .i64 pts, .slice A l.length c] 26 (0, 0))) (hr : Kd.C k32 w A l.length l) (hv : surveyB pts l = true) :
  Calls Try.prog 99 #[.pointer (some ⟨g, 0, none⟩)] w (Ends w pts l) := by
 obtain ⟨n, rfl⟩ : ∃ n : Nat, pts = (n : Int) := ⟨pts.toNat, by have := valid_pts hv; omega⟩
 have hn : 2 ≤ n ∧ n ≤ 5 ∧ l.length ≤ 8 := by have := valid_pts hv; omega
 obtain ⟨hn2, hn5, hl8⟩ := hn
 have HV := Aside0.mk hv
 have HBK := Aside0.mk hb
 have HR := Aside0.mk hr
 have hgl : g < w.heap.size := blk_lt hb
 have hc0 : w.cell? ⟨g, 0, none⟩ = some (.int .i64 n) := (blk_cell hb 0).trans rfl
 have hc1 : w.cell? ⟨g, 1, none⟩ = some (.slice A l.length c) := (blk_cell hb 1).trans rfl
 clear hb hr hv
 have hu32 := Try.underlying32
 have HB0 := Aside0.mk (Below.refl w.heap.size w)
 go_enter Try.func99, Try.ntmps99
 go_wp2_with (fail)
 go_loopw [6, 7, 8] (fun v6 v7 v8 wr => ∃ k : Nat, k ≤ n ∧ v8 = .int .i64 k ∧ Aside0 (T w.heap.size wr (.slice (some ⟨w.heap.size, 0, none⟩) 0 0) []) ∧ Aside0 (T w.heap.size wr v6 ((List.range k).map fun j : Nat => (j : Int))) ∧ Aside0 (T w.heap.size wr v7 (List.replicate k 0)) ∧
   Aside0 (NE (.slice (some ⟨w.heap.size, 0, none⟩) 0 0) v6) ∧ Aside0 (NE (.slice (some ⟨w.heap.size, 0, none⟩) 0 0) v7) ∧ Aside0 (NE v6 v7) ∧ Aside0 (Below w.heap.size w wr)) (fun _ _ i _ => n - (intOf i).toNat)
 case atStart =>
  have t0 := T.nil_new (B := w.heap.size) (W := w) (Nat.le_refl _)
  have t1 := T.nil_new (B := w.heap.size) (W := w.alloc (.cells #[] 2)) (by simp)
  have t2 := T.nil_new (B := w.heap.size) (W := (w.alloc (.cells #[] 2)).alloc (.cells #[] 2)) (by simp; omega)
  simp only [World.size_alloc] at t1 t2
  exact ⟨0, by omega, rfl, ⟨(t0.below (below_alloc (Below.refl _ _) _)).below (below_alloc (Below.refl _ _) _)⟩, ⟨t1.below (below_alloc (Below.refl _ _) _)⟩, ⟨t2⟩, ⟨NE.of (by omega)⟩, ⟨NE.of (by omega)⟩, ⟨NE.of (by omega)⟩, ⟨below_alloc (below_alloc (below_alloc (Below.refl _ _) _) _) _⟩⟩
 case round =>
  obtain ⟨k, hk, rfl, t5, t6, t7, n56, n57, n67, hbw⟩ := hrel
  clear hc0 hc1
  have hc0 : wr.cell? ⟨g, 0, none⟩ = some (.int .i64 n) := (blk_cell (blk_below HBK.out hbw.out) 0).trans rfl
  have hsz := hbw.out.size
  by_cases hlt : k < n
  ·have hlt' : decide ((k : Int) < (n : Int)) = true := by simpa using hlt
   go_wp2_with (first
    | ((with_reducible refine gate_builtin (b := .append) (xs := #[.tmp 27, .tmp 29]) rfl ?_); at_builtin; refine T.append (w0 := w) rfl rfl (.tmp 27) (.tmp 29) rfl (k : Int) rfl rfl t6.out hbw.out hsz (by simp; omega) ?_; intro v1 w1 h1 h2 h3 h4; have t5' := Aside0.mk (t5.out.grown h3 n56.out); have t7' := Aside0.mk (t7.out.grown h3 n67.out.symm); have t6' := Aside0.mk h1; have n56' := Aside0.mk (NE.after t5.out n56.out h4); have n67' := Aside0.mk (NE.after t7.out n67.out.symm h4).symm; have hbw' := Aside0.mk h2; have hsz' := h2.size; clear t5 t6 t7 n56 n67 hbw hsz h1 h2 h3 h4)
    | ((with_reducible refine gate_builtin (b := .append) (xs := #[.tmp 31, .tmp 32]) rfl ?_); at_builtin; refine T.append (w0 := w) rfl rfl (.tmp 31) (.tmp 32) rfl 0 rfl rfl t7'.out hbw'.out hsz' (by simp; omega) ?_; intro v2 w2 h1 h2 h3 h4; have t5 := Aside0.mk (t5'.out.grown h3 n57.out); have t6 := Aside0.mk (t6'.out.grown h3 n67'.out); have t7 := Aside0.mk h1; have m57 := Aside0.mk (NE.after t5'.out n57.out h4); have n67 := Aside0.mk (NE.after t6'.out n67'.out h4); have hbw := Aside0.mk h2; clear t5' t6' t7' n57 n67' hbw' h1 h2 h3 h4))
   go_roundw
   case rel => exact ⟨k + 1, by omega, by go_num, t5, ⟨by rw [List.range_succ, List.map_append]; exact t6.out⟩, ⟨by rw [List.replicate_succ']; exact t7.out⟩, n56', m57, n67, hbw⟩
   case measure => simp [intOf]; omega
  ·obtain rfl : k = n := by omega
   have hlt' : decide ((k : Int) < (k : Int)) = false := by simp
   go_wp2_with (fail)
   obtain ⟨g6, c6, e6, hB6, -⟩ := t6.out.form (by simp; omega)
   obtain ⟨g7, c7, e7, hB7, -⟩ := t7.out.form (by simp; omega)
   simp only [List.length_map, List.length_range, List.length_replicate] at e6 e7
   subst e6
   subst e7
   have hne : g6 ≠ g7 := fun e => n67.out g6 rfl (by rw [e]; rfl)
   have HL := Aside0.mk (at_len (k : Int) l)
   have HO := Aside0.mk (at_out (k : Int) l)
   clear hc0 hsz
   go_loopw [5, 9] (fun v5 v9 wz => ∃ i : Nat, i ≤ l.length ∧ v9 = .int .i64 i ∧ Aside0 (T w.heap.size wz v5 (at_ k l i).out) ∧ Aside0 (T w.heap.size wz (.slice (some ⟨g6, 0, none⟩) k c6) (at_ k l i).part) ∧ Aside0 (T w.heap.size wz (.slice (some ⟨g7, 0, none⟩) k c7) (at_ k l i).hts) ∧
     Aside0 (NE v5 (.slice (some ⟨g6, 0, none⟩) k c6)) ∧ Aside0 (NE v5 (.slice (some ⟨g7, 0, none⟩) k c7)) ∧ Aside0 (Below w.heap.size w wz)) (fun _ i _ => l.length - (intOf i).toNat)
   case atStart => exact ⟨0, by omega, rfl, ⟨by rw [at_zero]; exact t5.out⟩, ⟨by rw [at_zero]; exact t6.out⟩, ⟨by rw [at_zero]; exact t7.out⟩, n56, n57, hbw⟩
   case round =>
    clear t5 t6 t7 n56 n57 n67 hbw
    obtain ⟨i, hi, rfl, t5, t6, t7, n56, n57, hbw⟩ := hrel
    have HB1 := Aside0.mk (blk_below HBK.out hbw.out)
    have hc0 : wr.cell? ⟨g, 0, none⟩ = some (.int .i64 k) := (blk_cell HB1.out 0).trans rfl
    have hc1 : wr.cell? ⟨g, 1, none⟩ = some (.slice A l.length c) := (blk_cell HB1.out 1).trans rfl
    have hsz := hbw.out.size
    have hlp : (at_ k l i).part.length = k := by have := (HL.out i).1; simpa using this
    have hlh : (at_ k l i).hts.length = k := by have := (HL.out i).2; simpa using this
    have hol := HO.out i
    by_cases hlt : i < l.length
    ·have hlt' : decide ((i : Int) < (l.length : Int)) = true := by simpa using hlt
     have hr1 := Kd.C_below HR.out hbw.out
     obtain ⟨ad, rfl, hx0, hx1, hx2, hx3⟩ := at_T32 hr1 (i : Int) (by omega) (by omega)
     clear hr1
     simp only [Int.toNat_natCast] at hx0 hx1 hx2 hx3
     obtain ⟨hs0, hs1, hs2, hs3⟩ := valid_at HV.out i hlt
     have HS := Aside0.mk (at_succ k l i hlt)
     obtain ⟨st, hst⟩ : ∃ st, st = at_ k l i := ⟨_, rfl⟩
     obtain ⟨s, hs⟩ : ∃ s, s = rd_T32 l i := ⟨_, rfl⟩
     rw [← hst] at t5 t6 t7 hlp hlh hol HS
     rw [← hs] at hx0 hx1 hx2 hx3 hs0 hs1 hs2 hs3 HS
     clear hst hs
     have hg6 : g6 < wr.heap.size := t6.out.lt rfl
     have hg7 : g7 < wr.heap.size := t7.out.lt rfl
     have hp0 := (Kd.R_celln 0 t6.out s.f0 hs0 hs1).1
     have hp1 := (Kd.R_celln 0 t6.out s.f1 hs2 hs3).1
     change wr.cell? ⟨g6, s.f0.toNat, none⟩ = some (.int .i64 (rd st.part s.f0)) at hp0
     change wr.cell? ⟨g6, s.f1.toNat, none⟩ = some (.int .i64 (rd st.part s.f1)) at hp1
     by_cases hab : rd st.part s.f0 = rd st.part s.f1
     ·have hab' : (rd st.part s.f0 == rd st.part s.f1) = true := by simpa using hab
      have HE := Aside0.mk (show step st (s, i) = st by simp [step, hab])
      clear hab
      go_wp2_with (fail)
      go_roundw
      case rel =>
       have hbl := below_alloc (Below.refl wr.heap.size wr) (.cells #[.int .i64 s.f0, .int .i64 s.f1, .int .i64 s.f2, .int .i64 s.f3] 32)
       exact ⟨i + 1, by omega, by go_num, ⟨by rw [HS.out, HE.out]; exact t5.out.below hbl⟩, ⟨by rw [HS.out, HE.out]; exact t6.out.below hbl⟩, ⟨by rw [HS.out, HE.out]; exact t7.out.below hbl⟩, n56, n57, ⟨below_step hbw.out hbl⟩⟩
      case measure => simp [intOf]; omega
     ·have hab' : (rd st.part s.f0 == rd st.part s.f1) = false := by simpa using hab
      have hbl := below_alloc (Below.refl wr.heap.size wr) (.cells #[.int .i64 s.f0, .int .i64 s.f1, .int .i64 s.f2, .int .i64 s.f3] 32)
      have a5 := Aside0.mk (t5.out.below hbl)
      have a6 := Aside0.mk (t6.out.below hbl)
      have a7 := Aside0.mk (t7.out.below hbl)
      have ab := Aside0.mk (below_step hbw.out hbl)
      have ax := Aside0.mk (heap_alloc_new wr (.cells #[.int .i64 s.f0, .int .i64 s.f1, .int .i64 s.f2, .int .i64 s.f3] 32))
      have a5x := Aside0.mk (fun e : some wr.heap.size = _ => Nat.lt_irrefl _ (t5.out.lt e.symm))
      have hsz1 : w.heap.size ≤ (wr.alloc (.cells #[.int .i64 s.f0, .int .i64 s.f1, .int .i64 s.f2, .int .i64 s.f3] 32)).heap.size := below_size ab.out
      clear hbl
      go_wp2_with (first
       | ((with_reducible refine gate_builtin (b := .append) (xs := #[.tmp 63, .tmp 65]) rfl ?_); at_builtin; refine T.append (w0 := w) rfl rfl (.tmp 63) (.tmp 65) rfl (i : Int) rfl ?hx a5.out ab.out hsz1 (by omega) ?_; (case hx => (go_simp; done)); intro v1 w1 h1 h2 h3 h4; have b5 := Aside0.mk h1; have b6 := Aside0.mk (a6.out.grown h3 n56.out.symm); have b7 := Aside0.mk (a7.out.grown h3 n57.out.symm); have m56 := Aside0.mk (NE.after a6.out n56.out.symm h4).symm; have m57 := Aside0.mk (NE.after a7.out n57.out.symm h4).symm; have bb := Aside0.mk h2; have bx := Aside0.mk (blk_grown ax.out h3 a5x.out); clear a5 a6 a7 n56 n57 ab h1 h2 h3 h4))
      have hy0 : w1.cell? ⟨wr.heap.size, 0, none⟩ = some (.int .i64 s.f0) := (blk_cell bx.out 0).trans rfl
      have hy1 : w1.cell? ⟨wr.heap.size, 1, none⟩ = some (.int .i64 s.f1) := (blk_cell bx.out 1).trans rfl
      have hy2 : w1.cell? ⟨wr.heap.size, 2, none⟩ = some (.int .i64 s.f2) := (blk_cell bx.out 2).trans rfl
      have hq0 := (Kd.R_celln 0 b7.out s.f0 hs0 hs1).1
      have hq1 := (Kd.R_celln 0 b7.out s.f1 hs2 hs3).1
      change w1.cell? ⟨g7, s.f0.toNat, none⟩ = some (.int .i64 (rd st.hts s.f0)) at hq0
      change w1.cell? ⟨g7, s.f1.toNat, none⟩ = some (.int .i64 (rd st.hts s.f1)) at hq1
      go_quiet (fail)
      have HST := Aside0.mk (show step st (s, i) = ⟨st.out ++ [(i : Int)], newPart st.part (rd st.part s.f0) (rd st.part s.f1), newHts st.part st.hts (rd st.part s.f0) (rd st.part s.f1) (liftOf st s)⟩ by simp [step, hab])
      have n67' := Aside0.mk (NE.of (n1 := k) (c1 := c6) (n2 := k) (c2 := c7) hne)
      clear hab
      by_cases hgt : rd st.part s.f1 < rd st.part s.f0
      ·have hgt' : decide (rd st.part s.f1 < rd st.part s.f0) = true := by simpa using hgt
       have HLF := Aside0.mk (show liftOf st s = wrap64 (-wrap64 (wrap64 (rd st.hts s.f0 + s.f2) - rd st.hts s.f1)) by simp [liftOf, hgt])
       clear hgt
       go_wp2_with (fail)
       have hdn := pw_below_drewN (Below.refl w1.heap.size w1) nq
       go_loopw [14] (fun v14 wz => ∃ j : Nat, j ≤ k ∧ v14 = .int .i64 j ∧ Aside0 (T w.heap.size wz v1 (st.out ++ [(i : Int)])) ∧ Aside0 (T w.heap.size wz (.slice (some ⟨g6, 0, none⟩) k c6) (upd (newPart st.part (rd st.part s.f0) (rd st.part s.f1)) st.part j)) ∧
         Aside0 (T w.heap.size wz (.slice (some ⟨g7, 0, none⟩) k c7) (upd (newHts st.part st.hts (rd st.part s.f0) (rd st.part s.f1) (wrap64 (-wrap64 (wrap64 (rd st.hts s.f0 + s.f2) - rd st.hts s.f1)))) st.hts j)) ∧ Aside0 (Below w.heap.size w wz)) (fun v _ => k - (intOf v).toNat)
       case atStart => exact ⟨0, by omega, rfl, ⟨b5.out.below hdn⟩, ⟨by rw [upd_zero]; exact b6.out.below hdn⟩, ⟨by rw [upd_zero]; exact b7.out.below hdn⟩, ⟨below_step bb.out hdn⟩⟩
       case round =>
        clear hx0 hx1 hx2 hx3 hy0 hy1 hy2 hq0 hq1 hp0 hp1 hc0 hc1 hdn
        clear hg6 hg7 b5 b6 b7 bb bx
        obtain ⟨j, hj, rfl, r5, r6, r7, rb⟩ := hrel
        have hc0 : wr.cell? ⟨g, 0, none⟩ = some (.int .i64 k) := (blk_cell (blk_below HBK.out rb.out) 0).trans rfl
        by_cases hjk : j < k
        ·have hjk' : decide ((j : Int) < (k : Int)) = true := by simpa using hjk
         have hpc := (r6.out.cell j hjk).1
         rw [rd_upd (newPart_len ..) (by omega)] at hpc
         by_cases hm : rd st.part j = mxI (rd st.part s.f0) (rd st.part s.f1)
         ·have hm' : (rd st.part j == mxI (rd st.part s.f0) (rd st.part s.f1)) = true := by simpa using hm
          have HP := Aside0.mk (np_hit (a := rd st.part s.f0) (b := rd st.part s.f1) (by omega) hm)
          have HH := Aside0.mk (nh_hit (hts := st.hts) (lf := wrap64 (-wrap64 (wrap64 (rd st.hts s.f0 + s.f2) - rd st.hts s.f1))) (a := rd st.part s.f0) (b := rd st.part s.f1) (by omega) (by omega) hm)
          clear hm
          go_wp2_with (fail)
          go_quiet ((go_at_call 95; exact Calls.quiet_of_same (max_any _ _ _)))
          have hdq := pw_below_drewN (Below.refl wr.heap.size wr) nq
          have q5 := Aside0.mk (r5.out.below hdq)
          have q6 := Aside0.mk (r6.out.below hdq)
          have q7 := Aside0.mk (r7.out.below hdq)
          have qb := Aside0.mk (below_step rb.out hdq)
          clear hdq r5 r6 r7
          have s6 := Aside0.mk (q6.out.put j (mnI (rd st.part s.f0) (rd st.part s.f1)))
          have s7 := Aside0.mk (T.grown (v := .slice (some ⟨g6, 0, none⟩) k c6) q7.out s6.out.2 n67'.out.symm)
          have s5 := Aside0.mk (T.grown (v := .slice (some ⟨g6, 0, none⟩) k c6) q5.out s6.out.2 m56.out)
          obtain ⟨hz1, hz2⟩ := q6.out.cell j hjk
          obtain ⟨hz3, hz4⟩ := s7.out.cell j hjk
          rw [rd_upd (newHts_len _ _ _ _ _ (by omega)) (by omega)] at hz3
          go_wp2_with (go_at_call 129; refine (min_any _ _ _).mono ?_; rintro e w' ⟨rfl, rfl⟩)
          have z7 := Aside0.mk (s7.out.put j (wrap64 (rd st.hts j + (wrap64 (-wrap64 (wrap64 (rd st.hts s.f0 + s.f2) - rd st.hts s.f1))))))
          go_roundw
          case rel => exact ⟨j + 1, by omega, by go_num, ⟨T.grown (v := .slice (some ⟨g7, 0, none⟩) k c7) s5.out z7.out.2 m57.out⟩, ⟨by rw [← HP.out]; exact T.grown (v := .slice (some ⟨g7, 0, none⟩) k c7) s6.out.1 z7.out.2 n67'.out⟩, ⟨by rw [← HH.out]; exact z7.out.1⟩, ⟨(qb.out.setCell hB6 _).setCell hB7 _⟩⟩
          case measure => simp [intOf]; omega
         ·have hm' : (rd st.part j == mxI (rd st.part s.f0) (rd st.part s.f1)) = false := by simpa using hm
          have HP := Aside0.mk (np_miss (a := rd st.part s.f0) (b := rd st.part s.f1) (by omega) hm)
          have HH := Aside0.mk (nh_miss (hts := st.hts) (lf := wrap64 (-wrap64 (wrap64 (rd st.hts s.f0 + s.f2) - rd st.hts s.f1))) (a := rd st.part s.f0) (b := rd st.part s.f1) (by omega) (by omega) hm)
          clear hm
          go_wp2_with (fail)
          go_quiet ((go_at_call 95; exact Calls.quiet_of_same (max_any _ _ _)))
          have hdq := pw_below_drewN (Below.refl wr.heap.size wr) nq
          go_wp2_with (fail)
          go_roundw
          case rel => exact ⟨j + 1, by omega, by go_num, ⟨r5.out.below hdq⟩, ⟨by rw [HP.out]; exact r6.out.below hdq⟩, ⟨by rw [HH.out]; exact r7.out.below hdq⟩, ⟨below_step rb.out hdq⟩⟩
          case measure => simp [intOf]; omega
        ·obtain rfl : j = k := by omega
         have hjk' : decide ((j : Int) < (j : Int)) = false := by simp
         go_wp2_with (fail)
         go_roundw
         case rel => exact ⟨i + 1, by omega, by go_num, ⟨by rw [HS.out, HST.out]; exact r5.out⟩, ⟨by rw [HS.out, HST.out]; have h := r6.out; rw [← hlp, upd_all (newPart_len ..), hlp] at h; exact h⟩, ⟨by rw [HS.out, HST.out]; have h := r7.out; rw [← hlh, upd_all (newHts_len _ _ _ _ _ (by omega)), ← HLF.out, hlh] at h; exact h⟩, m56, m57, rb⟩
         case measure => simp [intOf]; omega
      ·have hgt' : decide (rd st.part s.f1 < rd st.part s.f0) = false := by simpa using hgt
       have HLF := Aside0.mk (show liftOf st s = wrap64 (wrap64 (rd st.hts s.f0 + s.f2) - rd st.hts s.f1) by simp [liftOf, hgt])
       clear hgt
       go_wp2_with (fail)
       have hdn := pw_below_drewN (Below.refl w1.heap.size w1) nq
       go_loopw [14] (fun v14 wz => ∃ j : Nat, j ≤ k ∧ v14 = .int .i64 j ∧ Aside0 (T w.heap.size wz v1 (st.out ++ [(i : Int)])) ∧ Aside0 (T w.heap.size wz (.slice (some ⟨g6, 0, none⟩) k c6) (upd (newPart st.part (rd st.part s.f0) (rd st.part s.f1)) st.part j)) ∧
         Aside0 (T w.heap.size wz (.slice (some ⟨g7, 0, none⟩) k c7) (upd (newHts st.part st.hts (rd st.part s.f0) (rd st.part s.f1) (wrap64 (wrap64 (rd st.hts s.f0 + s.f2) - rd st.hts s.f1))) st.hts j)) ∧ Aside0 (Below w.heap.size w wz)) (fun v _ => k - (intOf v).toNat)
       case atStart => exact ⟨0, by omega, rfl, ⟨b5.out.below hdn⟩, ⟨by rw [upd_zero]; exact b6.out.below hdn⟩, ⟨by rw [upd_zero]; exact b7.out.below hdn⟩, ⟨below_step bb.out hdn⟩⟩
       case round =>
        clear hx0 hx1 hx2 hx3 hy0 hy1 hy2 hq0 hq1 hp0 hp1 hc0 hc1 hdn
        clear hg6 hg7 b5 b6 b7 bb bx
        obtain ⟨j, hj, rfl, r5, r6, r7, rb⟩ := hrel
        have hc0 : wr.cell? ⟨g, 0, none⟩ = some (.int .i64 k) := (blk_cell (blk_below HBK.out rb.out) 0).trans rfl
        by_cases hjk : j < k
        ·have hjk' : decide ((j : Int) < (k : Int)) = true := by simpa using hjk
         have hpc := (r6.out.cell j hjk).1
         rw [rd_upd (newPart_len ..) (by omega)] at hpc
         by_cases hm : rd st.part j = mxI (rd st.part s.f0) (rd st.part s.f1)
         ·have hm' : (rd st.part j == mxI (rd st.part s.f0) (rd st.part s.f1)) = true := by simpa using hm
          have HP := Aside0.mk (np_hit (a := rd st.part s.f0) (b := rd st.part s.f1) (by omega) hm)
          have HH := Aside0.mk (nh_hit (hts := st.hts) (lf := wrap64 (wrap64 (rd st.hts s.f0 + s.f2) - rd st.hts s.f1)) (a := rd st.part s.f0) (b := rd st.part s.f1) (by omega) (by omega) hm)
          clear hm
          go_wp2_with (fail)
          go_quiet ((go_at_call 95; exact Calls.quiet_of_same (max_any _ _ _)))
          have hdq := pw_below_drewN (Below.refl wr.heap.size wr) nq
          have q5 := Aside0.mk (r5.out.below hdq)
          have q6 := Aside0.mk (r6.out.below hdq)
          have q7 := Aside0.mk (r7.out.below hdq)
          have qb := Aside0.mk (below_step rb.out hdq)
          clear hdq r5 r6 r7
          have s6 := Aside0.mk (q6.out.put j (mnI (rd st.part s.f0) (rd st.part s.f1)))
          have s7 := Aside0.mk (T.grown (v := .slice (some ⟨g6, 0, none⟩) k c6) q7.out s6.out.2 n67'.out.symm)
          have s5 := Aside0.mk (T.grown (v := .slice (some ⟨g6, 0, none⟩) k c6) q5.out s6.out.2 m56.out)
          obtain ⟨hz1, hz2⟩ := q6.out.cell j hjk
          obtain ⟨hz3, hz4⟩ := s7.out.cell j hjk
          rw [rd_upd (newHts_len _ _ _ _ _ (by omega)) (by omega)] at hz3
          go_wp2_with (go_at_call 129; refine (min_any _ _ _).mono ?_; rintro e w' ⟨rfl, rfl⟩)
          have z7 := Aside0.mk (s7.out.put j (wrap64 (rd st.hts j + (wrap64 (wrap64 (rd st.hts s.f0 + s.f2) - rd st.hts s.f1)))))
          go_roundw
          case rel => exact ⟨j + 1, by omega, by go_num, ⟨T.grown (v := .slice (some ⟨g7, 0, none⟩) k c7) s5.out z7.out.2 m57.out⟩, ⟨by rw [← HP.out]; exact T.grown (v := .slice (some ⟨g7, 0, none⟩) k c7) s6.out.1 z7.out.2 n67'.out⟩, ⟨by rw [← HH.out]; exact z7.out.1⟩, ⟨(qb.out.setCell hB6 _).setCell hB7 _⟩⟩
          case measure => simp [intOf]; omega
         ·have hm' : (rd st.part j == mxI (rd st.part s.f0) (rd st.part s.f1)) = false := by simpa using hm
          have HP := Aside0.mk (np_miss (a := rd st.part s.f0) (b := rd st.part s.f1) (by omega) hm)
          have HH := Aside0.mk (nh_miss (hts := st.hts) (lf := wrap64 (wrap64 (rd st.hts s.f0 + s.f2) - rd st.hts s.f1)) (a := rd st.part s.f0) (b := rd st.part s.f1) (by omega) (by omega) hm)
          clear hm
          go_wp2_with (fail)
          go_quiet ((go_at_call 95; exact Calls.quiet_of_same (max_any _ _ _)))
          have hdq := pw_below_drewN (Below.refl wr.heap.size wr) nq
          go_wp2_with (fail)
          go_roundw
          case rel => exact ⟨j + 1, by omega, by go_num, ⟨r5.out.below hdq⟩, ⟨by rw [HP.out]; exact r6.out.below hdq⟩, ⟨by rw [HH.out]; exact r7.out.below hdq⟩, ⟨below_step rb.out hdq⟩⟩
          case measure => simp [intOf]; omega
        ·obtain rfl : j = k := by omega
         have hjk' : decide ((j : Int) < (j : Int)) = false := by simp
         go_wp2_with (fail)
         go_roundw
         case rel => exact ⟨i + 1, by omega, by go_num, ⟨by rw [HS.out, HST.out]; exact r5.out⟩, ⟨by rw [HS.out, HST.out]; have h := r6.out; rw [← hlp, upd_all (newPart_len ..), hlp] at h; exact h⟩, ⟨by rw [HS.out, HST.out]; have h := r7.out; rw [← hlh, upd_all (newHts_len _ _ _ _ _ (by omega)), ← HLF.out, hlh] at h; exact h⟩, m56, m57, rb⟩
         case measure => simp [intOf]; omega
    ·obtain rfl : i = l.length := by omega
     rw [at_all] at t5 t6 t7 hlp hlh
     have hlt' : decide ((l.length : Int) < (l.length : Int)) = false := by simp
     have he5 := Aside0.mk (fun hh : (treeS (k : Int) l).part.all (· == 0) = true => (show Ends w k l (.returned (.tuple #[_, .slice (some ⟨g7, 0, none⟩) k c7, .bool true])) wr from ⟨_, _, true, rfl, hh.symm, t5.out, t7.out, n57.out, hbw.out⟩))
     have he0 := Aside0.mk (fun hh : (treeS (k : Int) l).part.all (· == 0) = false => (show Ends w k l (.returned (.tuple #[.slice none 0 0, .slice none 0 0, .bool false])) wr from ⟨_, _, false, rfl, hh.symm, T.nil, T.nil, NE.nil, hbw.out⟩))
     clear t5 t7 n56 n57 hbw HO HL hol hlh
     go_wp2_with (fail)
     go_loop [15] (fun v => ∃ j : Nat, j ≤ k ∧ v = .int .i64 j ∧ Aside0 (((treeS (k : Int) l).part.take j).all (· == 0) = true)) (fun v => k - (intOf v).toNat)
     case atStart => exact ⟨0, by omega, rfl, ⟨by simp⟩⟩
     case round =>
      obtain ⟨j, hj, rfl, ha⟩ := hrel
      by_cases hjk : j < k
      ·have hjk' : decide ((j : Int) < (k : Int)) = true := by simpa using hjk
       have hpc := (t6.out.cell j hjk).1
       have ht := Aside0.mk (show (treeS (k : Int) l).part.take (j + 1) = (treeS (k : Int) l).part.take j ++ [rd (treeS (k : Int) l).part j] by rw [List.take_succ_eq_append_getElem (by omega), rd_nat _ _ (by omega)])
       by_cases h0 : rd (treeS (k : Int) l).part j = 0
       ·have h0' : (rd (treeS (k : Int) l).part j != 0) = false := by simpa using h0
        have ha1 := Aside0.mk (show ((treeS (k : Int) l).part.take (j + 1)).all (· == 0) = true by rw [ht.out, List.all_append, ha.out]; simp [h0])
        clear h0
        go_wp2_with (fail)
        go_round
        case rel => exact ⟨j + 1, by omega, by go_num, ha1⟩
        case measure => simp [intOf]; omega
       ·have h0' : (rd (treeS (k : Int) l).part j != 0) = true := by simpa using h0
        have hf := Aside0.mk (show (treeS (k : Int) l).part.all (· == 0) = false by rw [List.all_eq_false]; exact ⟨rd (treeS (k : Int) l).part j, by rw [rd_nat _ _ (by omega)]; exact List.getElem_mem _, by simpa using h0⟩)
        clear h0
        go_wp2_with (fail)
        go_ret3
        exact he0.out hf.out
      ·obtain rfl : j = k := by omega
       have hjk' : decide ((j : Int) < (j : Int)) = false := by simp
       have hf := Aside0.mk (show (treeS (j : Int) l).part.all (· == 0) = true by have h := ha.out; rwa [List.take_of_length_le (by omega)] at h)
       go_wp2_with (fail)
       go_ret3
       exact he5.out hf.out
end Go.Proofs.Ytkafbmanmffliaa.Hd

