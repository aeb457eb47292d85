/- Parts of the proof that the law of this seat holds: Q56, Q57, Bg, PuG, PuG2, Da. -/
import Derived.Test.YtkafbmanmffliaaGLpa
import Derived.Lib.EndianBits
import Derived.StillTailTactics
import Derived.Deep.QuietTactic
import Derived.BigQuiet
set_option linter.unusedVariables false
set_option linter.unusedSimpArgs false
namespace Go.Proofs.Ytkafbmanmffliaa.Q
open Go.RowKit YtkafbmanmffliaaW.PrintWords YtkafbmanmffliaaW.PrintLast YtkafbmanmffliaaW.PrintMore
attribute [local go_sem] max2_int min2_int max_two min_two max_three min_three max_four min_four
def impl_addMag.l0 : Nat → List Int → List Int → List Int → Int → Int → Int → Option (List Int)
 | 0, _, _, _, _, _, _ => none
 | k + 1, x0, x1, x5, x6, x16, x17 => if x17 < x16 then (if x17 < (x0.length : Int) then (if 0 ≤ x17 then (if x17 < (x1.length : Int) then (if x17 < (x5.length : Int) then (impl_addMag.l0 k x0 x1 (x5.set (x17 : Int).toNat ((IntKind.u64.wrap ((IntKind.u64.wrap (x6 + (IntKind.u64.wrap (rd x0 x17)))) + (IntKind.u64.wrap (rd x1 x17)))) % 4294967296)) ((IntKind.u64.wrap ((IntKind.u64.wrap (x6 + (IntKind.u64.wrap (rd x0 x17)))) + (IntKind.u64.wrap (rd x1 x17)))) / 4294967296) x16 (wrap64 (x17 + 1))) else (none)) else (if x17 < (x5.length : Int) then (impl_addMag.l0 k x0 x1 (x5.set (x17 : Int).toNat ((IntKind.u64.wrap (x6 + (IntKind.u64.wrap (rd x0 x17)))) % 4294967296)) ((IntKind.u64.wrap (x6 + (IntKind.u64.wrap (rd x0 x17)))) / 4294967296) x16 (wrap64 (x17 + 1))) else (none))) else (none)) else (if x17 < (x1.length : Int) then (if 0 ≤ x17 then (if x17 < (x5.length : Int) then (impl_addMag.l0 k x0 x1 (x5.set (x17 : Int).toNat ((IntKind.u64.wrap (x6 + (IntKind.u64.wrap (rd x1 x17)))) % 4294967296)) ((IntKind.u64.wrap (x6 + (IntKind.u64.wrap (rd x1 x17)))) / 4294967296) x16 (wrap64 (x17 + 1))) else (none)) else (none)) else (if 0 ≤ x17 then (if x17 < (x5.length : Int) then (impl_addMag.l0 k x0 x1 (x5.set (x17 : Int).toNat ((x6) % 4294967296)) (x6 / 4294967296) x16 (wrap64 (x17 + 1))) else (none)) else (none)))) else ((impl_trimmed.f k x5).bind fun t318 => (some t318))
def impl_addMag.f (k : Nat) (l0 : List Int) (l1 : List Int) : Option (List Int) := if 0 ≤ (wrap64 ((mx (l0.length : Int) (l1.length : Int)) + 1)) then (if (wrap64 ((mx (l0.length : Int) (l1.length : Int)) + 1) : Int).toNat ≤ 70368744177664 then ((some (List.replicate (wrap64 ((mx (l0.length : Int) (l1.length : Int)) + 1) : Int).toNat 0 : List Int)).bind fun y315 => (impl_addMag.l0 k l0 l1 y315 0 (y315.length : Int) 0)) else (none)) else (none)
theorem impl_addMag.mono_l : ∀ k, (∀ y0 y1 y2 y3 y4 y5, LeO (impl_addMag.l0 k y0 y1 y2 y3 y4 y5) (impl_addMag.l0 (k + 1) y0 y1 y2 y3 y4 y5))
 | 0 => fun _ _ _ _ _ _ r h => by simp [impl_addMag.l0] at h
 | k + 1 => by
  have ih0 := impl_addMag.mono_l k
  ·intro y0 y1 y2 y3 y4 y5
   unfold impl_addMag.l0
   repeat' first
   | (with_reducible exact ih0 _ _ _ _ _ _)
   | (with_reducible exact impl_trimmed.mono _ _)
   | (with_reducible exact LeO.refl _)
   | (with_reducible exact LeO.none _)
   | (with_reducible refine LeO.ite ?_ ?_)
   | (with_reducible refine LeO.bind ?_ (fun _ => ?_))
   | exact ih0 _ _ _ _ _ _
   | exact impl_trimmed.mono _ _
   | exact LeO.none _
   | refine LeO.ite ?_ ?_
   | refine LeO.bind ?_ (fun _ => ?_)
theorem impl_addMag.mono : ∀ a0 a1 k, LeO (impl_addMag.f k a0 a1) (impl_addMag.f (k + 1) a0 a1) := by
 intro a0 a1 k
 have ih0 := impl_addMag.mono_l k
 unfold impl_addMag.f
 repeat' first
   | (with_reducible exact ih0 _ _ _ _ _ _)
   | (with_reducible exact impl_trimmed.mono _ _)
   | (with_reducible exact LeO.refl _)
   | (with_reducible exact LeO.none _)
   | (with_reducible refine LeO.ite ?_ ?_)
   | (with_reducible refine LeO.bind ?_ (fun _ => ?_))
   | exact ih0 _ _ _ _ _ _
   | exact impl_trimmed.mono _ _
   | exact LeO.none _
   | refine LeO.ite ?_ ?_
   | refine LeO.bind ?_ (fun _ => ?_)
set_option maxHeartbeats 8000000 in
set_option maxRecDepth 100000 in
theorem impl_addMag.calls (k : Nat) (A0 : Option Addr) (c0 : Nat) (l0 : List Int) (A1 : Option Addr) (c1 : Nat) (l1 : List Int) (r : List Int) (w : World) (hr0 : Kd.C (Kd.int .u32) w A0 l0.length l0) (hc0 : l0.length ≤ c0) (hr1 : Kd.C (Kd.int .u32) w A1 l1.length l1) (hc1 : l1.length ≤ c1) (h : impl_addMag.f k l0 l1 = some r) :
  Calls Try.prog 150 #[.slice A0 l0.length c0, .slice A1 l1.length c1] w fun e w' => ∃ v0_ : Value, e = .returned (v0_) ∧ Kd.V (Kd.int .u32) 146 w' w.heap.size (fun k_ => (w.heap.size ≤ k_)) v0_ r ∧ Below w.heap.size w w' := by
 have HR0 := Aside0.mk hr0
 have HC0 := Aside0.mk hc0
 clear hr0 hc0
 have HR1 := Aside0.mk hr1
 have HC1 := Aside0.mk hc1
 clear hr1 hc1
 have HB := Aside0.mk (Below.refl w.heap.size w)
 have H : (if 0 ≤ (wrap64 ((mx (l0.length : Int) (l1.length : Int)) + 1)) then (if (wrap64 ((mx (l0.length : Int) (l1.length : Int)) + 1) : Int).toNat ≤ 70368744177664 then ((some (List.replicate (wrap64 ((mx (l0.length : Int) (l1.length : Int)) + 1) : Int).toNat 0 : List Int)).bind fun y315 => (impl_addMag.l0 k l0 l1 y315 0 (y315.length : Int) 0)) else (none)) else (none)) = some r := h
 clear h
 obtain ⟨ji3, hji3⟩ : ∃ j_ : Int, (mx (l0.length : Int) (l1.length : Int)) = j_ := ⟨_, rfl⟩
 replace H : (if 0 ≤ (wrap64 ((ji3) + 1)) then (if (wrap64 ((ji3) + 1) : Int).toNat ≤ 70368744177664 then ((some (List.replicate (wrap64 ((ji3) + 1) : Int).toNat 0 : List Int)).bind fun y315 => (impl_addMag.l0 k l0 l1 y315 0 (y315.length : Int) 0)) else (none)) else (none)) = some r := by first | (rw [hji3] at H; exact H) | (simp only [hji3] at H ⊢; exact H)
 (try (have hji3l : 0 ≤ ji3 := by (rw [← hji3]; unfold mx; (repeat' split) <;> omega)))
 (try (have hji3m : 0 ≤ ji3 := by omega))
 have hji3_ : (if (l0.length : Int) < (l1.length : Int) then (l1.length : Int) else (l0.length : Int)) = ji3 := hji3
 have hji3n : (if l0.length < l1.length then (l1.length : Int) else (l0.length : Int)) = ji3 := by rw [← hji3_]; simp only [Int.ofNat_lt]
 obtain ⟨ji4, hji4⟩ : ∃ j_ : Int, (wrap64 ((ji3) + 1)) = j_ := ⟨_, rfl⟩
 replace H : (if 0 ≤ (ji4) then (if (ji4 : Int).toNat ≤ 70368744177664 then ((some (List.replicate (ji4 : Int).toNat 0 : List Int)).bind fun y315 => (impl_addMag.l0 k l0 l1 y315 0 (y315.length : Int) 0)) else (none)) else (none)) = some r := by first | (rw [hji4] at H; exact H) | (simp only [hji4] at H ⊢; exact H)
 have hji4w : (IntKind.i64.wrap ((ji3) + 1)) = ji4 := (i64_w _).trans hji4
 by_cases c5 : 0 ≤ (ji4)
 ·rw [if_pos c5] at H
  have c5b0 := eq_true c5
  have c5b1 : decide (0 ≤ (ji4)) = true := decide_eq_true c5
  clear c5
  by_cases c6 : (ji4 : Int).toNat ≤ 70368744177664
  ·rw [if_pos c6] at H
   have c6b0 := eq_true c6
   have c6b1 : decide ((ji4 : Int).toNat ≤ 70368744177664) = true := decide_eq_true c6
   clear c6
   obtain ⟨y315, hy315⟩ : ∃ y_ : List Int, y_ = (List.replicate (ji4 : Int).toNat 0) := ⟨_, rfl⟩
   replace H : (impl_addMag.l0 k l0 l1 y315 0 (y315.length : Int) 0) = some r := by first | (rw [hy315]; with_reducible exact H) | (have H2_ := (Option.bind_some _ _).symm.trans H; rw [hy315]; with_reducible exact H2_) | (have H2_ := (Option.bind_some _ _).symm.trans H; with_reducible exact H2_) | with_reducible exact H | (rw [hy315]; exact H) | exact H
   have Ny315 := Aside0.mk hy315
   clear hy315
   have H' := Aside0.mk H
   clear H
   go_enter Try.func150, Try.ntmps150
   go_wp2_with (first | ((with_reducible refine gate_dst (N := 14) rfl ?_); refine Kd.R_make (Kd.int .u32) _ 146 rfl (N := 14) rfl 108 _ _ rfl ji4 rfl rfl Try.underlying108 (.int .u32 0) 4 info146 rfl (by decide) (by omega) 0 (ok := fun _ => True) (okp := fun _ => True) rfl (fun _ hk => hk) trivial (of_decide_eq_true (by first | (with_reducible assumption) | assumption)) (Nat.le_trans (Nat.mul_le_mul_right _ (of_decide_eq_true (by first | (with_reducible assumption) | assumption) : ji4.toNat ≤ 70368744177664)) (by omega)) (Below.refl _ _) (Nat.le_refl _) ?_; intro v316 w7 ho8 hb hg_ hnew_; clear hg_ hnew_; (first | rw [← Ny315.out] at ho8 | (simp only [Int.reduceToNat] at ho8; rw [← Ny315.out] at ho8)); have n0_ := Aside0.mk (Kd.R_lower (Kd.R_newM (M := fun k_ => (w.heap.size ≤ k_)) ho8 (below_size (by repeat (first | (with_reducible first | exact HB.out | apply below_alloc | apply pw_below_drewN | apply below_drew1) | exact HB.out))) (fun k_ h_ => h_)) (below_size (by repeat (first | (with_reducible first | exact HB.out | apply below_alloc | apply pw_below_drewN | apply below_drew1) | exact HB.out)))); have n1_ := Aside0.mk (below_step (by repeat (first | (with_reducible first | exact HB.out | apply below_alloc | apply pw_below_drewN | apply below_drew1) | exact HB.out)) hb); clear HB; have HO317 := n0_; have HB := n1_; clear n0_ n1_; clear hb ho8; obtain ⟨Ao9, co9, eo9⟩ := Kd.R_slice HO317.out; subst eo9))
   go_loopg [6, 17] k (fun kq v6 v17 w' => ∃ (x5_1 : List Int) (x6_1 : Int) (x17_1 : Int), v6 = .int .u64 x6_1 ∧ v17 = .int .i64 x17_1 ∧ Aside0 (impl_addMag.l0 kq l0 l1 x5_1 x6_1 (y315.length : Int) x17_1 = some r) ∧ Aside0 (kq ≤ k) ∧ Aside0 (Kd.R (Kd.int .u32) 146 w' w.heap.size (fun k_ => (w.heap.size ≤ k_)) (.slice Ao9 y315.length co9) x5_1) ∧ Aside0 (Below w.heap.size w w'))
   case atStart => exact ⟨(y315), (0), (0), (by first | rfl | (simp; done) | (simp [*]; done)), (by first | rfl | (simp; done) | (simp [*]; done)), H', ⟨Nat.le_refl _⟩, ⟨by (with_reducible repeat (first | apply Kd.R_alloc | apply Kd.R_drewN | apply Kd.R_drew)); exact Kd.R_mono HO317.out (fun _ hk => hk.1)⟩, ⟨by repeat (first | (with_reducible first | exact HB.out | apply below_alloc | apply pw_below_drewN | apply below_drew1) | exact HB.out)⟩⟩
   case round =>
    clear H'
    try clear c1
    try clear p2
    try clear c5
    try clear c5b0
    try clear c5b1
    try clear c6
    try clear c6b0
    try clear c6b1
    try clear p6
    obtain ⟨x5_1, x6_1, x17_1, rfl, rfl, HA, HK1, HO_5, HB⟩ := hrel
    have hl5_1 := (Kd.R_reads' HO_5.out).1
    rw [hl5_1] at HO_5
    (try simp only [hl5_1])
    cases gk with
    | zero => exact absurd HA.out (by simp [impl_addMag.l0])
    | succ k1 =>
     have H := HA.out
     clear HA
     simp only [impl_addMag.l0] at H
     by_cases c10 : x17_1 < (y315.length : Int)
     ·rw [if_pos c10] at H
      have c10b0 : decide (x17_1 < (y315.length : Int)) = true := decide_eq_true c10
      clear c10
      by_cases c11 : x17_1 < (l0.length : Int)
      ·rw [if_pos c11] at H
       have c11b0 : decide (x17_1 < (l0.length : Int)) = true := decide_eq_true c11
       clear c11
       by_cases c12 : 0 ≤ x17_1
       ·rw [if_pos c12] at H
        have c12b0 : decide (0 ≤ x17_1) = true := decide_eq_true c12
        clear c12
        by_cases c13 : x17_1 < (l1.length : Int)
        ·rw [if_pos c13] at H
         have c13b0 : decide (x17_1 < (l1.length : Int)) = true := decide_eq_true c13
         clear c13
         by_cases c14 : x17_1 < (x5_1.length : Int)
         ·rw [if_pos c14] at H
          have c14b0 : decide (x17_1 < (x5_1.length : Int)) = true := decide_eq_true c14
          clear c14
          obtain ⟨y323, hy323⟩ : ∃ y_ : List Int, y_ = (x5_1.set (x17_1 : Int).toNat ((IntKind.u64.wrap ((IntKind.u64.wrap (x6_1 + (IntKind.u64.wrap (rd l0 x17_1)))) + (IntKind.u64.wrap (rd l1 x17_1)))) % 4294967296)) := ⟨_, rfl⟩
          replace H : (impl_addMag.l0 k1 l0 l1 y323 ((IntKind.u64.wrap ((IntKind.u64.wrap (x6_1 + (IntKind.u64.wrap (rd l0 x17_1)))) + (IntKind.u64.wrap (rd l1 x17_1)))) / 4294967296) (y315.length : Int) (wrap64 (x17_1 + 1))) = some r := by first | (rw [hy323]; with_reducible exact H) | (have H2_ := (Option.bind_some _ _).symm.trans H; rw [hy323]; with_reducible exact H2_) | (have H2_ := (Option.bind_some _ _).symm.trans H; with_reducible exact H2_) | with_reducible exact H | (rw [hy323]; exact H) | exact H
          have Ny323 := Aside0.mk hy323
          clear hy323
          have H' := Aside0.mk H
          clear H
          have p321 : 0 ≤ (x17_1 : Int) := of_decide_eq_true (by first | (with_reducible assumption) | assumption)
          have q321 : x17_1 < (l0.length : Int) := of_decide_eq_true (by first | (with_reducible assumption) | assumption)
          obtain ⟨ad321, e321, hx321_0⟩ := Kd.at_int HR0.out x17_1 p321 q321
          cases e321
          replace hx321_0 := (HB.out.cell (World.block_lt_of_cell? w _ hx321_0)).trans hx321_0
          replace p321 := eq_true p321
          replace q321 := eq_true q321
          have p322 : 0 ≤ (x17_1 : Int) := of_decide_eq_true (by first | (with_reducible assumption) | assumption)
          have q322 : x17_1 < (l1.length : Int) := of_decide_eq_true (by first | (with_reducible assumption) | assumption)
          obtain ⟨ad322, e322, hx322_0⟩ := Kd.at_int HR1.out x17_1 p322 q322
          cases e322
          replace hx322_0 := (HB.out.cell (World.block_lt_of_cell? w _ hx322_0)).trans hx322_0
          replace p322 := eq_true p322
          replace q322 := eq_true q322
          have p15 : 0 ≤ (x17_1 : Int) := of_decide_eq_true (by first | (with_reducible assumption) | assumption)
          have q15 : (x17_1 : Int) < ((x5_1.length : Int) : Int) := of_decide_eq_true (by first | (with_reducible assumption) | assumption)
          obtain ⟨go15, co15, eo15, gb15, gl15, cl15, HG15⟩ := Kd.R_form HO_5.out (by omega)
          (first | cases eo15 | (injection eo15 with ea_ en_ ec_; (first | subst ea_ | (injection ea_ with ea_; subst ea_)); subst ec_; clear en_))
          have GB15 := Aside0.mk gb15
          have GG15 := Aside0.mk HG15
          clear gb15 gl15 HG15
          obtain ⟨hx15_0, hf15_0⟩ := Kd.R_celln 0 HO_5.out (x17_1 : Int) p15 q15
          replace p15 := eq_true p15
          replace q15 := eq_true q15
          have HP16 := Kd.R_putg HO_5.out (x17_1 : Int) ((IntKind.u64.wrap ((IntKind.u64.wrap (x6_1 + (IntKind.u64.wrap (rd l0 x17_1)))) + (IntKind.u64.wrap (rd l1 x17_1)))) % 4294967296)
          go_wp2_with (first | ((with_reducible refine gate_store (t := 146) (p := 48) rfl ?_); refine store_event (t := 146) (p := 48) (v := ?vo_w17) (w1 := (wr.setCell ⟨go15, (x17_1 : Int).toNat, none⟩ (.int .u32 ((IntKind.u64.wrap ((IntKind.u64.wrap (x6_1 + (IntKind.u64.wrap (rd l0 x17_1)))) + (IntKind.u64.wrap (rd l1 x17_1)))) % 4294967296)))) ?hg ?ho ?hn ?hr ?_; (case ho => rfl); (case hg => rfl); (case hn => rfl); (case hr => first | (go_simp; done) | (go_simp; rfl)); intro w17 hw; have hg : wr.grownBy w17 (some go15) := (by rw [hw]; exact HP16.2); have hp_ : Kd.R (Kd.int .u32) 146 w17 w.heap.size (fun k_ => (w.heap.size ≤ k_)) (.slice (some ⟨go15, 0, none⟩) x5_1.length co9) y323 := (by rw [hw, Ny323.out]; exact HP16.1); clear HP16; have n0_ := Aside0.mk (hp_); have n1_ := Aside0.mk ((by rw [hw]; exact below_set (HB.out) GB15.out : Below w.heap.size w w17)); clear HO_5; clear HB; have HO_5 := n0_; have HB := n1_; clear n0_ n1_; clear hg hw hp_))
          (try simp only [← hl5_1])
          go_roundg k1
          case measure => have := HK1.out; omega
          case rel => exact ⟨(y323), ((IntKind.u64.wrap ((IntKind.u64.wrap (x6_1 + (IntKind.u64.wrap (rd l0 x17_1)))) + (IntKind.u64.wrap (rd l1 x17_1)))) / 4294967296), (wrap64 (x17_1 + 1)), (by first | rfl | (simp; done) | (simp [*]; done)), (by first | rfl | (simp; done) | (simp [*]; done)), H', ⟨by have := HK1.out; omega⟩, ⟨by (try simp only [hl5_1]); (with_reducible repeat (first | apply Kd.R_alloc | apply Kd.R_drewN | apply Kd.R_drew)); exact HO_5.out⟩, ⟨by repeat (first | (with_reducible first | exact HB.out | apply below_alloc | apply pw_below_drewN | apply below_drew1) | exact HB.out)⟩⟩
         ·rw [if_neg c14] at H
          exact absurd H (by simp)
        ·rw [if_neg c13] at H
         have c13b0 : decide (x17_1 < (l1.length : Int)) = false := decide_eq_false c13
         clear c13
         by_cases c18 : x17_1 < (x5_1.length : Int)
         ·rw [if_pos c18] at H
          have c18b0 : decide (x17_1 < (x5_1.length : Int)) = true := decide_eq_true c18
          clear c18
          obtain ⟨y324, hy324⟩ : ∃ y_ : List Int, y_ = (x5_1.set (x17_1 : Int).toNat ((IntKind.u64.wrap (x6_1 + (IntKind.u64.wrap (rd l0 x17_1)))) % 4294967296)) := ⟨_, rfl⟩
          replace H : (impl_addMag.l0 k1 l0 l1 y324 ((IntKind.u64.wrap (x6_1 + (IntKind.u64.wrap (rd l0 x17_1)))) / 4294967296) (y315.length : Int) (wrap64 (x17_1 + 1))) = some r := by first | (rw [hy324]; with_reducible exact H) | (have H2_ := (Option.bind_some _ _).symm.trans H; rw [hy324]; with_reducible exact H2_) | (have H2_ := (Option.bind_some _ _).symm.trans H; with_reducible exact H2_) | with_reducible exact H | (rw [hy324]; exact H) | exact H
          have Ny324 := Aside0.mk hy324
          clear hy324
          have H' := Aside0.mk H
          clear H
          have p321 : 0 ≤ (x17_1 : Int) := of_decide_eq_true (by first | (with_reducible assumption) | assumption)
          have q321 : x17_1 < (l0.length : Int) := of_decide_eq_true (by first | (with_reducible assumption) | assumption)
          obtain ⟨ad321, e321, hx321_0⟩ := Kd.at_int HR0.out x17_1 p321 q321
          cases e321
          replace hx321_0 := (HB.out.cell (World.block_lt_of_cell? w _ hx321_0)).trans hx321_0
          replace p321 := eq_true p321
          replace q321 := eq_true q321
          have p19 : 0 ≤ (x17_1 : Int) := of_decide_eq_true (by first | (with_reducible assumption) | assumption)
          have q19 : (x17_1 : Int) < ((x5_1.length : Int) : Int) := of_decide_eq_true (by first | (with_reducible assumption) | assumption)
          obtain ⟨go19, co19, eo19, gb19, gl19, cl19, HG19⟩ := Kd.R_form HO_5.out (by omega)
          (first | cases eo19 | (injection eo19 with ea_ en_ ec_; (first | subst ea_ | (injection ea_ with ea_; subst ea_)); subst ec_; clear en_))
          have GB19 := Aside0.mk gb19
          have GG19 := Aside0.mk HG19
          clear gb19 gl19 HG19
          obtain ⟨hx19_0, hf19_0⟩ := Kd.R_celln 0 HO_5.out (x17_1 : Int) p19 q19
          replace p19 := eq_true p19
          replace q19 := eq_true q19
          have HP20 := Kd.R_putg HO_5.out (x17_1 : Int) ((IntKind.u64.wrap (x6_1 + (IntKind.u64.wrap (rd l0 x17_1)))) % 4294967296)
          go_wp2_with (first | ((with_reducible refine gate_store (t := 146) (p := 48) rfl ?_); refine store_event (t := 146) (p := 48) (v := ?vo_w21) (w1 := (wr.setCell ⟨go19, (x17_1 : Int).toNat, none⟩ (.int .u32 ((IntKind.u64.wrap (x6_1 + (IntKind.u64.wrap (rd l0 x17_1)))) % 4294967296)))) ?hg ?ho ?hn ?hr ?_; (case ho => rfl); (case hg => rfl); (case hn => rfl); (case hr => first | (go_simp; done) | (go_simp; rfl)); intro w21 hw; have hg : wr.grownBy w21 (some go19) := (by rw [hw]; exact HP20.2); have hp_ : Kd.R (Kd.int .u32) 146 w21 w.heap.size (fun k_ => (w.heap.size ≤ k_)) (.slice (some ⟨go19, 0, none⟩) x5_1.length co9) y324 := (by rw [hw, Ny324.out]; exact HP20.1); clear HP20; have n0_ := Aside0.mk (hp_); have n1_ := Aside0.mk ((by rw [hw]; exact below_set (HB.out) GB19.out : Below w.heap.size w w21)); clear HO_5; clear HB; have HO_5 := n0_; have HB := n1_; clear n0_ n1_; clear hg hw hp_))
          (try simp only [← hl5_1])
          go_roundg k1
          case measure => have := HK1.out; omega
          case rel => exact ⟨(y324), ((IntKind.u64.wrap (x6_1 + (IntKind.u64.wrap (rd l0 x17_1)))) / 4294967296), (wrap64 (x17_1 + 1)), (by first | rfl | (simp; done) | (simp [*]; done)), (by first | rfl | (simp; done) | (simp [*]; done)), H', ⟨by have := HK1.out; omega⟩, ⟨by (try simp only [hl5_1]); (with_reducible repeat (first | apply Kd.R_alloc | apply Kd.R_drewN | apply Kd.R_drew)); exact HO_5.out⟩, ⟨by repeat (first | (with_reducible first | exact HB.out | apply below_alloc | apply pw_below_drewN | apply below_drew1) | exact HB.out)⟩⟩
         ·rw [if_neg c18] at H
          exact absurd H (by simp)
       ·rw [if_neg c12] at H
        exact absurd H (by simp)
      ·rw [if_neg c11] at H
       have c11b0 : decide (x17_1 < (l0.length : Int)) = false := decide_eq_false c11
       clear c11
       by_cases c22 : x17_1 < (l1.length : Int)
       ·rw [if_pos c22] at H
        have c22b0 : decide (x17_1 < (l1.length : Int)) = true := decide_eq_true c22
        clear c22
        by_cases c23 : 0 ≤ x17_1
        ·rw [if_pos c23] at H
         have c23b0 : decide (0 ≤ x17_1) = true := decide_eq_true c23
         clear c23
         by_cases c24 : x17_1 < (x5_1.length : Int)
         ·rw [if_pos c24] at H
          have c24b0 : decide (x17_1 < (x5_1.length : Int)) = true := decide_eq_true c24
          clear c24
          obtain ⟨y326, hy326⟩ : ∃ y_ : List Int, y_ = (x5_1.set (x17_1 : Int).toNat ((IntKind.u64.wrap (x6_1 + (IntKind.u64.wrap (rd l1 x17_1)))) % 4294967296)) := ⟨_, rfl⟩
          replace H : (impl_addMag.l0 k1 l0 l1 y326 ((IntKind.u64.wrap (x6_1 + (IntKind.u64.wrap (rd l1 x17_1)))) / 4294967296) (y315.length : Int) (wrap64 (x17_1 + 1))) = some r := by first | (rw [hy326]; with_reducible exact H) | (have H2_ := (Option.bind_some _ _).symm.trans H; rw [hy326]; with_reducible exact H2_) | (have H2_ := (Option.bind_some _ _).symm.trans H; with_reducible exact H2_) | with_reducible exact H | (rw [hy326]; exact H) | exact H
          have Ny326 := Aside0.mk hy326
          clear hy326
          have H' := Aside0.mk H
          clear H
          have p325 : 0 ≤ (x17_1 : Int) := of_decide_eq_true (by first | (with_reducible assumption) | assumption)
          have q325 : x17_1 < (l1.length : Int) := of_decide_eq_true (by first | (with_reducible assumption) | assumption)
          obtain ⟨ad325, e325, hx325_0⟩ := Kd.at_int HR1.out x17_1 p325 q325
          cases e325
          replace hx325_0 := (HB.out.cell (World.block_lt_of_cell? w _ hx325_0)).trans hx325_0
          replace p325 := eq_true p325
          replace q325 := eq_true q325
          have p25 : 0 ≤ (x17_1 : Int) := of_decide_eq_true (by first | (with_reducible assumption) | assumption)
          have q25 : (x17_1 : Int) < ((x5_1.length : Int) : Int) := of_decide_eq_true (by first | (with_reducible assumption) | assumption)
          obtain ⟨go25, co25, eo25, gb25, gl25, cl25, HG25⟩ := Kd.R_form HO_5.out (by omega)
          (first | cases eo25 | (injection eo25 with ea_ en_ ec_; (first | subst ea_ | (injection ea_ with ea_; subst ea_)); subst ec_; clear en_))
          have GB25 := Aside0.mk gb25
          have GG25 := Aside0.mk HG25
          clear gb25 gl25 HG25
          obtain ⟨hx25_0, hf25_0⟩ := Kd.R_celln 0 HO_5.out (x17_1 : Int) p25 q25
          replace p25 := eq_true p25
          replace q25 := eq_true q25
          have HP26 := Kd.R_putg HO_5.out (x17_1 : Int) ((IntKind.u64.wrap (x6_1 + (IntKind.u64.wrap (rd l1 x17_1)))) % 4294967296)
          go_wp2_with (first | ((with_reducible refine gate_store (t := 146) (p := 48) rfl ?_); refine store_event (t := 146) (p := 48) (v := ?vo_w27) (w1 := (wr.setCell ⟨go25, (x17_1 : Int).toNat, none⟩ (.int .u32 ((IntKind.u64.wrap (x6_1 + (IntKind.u64.wrap (rd l1 x17_1)))) % 4294967296)))) ?hg ?ho ?hn ?hr ?_; (case ho => rfl); (case hg => rfl); (case hn => rfl); (case hr => first | (go_simp; done) | (go_simp; rfl)); intro w27 hw; have hg : wr.grownBy w27 (some go25) := (by rw [hw]; exact HP26.2); have hp_ : Kd.R (Kd.int .u32) 146 w27 w.heap.size (fun k_ => (w.heap.size ≤ k_)) (.slice (some ⟨go25, 0, none⟩) x5_1.length co9) y326 := (by rw [hw, Ny326.out]; exact HP26.1); clear HP26; have n0_ := Aside0.mk (hp_); have n1_ := Aside0.mk ((by rw [hw]; exact below_set (HB.out) GB25.out : Below w.heap.size w w27)); clear HO_5; clear HB; have HO_5 := n0_; have HB := n1_; clear n0_ n1_; clear hg hw hp_))
          (try simp only [← hl5_1])
          go_roundg k1
          case measure => have := HK1.out; omega
          case rel => exact ⟨(y326), ((IntKind.u64.wrap (x6_1 + (IntKind.u64.wrap (rd l1 x17_1)))) / 4294967296), (wrap64 (x17_1 + 1)), (by first | rfl | (simp; done) | (simp [*]; done)), (by first | rfl | (simp; done) | (simp [*]; done)), H', ⟨by have := HK1.out; omega⟩, ⟨by (try simp only [hl5_1]); (with_reducible repeat (first | apply Kd.R_alloc | apply Kd.R_drewN | apply Kd.R_drew)); exact HO_5.out⟩, ⟨by repeat (first | (with_reducible first | exact HB.out | apply below_alloc | apply pw_below_drewN | apply below_drew1) | exact HB.out)⟩⟩
         ·rw [if_neg c24] at H
          exact absurd H (by simp)
        ·rw [if_neg c23] at H
         exact absurd H (by simp)
       ·rw [if_neg c22] at H
        have c22b0 : decide (x17_1 < (l1.length : Int)) = false := decide_eq_false c22
        clear c22
        by_cases c28 : 0 ≤ x17_1
        ·rw [if_pos c28] at H
         have c28b0 : decide (0 ≤ x17_1) = true := decide_eq_true c28
         clear c28
         by_cases c29 : x17_1 < (x5_1.length : Int)
         ·rw [if_pos c29] at H
          have c29b0 : decide (x17_1 < (x5_1.length : Int)) = true := decide_eq_true c29
          clear c29
          obtain ⟨y327, hy327⟩ : ∃ y_ : List Int, y_ = (x5_1.set (x17_1 : Int).toNat ((x6_1) % 4294967296)) := ⟨_, rfl⟩
          replace H : (impl_addMag.l0 k1 l0 l1 y327 (x6_1 / 4294967296) (y315.length : Int) (wrap64 (x17_1 + 1))) = some r := by first | (rw [hy327]; with_reducible exact H) | (have H2_ := (Option.bind_some _ _).symm.trans H; rw [hy327]; with_reducible exact H2_) | (have H2_ := (Option.bind_some _ _).symm.trans H; with_reducible exact H2_) | with_reducible exact H | (rw [hy327]; exact H) | exact H
          have Ny327 := Aside0.mk hy327
          clear hy327
          have H' := Aside0.mk H
          clear H
          have p30 : 0 ≤ (x17_1 : Int) := of_decide_eq_true (by first | (with_reducible assumption) | assumption)
          have q30 : (x17_1 : Int) < ((x5_1.length : Int) : Int) := of_decide_eq_true (by first | (with_reducible assumption) | assumption)
          obtain ⟨go30, co30, eo30, gb30, gl30, cl30, HG30⟩ := Kd.R_form HO_5.out (by omega)
          (first | cases eo30 | (injection eo30 with ea_ en_ ec_; (first | subst ea_ | (injection ea_ with ea_; subst ea_)); subst ec_; clear en_))
          have GB30 := Aside0.mk gb30
          have GG30 := Aside0.mk HG30
          clear gb30 gl30 HG30
          obtain ⟨hx30_0, hf30_0⟩ := Kd.R_celln 0 HO_5.out (x17_1 : Int) p30 q30
          replace p30 := eq_true p30
          replace q30 := eq_true q30
          have HP31 := Kd.R_putg HO_5.out (x17_1 : Int) ((x6_1) % 4294967296)
          go_wp2_with (first | ((with_reducible refine gate_store (t := 146) (p := 48) rfl ?_); refine store_event (t := 146) (p := 48) (v := ?vo_w32) (w1 := (wr.setCell ⟨go30, (x17_1 : Int).toNat, none⟩ (.int .u32 ((x6_1) % 4294967296)))) ?hg ?ho ?hn ?hr ?_; (case ho => rfl); (case hg => rfl); (case hn => rfl); (case hr => first | (go_simp; done) | (go_simp; rfl)); intro w32 hw; have hg : wr.grownBy w32 (some go30) := (by rw [hw]; exact HP31.2); have hp_ : Kd.R (Kd.int .u32) 146 w32 w.heap.size (fun k_ => (w.heap.size ≤ k_)) (.slice (some ⟨go30, 0, none⟩) x5_1.length co9) y327 := (by rw [hw, Ny327.out]; exact HP31.1); clear HP31; have n0_ := Aside0.mk (hp_); have n1_ := Aside0.mk ((by rw [hw]; exact below_set (HB.out) GB30.out : Below w.heap.size w w32)); clear HO_5; clear HB; have HO_5 := n0_; have HB := n1_; clear n0_ n1_; clear hg hw hp_))
          (try simp only [← hl5_1])
          go_roundg k1
          case measure => have := HK1.out; omega
          case rel => exact ⟨(y327), (x6_1 / 4294967296), (wrap64 (x17_1 + 1)), (by first | rfl | (simp; done) | (simp [*]; done)), (by first | rfl | (simp; done) | (simp [*]; done)), H', ⟨by have := HK1.out; omega⟩, ⟨by (try simp only [hl5_1]); (with_reducible repeat (first | apply Kd.R_alloc | apply Kd.R_drewN | apply Kd.R_drew)); exact HO_5.out⟩, ⟨by repeat (first | (with_reducible first | exact HB.out | apply below_alloc | apply pw_below_drewN | apply below_drew1) | exact HB.out)⟩⟩
         ·rw [if_neg c29] at H
          exact absurd H (by simp)
        ·rw [if_neg c28] at H
         exact absurd H (by simp)
     ·rw [if_neg c10] at H
      have c10b0 : decide (x17_1 < (y315.length : Int)) = false := decide_eq_false c10
      have c10b1 : decide (x17_1 < (x5_1.length : Int)) = false := by rw [← hl5_1]; exact c10b0
      clear c10
      replace H := Option.bind_eq_some_iff.mp H
      obtain ⟨t318, A330, H⟩ := H
      replace H : (some t318) = some r := H
      have A33 := Aside0.mk A330
      clear A330
      obtain rfl := Option.some.inj H
      go_wp2_with (first | ((with_reducible refine gate_callee (f := 146) rfl ?_); refine goesL_ (some 51) rfl rfl Try.func146 (by kernel_rfl) rfl #[.slice Ao9 x5_1.length co9] rfl (by (try simp only [List.map_toArray, List.map_cons, List.map_nil]); first | done | rfl | (simp only [List.length_drop, List.length_take]; rfl)) ?_; (with_reducible refine (impl_trimmed.calls k1 (fun k_ => some k_ = (.slice Ao9 x5_1.length co9 : Value).ownBlock) _ _ x5_1 t318 _ ?side1 A33.out).mono ?_); (case side1 => exact Kd.R_V (Kd.R_tight rfl (HO_5.out))); rintro e w34 ⟨v319, rfl, ho0, hb⟩; refine ⟨_, rfl, ?_⟩; have n0_ := Aside0.mk (Kd.R_below (by (with_reducible repeat (first | apply Kd.R_alloc | apply Kd.R_drewN | apply Kd.R_drew)); exact HO_5.out) hb); have n1_ := Aside0.mk (Kd.V_lower (Kd.V_mono (ok' := fun k_ => (w.heap.size ≤ k_)) ho0 (fun k_ hk_ => Or.elim hk_ (fun hs_ => ((HO_5.out).1 k_ hs_.symm)) (fun hn_ => (Nat.le_trans (below_size (by repeat (first | (with_reducible first | exact HB.out | apply below_alloc | apply pw_below_drewN | apply below_drew1) | exact HB.out))) hn_)))) (below_size (by repeat (first | (with_reducible first | exact HB.out | apply below_alloc | apply pw_below_drewN | apply below_drew1) | exact HB.out)))); have n2_ := Aside0.mk (below_step (by repeat (first | (with_reducible first | exact HB.out | apply below_alloc | apply pw_below_drewN | apply below_drew1) | exact HB.out)) hb); clear HO_5; clear HB; have HO_5 := n0_; have HO320 := n1_; have HB := n2_; clear n0_ n1_ n2_; (try clear hb); (try clear hb2); (try clear hk); (try clear hi); (try clear ho0)))
      go_ret
      exact ⟨_, by first | rfl | (simp [errW_none, errW_some] <;> rfl) | (simp only [← hji3, ← hji4]; first | rfl | (simp [errW_none, errW_some] <;> rfl)) | (simp [*, errW_none, errW_some] <;> rfl), by (with_reducible repeat (first | apply Kd.V_alloc | apply Kd.V_drewN | apply Kd.V_drew)); exact HO320.out, by repeat (first | (with_reducible first | exact HB.out | apply below_alloc | apply pw_below_drewN | apply below_drew1) | exact HB.out)⟩
  ·rw [if_neg c6] at H
   exact absurd H (by simp)
 ·rw [if_neg c5] at H
  exact absurd H (by simp)
end Go.Proofs.Ytkafbmanmffliaa.Q

namespace Go.Proofs.Ytkafbmanmffliaa.Q
open Go.RowKit YtkafbmanmffliaaW.PrintWords YtkafbmanmffliaaW.PrintLast YtkafbmanmffliaaW.PrintMore
attribute [local go_sem] max2_int min2_int max_two min_two max_three min_three max_four min_four
def impl_subMag.l0 : Nat → List Int → List Int → Int → List Int → Int → Int → Option (List Int)
 | 0, _, _, _, _, _, _ => none
 | k + 1, x1, x5, x6, x13, x14, x15 => if x15 < x14 then (if 0 ≤ x15 then (if x15 < (x13.length : Int) then (if x15 < (x1.length : Int) then ((bits_Sub32.f (rd x13 x15) (rd x1 x15) x6).bind fun bt333 => (if x15 < (x5.length : Int) then (impl_subMag.l0 k x1 (x5.set (x15 : Int).toNat bt333.1) bt333.2 x13 x14 (wrap64 (x15 + 1))) else (none))) else ((bits_Sub32.f (rd x13 x15) 0 x6).bind fun bt336 => (if x15 < (x5.length : Int) then (impl_subMag.l0 k x1 (x5.set (x15 : Int).toNat bt336.1) bt336.2 x13 x14 (wrap64 (x15 + 1))) else (none)))) else (none)) else (none)) else ((impl_trimmed.f k x5).bind fun t339 => (some t339))
def impl_subMag.f (k : Nat) (l0 : List Int) (l1 : List Int) : Option (List Int) := if 0 ≤ (l0.length : Int) then (if ((l0.length : Int) : Int).toNat ≤ 70368744177664 then (impl_subMag.l0 k l1 (List.replicate ((l0.length : Int) : Int).toNat 0) 0 l0 (l0.length : Int) 0) else (none)) else (none)
theorem impl_subMag.mono_l : ∀ k, (∀ y0 y1 y2 y3 y4 y5, LeO (impl_subMag.l0 k y0 y1 y2 y3 y4 y5) (impl_subMag.l0 (k + 1) y0 y1 y2 y3 y4 y5))
 | 0 => fun _ _ _ _ _ _ r h => by simp [impl_subMag.l0] at h
 | k + 1 => by
  have ih0 := impl_subMag.mono_l k
  ·intro y0 y1 y2 y3 y4 y5
   unfold impl_subMag.l0
   repeat' first
   | (with_reducible exact ih0 _ _ _ _ _ _)
   | (with_reducible exact impl_trimmed.mono _ _)
   | (with_reducible exact LeO.refl _)
   | (with_reducible exact LeO.none _)
   | (with_reducible refine LeO.ite ?_ ?_)
   | (with_reducible refine LeO.bind ?_ (fun _ => ?_))
   | exact ih0 _ _ _ _ _ _
   | exact impl_trimmed.mono _ _
   | exact LeO.none _
   | refine LeO.ite ?_ ?_
   | refine LeO.bind ?_ (fun _ => ?_)
theorem impl_subMag.mono : ∀ a0 a1 k, LeO (impl_subMag.f k a0 a1) (impl_subMag.f (k + 1) a0 a1) := by
 intro a0 a1 k
 have ih0 := impl_subMag.mono_l k
 unfold impl_subMag.f
 repeat' first
   | (with_reducible exact ih0 _ _ _ _ _ _)
   | (with_reducible exact impl_trimmed.mono _ _)
   | (with_reducible exact LeO.refl _)
   | (with_reducible exact LeO.none _)
   | (with_reducible refine LeO.ite ?_ ?_)
   | (with_reducible refine LeO.bind ?_ (fun _ => ?_))
   | exact ih0 _ _ _ _ _ _
   | exact impl_trimmed.mono _ _
   | exact LeO.none _
   | refine LeO.ite ?_ ?_
   | refine LeO.bind ?_ (fun _ => ?_)
set_option maxHeartbeats 8000000 in
set_option maxRecDepth 100000 in
theorem impl_subMag.calls (k : Nat) (A0 : Option Addr) (c0 : Nat) (l0 : List Int) (A1 : Option Addr) (c1 : Nat) (l1 : List Int) (r : List Int) (w : World) (hr0 : Kd.C (Kd.int .u32) w A0 l0.length l0) (hc0 : l0.length ≤ c0) (hr1 : Kd.C (Kd.int .u32) w A1 l1.length l1) (hc1 : l1.length ≤ c1) (h : impl_subMag.f k l0 l1 = some r) :
  Calls Try.prog 151 #[.slice A0 l0.length c0, .slice A1 l1.length c1] w fun e w' => ∃ v0_ : Value, e = .returned (v0_) ∧ Kd.V (Kd.int .u32) 146 w' w.heap.size (fun k_ => (w.heap.size ≤ k_)) v0_ r ∧ Below w.heap.size w w' := by
 have HR0 := Aside0.mk hr0
 have HC0 := Aside0.mk hc0
 clear hr0 hc0
 have HR1 := Aside0.mk hr1
 have HC1 := Aside0.mk hc1
 clear hr1 hc1
 have HB := Aside0.mk (Below.refl w.heap.size w)
 have H : (if 0 ≤ (l0.length : Int) then (if ((l0.length : Int) : Int).toNat ≤ 70368744177664 then (impl_subMag.l0 k l1 (List.replicate ((l0.length : Int) : Int).toNat 0) 0 l0 (l0.length : Int) 0) else (none)) else (none)) = some r := h
 clear h
 by_cases c3 : 0 ≤ (l0.length : Int)
 ·rw [if_pos c3] at H
  have c3b0 := eq_true c3
  have c3b1 : decide (0 ≤ (l0.length : Int)) = true := decide_eq_true c3
  clear c3
  by_cases c4 : ((l0.length : Int) : Int).toNat ≤ 70368744177664
  ·rw [if_pos c4] at H
   have c4b0 := eq_true c4
   have c4b1 : decide (((l0.length : Int) : Int).toNat ≤ 70368744177664) = true := decide_eq_true c4
   clear c4
   obtain ⟨y328, hy328⟩ : ∃ y_ : List Int, y_ = (List.replicate ((l0.length : Int) : Int).toNat 0) := ⟨_, rfl⟩
   replace H : (impl_subMag.l0 k l1 y328 0 l0 (l0.length : Int) 0) = some r := by first | (rw [hy328]; with_reducible exact H) | (have H2_ := (Option.bind_some _ _).symm.trans H; rw [hy328]; with_reducible exact H2_) | (have H2_ := (Option.bind_some _ _).symm.trans H; with_reducible exact H2_) | with_reducible exact H | (rw [hy328]; exact H) | exact H
   have Ny328 := Aside0.mk hy328
   clear hy328
   have H' := Aside0.mk H
   clear H
   go_enter Try.func151, Try.ntmps151
   go_wp2_with (first | ((with_reducible refine gate_dst (N := 12) rfl ?_); refine Kd.R_make (Kd.int .u32) _ 146 rfl (N := 12) rfl 108 _ _ rfl (l0.length : Int) rfl rfl Try.underlying108 (.int .u32 0) 4 info146 rfl (by decide) (by omega) 0 (ok := fun _ => True) (okp := fun _ => True) rfl (fun _ hk => hk) trivial (of_decide_eq_true (by first | (with_reducible assumption) | assumption)) (Nat.le_trans (Nat.mul_le_mul_right _ (of_decide_eq_true (by first | (with_reducible assumption) | assumption) : (l0.length : Int).toNat ≤ 70368744177664)) (by omega)) (Below.refl _ _) (Nat.le_refl _) ?_; intro v329 w5 ho6 hb hg_ hnew_; clear hg_ hnew_; (first | rw [← Ny328.out] at ho6 | (simp only [Int.reduceToNat] at ho6; rw [← Ny328.out] at ho6)); have n0_ := Aside0.mk (Kd.R_lower (Kd.R_newM (M := fun k_ => (w.heap.size ≤ k_)) ho6 (below_size (by repeat (first | (with_reducible first | exact HB.out | apply below_alloc | apply pw_below_drewN | apply below_drew1) | exact HB.out))) (fun k_ h_ => h_)) (below_size (by repeat (first | (with_reducible first | exact HB.out | apply below_alloc | apply pw_below_drewN | apply below_drew1) | exact HB.out)))); have n1_ := Aside0.mk (below_step (by repeat (first | (with_reducible first | exact HB.out | apply below_alloc | apply pw_below_drewN | apply below_drew1) | exact HB.out)) hb); clear HB; have HO330 := n0_; have HB := n1_; clear n0_ n1_; clear hb ho6))
   go_loopg [6, 15] k (fun kq v6 v15 w' => ∃ (x5_1 : List Int) (x6_1 : Int) (x15_1 : Int), v6 = .int .u32 x6_1 ∧ v15 = .int .i64 x15_1 ∧ Aside0 (impl_subMag.l0 kq l1 x5_1 x6_1 l0 (l0.length : Int) x15_1 = some r) ∧ Aside0 (kq ≤ k) ∧ Aside0 (Kd.R (Kd.int .u32) 146 w' w.heap.size (fun k_ => (w.heap.size ≤ k_)) v329 x5_1) ∧ Aside0 (Below w.heap.size w w'))
   case atStart => exact ⟨(y328), (0), (0), (by first | rfl | (simp; done) | (simp [*]; done)), (by first | rfl | (simp; done) | (simp [*]; done)), H', ⟨Nat.le_refl _⟩, ⟨by (with_reducible repeat (first | apply Kd.R_alloc | apply Kd.R_drewN | apply Kd.R_drew)); exact Kd.R_mono HO330.out (fun _ hk => hk.1)⟩, ⟨by repeat (first | (with_reducible first | exact HB.out | apply below_alloc | apply pw_below_drewN | apply below_drew1) | exact HB.out)⟩⟩
   case round =>
    clear H'
    try clear c1
    try clear p2
    try clear c3
    try clear c3b0
    try clear c3b1
    try clear c4
    try clear c4b0
    try clear c4b1
    obtain ⟨x5_1, x6_1, x15_1, rfl, rfl, HA, HK1, HO_5, HB⟩ := hrel
    cases gk with
    | zero => exact absurd HA.out (by simp [impl_subMag.l0])
    | succ k1 =>
     have H := HA.out
     clear HA
     simp only [impl_subMag.l0] at H
     by_cases c7 : x15_1 < (l0.length : Int)
     ·rw [if_pos c7] at H
      have c7b0 : decide (x15_1 < (l0.length : Int)) = true := decide_eq_true c7
      clear c7
      by_cases c8 : 0 ≤ x15_1
      ·rw [if_pos c8] at H
       have c8b0 : decide (0 ≤ x15_1) = true := decide_eq_true c8
       clear c8
       by_cases c9 : x15_1 < (l0.length : Int)
       ·rw [if_pos c9] at H
        have c9b0 : decide (x15_1 < (l0.length : Int)) = true := decide_eq_true c9
        clear c9
        by_cases c10 : x15_1 < (l1.length : Int)
        ·rw [if_pos c10] at H
         have c10b0 : decide (x15_1 < (l1.length : Int)) = true := decide_eq_true c10
         clear c10
         replace H := Option.bind_eq_some_iff.mp H
         obtain ⟨⟨t333, t334⟩, A110, H⟩ := H
         replace H : (if x15_1 < (x5_1.length : Int) then (impl_subMag.l0 k1 l1 (x5_1.set (x15_1 : Int).toNat t333) t334 l0 (l0.length : Int) (wrap64 (x15_1 + 1))) else (none)) = some r := H
         have A11 := Aside0.mk A110
         clear A110
         by_cases c12 : x15_1 < (x5_1.length : Int)
         ·rw [if_pos c12] at H
          have c12b0 : decide (x15_1 < (x5_1.length : Int)) = true := decide_eq_true c12
          clear c12
          obtain ⟨y335, hy335⟩ : ∃ y_ : List Int, y_ = (x5_1.set (x15_1 : Int).toNat t333) := ⟨_, rfl⟩
          replace H : (impl_subMag.l0 k1 l1 y335 t334 l0 (l0.length : Int) (wrap64 (x15_1 + 1))) = some r := by first | (rw [hy335]; with_reducible exact H) | (have H2_ := (Option.bind_some _ _).symm.trans H; rw [hy335]; with_reducible exact H2_) | (have H2_ := (Option.bind_some _ _).symm.trans H; with_reducible exact H2_) | with_reducible exact H | (rw [hy335]; exact H) | exact H
          have Ny335 := Aside0.mk hy335
          clear hy335
          have H' := Aside0.mk H
          clear H
          have p331 : 0 ≤ (x15_1 : Int) := of_decide_eq_true (by first | (with_reducible assumption) | assumption)
          have q331 : x15_1 < (l0.length : Int) := of_decide_eq_true (by first | (with_reducible assumption) | assumption)
          obtain ⟨ad331, e331, hx331_0⟩ := Kd.at_int HR0.out x15_1 p331 q331
          cases e331
          replace hx331_0 := (HB.out.cell (World.block_lt_of_cell? w _ hx331_0)).trans hx331_0
          replace p331 := eq_true p331
          replace q331 := eq_true q331
          have p332 : 0 ≤ (x15_1 : Int) := of_decide_eq_true (by first | (with_reducible assumption) | assumption)
          have q332 : x15_1 < (l1.length : Int) := of_decide_eq_true (by first | (with_reducible assumption) | assumption)
          obtain ⟨ad332, e332, hx332_0⟩ := Kd.at_int HR1.out x15_1 p332 q332
          cases e332
          replace hx332_0 := (HB.out.cell (World.block_lt_of_cell? w _ hx332_0)).trans hx332_0
          replace p332 := eq_true p332
          replace q332 := eq_true q332
          go_wp2_with (first | ((with_reducible refine gate_callee (f := 157) rfl ?_); refine goesL_ (some 34) rfl rfl Try.func157 (by kernel_rfl) rfl #[.int .u32 (rd l0 x15_1), .int .u32 (rd l1 x15_1), .int .u32 x6_1] rfl (by (try simp only [List.map_toArray, List.map_cons, List.map_nil]); first | done | rfl | (simp only [List.length_drop, List.length_take]; rfl)) ?_; (with_reducible refine (bits_Sub32.calls (rd l0 x15_1) (rd l1 x15_1) x6_1 t333 t334 _ A11.out).mono ?_); rintro e w' ⟨rfl, ⟨nd, rfl⟩⟩; refine ⟨_, rfl, ?_⟩; (try (rw [drewN_self wr]; generalize hq_ : World.drewN wr _ = wr; have n0_ : Aside0 (Kd.R (Kd.int .u32) 146 wr w.heap.size (fun k_ => (w.heap.size ≤ k_)) v329 x5_1) := ⟨by rw [← hq_]; exact (by (with_reducible repeat (first | apply Kd.R_alloc | apply Kd.R_drewN | apply Kd.R_drew)); exact HO_5.out)⟩; have n1_ : Aside0 (Below w.heap.size w wr) := ⟨by rw [← hq_]; exact (by repeat (first | (with_reducible first | exact HB.out | apply below_alloc | apply pw_below_drewN | apply below_drew1) | exact HB.out))⟩; clear HO_5 HB hq_; have HO_5 := n0_; have HB := n1_; clear n0_ n1_)); have p13 : 0 ≤ (x15_1 : Int) := of_decide_eq_true (by first | (with_reducible assumption) | assumption); have q13 : (x15_1 : Int) < ((x5_1.length : Int) : Int) := of_decide_eq_true (by first | (with_reducible assumption) | assumption); obtain ⟨go13, co13, eo13, gb13, gl13, cl13, HG13⟩ := Kd.R_form HO_5.out (by omega); (first | cases eo13 | (injection eo13 with ea_ en_ ec_; (first | subst ea_ | (injection ea_ with ea_; subst ea_)); subst ec_; clear en_)); have GB13 := Aside0.mk gb13; have GG13 := Aside0.mk HG13; clear gb13 gl13 HG13; obtain ⟨hx13_0, hf13_0⟩ := Kd.R_celln 0 HO_5.out (x15_1 : Int) p13 q13; replace p13 := eq_true p13; replace q13 := eq_true q13; obtain ⟨hy14_, hz14_⟩ := Kd.R_celln 0 HO_5.out (x15_1 : Int) (of_decide_eq_true (by first | (with_reducible assumption) | assumption)) (of_decide_eq_true (by first | (with_reducible assumption) | assumption)); have HP14 := Kd.R_putg HO_5.out (x15_1 : Int) t333) | ((with_reducible refine gate_store (t := 146) (p := 37) rfl ?_); refine store_event (t := 146) (p := 37) (v := ?vo_w15) (w1 := (wr.setCell ⟨go13, (x15_1 : Int).toNat, none⟩ (.int .u32 t333))) ?hg ?ho ?hn ?hr ?_; (case ho => rfl); (case hg => rfl); (case hn => rfl); (case hr => first | (go_simp; done) | (go_simp; rfl)); intro w15 hw; have hg : wr.grownBy w15 (some go13) := (by rw [hw]; exact HP14.2); have hp_ : Kd.R (Kd.int .u32) 146 w15 w.heap.size (fun k_ => (w.heap.size ≤ k_)) (.slice (some ⟨go13, 0, none⟩) x5_1.length co13) y335 := (by rw [hw, Ny335.out]; exact HP14.1); clear HP14; have n0_ := Aside0.mk (hp_); have n1_ := Aside0.mk ((by rw [hw]; exact below_set (HB.out) GB13.out : Below w.heap.size w w15)); clear HO_5; clear HB; have HO_5 := n0_; have HB := n1_; clear n0_ n1_; clear hg hw hp_))
          go_roundg k1
          case measure => have := HK1.out; omega
          case rel => exact ⟨(y335), (t334), (wrap64 (x15_1 + 1)), (by first | rfl | (simp; done) | (simp [*]; done)), (by first | rfl | (simp; done) | (simp [*]; done)), H', ⟨by have := HK1.out; omega⟩, ⟨by (with_reducible repeat (first | apply Kd.R_alloc | apply Kd.R_drewN | apply Kd.R_drew)); exact HO_5.out⟩, ⟨by repeat (first | (with_reducible first | exact HB.out | apply below_alloc | apply pw_below_drewN | apply below_drew1) | exact HB.out)⟩⟩
         ·rw [if_neg c12] at H
          exact absurd H (by simp)
        ·rw [if_neg c10] at H
         have c10b0 : decide (x15_1 < (l1.length : Int)) = false := decide_eq_false c10
         clear c10
         replace H := Option.bind_eq_some_iff.mp H
         obtain ⟨⟨t336, t337⟩, A160, H⟩ := H
         replace H : (if x15_1 < (x5_1.length : Int) then (impl_subMag.l0 k1 l1 (x5_1.set (x15_1 : Int).toNat t336) t337 l0 (l0.length : Int) (wrap64 (x15_1 + 1))) else (none)) = some r := H
         have A16 := Aside0.mk A160
         clear A160
         by_cases c17 : x15_1 < (x5_1.length : Int)
         ·rw [if_pos c17] at H
          have c17b0 : decide (x15_1 < (x5_1.length : Int)) = true := decide_eq_true c17
          clear c17
          obtain ⟨y338, hy338⟩ : ∃ y_ : List Int, y_ = (x5_1.set (x15_1 : Int).toNat t336) := ⟨_, rfl⟩
          replace H : (impl_subMag.l0 k1 l1 y338 t337 l0 (l0.length : Int) (wrap64 (x15_1 + 1))) = some r := by first | (rw [hy338]; with_reducible exact H) | (have H2_ := (Option.bind_some _ _).symm.trans H; rw [hy338]; with_reducible exact H2_) | (have H2_ := (Option.bind_some _ _).symm.trans H; with_reducible exact H2_) | with_reducible exact H | (rw [hy338]; exact H) | exact H
          have Ny338 := Aside0.mk hy338
          clear hy338
          have H' := Aside0.mk H
          clear H
          have p331 : 0 ≤ (x15_1 : Int) := of_decide_eq_true (by first | (with_reducible assumption) | assumption)
          have q331 : x15_1 < (l0.length : Int) := of_decide_eq_true (by first | (with_reducible assumption) | assumption)
          obtain ⟨ad331, e331, hx331_0⟩ := Kd.at_int HR0.out x15_1 p331 q331
          cases e331
          replace hx331_0 := (HB.out.cell (World.block_lt_of_cell? w _ hx331_0)).trans hx331_0
          replace p331 := eq_true p331
          replace q331 := eq_true q331
          go_wp2_with (first | ((with_reducible refine gate_callee (f := 157) rfl ?_); refine goesL_ (some 34) rfl rfl Try.func157 (by kernel_rfl) rfl #[.int .u32 (rd l0 x15_1), .int .u32 0, .int .u32 x6_1] rfl (by (try simp only [List.map_toArray, List.map_cons, List.map_nil]); first | done | rfl | (simp only [List.length_drop, List.length_take]; rfl)) ?_; (with_reducible refine (bits_Sub32.calls (rd l0 x15_1) 0 x6_1 t336 t337 _ A16.out).mono ?_); rintro e w' ⟨rfl, ⟨nd, rfl⟩⟩; refine ⟨_, rfl, ?_⟩; (try (rw [drewN_self wr]; generalize hq_ : World.drewN wr _ = wr; have n0_ : Aside0 (Kd.R (Kd.int .u32) 146 wr w.heap.size (fun k_ => (w.heap.size ≤ k_)) v329 x5_1) := ⟨by rw [← hq_]; exact (by (with_reducible repeat (first | apply Kd.R_alloc | apply Kd.R_drewN | apply Kd.R_drew)); exact HO_5.out)⟩; have n1_ : Aside0 (Below w.heap.size w wr) := ⟨by rw [← hq_]; exact (by repeat (first | (with_reducible first | exact HB.out | apply below_alloc | apply pw_below_drewN | apply below_drew1) | exact HB.out))⟩; clear HO_5 HB hq_; have HO_5 := n0_; have HB := n1_; clear n0_ n1_)); have p18 : 0 ≤ (x15_1 : Int) := of_decide_eq_true (by first | (with_reducible assumption) | assumption); have q18 : (x15_1 : Int) < ((x5_1.length : Int) : Int) := of_decide_eq_true (by first | (with_reducible assumption) | assumption); obtain ⟨go18, co18, eo18, gb18, gl18, cl18, HG18⟩ := Kd.R_form HO_5.out (by omega); (first | cases eo18 | (injection eo18 with ea_ en_ ec_; (first | subst ea_ | (injection ea_ with ea_; subst ea_)); subst ec_; clear en_)); have GB18 := Aside0.mk gb18; have GG18 := Aside0.mk HG18; clear gb18 gl18 HG18; obtain ⟨hx18_0, hf18_0⟩ := Kd.R_celln 0 HO_5.out (x15_1 : Int) p18 q18; replace p18 := eq_true p18; replace q18 := eq_true q18; obtain ⟨hy19_, hz19_⟩ := Kd.R_celln 0 HO_5.out (x15_1 : Int) (of_decide_eq_true (by first | (with_reducible assumption) | assumption)) (of_decide_eq_true (by first | (with_reducible assumption) | assumption)); have HP19 := Kd.R_putg HO_5.out (x15_1 : Int) t336) | ((with_reducible refine gate_store (t := 146) (p := 37) rfl ?_); refine store_event (t := 146) (p := 37) (v := ?vo_w20) (w1 := (wr.setCell ⟨go18, (x15_1 : Int).toNat, none⟩ (.int .u32 t336))) ?hg ?ho ?hn ?hr ?_; (case ho => rfl); (case hg => rfl); (case hn => rfl); (case hr => first | (go_simp; done) | (go_simp; rfl)); intro w20 hw; have hg : wr.grownBy w20 (some go18) := (by rw [hw]; exact HP19.2); have hp_ : Kd.R (Kd.int .u32) 146 w20 w.heap.size (fun k_ => (w.heap.size ≤ k_)) (.slice (some ⟨go18, 0, none⟩) x5_1.length co18) y338 := (by rw [hw, Ny338.out]; exact HP19.1); clear HP19; have n0_ := Aside0.mk (hp_); have n1_ := Aside0.mk ((by rw [hw]; exact below_set (HB.out) GB18.out : Below w.heap.size w w20)); clear HO_5; clear HB; have HO_5 := n0_; have HB := n1_; clear n0_ n1_; clear hg hw hp_))
          go_roundg k1
          case measure => have := HK1.out; omega
          case rel => exact ⟨(y338), (t337), (wrap64 (x15_1 + 1)), (by first | rfl | (simp; done) | (simp [*]; done)), (by first | rfl | (simp; done) | (simp [*]; done)), H', ⟨by have := HK1.out; omega⟩, ⟨by (with_reducible repeat (first | apply Kd.R_alloc | apply Kd.R_drewN | apply Kd.R_drew)); exact HO_5.out⟩, ⟨by repeat (first | (with_reducible first | exact HB.out | apply below_alloc | apply pw_below_drewN | apply below_drew1) | exact HB.out)⟩⟩
         ·rw [if_neg c17] at H
          exact absurd H (by simp)
       ·rw [if_neg c9] at H
        exact absurd H (by simp)
      ·rw [if_neg c8] at H
       exact absurd H (by simp)
     ·rw [if_neg c7] at H
      have c7b0 : decide (x15_1 < (l0.length : Int)) = false := decide_eq_false c7
      clear c7
      replace H := Option.bind_eq_some_iff.mp H
      obtain ⟨t339, A210, H⟩ := H
      replace H : (some t339) = some r := H
      have A21 := Aside0.mk A210
      clear A210
      obtain rfl := Option.some.inj H
      obtain ⟨Ao22, co22, eo22⟩ := Kd.R_slice HO_5.out
      subst eo22
      go_wp2_with (first | ((with_reducible refine gate_callee (f := 146) rfl ?_); refine goesL_ (some 40) rfl rfl Try.func146 (by kernel_rfl) rfl #[.slice Ao22 x5_1.length co22] rfl (by (try simp only [List.map_toArray, List.map_cons, List.map_nil]); first | done | rfl | (simp only [List.length_drop, List.length_take]; rfl)) ?_; (with_reducible refine (impl_trimmed.calls k1 (fun k_ => some k_ = (.slice Ao22 x5_1.length co22 : Value).ownBlock) _ _ x5_1 t339 _ ?side1 A21.out).mono ?_); (case side1 => exact Kd.R_V (Kd.R_tight rfl (HO_5.out))); rintro e w23 ⟨v340, rfl, ho0, hb⟩; refine ⟨_, rfl, ?_⟩; have n0_ := Aside0.mk (Kd.R_below (by (with_reducible repeat (first | apply Kd.R_alloc | apply Kd.R_drewN | apply Kd.R_drew)); exact HO_5.out) hb); have n1_ := Aside0.mk (Kd.V_lower (Kd.V_mono (ok' := fun k_ => (w.heap.size ≤ k_)) ho0 (fun k_ hk_ => Or.elim hk_ (fun hs_ => ((HO_5.out).1 k_ hs_.symm)) (fun hn_ => (Nat.le_trans (below_size (by repeat (first | (with_reducible first | exact HB.out | apply below_alloc | apply pw_below_drewN | apply below_drew1) | exact HB.out))) hn_)))) (below_size (by repeat (first | (with_reducible first | exact HB.out | apply below_alloc | apply pw_below_drewN | apply below_drew1) | exact HB.out)))); have n2_ := Aside0.mk (below_step (by repeat (first | (with_reducible first | exact HB.out | apply below_alloc | apply pw_below_drewN | apply below_drew1) | exact HB.out)) hb); clear HO_5; clear HB; have HO_5 := n0_; have HO341 := n1_; have HB := n2_; clear n0_ n1_ n2_; (try clear hb); (try clear hb2); (try clear hk); (try clear hi); (try clear ho0)))
      go_ret
      exact ⟨_, by first | rfl | (simp [errW_none, errW_some] <;> rfl) | (simp [*, errW_none, errW_some] <;> rfl), by (with_reducible repeat (first | apply Kd.V_alloc | apply Kd.V_drewN | apply Kd.V_drew)); exact HO341.out, by repeat (first | (with_reducible first | exact HB.out | apply below_alloc | apply pw_below_drewN | apply below_drew1) | exact HB.out)⟩
  ·rw [if_neg c4] at H
   exact absurd H (by simp)
 ·rw [if_neg c3] at H
  exact absurd H (by simp)
end Go.Proofs.Ytkafbmanmffliaa.Q

/- Plain: whole numbers as digits to the base 2 to the power of 32; the estimate of a quotient's digit. -/
namespace Go.Proofs.Ytkafbmanmffliaa.Bg
def val : List Int → Int
 | [] => 0
 | d :: r => d + 4294967296 * val r
def Dig (l : List Int) : Prop := ∀ d ∈ l, 0 ≤ d ∧ d < 4294967296
def bp : Nat → Int
 | 0 => 1
 | n + 1 => 4294967296 * bp n
theorem bp_pos : ∀ n, 0 < bp n
 | 0 => by decide
 | n + 1 => by have := bp_pos n; unfold bp; omega
theorem bp_add (m : Nat) : ∀ n, bp (m + n) = bp m * bp n
 | 0 => by simp [bp]
 | n + 1 => by
  show 4294967296 * bp (m + n) = bp m * (4294967296 * bp n)
  rw [bp_add m n]; grind
theorem bp_mono {m n : Nat} (h : m ≤ n) : bp m ≤ bp n := by
 obtain ⟨k, rfl⟩ := Nat.exists_eq_add_of_le h
 rw [bp_add]
 have h1 := bp_pos m
 have h2 := bp_pos k
 have := Int.mul_le_mul_of_nonneg_left (c := bp m) (show (1 : Int) ≤ bp k by omega) (by omega)
 omega
theorem Dig.nil : Dig [] := fun d hd => by cases hd
theorem Dig.cons {d : Int} {l : List Int} : Dig (d :: l) ↔ (0 ≤ d ∧ d < 4294967296) ∧ Dig l :=
 ⟨fun h => ⟨h d (by simp), fun x hx => h x (by simp [hx])⟩, fun h x hx => by (rcases List.mem_cons.1 hx with rfl | hx); exact h.1; exact h.2 x hx⟩
theorem Dig.append {a b : List Int} : Dig (a ++ b) ↔ Dig a ∧ Dig b :=
 ⟨fun h => ⟨fun x hx => h x (by simp [hx]), fun x hx => h x (by simp [hx])⟩, fun h x hx => by (rcases List.mem_append.1 hx with hx | hx); exact h.1 x hx; exact h.2 x hx⟩
theorem Dig.take {l : List Int} (h : Dig l) (n : Nat) : Dig (l.take n) := fun d hd => h d (List.mem_of_mem_take hd)
theorem Dig.drop {l : List Int} (h : Dig l) (n : Nat) : Dig (l.drop n) := fun d hd => h d (List.mem_of_mem_drop hd)
theorem Dig.set {l : List Int} (h : Dig l) (i : Nat) {x : Int} (h0 : 0 ≤ x) (h1 : x < 4294967296) : Dig (l.set i x) := fun d hd => by
 rcases List.mem_or_eq_of_mem_set hd with hd | rfl
 ·exact h d hd
 ·exact ⟨h0, h1⟩
theorem Dig.at {l : List Int} (h : Dig l) (i : Nat) (hi : i < l.length) : 0 ≤ l[i] ∧ l[i] < 4294967296 := h _ (List.getElem_mem hi)
theorem Dig.zeros (n : Nat) : Dig (List.replicate n 0) := fun d hd => by obtain ⟨_, rfl⟩ := List.mem_replicate.1 hd; decide
theorem val_nonneg : ∀ {l : List Int}, Dig l → 0 ≤ val l
 | [], _ => by simp [val]
 | d :: r, h => by have h := Dig.cons.1 h; have := val_nonneg h.2; unfold val; omega
theorem val_lt : ∀ {l : List Int}, Dig l → val l < bp l.length
 | [], _ => by simp [val, bp]
 | d :: r, h => by
  have h := Dig.cons.1 h
  have := val_lt h.2
  simp only [val, List.length_cons, bp]
  omega
theorem val_append (a b : List Int) : val (a ++ b) = val a + bp a.length * val b := by
 induction a with
 | nil => simp [val, bp]
 | cons d r ih => simp only [List.cons_append, val, List.length_cons, bp, ih]; grind
theorem val_zeros (n : Nat) : val (List.replicate n 0) = 0 := by
 induction n with
 | zero => rfl
 | succ n ih => simp [List.replicate_succ, val, ih]
theorem val_set {l : List Int} (i : Nat) (hi : i < l.length) (x : Int) : val (l.set i x) = val l + bp i * (x - l[i]) := by
 induction l generalizing i with
 | nil => simp at hi
 | cons d r ih =>
  cases i with
  | zero => simp only [List.set_cons_zero, val, bp, List.getElem_cons_zero]; omega
  | succ i =>
   simp only [List.set_cons_succ, val, bp, List.getElem_cons_succ]
   rw [ih i (by simpa using hi)]
   grind
theorem val_take_succ {l : List Int} (i : Nat) (hi : i < l.length) : val (l.take (i + 1)) = val (l.take i) + bp i * l[i] := by
 rw [List.take_succ_eq_append_getElem hi, val_append]
 simp [val, Nat.min_eq_left (Nat.le_of_lt hi)]
theorem val_split (l : List Int) (i : Nat) (hi : i ≤ l.length) : val l = val (l.take i) + bp i * val (l.drop i) := by
 conv => lhs; rw [← List.take_append_drop i l]
 rw [val_append, List.length_take, Nat.min_eq_left hi]
theorem val_drop {l : List Int} (i : Nat) (hi : i < l.length) : val (l.drop i) = l[i] + 4294967296 * val (l.drop (i + 1)) := by
 rw [List.drop_eq_getElem_cons hi]; rfl
def Trim (l : List Int) : Prop := l.getLast? ≠ some 0
theorem Trim.nil : Trim [] := by simp [Trim]
theorem val_ge {l : List Int} (hd : Dig l) (ht : Trim l) (h0 : l ≠ []) : bp (l.length - 1) ≤ val l := by
 rcases List.eq_nil_or_concat l with rfl | ⟨r, x, rfl⟩
 ·exact absurd rfl h0
 ·rw [List.concat_eq_append] at *
  have hd := Dig.append.1 hd
  have hx := (Dig.cons.1 hd.2).1
  have hx0 : x ≠ 0 := fun e => ht (by rw [List.getLast?_concat, e])
  have h1 := val_nonneg hd.1
  have h2 := bp_pos r.length
  rw [val_append]
  simp only [List.length_append, List.length_cons, List.length_nil, val]
  have h3 : bp r.length * 1 ≤ bp r.length * x := Int.mul_le_mul_of_nonneg_left (by omega) (by omega)
  simp only [Nat.zero_add, Nat.add_sub_cancel]
  have h4 : x + 4294967296 * 0 = x := by omega
  rw [h4]
  omega
theorem val_zero {l : List Int} (hd : Dig l) (ht : Trim l) : val l = 0 ↔ l = [] := by
 constructor
 ·intro h
  by_cases h0 : l = []
  ·exact h0
  ·have := val_ge hd ht h0; have := bp_pos (l.length - 1); omega
 ·rintro rfl; rfl
theorem len_le {l : List Int} (hd : Dig l) (ht : Trim l) {n : Nat} (h : val l < bp n) : l.length ≤ n := by
 by_cases h0 : l = []
 ·subst h0; simp
 ·have h1 := val_ge hd ht h0
  rcases Nat.lt_or_ge n l.length with hn | hn
  ·have := bp_mono (show n ≤ l.length - 1 by omega); omega
  ·exact hn
theorem lt_of_len {a b : List Int} (ha : Dig a) (hb : Dig b) (tb : Trim b) (h : a.length < b.length) : val a < val b := by
 have h1 := val_lt ha
 have h2 := val_ge hb tb (by intro e; rw [e] at h; simp at h)
 have := bp_mono (show a.length ≤ b.length - 1 by omega)
 omega
section
variable {W v v1 v2 vr u0 u1 u2 ur P g r : Int}
theorem mul_le {a b c : Int} (hc : 0 ≤ c) (h : a ≤ b) : a * c ≤ b * c := Int.mul_le_mul_of_nonneg_right h hc
theorem head_le (hP : 0 < P) (hv : v = (v1 * 4294967296 + v2) * P + vr) (h2 : v2 < 4294967296) (hr : vr < P) (hW : W = ((u0 * 4294967296 + u1) * 4294967296 + u2) * P + ur) (hu1 : 0 ≤ u1) (hu2 : 0 ≤ u2) (hur : 0 ≤ ur) (hlt : W < v * 4294967296) : u0 ≤ v1 := by
 rcases Int.lt_or_le v1 u0 with h | h
 ·exfalso
  have a : ((v1 + 1) * 4294967296 * 4294967296) * P ≤ ((u0 * 4294967296 + u1) * 4294967296 + u2) * P := mul_le (by omega) (by omega)
  have b : v + 1 ≤ ((v1 + 1) * 4294967296) * P := by
   have : (v1 * 4294967296 + v2 + 1) * P ≤ ((v1 + 1) * 4294967296) * P := mul_le (by omega) (by omega)
   have e : (v1 * 4294967296 + v2 + 1) * P = (v1 * 4294967296 + v2) * P + P := by grind
   omega
  have c : ((v1 + 1) * 4294967296 * 4294967296) * P = (((v1 + 1) * 4294967296) * P) * 4294967296 := by grind
  omega
 ·exact h
theorem guess_start (hP : 0 < P) (hv : v = (v1 * 4294967296 + v2) * P + vr) (h2 : 0 ≤ v2) (hr : 0 ≤ vr) (hW : W = ((u0 * 4294967296 + u1) * 4294967296 + u2) * P + ur) (hu2 : u2 < 4294967296) (hur : ur < P) (hg0 : 0 ≤ g) (hg : g * v1 + r = u0 * 4294967296 + u1) (hr1 : r < v1) : W < (g + 1) * v := by
 have a : (u0 * 4294967296 + u1 + 1) ≤ (g + 1) * v1 := by grind
 have b : ((u0 * 4294967296 + u1) * 4294967296 + u2 + 1) * P ≤ ((g + 1) * v1 * 4294967296) * P := mul_le (by omega) (by omega)
 have e : ((u0 * 4294967296 + u1) * 4294967296 + u2 + 1) * P = ((u0 * 4294967296 + u1) * 4294967296 + u2) * P + P := by grind
 have c : ((g + 1) * v1 * 4294967296) * P ≤ (g + 1) * v := by
  have h1 : 0 ≤ v2 * P := Int.mul_nonneg h2 (by omega)
  have h3 : (v1 * 4294967296) * P ≤ v := by
   have : (v1 * 4294967296 + v2) * P = (v1 * 4294967296) * P + v2 * P := by grind
   omega
  have := Int.mul_le_mul_of_nonneg_left (c := g + 1) h3 (by omega)
  grind
 omega
theorem guess_less (hP : 0 < P) (hv : v = (v1 * 4294967296 + v2) * P + vr) (hr : 0 ≤ vr) (hW : W = ((u0 * 4294967296 + u1) * 4294967296 + u2) * P + ur) (hur : ur < P) (hlt : W < v * 4294967296) (hv0 : 0 ≤ v) (hg0 : 0 ≤ g) (hg : g * v1 + r = u0 * 4294967296 + u1) (hc : 4294967296 ≤ g ∨ r * 4294967296 + u2 < g * v2) : W < g * v := by
 rcases hc with hc | hc
 ·have := Int.mul_le_mul_of_nonneg_left hc hv0
  grind
 ·have a : ((u0 * 4294967296 + u1) * 4294967296 + u2 + 1) ≤ g * (v1 * 4294967296 + v2) := by grind
  have b : ((u0 * 4294967296 + u1) * 4294967296 + u2 + 1) * P ≤ g * (v1 * 4294967296 + v2) * P := mul_le (by omega) a
  have e : ((u0 * 4294967296 + u1) * 4294967296 + u2 + 1) * P = ((u0 * 4294967296 + u1) * 4294967296 + u2) * P + P := by grind
  have h3 : 0 ≤ g * vr := Int.mul_nonneg hg0 hr
  have c : g * v = g * (v1 * 4294967296 + v2) * P + g * vr := by rw [hv]; grind
  omega
theorem guess_end (hP : 0 < P) (hv : v = (v1 * 4294967296 + v2) * P + vr) (h1 : 0 < v1) (h2 : 0 ≤ v2) (h2' : v2 < 4294967296) (hr : vr < P) (hr' : 0 ≤ vr) (hW : W = ((u0 * 4294967296 + u1) * 4294967296 + u2) * P + ur) (hu0 : u0 ≤ v1) (hu1 : u1 < 4294967296) (hu2 : 0 ≤ u2) (hur : 0 ≤ ur) (hg0 : 0 ≤ g) (hg : g * v1 + r = u0 * 4294967296 + u1) (hc : 4294967296 ≤ r ∨ (g < 4294967296 ∧ g * v2 ≤ r * 4294967296 + u2)) : g < 4294967296 ∧ (g - 1) * v ≤ W := by
 have hgb : g < 4294967296 := by
  rcases hc with hc | hc
  ·rcases Int.lt_or_le g 4294967296 with h | h
   ·exact h
   ·exfalso
    have := mul_le (c := v1) (by omega) h
    omega
  ·exact hc.1
 refine ⟨hgb, ?_⟩
 have hV : g * (v1 * 4294967296 + v2) ≤ (u0 * 4294967296 + u1) * 4294967296 + u2 := by
  have e : g * (v1 * 4294967296 + v2) = (u0 * 4294967296 + u1 - r) * 4294967296 + g * v2 := by grind
  rcases hc with hc | hc
  ·have : g * v2 ≤ 4294967296 * 4294967296 := by
    have a := mul_le (c := v2) h2 (Int.le_of_lt hgb)
    omega
   omega
  ·omega
 have hV2 : (g - 1) * (v1 * 4294967296 + v2 + 1) ≤ (u0 * 4294967296 + u1) * 4294967296 + u2 := by
  have e : (g - 1) * (v1 * 4294967296 + v2 + 1) = g * (v1 * 4294967296 + v2) - (v1 * 4294967296 + v2) + g - 1 := by grind
  omega
 have a := mul_le (c := P) (by omega) hV2
 rcases Int.lt_or_le g 1 with h | h
 ·obtain rfl : g = 0 := by omega
  have hu : 0 ≤ (u0 * 4294967296 + u1) * 4294967296 + u2 := by
   have : 0 ≤ 0 * (v1 * 4294967296 + v2) := by simp
   omega
  have p := Int.mul_nonneg hu (show 0 ≤ P by omega)
  have q := Int.mul_nonneg (show 0 ≤ v1 * 4294967296 + v2 by omega) (show 0 ≤ P by omega)
  have e : (0 - 1) * v = - v := by grind
  omega
 ·have h3 : v ≤ (v1 * 4294967296 + v2 + 1) * P := by
   have e : (v1 * 4294967296 + v2 + 1) * P = (v1 * 4294967296 + v2) * P + P := by grind
   omega
  have := Int.mul_le_mul_of_nonneg_left (c := g - 1) h3 (by omega)
  have e : (g - 1) * ((v1 * 4294967296 + v2 + 1) * P) = (g - 1) * (v1 * 4294967296 + v2 + 1) * P := by grind
  omega
end
end Go.Proofs.Ytkafbmanmffliaa.Bg

/- Plain: what the program's lists of digits come to, as numbers. -/
namespace Go.Proofs.Ytkafbmanmffliaa.PuG
open Go Go.RowKit YtkafbmanmffliaaW.PrintWords YtkafbmanmffliaaW.PrintLast YtkafbmanmffliaaW.PrintMore Q Bg
theorem rd_at {l : List Int} (i : Nat) (h : i < l.length) : rd l (i : Int) = l[i] := by
 unfold rd
 rw [Int.toNat_natCast, List.getD_eq_getElem?_getD, List.getElem?_eq_getElem h]; rfl
theorem w64 {n : Int} (h0 : 0 ≤ n) (h1 : n < 18446744073709551616) : IntKind.u64.wrap n = n := u64_wrap_id n h0 h1
theorem wi {n : Int} (h0 : -4611686018427387904 ≤ n) (h1 : n < 4611686018427387904) : wrap64 n = n := by unfold wrap64; omega
theorem prod {a b : Int} (ha0 : 0 ≤ a) (ha : a < 4294967296) (hb0 : 0 ≤ b) (hb : b < 4294967296) : 0 ≤ a * b ∧ a * b ≤ 18446744065119617025 := by
 refine ⟨Int.mul_nonneg ha0 hb0, ?_⟩
 have h1 : a * b ≤ 4294967295 * b := Int.mul_le_mul_of_nonneg_right (by omega) hb0
 omega
theorem take_set_succ {l : List Int} (i : Nat) (h : i < l.length) (x : Int) : (l.set i x).take (i + 1) = l.take i ++ [x] := by
 rw [List.take_succ_eq_append_getElem (by simpa using h), List.getElem_set_self, List.take_set, List.set_eq_of_length_le (by rw [List.length_take]; omega)]
theorem val_take_set {l : List Int} (i : Nat) (h : i < l.length) (x : Int) : val ((l.set i x).take (i + 1)) = val (l.take i) + bp i * x := by
 rw [take_set_succ i h, val_append, List.length_take, Nat.min_eq_left (by omega)]
 simp [val]
theorem drop_set_succ {l : List Int} (i : Nat) (x : Int) : (l.set i x).drop (i + 1) = l.drop (i + 1) := List.drop_set_of_lt (by omega)
theorem val_take_all {l : List Int} {n : Nat} (h : l.length ≤ n) : val (l.take n) = val l := by rw [List.take_of_length_le h]
theorem trimmed_ok : ∀ (n : Nat) (xs : List Int) (k : Nat), xs.length ≤ n → xs.length < 4611686018427387904 → n < k → ∃ m, impl_trimmed.f k xs = some (xs.take m) ∧ val (xs.take m) = val xs ∧ Trim (xs.take m) := by
 intro n
 induction n with
 | zero =>
  intro xs k h0 _ hk
  obtain rfl : xs = [] := List.length_eq_zero_iff.1 (by omega)
  obtain ⟨k, rfl⟩ : ∃ m, k = m + 1 := ⟨k - 1, by omega⟩
  exact ⟨0, by simp [impl_trimmed.f, impl_trimmed.l0], rfl, Trim.nil⟩
 | succ n ih =>
  intro xs k h0 hl hk
  obtain ⟨k, rfl⟩ : ∃ m, k = m + 1 := ⟨k - 1, by omega⟩
  rcases List.eq_nil_or_concat xs with rfl | ⟨r, x, hx⟩
  ·exact ⟨0, by simp [impl_trimmed.f, impl_trimmed.l0], rfl, Trim.nil⟩
  ·rw [List.concat_eq_append] at hx
   subst hx
   have hlen : (r ++ [x]).length = r.length + 1 := by simp
   have hw : wrap64 (((r ++ [x]).length : Int) - 1) = (r.length : Int) := by rw [hlen, wi (by omega) (by omega)]; omega
   have hr : rd (r ++ [x]) (r.length : Int) = x := by rw [rd_at _ (by omega)]; simp
   have ht : (r ++ [x]).take r.length = r := by simp
   simp only [impl_trimmed.f, impl_trimmed.l0]
   rw [hw, if_pos (by omega), if_pos (by omega), if_pos (by omega), hr]
   by_cases h : x = 0
   ·rw [if_pos h, if_pos (by omega), Int.toNat_natCast, ht]
    obtain ⟨m, h1, h2, h3⟩ := ih r k (by omega) (by omega) (by omega)
    have hm : (r ++ [x]).take (min m r.length) = r.take m := by
     rw [List.take_append_of_le_length (Nat.min_le_right _ _), ← List.take_take, List.take_of_length_le (Nat.le_refl r.length)]
    refine ⟨min m r.length, ?_, ?_, ?_⟩
    ·rw [hm]; exact h1
    ·rw [hm, h2, val_append, h]; simp [val]
    ·rw [hm]; exact h3
   ·rw [if_neg h]
    exact ⟨r.length + 1, by rw [List.take_of_length_le (by omega)], by rw [List.take_of_length_le (by omega)], by rw [List.take_of_length_le (by omega)]; simpa [Trim] using h⟩
theorem trimmed_all (xs : List Int) (k : Nat) (hl : xs.length < 4611686018427387904) (hk : xs.length < k) (hd : Dig xs) : ∃ r, impl_trimmed.f k xs = some r ∧ val r = val xs ∧ Trim r ∧ Dig r ∧ r.length ≤ xs.length := by
 obtain ⟨m, h1, h2, h3⟩ := trimmed_ok xs.length xs k (Nat.le_refl _) hl hk
 exact ⟨_, h1, h2, h3, hd.take m, by rw [List.length_take]; omega⟩
theorem cmp_loop {a b : List Int} (ha : Dig a) (hb : Dig b) (hab : a.length = b.length) (hl : a.length < 4611686018427387904) : ∀ (i : Nat) (k : Nat), i ≤ a.length → i < k → val (a.drop i) = val (b.drop i) → ∃ c, impl_cmpMag.l0 k a b ((i : Int) - 1) = some c ∧ -1 ≤ c ∧ c ≤ 1 ∧ (c < 0 ↔ val a < val b) ∧ (0 < c ↔ val b < val a) := by
 intro i
 induction i with
 | zero =>
  intro k _ hk he
  obtain ⟨k, rfl⟩ : ∃ m, k = m + 1 := ⟨k - 1, by omega⟩
  rw [List.drop_zero, List.drop_zero] at he
  exact ⟨0, by simp [impl_cmpMag.l0], by omega, by omega, by omega, by omega⟩
 | succ i ih =>
  intro k hi hk he
  obtain ⟨k, rfl⟩ : ∃ m, k = m + 1 := ⟨k - 1, by omega⟩
  have e1 : ((i + 1 : Nat) : Int) - 1 = (i : Int) := by omega
  rw [e1]
  simp only [impl_cmpMag.l0]
  rw [if_pos (by omega), if_pos (by omega), if_pos (by omega), if_pos (by omega), rd_at i (by omega), rd_at i (by omega)]
  have s1 := val_split a i (by omega)
  have s2 := val_split b i (by omega)
  have t1 := val_drop (l := a) i (by omega)
  have t2 := val_drop (l := b) i (by omega)
  have l1 := val_lt (ha.take i)
  have l2 := val_lt (hb.take i)
  have n1 := val_nonneg (ha.take i)
  have n2 := val_nonneg (hb.take i)
  rw [List.length_take, Nat.min_eq_left (by omega)] at l1 l2
  rw [he] at t1
  by_cases h1 : a[i] < b[i]
  ·rw [if_pos h1]
   have m : bp i * (val (a.drop i) + 1) ≤ bp i * val (b.drop i) := Int.mul_le_mul_of_nonneg_left (by omega) (by have := bp_pos i; omega)
   have e : bp i * (val (a.drop i) + 1) = bp i * val (a.drop i) + bp i := by grind
   exact ⟨-1, rfl, by omega, by omega, ⟨fun _ => by omega, fun _ => by omega⟩, ⟨fun h => by omega, fun h => by omega⟩⟩
  ·rw [if_neg h1]
   by_cases h2 : a[i] > b[i]
   ·rw [if_pos h2]
    have m : bp i * (val (b.drop i) + 1) ≤ bp i * val (a.drop i) := Int.mul_le_mul_of_nonneg_left (by omega) (by have := bp_pos i; omega)
    have e : bp i * (val (b.drop i) + 1) = bp i * val (b.drop i) + bp i := by grind
    exact ⟨1, rfl, by omega, by omega, ⟨fun h => by omega, fun h => by omega⟩, ⟨fun _ => by omega, fun _ => by omega⟩⟩
   ·rw [if_neg h2, wi (by omega) (by omega)]
    exact ih k (by omega) (by omega) (by omega)
theorem cmp_ok {a b : List Int} (ha : Dig a) (hb : Dig b) (ta : Trim a) (tb : Trim b) (hla : a.length < 1073741824) (hlb : b.length < 1073741824) (k : Nat) (hk : a.length < k) : ∃ c, impl_cmpMag.f k a b = some c ∧ -1073741824 ≤ c ∧ c ≤ 1073741824 ∧ (c < 0 ↔ val a < val b) ∧ (0 < c ↔ val b < val a) := by
 unfold impl_cmpMag.f
 by_cases h : (a.length : Int) = (b.length : Int)
 ·rw [if_pos h, wi (by omega) (by omega)]
  obtain ⟨c, h1, h2, h3, h4, h5⟩ := cmp_loop ha hb (by omega) (by omega) a.length k (Nat.le_refl _) hk (by rw [List.drop_of_length_le (Nat.le_refl _), List.drop_of_length_le (by omega)])
  exact ⟨c, h1, by omega, by omega, h4, h5⟩
 ·rw [if_neg h, wi (by omega) (by omega)]
  refine ⟨_, rfl, by omega, by omega, ?_, ?_⟩
  ·constructor
   ·intro h1; exact lt_of_len ha hb tb (by omega)
   ·intro h1
    rcases Nat.lt_trichotomy a.length b.length with h2 | h2 | h2
    ·omega
    ·omega
    ·have := lt_of_len hb ha ta h2; omega
  ·constructor
   ·intro h1; exact lt_of_len hb ha ta (by omega)
   ·intro h1
    rcases Nat.lt_trichotomy a.length b.length with h2 | h2 | h2
    ·have := lt_of_len ha hb tb h2; omega
    ·omega
    ·omega
theorem or_digit {x y : Int} (hx0 : 0 ≤ x) (hx : x < 4294967296) (hy0 : 0 ≤ y) (hy : y < 4294967296) : Go.bits .or .u64 (IntKind.u64.wrap (x * 4294967296)) (IntKind.u64.wrap y) = x * 4294967296 + y := by
 rw [w64 (by omega) (by omega), w64 (by omega) (by omega)]
 exact bits_join .u64 64 (by decide) wraps_u64 32 (x * 4294967296) y (by omega) (by omega) (by omega) hy0 (by omega) (by omega)
theorem short_loop {a : List Int} (ha : Dig a) (b : Int) (hb0 : 0 < b) (hb : b < 4294967296) (hl : a.length < 1073741824) (k0 : Nat) (hk0 : a.length < k0) : ∀ (i : Nat) (k : Nat) (x : List Int) (r : Int), i ≤ a.length → k0 + i < k → x.length = a.length → Dig x → 0 ≤ r → r < b → val (a.drop i) = val (x.drop i) * b + r →
  ∃ q s, impl_shortMag.l0 k a b x r ((i : Int) - 1) = some (q, s) ∧ val a = val q * b + s ∧ 0 ≤ s ∧ s < b ∧ Dig q ∧ Trim q ∧ q.length ≤ a.length := by
 intro i
 induction i with
 | zero =>
  intro k x r _ hk hx hd h0 h1 he
  obtain ⟨k, rfl⟩ : ∃ m, k = m + 1 := ⟨k - 1, by omega⟩
  rw [List.drop_zero, List.drop_zero] at he
  obtain ⟨q, g1, g2, g3, g4, g5⟩ := trimmed_all x k (by omega) (by omega) hd
  refine ⟨q, r, ?_, by rw [g2]; exact he, h0, h1, g4, g3, by omega⟩
  simp only [impl_shortMag.l0]
  rw [if_neg (by omega), g1, Option.bind_some, Int.emod_eq_of_lt h0 (by omega)]
 | succ i ih =>
  intro k x r hi hk hx hd h0 h1 he
  obtain ⟨k, rfl⟩ : ∃ m, k = m + 1 := ⟨k - 1, by omega⟩
  have e1 : ((i + 1 : Nat) : Int) - 1 = (i : Int) := by omega
  have hai := ha.at i (by omega)
  rw [e1]
  simp only [impl_shortMag.l0]
  rw [if_pos (by omega), if_pos (by omega), if_pos (by omega), w64 (by omega) (by omega), if_neg (by omega), if_pos (by omega), rd_at i (by omega), or_digit h0 (by omega) hai.1 hai.2, Int.toNat_natCast, wi (by omega) (by omega)]
  have hp : 0 ≤ r * 4294967296 + a[i] := by omega
  have hq : Int.tdiv (r * 4294967296 + a[i]) b = (r * 4294967296 + a[i]) / b := Int.tdiv_eq_ediv_of_nonneg hp
  have hm : Int.tmod (r * 4294967296 + a[i]) b = (r * 4294967296 + a[i]) % b := Int.tmod_eq_emod_of_nonneg hp
  have hq0 : 0 ≤ (r * 4294967296 + a[i]) / b := Int.ediv_nonneg hp (by omega)
  have hdm := Int.mul_ediv_add_emod (r * 4294967296 + a[i]) b
  have hm0 := Int.emod_nonneg (r * 4294967296 + a[i]) (show b ≠ 0 by omega)
  have hm1 := Int.emod_lt_of_pos (r * 4294967296 + a[i]) hb0
  have hqB : (r * 4294967296 + a[i]) / b < 4294967296 := by
   apply Int.ediv_lt_of_lt_mul hb0
   have : (r + 1) * 4294967296 ≤ b * 4294967296 := Int.mul_le_mul_of_nonneg_right (by omega) (by omega)
   omega
  rw [hq, hm, w64 hq0 (by omega), Int.emod_eq_of_lt hq0 hqB]
  refine ih k _ _ (by omega) (by omega) (by simpa using hx) (hd.set i hq0 hqB) hm0 hm1 ?_
  have t1 := val_drop (l := a) i (by omega)
  have t2 := val_drop (l := x.set i ((r * 4294967296 + a[i]) / b)) i (by simp; omega)
  rw [drop_set_succ] at t2
  simp only [List.getElem_set_self] at t2
  rw [t1, t2, he]
  generalize (r * 4294967296 + a[i]) / b = q at *
  grind
theorem short_ok {a : List Int} (ha : Dig a) (b : Int) (hb0 : 0 < b) (hb : b < 4294967296) (hl : a.length < 1073741824) (k : Nat) (hk : 2 * a.length + 2 < k) : ∃ q s, impl_shortMag.f k a b = some (q, s) ∧ val a = val q * b + s ∧ 0 ≤ s ∧ s < b ∧ Dig q ∧ Trim q ∧ q.length ≤ a.length := by
 unfold impl_shortMag.f
 rw [if_pos (by omega), if_pos (by omega), wi (by omega) (by omega)]
 rw [Int.toNat_natCast]
 exact short_loop ha b hb0 hb hl (a.length + 1) (by omega) a.length k _ 0 (Nat.le_refl _) (by omega) (by simp) (Dig.zeros _) (by omega) hb0 (by rw [List.drop_of_length_le (Nat.le_refl _), List.drop_of_length_le (by simp)]; simp [val])
end Go.Proofs.Ytkafbmanmffliaa.PuG

/- Plain: sums, differences and products of lists of digits. -/
namespace Go.Proofs.Ytkafbmanmffliaa.PuG
open Go Go.RowKit YtkafbmanmffliaaW.PrintWords YtkafbmanmffliaaW.PrintLast YtkafbmanmffliaaW.PrintMore Q Bg
theorem bp_succ (i : Nat) : bp (i + 1) = 4294967296 * bp i := rfl
theorem drop_of {l m : List Int} {i : Nat} (hi : i < l.length) (hm : l.length = m.length) (h : l.drop i = m.drop i) : l[i] = m[i]'(by omega) := by
 have h1 := List.drop_eq_getElem_cons hi
 have h2 := List.drop_eq_getElem_cons (show i < m.length by omega)
 rw [h1, h2] at h
 injection h
theorem drop_of' {l m : List Int} {i : Nat} (hi : i < l.length) (hm : l.length = m.length) (h : l.drop i = m.drop i) : l.drop (i + 1) = m.drop (i + 1) := by
 have h1 := List.drop_eq_getElem_cons hi
 have h2 := List.drop_eq_getElem_cons (show i < m.length by omega)
 rw [h1, h2] at h
 injection h
theorem sub_f {x y b : Int} (hx0 : 0 ≤ x) (hx : x < 4294967296) (hy0 : 0 ≤ y) (hy : y < 4294967296) (hb0 : 0 ≤ b) (hb : b ≤ 1) :
  ∃ d o, bits_Sub32.f x y b = some (d, o) ∧ d = x - y - b + 4294967296 * o ∧ 0 ≤ d ∧ d < 4294967296 ∧ 0 ≤ o ∧ o ≤ 1 := by
 refine ⟨_, _, by unfold bits_Sub32.f; rw [if_pos ⟨hx0, hx, hy0, hy, hb0, hb⟩], ?_⟩
 unfold Bw.subB
 split <;> omega
theorem add_f {x y b : Int} (hx0 : 0 ≤ x) (hx : x < 4294967296) (hy0 : 0 ≤ y) (hy : y < 4294967296) (hb0 : 0 ≤ b) (hb : b ≤ 1) :
  ∃ d o, bits_Add32.f x y b = some (d, o) ∧ d + 4294967296 * o = x + y + b ∧ 0 ≤ d ∧ d < 4294967296 ∧ 0 ≤ o ∧ o ≤ 1 := by
 refine ⟨_, _, rfl, ?_⟩
 rw [w64 hx0 (by omega), w64 hy0 (by omega), w64 hb0 (by omega), w64 (n := x + y) (by omega) (by omega), w64 (n := x + y + b) (by omega) (by omega)]
 omega
theorem take_loop {us vs : List Int} (hu : Dig us) (hv : Dig vs) (t : Int) (ht0 : 0 ≤ t) (ht : t < 4294967296) (hl : us.length < 1073741824) (hvl : vs.length < us.length) :
  ∀ (d i : Nat) (k : Nat) (x : List Int) (c b : Int), i + d = us.length → d < k → x.length = us.length → Dig x → x.drop i = us.drop i → 0 ≤ c → c < 4294967296 → 0 ≤ b → b ≤ 1 → (vs.length < i → c = 0) →
   val (x.take i) = val (us.take i) - t * val (vs.take i) + bp i * (c + b) →
   ∃ y o, impl_takeTimes.l0 k x vs t c b (us.length : Int) (i : Int) = some (decide (o > 0), y) ∧ y.length = us.length ∧ Dig y ∧ 0 ≤ o ∧ o ≤ 1 ∧ val y = val us - t * val vs + bp us.length * o := by
 intro d
 induction d with
 | zero =>
  intro i k x c b hi hk hx hd hdr c0 c1 b0 b1 hc he
  obtain ⟨k, rfl⟩ : ∃ m, k = m + 1 := ⟨k - 1, by omega⟩
  obtain rfl : i = us.length := by omega
  refine ⟨x, b, ?_, hx, hd, b0, b1, ?_⟩
  ·simp only [impl_takeTimes.l0]
   rw [if_neg (by omega)]
  ·rw [val_take_all (by omega), val_take_all (by omega), val_take_all (by omega), hc (by omega), Int.zero_add] at he
   exact he
 | succ d ih =>
  intro i k x c b hi hk hx hd hdr c0 c1 b0 b1 hc he
  obtain ⟨k, rfl⟩ : ∃ m, k = m + 1 := ⟨k - 1, by omega⟩
  have hui := hu.at i (by omega)
  have hxi : x[i] = us[i] := drop_of (by omega) hx hdr
  have hdr' : x.drop (i + 1) = us.drop (i + 1) := drop_of' (by omega) hx hdr
  have su := val_take_succ (l := us) i (by omega)
  simp only [impl_takeTimes.l0]
  rw [if_pos (by omega)]
  by_cases hiv : i < vs.length
  ·have hvi := hv.at i hiv
   have hp := prod ht0 ht hvi.1 hvi.2
   have sv := val_take_succ (l := vs) i hiv
   rw [if_pos (by omega), if_pos (by omega), if_pos (by omega), rd_at i (by omega), rd_at i hiv, hxi, w64 ht0 (by omega), w64 hvi.1 (by omega), w64 hp.1 (by omega), w64 (n := c + t * vs[i]) (by omega) (by omega), Int.toNat_natCast, wi (by omega) (by omega)]
   obtain ⟨m, hm⟩ : ∃ m, m = c + t * vs[i] := ⟨_, rfl⟩
   rw [← hm]
   obtain ⟨y, o, f1, f2, f3, f4, f5, f6⟩ := sub_f (x := us[i]) (y := m % 4294967296) (b := b) hui.1 hui.2 (by omega) (by omega) b0 b1
   rw [f1, Option.bind_some]
   refine ih (i + 1) k _ _ _ (by omega) (by omega) (by simpa using hx) (hd.set i f3 f4) (by rw [drop_set_succ]; exact hdr') (by omega) (by omega) f5 f6 (by omega) ?_
   rw [val_take_set i (by omega), he, su, sv, f2, bp_succ]
   have e := Int.mul_ediv_add_emod m 4294967296
   generalize m / 4294967296 = q at *
   generalize m % 4294967296 = s at *
   grind
  ·have sv : val (vs.take (i + 1)) = val (vs.take i) := by rw [val_take_all (by omega), val_take_all (by omega)]
   rw [if_neg (by omega), if_pos (by omega), if_pos (by omega), rd_at i (by omega), hxi, Int.toNat_natCast, wi (by omega) (by omega)]
   obtain ⟨y, o, f1, f2, f3, f4, f5, f6⟩ := sub_f (x := us[i]) (y := c % 4294967296) (b := b) hui.1 hui.2 (by omega) (by omega) b0 b1
   rw [f1, Option.bind_some]
   refine ih (i + 1) k _ _ _ (by omega) (by omega) (by simpa using hx) (hd.set i f3 f4) (by rw [drop_set_succ]; exact hdr') (by omega) (by omega) f5 f6 (by omega) ?_
   rw [val_take_set i (by omega), he, su, sv, f2, bp_succ]
   have e1 : c % 4294967296 = c := by omega
   have e2 : c / 4294967296 = 0 := by omega
   rw [e1, e2]
   grind
theorem take_ok {us vs : List Int} (hu : Dig us) (hv : Dig vs) (t : Int) (ht0 : 0 ≤ t) (ht : t < 4294967296) (hl : us.length < 1073741824) (hvl : vs.length < us.length) (k : Nat) (hk : us.length < k) :
  ∃ y o, impl_takeTimes.f k us vs t = some (decide (o > 0), y) ∧ y.length = us.length ∧ Dig y ∧ 0 ≤ o ∧ o ≤ 1 ∧ val y = val us - t * val vs + bp us.length * o := by
 unfold impl_takeTimes.f
 exact take_loop hu hv t ht0 ht hl hvl us.length 0 k us 0 0 (by omega) hk rfl hu rfl (by omega) (by omega) (by omega) (by omega) (by omega) (by simp [val])
theorem give_loop {us vs : List Int} (hu : Dig us) (hv : Dig vs) (hl : us.length < 1073741824) (hvl : vs.length ≤ us.length) :
  ∀ (d i : Nat) (k : Nat) (x : List Int) (c : Int), i + d = us.length → d < k → x.length = us.length → Dig x → x.drop i = us.drop i → 0 ≤ c → c ≤ 1 →
   val (x.take i) + bp i * c = val (us.take i) + val (vs.take i) →
   ∃ y o, impl_giveBack.l0 k x vs c (us.length : Int) (i : Int) = some y ∧ y.length = us.length ∧ Dig y ∧ 0 ≤ o ∧ o ≤ 1 ∧ val y + bp us.length * o = val us + val vs := by
 intro d
 induction d with
 | zero =>
  intro i k x c hi hk hx hd hdr c0 c1 he
  obtain ⟨k, rfl⟩ : ∃ m, k = m + 1 := ⟨k - 1, by omega⟩
  obtain rfl : i = us.length := by omega
  refine ⟨x, c, ?_, hx, hd, c0, c1, ?_⟩
  ·simp only [impl_giveBack.l0]
   rw [if_neg (by omega)]
  ·rw [val_take_all (by omega), val_take_all (by omega), val_take_all (by omega)] at he
   exact he
 | succ d ih =>
  intro i k x c hi hk hx hd hdr c0 c1 he
  obtain ⟨k, rfl⟩ : ∃ m, k = m + 1 := ⟨k - 1, by omega⟩
  have hui := hu.at i (by omega)
  have hxi : x[i] = us[i] := drop_of (by omega) hx hdr
  have hdr' : x.drop (i + 1) = us.drop (i + 1) := drop_of' (by omega) hx hdr
  have su := val_take_succ (l := us) i (by omega)
  simp only [impl_giveBack.l0]
  rw [if_pos (by omega)]
  by_cases hiv : i < vs.length
  ·have hvi := hv.at i hiv
   have sv := val_take_succ (l := vs) i hiv
   rw [if_pos (by omega), if_pos (by omega), if_pos (by omega), rd_at i (by omega), rd_at i hiv, hxi, Int.toNat_natCast, wi (by omega) (by omega)]
   obtain ⟨y, o, f1, f2, f3, f4, f5, f6⟩ := add_f (x := us[i]) (y := vs[i]) (b := c) hui.1 hui.2 hvi.1 hvi.2 c0 c1
   rw [f1, Option.bind_some]
   refine ih (i + 1) k _ _ (by omega) (by omega) (by simpa using hx) (hd.set i f3 f4) (by rw [drop_set_succ]; exact hdr') f5 f6 ?_
   rw [val_take_set i (by omega), su, sv, bp_succ]
   grind
  ·have sv : val (vs.take (i + 1)) = val (vs.take i) := by rw [val_take_all (by omega), val_take_all (by omega)]
   rw [if_neg (by omega), if_pos (by omega), if_pos (by omega), rd_at i (by omega), hxi, Int.toNat_natCast, wi (by omega) (by omega)]
   obtain ⟨y, o, f1, f2, f3, f4, f5, f6⟩ := add_f (x := us[i]) (y := 0) (b := c) hui.1 hui.2 (by omega) (by omega) c0 c1
   rw [f1, Option.bind_some]
   refine ih (i + 1) k _ _ (by omega) (by omega) (by simpa using hx) (hd.set i f3 f4) (by rw [drop_set_succ]; exact hdr') f5 f6 ?_
   rw [val_take_set i (by omega), su, sv, bp_succ]
   grind
theorem give_ok {us vs : List Int} (hu : Dig us) (hv : Dig vs) (hl : us.length < 1073741824) (hvl : vs.length ≤ us.length) (k : Nat) (hk : us.length < k) :
  ∃ y o, impl_giveBack.f k us vs = some y ∧ y.length = us.length ∧ Dig y ∧ 0 ≤ o ∧ o ≤ 1 ∧ val y + bp us.length * o = val us + val vs := by
 unfold impl_giveBack.f
 exact give_loop hu hv hl hvl us.length 0 k us 0 (by omega) hk rfl hu rfl (by omega) (by omega) (by simp [val])
theorem add_loop {xa xb : List Int} (ha : Dig xa) (hb : Dig xb) (n : Nat) (hla : xa.length < n) (hlb : xb.length < n) (hn : n < 1073741824) (k0 : Nat) (hk0 : n < k0) :
  ∀ (d i : Nat) (k : Nat) (x : List Int) (c : Int), i + d = n → k0 + d < k → x.length = n → Dig x → 0 ≤ c → c ≤ 1 → (xa.length < i → xb.length < i → c = 0) →
   val (x.take i) + bp i * c = val (xa.take i) + val (xb.take i) →
   ∃ y, impl_addMag.l0 k xa xb x c (n : Int) (i : Int) = some y ∧ y.length ≤ n ∧ Dig y ∧ Trim y ∧ val y = val xa + val xb := by
 intro d
 induction d with
 | zero =>
  intro i k x c hi hk hx hd c0 c1 hc he
  obtain ⟨k, rfl⟩ : ∃ m, k = m + 1 := ⟨k - 1, by omega⟩
  obtain rfl : i = n := by omega
  rw [val_take_all (by omega), val_take_all (by omega), val_take_all (by omega), hc (by omega) (by omega)] at he
  obtain ⟨q, g1, g2, g3, g4, g5⟩ := trimmed_all x k (by omega) (by omega) hd
  refine ⟨q, ?_, by omega, g4, g3, by rw [g2]; omega⟩
  simp only [impl_addMag.l0]
  rw [if_neg (by omega), g1]
  rfl
 | succ d ih =>
  intro i k x c hi hk hx hd c0 c1 hc he
  obtain ⟨k, rfl⟩ : ∃ m, k = m + 1 := ⟨k - 1, by omega⟩
  simp only [impl_addMag.l0]
  rw [if_pos (by omega)]
  by_cases hia : i < xa.length
  ·have hai := ha.at i hia
   have sa := val_take_succ (l := xa) i hia
   rw [if_pos (by omega), if_pos (by omega)]
   by_cases hib : i < xb.length
   ·have hbi := hb.at i hib
    have sb := val_take_succ (l := xb) i hib
    rw [if_pos (by omega), if_pos (by omega), rd_at i hia, rd_at i hib, w64 hai.1 (by omega), w64 hbi.1 (by omega), w64 (n := c + xa[i]) (by omega) (by omega), w64 (n := c + xa[i] + xb[i]) (by omega) (by omega), Int.toNat_natCast, wi (by omega) (by omega)]
    refine ih (i + 1) k _ _ (by omega) (by omega) (by simpa using hx) (hd.set i (by omega) (by omega)) (by omega) (by omega) (by omega) ?_
    rw [val_take_set i (by omega), sa, sb, bp_succ]
    have e := Int.mul_ediv_add_emod (c + xa[i] + xb[i]) 4294967296
    generalize (c + xa[i] + xb[i]) / 4294967296 = q at *
    generalize (c + xa[i] + xb[i]) % 4294967296 = s at *
    grind
   ·have sb : val (xb.take (i + 1)) = val (xb.take i) := by rw [val_take_all (by omega), val_take_all (by omega)]
    rw [if_neg (by omega), if_pos (by omega), rd_at i hia, w64 hai.1 (by omega), w64 (n := c + xa[i]) (by omega) (by omega), Int.toNat_natCast, wi (by omega) (by omega)]
    refine ih (i + 1) k _ _ (by omega) (by omega) (by simpa using hx) (hd.set i (by omega) (by omega)) (by omega) (by omega) (by omega) ?_
    rw [val_take_set i (by omega), sa, sb, bp_succ]
    have e := Int.mul_ediv_add_emod (c + xa[i]) 4294967296
    generalize (c + xa[i]) / 4294967296 = q at *
    generalize (c + xa[i]) % 4294967296 = s at *
    grind
  ·have sa : val (xa.take (i + 1)) = val (xa.take i) := by rw [val_take_all (by omega), val_take_all (by omega)]
   rw [if_neg (by omega)]
   by_cases hib : i < xb.length
   ·have hbi := hb.at i hib
    have sb := val_take_succ (l := xb) i hib
    rw [if_pos (by omega), if_pos (by omega), if_pos (by omega), rd_at i hib, w64 hbi.1 (by omega), w64 (n := c + xb[i]) (by omega) (by omega), Int.toNat_natCast, wi (by omega) (by omega)]
    refine ih (i + 1) k _ _ (by omega) (by omega) (by simpa using hx) (hd.set i (by omega) (by omega)) (by omega) (by omega) (by omega) ?_
    rw [val_take_set i (by omega), sa, sb, bp_succ]
    have e := Int.mul_ediv_add_emod (c + xb[i]) 4294967296
    generalize (c + xb[i]) / 4294967296 = q at *
    generalize (c + xb[i]) % 4294967296 = s at *
    grind
   ·have sb : val (xb.take (i + 1)) = val (xb.take i) := by rw [val_take_all (by omega), val_take_all (by omega)]
    rw [if_neg (by omega), if_pos (by omega), if_pos (by omega), Int.toNat_natCast, wi (by omega) (by omega)]
    refine ih (i + 1) k _ _ (by omega) (by omega) (by simpa using hx) (hd.set i (by omega) (by omega)) (by omega) (by omega) (by omega) ?_
    rw [val_take_set i (by omega), sa, sb, bp_succ]
    have e1 : c % 4294967296 = c := by omega
    have e2 : c / 4294967296 = 0 := by omega
    rw [e1, e2]
    grind
theorem add_ok {xa xb : List Int} (ha : Dig xa) (hb : Dig xb) (hla : xa.length < 536870912) (hlb : xb.length < 536870912) (k : Nat) (hk : 2 * (max xa.length xb.length) + 4 < k) :
  ∃ y, impl_addMag.f k xa xb = some y ∧ y.length ≤ max xa.length xb.length + 1 ∧ Dig y ∧ Trim y ∧ val y = val xa + val xb := by
 have hm : mx (xa.length : Int) (xb.length : Int) = ((max xa.length xb.length : Nat) : Int) := by unfold mx; split <;> omega
 have hM : max xa.length xb.length < 536870912 := by omega
 have h1 : xa.length ≤ max xa.length xb.length := Nat.le_max_left _ _
 have h2 : xb.length ≤ max xa.length xb.length := Nat.le_max_right _ _
 unfold impl_addMag.f
 rw [hm]
 generalize max xa.length xb.length = M at *
 have e : ((M : Nat) : Int) + 1 = ((M + 1 : Nat) : Int) := by omega
 rw [e, wi (by omega) (by omega), if_pos (by omega), Int.toNat_natCast, if_pos (by omega), Option.bind_some, List.length_replicate]
 exact add_loop ha hb (M + 1) (by omega) (by omega) (by omega) (M + 2) (by omega) (M + 1) 0 k _ 0 (by omega) (by omega) (by simp) (Dig.zeros _) (by omega) (by omega) (by omega) (by simp [val])
theorem sub_loop {xa xb : List Int} (ha : Dig xa) (hb : Dig xb) (hn : xa.length < 1073741824) (k0 : Nat) (hk0 : xa.length < k0) :
  ∀ (d i : Nat) (k : Nat) (x : List Int) (c : Int), i + d = xa.length → k0 + d < k → x.length = xa.length → Dig x → 0 ≤ c → c ≤ 1 →
   val (x.take i) = val (xa.take i) - val (xb.take i) + bp i * c →
   ∃ y o, impl_subMag.l0 k xb x c xa (xa.length : Int) (i : Int) = some y ∧ y.length ≤ xa.length ∧ Dig y ∧ Trim y ∧ 0 ≤ o ∧ o ≤ 1 ∧ val y = val xa - val (xb.take xa.length) + bp xa.length * o := by
 intro d
 induction d with
 | zero =>
  intro i k x c hi hk hx hd c0 c1 he
  obtain ⟨k, rfl⟩ : ∃ m, k = m + 1 := ⟨k - 1, by omega⟩
  obtain rfl : i = xa.length := by omega
  rw [val_take_all (by omega), val_take_all (by omega)] at he
  obtain ⟨q, g1, g2, g3, g4, g5⟩ := trimmed_all x k (by omega) (by omega) hd
  refine ⟨q, c, ?_, by omega, g4, g3, c0, c1, by rw [g2]; omega⟩
  simp only [impl_subMag.l0]
  rw [if_neg (by omega), g1]
  rfl
 | succ d ih =>
  intro i k x c hi hk hx hd c0 c1 he
  obtain ⟨k, rfl⟩ : ∃ m, k = m + 1 := ⟨k - 1, by omega⟩
  have hai := ha.at i (by omega)
  have sa := val_take_succ (l := xa) i (by omega)
  simp only [impl_subMag.l0]
  rw [if_pos (by omega), if_pos (by omega), if_pos (by omega)]
  by_cases hib : i < xb.length
  ·have hbi := hb.at i hib
   have sb := val_take_succ (l := xb) i hib
   rw [if_pos (by omega), rd_at i (by omega), rd_at i hib]
   obtain ⟨y, o, f1, f2, f3, f4, f5, f6⟩ := sub_f (x := xa[i]) (y := xb[i]) (b := c) hai.1 hai.2 hbi.1 hbi.2 c0 c1
   rw [f1, Option.bind_some, if_pos (by omega), Int.toNat_natCast, wi (by omega) (by omega)]
   refine ih (i + 1) k _ _ (by omega) (by omega) (by simpa using hx) (hd.set i f3 f4) f5 f6 ?_
   rw [val_take_set i (by omega), he, sa, sb, f2, bp_succ]
   grind
  ·have sb : val (xb.take (i + 1)) = val (xb.take i) := by rw [val_take_all (by omega), val_take_all (by omega)]
   rw [if_neg (by omega), rd_at i (by omega)]
   obtain ⟨y, o, f1, f2, f3, f4, f5, f6⟩ := sub_f (x := xa[i]) (y := 0) (b := c) hai.1 hai.2 (by omega) (by omega) c0 c1
   rw [f1, Option.bind_some, if_pos (by omega), Int.toNat_natCast, wi (by omega) (by omega)]
   refine ih (i + 1) k _ _ (by omega) (by omega) (by simpa using hx) (hd.set i f3 f4) f5 f6 ?_
   rw [val_take_set i (by omega), he, sa, sb, f2, bp_succ]
   grind
theorem sub_ok {xa xb : List Int} (ha : Dig xa) (hb : Dig xb) (tb : Trim xb) (hle : val xb ≤ val xa) (hla : xa.length < 1073741824) (k : Nat) (hk : 2 * xa.length + 3 < k) :
  ∃ y, impl_subMag.f k xa xb = some y ∧ y.length ≤ xa.length ∧ Dig y ∧ Trim y ∧ val y = val xa - val xb := by
 have hl : xb.length ≤ xa.length := by
  rcases Nat.lt_or_ge xa.length xb.length with h | h
  ·have := lt_of_len ha hb tb h; omega
  ·exact h
 unfold impl_subMag.f
 rw [if_pos (by omega), Int.toNat_natCast, if_pos (by omega)]
 obtain ⟨y, o, h1, h2, h3, h4, h5, h6, h7⟩ := sub_loop ha hb hla (xa.length + 1) (by omega) xa.length 0 k (List.replicate xa.length 0) 0 (by omega) (by omega) (by simp) (Dig.zeros _) (by omega) (by omega) (by simp [val])
 rw [val_take_all hl] at h7
 have h8 := val_lt h3
 have h9 := bp_mono h2
 have h10 : o = 0 := by
  rcases Int.lt_or_le 0 o with h | h
  ·obtain rfl : o = 1 := by omega
   omega
  ·omega
 refine ⟨y, h1, h2, h3, h4, ?_⟩
 rw [h7, h10]; omega
def Zer (l : List Int) (n : Nat) : Prop := ∀ j, n ≤ j → ∀ h : j < l.length, l[j] = 0
theorem Zer.set {l : List Int} {n : Nat} (h : Zer l n) (i : Nat) (hi : i < n) (x : Int) : Zer (l.set i x) n := by
 intro j hj hjl
 rw [List.getElem_set_ne (by omega)]
 exact h j hj (by simpa using hjl)
theorem Zer.next {l : List Int} {n : Nat} (h : Zer l n) (x : Int) : Zer (l.set n x) (n + 1) := by
 intro j hj hjl
 rw [List.getElem_set_ne (by omega)]
 exact h j (by omega) (by simpa using hjl)
theorem mul_inner {xa xb : List Int} (hb : Dig xb) (hla : xa.length < 268435456) (hlb : xb.length < 268435456) (i : Nat) (hi : i < xa.length) (a : Int) (a0 : 0 ≤ a) (a1 : a < 4294967296) (V : Int)
  (kk : Nat) (hnext : ∀ (x : List Int) (k : Nat), kk ≤ k → x.length = xa.length + xb.length → Dig x → Zer x (i + 1 + xb.length) → val x = V + a * bp i * val xb → ∃ y, impl_mulMag.l0 k xb x xa (xa.length : Int) ((i : Int) + 1) = some y ∧ y.length ≤ xa.length + xb.length ∧ Dig y ∧ Trim y ∧ val y = val xa * val xb) :
  ∀ (d j : Nat) (k : Nat) (x : List Int) (c : Int), j + d = xb.length → kk + d < k → x.length = xa.length + xb.length → Dig x → Zer x (i + xb.length) → 0 ≤ c → c < 4294967296 →
   val x + bp (i + j) * c = V + a * bp i * val (xb.take j) →
   ∃ y, impl_mulMag.l1 k xb x (i : Int) a c xa (xa.length : Int) (i : Int) xb (xb.length : Int) (j : Int) = some y ∧ y.length ≤ xa.length + xb.length ∧ Dig y ∧ Trim y ∧ val y = val xa * val xb := by
 intro d
 induction d with
 | zero =>
  intro j k x c hj hk hx hd hz c0 c1 he
  obtain ⟨k, rfl⟩ : ∃ m, k = m + 1 := ⟨k - 1, by omega⟩
  obtain rfl : j = xb.length := by omega
  simp only [impl_mulMag.l1]
  have ew : (i : Int) + (xb.length : Int) = ((i + xb.length : Nat) : Int) := by omega
  rw [if_neg (by omega), ew, wi (by omega) (by omega), if_pos (by omega), if_pos (by omega), Int.toNat_natCast, wi (by omega) (by omega), Int.emod_eq_of_lt c0 c1]
  refine hnext _ k (by omega) (by simpa using hx) (hd.set _ c0 c1) ?_ ?_
  ·have := hz.next c
   rwa [show i + 1 + xb.length = i + xb.length + 1 by omega]
  ·rw [val_set _ (by omega), hz _ (Nat.le_refl _) (by omega)]
   rw [val_take_all (Nat.le_refl _)] at he
   grind
 | succ d ih =>
  intro j k x c hj hk hx hd hz c0 c1 he
  obtain ⟨k, rfl⟩ : ∃ m, k = m + 1 := ⟨k - 1, by omega⟩
  have hbj := hb.at j (by omega)
  have hp := prod a0 a1 hbj.1 hbj.2
  have hxj := hd.at (i + j) (by omega)
  have sb := val_take_succ (l := xb) j (by omega)
  have ew : (i : Int) + (j : Int) = ((i + j : Nat) : Int) := by omega
  simp only [impl_mulMag.l1]
  rw [if_pos (by omega), if_pos (by omega), if_pos (by omega), ew, wi (n := ((i + j : Nat) : Int)) (by omega) (by omega), if_pos (by omega), if_pos (by omega), rd_at j (by omega), rd_at (i + j) (by omega), w64 a0 (by omega), w64 hbj.1 (by omega), w64 hp.1 (by omega), w64 hxj.1 (by omega), w64 (n := a * xb[j] + x[i + j]) (by omega) (by omega), w64 (n := c + (a * xb[j] + x[i + j])) (by omega) (by omega), Int.toNat_natCast, wi (by omega) (by omega)]
  obtain ⟨m, hm⟩ : ∃ m, m = c + (a * xb[j] + x[i + j]) := ⟨_, rfl⟩
  rw [← hm]
  have ej : (j : Int) + 1 = ((j + 1 : Nat) : Int) := by omega
  rw [ej]
  refine ih (j + 1) k _ _ (by omega) (by omega) (by simpa using hx) (hd.set _ (by omega) (by omega)) (hz.set _ (by omega) _) (by omega) (by omega) ?_
  rw [val_set _ (by omega), sb, ← Nat.add_assoc, bp_succ]
  have e := Int.mul_ediv_add_emod m 4294967296
  have ebp := bp_add i j
  generalize m / 4294967296 = q at *
  generalize m % 4294967296 = s at *
  rw [ebp] at he ⊢
  grind
theorem mul_outer {xa xb : List Int} (ha : Dig xa) (hb : Dig xb) (hla : xa.length < 268435456) (hlb : xb.length < 268435456) (k0 : Nat) (hk0 : xa.length + xb.length < k0) :
  ∀ (d i : Nat) (k : Nat) (x : List Int), i + d = xa.length → k0 + d * (xb.length + 2) < k → x.length = xa.length + xb.length → Dig x → Zer x (i + xb.length) → val x = val (xa.take i) * val xb →
   ∃ y, impl_mulMag.l0 k xb x xa (xa.length : Int) (i : Int) = some y ∧ y.length ≤ xa.length + xb.length ∧ Dig y ∧ Trim y ∧ val y = val xa * val xb := by
 intro d
 induction d with
 | zero =>
  intro i k x hi hk hx hd hz he
  obtain ⟨k, rfl⟩ : ∃ m, k = m + 1 := ⟨k - 1, by omega⟩
  obtain rfl : i = xa.length := by omega
  obtain ⟨q, g1, g2, g3, g4, g5⟩ := trimmed_all x k (by omega) (by omega) hd
  refine ⟨q, ?_, by omega, g4, g3, by rw [g2, he, val_take_all (Nat.le_refl _)]⟩
  simp only [impl_mulMag.l0]
  rw [if_neg (by omega), g1]
  rfl
 | succ d ih =>
  intro i k x hi hk hx hd hz he
  obtain ⟨k, rfl⟩ : ∃ m, k = m + 1 := ⟨k - 1, by omega⟩
  have hai := ha.at i (by omega)
  have sa := val_take_succ (l := xa) i (by omega)
  rw [Nat.succ_mul] at hk
  simp only [impl_mulMag.l0]
  rw [if_pos (by omega), if_pos (by omega), if_pos (by omega), rd_at i (by omega)]
  refine mul_inner hb hla hlb i (by omega) xa[i] hai.1 hai.2 (val x) (k0 + d * (xb.length + 2) + 1) ?_ xb.length 0 k x 0 (by omega) (by omega) hx hd hz (by omega) (by omega) (by simp [val])
  intro x2 k2 hk2 hx2 hd2 hz2 he2
  have e : (i : Int) + 1 = ((i + 1 : Nat) : Int) := by omega
  rw [e]
  refine ih (i + 1) k2 x2 (by omega) (by omega) hx2 hd2 hz2 ?_
  rw [he2, he, sa]
  grind
theorem mul_ok {xa xb : List Int} (ha : Dig xa) (hb : Dig xb) (hla : xa.length < 268435456) (hlb : xb.length < 268435456) (k : Nat) (hk : xa.length + xb.length + 2 + xa.length * (xb.length + 2) < k) :
  ∃ y, impl_mulMag.f k xa xb = some y ∧ y.length ≤ xa.length + xb.length ∧ Dig y ∧ Trim y ∧ val y = val xa * val xb := by
 unfold impl_mulMag.f
 have e : (xa.length : Int) + (xb.length : Int) = ((xa.length + xb.length : Nat) : Int) := by omega
 rw [e, wi (by omega) (by omega), if_pos (by omega), Int.toNat_natCast, if_pos (by omega)]
 refine mul_outer ha hb hla hlb (xa.length + xb.length + 1) (by omega) xa.length 0 k _ (by omega) (by omega) (by simp) (Dig.zeros _) ?_ (by rw [val_zeros]; simp [val])
 intro j _ h
 simp
end Go.Proofs.Ytkafbmanmffliaa.PuG

/- Digits in memory: what trimmed returns, told by its address. -/
namespace Go.Proofs.Ytkafbmanmffliaa.Da
open Go Go.RowKit YtkafbmanmffliaaW.PrintWords YtkafbmanmffliaaW.PrintLast YtkafbmanmffliaaW.PrintMore Q Bg PuG
def tl (ds : List Int) : Nat → Nat
 | 0 => 0
 | n + 1 => if rd ds (n : Int) = 0 then tl ds n else n + 1
theorem tl_le (ds : List Int) : ∀ n, tl ds n ≤ n
 | 0 => Nat.le_refl _
 | n + 1 => by
  have := tl_le ds n
  unfold tl
  split <;> omega
theorem tl_val (ds : List Int) : ∀ n, n ≤ ds.length → val (ds.take (tl ds n)) = val (ds.take n)
 | 0 => fun _ => rfl
 | n + 1 => fun hn => by
  have ih := tl_val ds n (by omega)
  unfold tl
  by_cases h : rd ds (n : Int) = 0
  ·rw [if_pos h, ih, val_take_succ n (by omega)]
   rw [rd_at n (by omega)] at h
   rw [h]; omega
  ·rw [if_neg h]
theorem tl_trim (ds : List Int) : ∀ n, n ≤ ds.length → Trim (ds.take (tl ds n))
 | 0 => fun _ => by simpa [tl] using Trim.nil
 | n + 1 => fun hn => by
  have ih := tl_trim ds n (by omega)
  unfold tl
  by_cases h : rd ds (n : Int) = 0
  ·rw [if_pos h]; exact ih
  ·rw [if_neg h]
   rw [rd_at n (by omega)] at h
   unfold Trim
   rw [List.getLast?_eq_getElem?, List.length_take, Nat.min_eq_left hn]
   simp only [Nat.add_sub_cancel]
   rw [List.getElem?_take, if_pos (by omega), List.getElem?_eq_getElem (by omega)]
   simpa using h
def lenOf : Value → Nat | .slice _ n _ => n | _ => 0
theorem infoU : (Try.prog.info? 146).map (fun i => (i.zero, i.size, i.bytes)) = some (some (.int .u32 0), 1, 4) := by kernel_rfl
theorem cut_run (A : Option Addr) (n c : Nat) (q : Int) (h0 : 0 ≤ q) (h1 : q ≤ n) (hc : n ≤ c) : ∀ W : World, (Instr.slice 108 (.slice A n c) none (some (.int .i64 q)) none).run Try.prog W = .ok (.slice A q.toNat c) W := by
 intro W
 obtain ⟨i0, hi0, _, hsz, _⟩ := info_parts infoU
 have h := (print_take_of (P := Try.prog) (Value.int .i64) 0 108 146 .i64 Try.underlying108 hi0 hsz A c (List.replicate n 0) q h0 (by simpa using h1) (by simpa using hc)).1 W
 rw [List.length_replicate, List.length_take, List.length_replicate, Nat.min_eq_left (by omega)] at h
 exact h
set_option maxHeartbeats 4000000 in
set_option maxRecDepth 100000 in
theorem trim_any (A : Option Addr) (c : Nat) (ds : List Int) (w : World) (hC : Kd.C (Kd.int .u32) w A ds.length ds) (hc : ds.length ≤ c) :
  Calls Try.prog 146 #[.slice A ds.length c] w fun e w' => e = .returned (.slice A (tl ds ds.length) c) ∧ w' = w := by
 have hu := Try.underlying108
 have hlen : ds.length ≤ 9223372036854775807 := hC.2.1
 go_enter Try.func146, Try.ntmps146
 go_wp2
 go_loop [0] (fun v => ∃ m : Nat, m ≤ ds.length ∧ v = .slice A m c ∧ Aside0 (tl ds ds.length = tl ds m)) (fun v => lenOf v)
 case atStart => exact ⟨ds.length, Nat.le_refl _, rfl, ⟨rfl⟩⟩
 case round =>
  obtain ⟨m, hm, rfl, ht⟩ := hrel
  by_cases h0 : m = 0
  ·subst h0
   go_wp2
   go_ret
   exact ⟨by rw [ht.out]; rfl, rfl⟩
  ·obtain ⟨j, rfl⟩ : ∃ j, m = j + 1 := ⟨m - 1, by omega⟩
   have e1 : IntKind.i64.wrap (((j + 1 : Nat) : Int) - 1) = (j : Int) := by
    rw [IntKind.wrap_i64]; omega
   have e2 : wrap64 (((j + 1 : Nat) : Int) - 1) = (j : Int) := by unfold wrap64; omega
   have p1 : decide (0 < j + 1) = true := by simp
   have p2 : decide (0 < ((j + 1 : Nat) : Int)) = true := decide_eq_true (by omega)
   obtain ⟨ad, e, hx⟩ := Kd.at_int hC (j : Int) (by omega) (by omega)
   cases e
   have hcut := cut_run (some ad) (j + 1) c (j : Int) (by omega) (by omega) (by omega)
   rw [Int.toNat_natCast] at hcut
   rw [Int.toNat_natCast] at hx
   by_cases hz : rd ds (j : Int) = 0
   ·have z1 : (rd ds (j : Int) == 0) = true := by simpa using hz
    go_wp2
    go_round
    case rel => exact ⟨j, by omega, rfl, ⟨by rw [ht.out]; simp [tl, hz]⟩⟩
    case measure => simp [lenOf]
   ·have z1 : (rd ds (j : Int) == 0) = false := by simpa using hz
    go_wp2
    go_ret
    exact ⟨by rw [ht.out]; simp [tl, hz], rfl⟩
end Go.Proofs.Ytkafbmanmffliaa.Da

