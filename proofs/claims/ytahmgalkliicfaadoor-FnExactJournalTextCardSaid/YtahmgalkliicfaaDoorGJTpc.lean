/- Parts of the proof that the law of this seat holds: AdB, PuVD, PuD, PuDT, Hk, Hm, Q66, Hl, Hn, Va0, Va1, Va2, Q46, Q47, Q69, Va4, Q75, Q76. -/
import Derived.Test.YtahmgalkliicfaaDoorGJTpa
import Derived.Test.YtahmgalkliicfaaDoorGJTpb
import Derived.Lib.ItoaNum
import Derived.Lib.Hide
import Derived.Deep.RegionWith
set_option linter.unusedVariables false
set_option linter.unusedSimpArgs false
/- spec_l11Text at whatever address (made out of the printed contract). -/
namespace Go.Proofs.YtahmgalkliicfaaDoor.Q
open Go.RowKit Go.Proofs.YtahmgalkliicfaaDoorW.PrintWords Go.Proofs.YtahmgalkliicfaaDoorW.PrintLast Go.Proofs.YtahmgalkliicfaaDoorW.PrintMore
attribute [local go_sem] max2_int min2_int max_two min_two max_three min_three max_four min_four
set_option linter.unusedVariables false
set_option linter.unusedSimpArgs false
set_option maxHeartbeats 8000000 in
set_option maxRecDepth 100000 in
theorem spec_l11Text.callsA (k : Nat) (g : Addr) (s0_0 : Int) (s0_1 : Int) (s0_2 : Int) (s0_3 : Int) (s0_4 : Int) (s0_5 : Int) (s0_6 : Int) (s0_7 : Int) (s0_8 : Int) (r1 : ByteArray) (r2 : Int) (r3 : Int) (r4 : Int) (r5 : Int) (r6 : Int) (r7 : Int) (r8 : Int) (r9 : Int) (r10 : Int) (w0 w : World) (hI : IsA41 w0 w g s0_0 s0_1 s0_2 s0_3 s0_4 s0_5 s0_6 s0_7 s0_8) (hB : Below w0.heap.size w0 w) (h : spec_l11Text.f k s0_0 s0_1 s0_2 s0_3 s0_4 s0_5 s0_6 s0_7 s0_8 = some (r1, r2, r3, r4, r5, r6, r7, r8, r9, r10)) :
    Calls Tryd.prog 44 #[.pointer (some g)] w fun e w' => e = .returned (.string r1) ∧ IsA41 w0 w' g r2 r3 r4 r5 r6 r7 r8 r9 r10 ∧ Below w0.heap.size w0 w' ∧ KeepBut w w' g.block none := by
  have hu39 := Tryd.underlying39
  have HI0 := Aside0.mk hI
  have HK := Aside0.mk (KeepBut.refl w g.block none)
  have HL := Aside0.mk hB.size
  clear hI
  have HW0 := Aside0.mk hB.size
  have HB := Aside0.mk hB
  clear hB
  have H : (if s0_0 = 1 then ((spec_l11Three.f k (⟨#[112, 117, 115, 104]⟩ : ByteArray) s0_1 s0_2 s0_3).bind fun t231 => (some (t231, s0_0, s0_1, s0_2, s0_3, s0_4, s0_5, s0_6, s0_7, s0_8))) else (if s0_0 = 2 then ((spec_l03Text.f k (([(⟨s0_4, s0_5⟩ : S39)] : List (S39)))).bind fun t235 => (if 6 + t235.size ≤ 9223372036854775807 then (some ((⟨#[98, 117, 105, 108, 100, 32]⟩ : ByteArray) ++ t235, s0_0, s0_1, s0_2, s0_3, s0_4, s0_5, s0_6, s0_7, s0_8)) else (none))) else ((spec_l11Three.f k (⟨#[103, 114, 111, 117, 116]⟩ : ByteArray) s0_6 s0_7 s0_8).bind fun t236 => (some (t236, s0_0, s0_1, s0_2, s0_3, s0_4, s0_5, s0_6, s0_7, s0_8))))) = some (r1, r2, r3, r4, r5, r6, r7, r8, r9, r10) := h
  clear h
  by_cases c2 : s0_0 = 1
  · rw [if_pos c2] at H
    have c2b0 : (s0_0 == 1) = true := beq_iff_eq.mpr c2
    have c2b1 : (s0_0 != 1) = false := bne_eq_false_iff_eq.mpr c2
    clear c2
    replace H := Option.bind_eq_some_iff.mp H
    obtain ⟨t231, A30, H⟩ := H
    replace H : (some (t231, s0_0, s0_1, s0_2, s0_3, s0_4, s0_5, s0_6, s0_7, s0_8)) = some (r1, r2, r3, r4, r5, r6, r7, r8, r9, r10) := H
    have A3 := Aside0.mk A30
    clear A30
    simp only [Option.some.injEq, Prod.mk.injEq] at H
    obtain ⟨rfl, rfl, rfl, rfl, rfl, rfl, rfl, rfl, rfl, rfl⟩ := H
    obtain ⟨HGz4, hgz4⟩ := HI0.out
    have hcz4_0 := BlkA.cell0 HGz4
    have hcz4_1 := BlkA.cell1 HGz4
    have hcz4_2 := BlkA.cell2 HGz4
    have hcz4_3 := BlkA.cell3 HGz4
    have hcz4_4 := BlkA.cell4 HGz4
    have hcz4_5 := BlkA.cell5 HGz4
    have hcz4_5n : _ = some _ := (show World.cell? _ ⟨g.block, g.off + 4 + 1, none⟩ = some _ from BlkA.cell5 HGz4)
    have hcz4_6 := BlkA.cell6 HGz4
    have hcz4_7 := BlkA.cell7 HGz4
    have hcz4_8 := BlkA.cell8 HGz4
    clear HGz4 hgz4
    go_enter Tryd.func44, Tryd.ntmps44
    try go_wp2
    have n0_ := Aside0.mk (IsA41.drew HI0.out)
    have n1_ := Aside0.mk (keep_drew HK.out)
    have n2_ := Aside0.mk (below_drew1 HB.out)
    clear HI0
    clear HK
    clear HB
    have HI0 := n0_
    have HK := n1_
    have HB := n2_
    clear n0_ n1_ n2_
    obtain ⟨hbS_, -⟩ := HI0.out
    have SB0 := Aside0.mk hbS_
    clear hbS_
    refine start_ (n := 14) (S := fun w' => w'.cell? g = some (.int .i64 s0_0) ∧ w'.cell? ⟨g.block, g.off + 1, none⟩ = some (.int .i64 s0_1) ∧ w'.cell? ⟨g.block, g.off + 2, none⟩ = some (.int .i64 s0_2) ∧ w'.cell? ⟨g.block, g.off + 3, none⟩ = some (.int .i64 s0_3) ∧ w'.cell? ⟨g.block, g.off + 4, none⟩ = some (.int .i64 s0_4) ∧ w'.cell? ⟨g.block, g.off + 5, none⟩ = some (.int .i64 s0_5) ∧ w'.cell? ⟨g.block, g.off + 6, none⟩ = some (.int .i64 s0_6) ∧ w'.cell? ⟨g.block, g.off + 7, none⟩ = some (.int .i64 s0_7) ∧ w'.cell? ⟨g.block, g.off + 8, none⟩ = some (.int .i64 s0_8)) (ds := []) #[false, false, false, false, false, false, false, false, false, false, false, false, false, false] (by kernel_rfl) rfl rfl ⟨BlkA.cell0 SB0.out, BlkA.cell1 SB0.out, BlkA.cell2 SB0.out, BlkA.cell3 SB0.out, BlkA.cell4 SB0.out, BlkA.cell5 SB0.out, BlkA.cell6 SB0.out, BlkA.cell7 SB0.out, BlkA.cell8 SB0.out⟩ (fun hHeld => ?_); refine with_tabW spec_l11Text.tab3 spec_l11Text.bits3 (fun HT_ HW_ => ?_)
    generalize w.drew = w5 at SB0 HI0 HK HB hHeld ⊢
    refine pure_ (i := 0) (N := some 9) (v := ?_) (a' := ?_) #[true, false, false, false, false, false, false, false, false, false, false, false, false, false] rfl rfl (any_of HT_.out (by kernel_rfl)) (fun _ _ _ h => h) (Or.inl ⟨by rfl, ?_⟩) ?_ ?_
    rotate_left
    · intro w'
      go_simp
      with_reducible rfl
    rotate_left
    · simp only [Act.put, List.setIfInBounds_toArray, List.set_cons_zero, List.set_cons_succ, i64_w, i32_w]
      rfl
    refine pure_ (i := 1) (N := some 10) (v := ?_) (a' := ?_) #[true, true, false, false, false, false, false, false, false, false, false, false, false, false] rfl rfl (any_of HT_.out (by kernel_rfl)) (fun _ _ _ h => h) (Or.inl ⟨by rfl, ?_⟩) ?_ ?_
    rotate_left
    · intro w'
      go_simp
      with_reducible rfl
    rotate_left
    · simp only [Act.put, List.setIfInBounds_toArray, List.set_cons_zero, List.set_cons_succ, i64_w, i32_w]
      rfl
    refine pure_ (i := 2) (N := some 11) (v := ?_) (a' := ?_) #[true, true, true, false, false, false, false, false, false, false, false, false, false, false] rfl rfl (any_of HT_.out (by kernel_rfl)) (fun _ _ _ h => h) (Or.inl ⟨by rfl, ?_⟩) ?_ ?_
    rotate_left
    · intro w'
      go_simp
      with_reducible rfl
    rotate_left
    · simp only [Act.put, List.setIfInBounds_toArray, List.set_cons_zero, List.set_cons_succ, i64_w, i32_w]
      rfl
    refine pure_ (i := 4) (N := some 13) (v := ?_) (a' := ?_) #[true, true, true, false, true, false, false, false, false, false, false, false, false, false] rfl rfl (any_of HT_.out (by kernel_rfl)) (fun _ _ _ h => h) (Or.inl ⟨by rfl, ?_⟩) ?_ ?_
    rotate_left
    · intro w'
      go_simp
      with_reducible rfl
    rotate_left
    · simp only [Act.put, List.setIfInBounds_toArray, List.set_cons_zero, List.set_cons_succ, i64_w, i32_w]
      rfl
    refine pure_ (i := 5) (N := some 14) (v := ?_) (a' := ?_) #[true, true, true, false, true, true, false, false, false, false, false, false, false, false] rfl rfl (any_of HT_.out (by kernel_rfl)) (fun _ _ _ h => h) (Or.inl ⟨by rfl, ?_⟩) ?_ ?_
    rotate_left
    · intro w'
      go_simp
      with_reducible rfl
    rotate_left
    · simp only [Act.put, List.setIfInBounds_toArray, List.set_cons_zero, List.set_cons_succ, i64_w, i32_w]
      rfl
    refine pure_ (i := 6) (N := some 15) (v := ?_) (a' := ?_) #[true, true, true, false, true, true, true, false, false, false, false, false, false, false] rfl rfl (any_of HT_.out (by kernel_rfl)) (fun _ _ _ h => h) (Or.inl ⟨by rfl, ?_⟩) ?_ ?_
    rotate_left
    · intro w'
      go_simp
      with_reducible rfl
    rotate_left
    · simp only [Act.put, List.setIfInBounds_toArray, List.set_cons_zero, List.set_cons_succ, i64_w, i32_w]
      rfl
    refine pure_ (i := 8) (N := some 17) (v := ?_) (a' := ?_) #[true, true, true, false, true, true, true, false, true, false, false, false, false, false] rfl rfl (any_of HT_.out (by kernel_rfl)) (fun _ _ _ h => h) (Or.inl ⟨by rfl, ?_⟩) ?_ ?_
    rotate_left
    · intro w'
      go_simp
      with_reducible rfl
    rotate_left
    · simp only [Act.put, List.setIfInBounds_toArray, List.set_cons_zero, List.set_cons_succ, i64_w, i32_w]
      rfl
    refine pure_ (i := 9) (N := some 18) (v := ?_) (a' := ?_) #[true, true, true, false, true, true, true, false, true, true, false, false, false, false] rfl rfl (any_of HT_.out (by kernel_rfl)) (fun _ _ _ h => h) (Or.inl ⟨by rfl, ?_⟩) ?_ ?_
    rotate_left
    · intro w'
      go_simp
      with_reducible rfl
    rotate_left
    · simp only [Act.put, List.setIfInBounds_toArray, List.set_cons_zero, List.set_cons_succ, i64_w, i32_w]
      rfl
    refine pure_ (i := 10) (N := some 19) (v := ?_) (a' := ?_) #[true, true, true, false, true, true, true, false, true, true, true, false, false, false] rfl rfl (any_of HT_.out (by kernel_rfl)) (fun _ _ _ h => h) (Or.inl ⟨by rfl, ?_⟩) ?_ ?_
    rotate_left
    · intro w'
      go_simp
      with_reducible rfl
    rotate_left
    · simp only [Act.put, List.setIfInBounds_toArray, List.set_cons_zero, List.set_cons_succ, i64_w, i32_w]
      rfl
    refine take_ (i := 3) (N := some 12) (v := ?_) (a' := ?_) #[true, true, true, true, true, true, true, false, true, true, true, false, false, false] rfl rfl (take_ofW HT_.out HW_.out (by kernel_rfl)) (fun _ _ _ h => h) (Or.inl ⟨by rfl, ?_⟩) hHeld ?_ ?_
    rotate_left
    · rintro w' ⟨s0, s1, s2, s3, s4, s5, s6, s7, s8⟩
      go_simp
      with_reducible rfl
    rotate_left
    · simp only [Act.put, List.setIfInBounds_toArray, List.set_cons_zero, List.set_cons_succ, i64_w, i32_w]
      rfl
    refine take_ (i := 7) (N := some 16) (v := ?_) (a' := ?_) #[true, true, true, true, true, true, true, true, true, true, true, false, false, false] rfl rfl (take_ofW HT_.out HW_.out (by kernel_rfl)) (fun _ _ _ h => h) (Or.inl ⟨by rfl, ?_⟩) hHeld ?_ ?_
    rotate_left
    · rintro w' ⟨s0, s1, s2, s3, s4, s5, s6, s7, s8⟩
      go_simp
      with_reducible rfl
    rotate_left
    · simp only [Act.put, List.setIfInBounds_toArray, List.set_cons_zero, List.set_cons_succ, i64_w, i32_w]
      rfl
    refine take_ (i := 11) (N := some 20) (v := ?_) (a' := ?_) #[true, true, true, true, true, true, true, true, true, true, true, true, false, false] rfl rfl (take_ofW HT_.out HW_.out (by kernel_rfl)) (fun _ _ _ h => h) (Or.inl ⟨by rfl, ?_⟩) hHeld ?_ ?_
    rotate_left
    · rintro w' ⟨s0, s1, s2, s3, s4, s5, s6, s7, s8⟩
      go_simp
      with_reducible rfl
    rotate_left
    · simp only [Act.put, List.setIfInBounds_toArray, List.set_cons_zero, List.set_cons_succ, i64_w, i32_w]
      rfl
    refine one_ (i := 12) (N := some 21) #[true, true, true, true, true, true, true, true, true, true, true, true, true, false] rfl rfl (one_of HT_.out (by kernel_rfl)) (by decide) (fun K hK => ?_)
    refine goes_ Tryd.func77 (by kernel_rfl) rfl #[.string (⟨#[112, 117, 115, 104]⟩ : ByteArray), .int .i64 s0_1, .int .i64 s0_2, .int .i64 s0_3] (by rfl) rfl rfl (by (try simp only [List.map_toArray, List.map_cons, List.map_nil]); first | done | rfl | (simp only [List.length_drop, List.length_take]; rfl)) ?_
    with_reducible refine (spec_l11Three.calls k (⟨#[112, 117, 115, 104]⟩ : ByteArray) s0_1 s0_2 s0_3 t231 _ A3.out).mono ?_
    rintro e w6 ⟨rfl, hb⟩
    refine ⟨_, rfl, ?_⟩
    have n0_ := Aside0.mk (IsA41.below (by repeat (first | (with_reducible first | exact HI0.out | apply IsA41.alloc | apply IsA41.drewN | apply IsA41.drew | apply IsA41.set_0 | apply IsA41.set_1 | apply IsA41.set_2 | apply IsA41.set_3 | apply IsA41.set_4 | apply IsA41.set_5 | apply IsA41.set_6 | apply IsA41.set_7 | apply IsA41.set_8 | refine IsA41.far ?_ NB0_0.out _) | exact HI0.out)) hb)
    have n1_ := Aside0.mk (BlkA.below (by (with_reducible repeat (first | refine blk_drewN ?_ _ | refine blk_drew ?_ | refine blk_alloc ?_ _)); exact SB0.out) hb)
    have n2_ := Aside0.mk (KeepBut.trans (by repeat (first | (with_reducible first | exact HK.out | apply KeepBut.set | apply keep_drewN | apply keep_drew | apply keep_alloc | refine keep_far ?_ GW0.out _) | exact HK.out)) (KeepBut.of_below hb g.block none) (.inl rfl))
    have n3_ := Aside0.mk (below_step (by repeat (first | (with_reducible first | exact HB.out | apply below_alloc | apply pw_below_drewN | apply below_drew1 | refine below_set ?_ (IsA41.ge HI0.out) | refine below_set ?_ GE0.out) | exact HB.out)) hb)
    clear HI0
    clear SB0
    clear HK
    clear HB
    have HI0 := n0_
    have SB0 := n1_
    have HK := n2_
    have HB := n3_
    clear n0_ n1_ n2_ n3_
    (try clear hb)
    (try clear hb2)
    (try clear hk)
    (try clear hi)
    refine hK.out _ _ ⟨BlkA.cell0 SB0.out, BlkA.cell1 SB0.out, BlkA.cell2 SB0.out, BlkA.cell3 SB0.out, BlkA.cell4 SB0.out, BlkA.cell5 SB0.out, BlkA.cell6 SB0.out, BlkA.cell7 SB0.out, BlkA.cell8 SB0.out⟩ (fun hHeld => ?_)
    clear hK K
    refine norm_ (a' := ?_) ?_ ?_
    rotate_left
    · show Act.put _ (some 21) _ = _
      simp only [Act.put, List.setIfInBounds_toArray, List.set_cons_zero, List.set_cons_succ, i64_w, i32_w]
      rfl
    refine pure_ (i := 13) (N := some 2) (v := ?_) (a' := ?_) #[true, true, true, true, true, true, true, true, true, true, true, true, true, true] rfl rfl (any_of HT_.out (by kernel_rfl)) (fun _ _ _ h => h) (Or.inl ⟨by rfl, ?_⟩) ?_ ?_
    rotate_left
    · intro w'
      go_simp
      with_reducible rfl
    rotate_left
    · simp only [Act.put, List.setIfInBounds_toArray, List.set_cons_zero, List.set_cons_succ, i64_w, i32_w]
      rfl
    refine done_ (done_of HT_.out (by kernel_rfl)) ?_
    (try clear SB0)
    try go_wp2
    go_ret
    exact ⟨by first | rfl | (simp [errW_none, errW_some] <;> rfl) | (simp [*, errW_none, errW_some] <;> rfl), by repeat (first | (with_reducible first | exact HI0.out | apply IsA41.alloc | apply IsA41.drewN | apply IsA41.drew | apply IsA41.set_0 | apply IsA41.set_1 | apply IsA41.set_2 | apply IsA41.set_3 | apply IsA41.set_4 | apply IsA41.set_5 | apply IsA41.set_6 | apply IsA41.set_7 | apply IsA41.set_8) | exact HI0.out), by repeat (first | (with_reducible first | exact HB.out | apply below_alloc | apply pw_below_drewN | apply below_drew1 | refine below_set ?_ (IsA41.ge HI0.out)) | exact HB.out), by repeat (first | (with_reducible first | exact HK.out | apply KeepBut.set | apply keep_drewN | apply keep_drew | apply keep_alloc) | exact HK.out)⟩
  · rw [if_neg c2] at H
    have c2b0 : (s0_0 == 1) = false := beq_eq_false_iff_ne.mpr c2
    have c2b1 : (s0_0 != 1) = true := bne_iff_ne.mpr c2
    by_cases c7 : s0_0 = 2
    · rw [if_pos c7] at H
      have c7b0 : (s0_0 == 2) = true := beq_iff_eq.mpr c7
      have c7b1 : (s0_0 != 2) = false := bne_eq_false_iff_eq.mpr c7
      clear c7
      obtain ⟨y232, hy232⟩ : ∃ y_ : List (S39), y_ = (([(⟨s0_4, s0_5⟩ : S39)] : List (S39))) := ⟨_, rfl⟩
      replace H : ((spec_l03Text.f k y232).bind fun t235 => (if 6 + t235.size ≤ 9223372036854775807 then (some ((⟨#[98, 117, 105, 108, 100, 32]⟩ : ByteArray) ++ t235, s0_0, s0_1, s0_2, s0_3, s0_4, s0_5, s0_6, s0_7, s0_8)) else (none))) = some (r1, r2, r3, r4, r5, r6, r7, r8, r9, r10) := by first | (rw [hy232]; with_reducible exact H) | (have H2_ := (Option.bind_some _ _).symm.trans H; rw [hy232]; with_reducible exact H2_) | (have H2_ := (Option.bind_some _ _).symm.trans H; with_reducible exact H2_) | with_reducible exact H | (rw [hy232]; exact H) | exact H
      have Ny232 := Aside0.mk hy232
      clear hy232
      replace H := Option.bind_eq_some_iff.mp H
      obtain ⟨t235, A80, H⟩ := H
      replace H : (if 6 + t235.size ≤ 9223372036854775807 then (some ((⟨#[98, 117, 105, 108, 100, 32]⟩ : ByteArray) ++ t235, s0_0, s0_1, s0_2, s0_3, s0_4, s0_5, s0_6, s0_7, s0_8)) else (none)) = some (r1, r2, r3, r4, r5, r6, r7, r8, r9, r10) := H
      have A8 := Aside0.mk A80
      clear A80
      by_cases c9 : 6 + t235.size ≤ 9223372036854775807
      · rw [if_pos c9] at H
        have c9b0 := eq_true c9
        have c9b1 : decide (6 + t235.size ≤ 9223372036854775807) = true := decide_eq_true c9
        try have c9b2 : (9223372036854775807 < 6 + t235.size) = False := eq_false (Nat.not_lt.2 c9)
        simp only [Option.some.injEq, Prod.mk.injEq] at H
        obtain ⟨rfl, rfl, rfl, rfl, rfl, rfl, rfl, rfl, rfl, rfl⟩ := H
        obtain ⟨HGz10, hgz10⟩ := HI0.out
        have hcz10_0 := BlkA.cell0 HGz10
        have hcz10_1 := BlkA.cell1 HGz10
        have hcz10_2 := BlkA.cell2 HGz10
        have hcz10_3 := BlkA.cell3 HGz10
        have hcz10_4 := BlkA.cell4 HGz10
        have hcz10_5 := BlkA.cell5 HGz10
        have hcz10_5n : _ = some _ := (show World.cell? _ ⟨g.block, g.off + 4 + 1, none⟩ = some _ from BlkA.cell5 HGz10)
        have hcz10_6 := BlkA.cell6 HGz10
        have hcz10_7 := BlkA.cell7 HGz10
        have hcz10_8 := BlkA.cell8 HGz10
        clear HGz10 hgz10
        go_enter Tryd.func44, Tryd.ntmps44
        go_wp2_with (first | ((with_reducible refine gate_dst (N := 28) rfl ?_); refine Kd.R_lit k39 _ 39 ?hg (N := 28) ?hd (xs := ([(⟨s0_4, s0_5⟩ : S39)] : List (S39))) (inner := [.int .i64 s0_4, .int .i64 s0_5]) (ok := fun _ => True) (okp := fun _ => True) ?hr ?hp (fun _ hk => hk) trivial (Below.refl _ _) (Nat.le_refl _) (by simp) ?_; (case hd => rfl); (case hg => rfl); (case hr => first | (go_simp; done) | (go_simp; rfl)); (case hp => exact (Reps.c2 (show Kd.M k39 _ _ _ (⟨s0_4, s0_5⟩ : S39) [.int .i64 s0_4, .int .i64 s0_5] from (k39_mkM _ _ _ (⟨s0_4, s0_5⟩ : S39) )) (Reps.none _ _))); intro v233 w11 ho12 hb hg_ hnew_; clear hg_ hnew_; (first | rw [← Ny232.out] at ho12 | (simp only [Int.reduceToNat] at ho12; rw [← Ny232.out] at ho12)); have n0_ := Aside0.mk (Kd.R_lower ho12 (keep_size (w := w) (g := g.block) (row := none) (by repeat (first | (with_reducible first | exact HK.out | apply KeepBut.set | apply keep_drewN | apply keep_drew | apply keep_alloc) | exact HK.out)))); have n1_ := Aside0.mk (IsA41.below (by repeat (first | (with_reducible first | exact HI0.out | apply IsA41.alloc | apply IsA41.drewN | apply IsA41.drew | apply IsA41.set_0 | apply IsA41.set_1 | apply IsA41.set_2 | apply IsA41.set_3 | apply IsA41.set_4 | apply IsA41.set_5 | apply IsA41.set_6 | apply IsA41.set_7 | apply IsA41.set_8) | exact HI0.out)) hb); have n2_ := Aside0.mk (KeepBut.trans (by repeat (first | (with_reducible first | exact HK.out | apply KeepBut.set | apply keep_drewN | apply keep_drew | apply keep_alloc) | exact HK.out)) (KeepBut.of_below hb g.block none) (.inl rfl)); have n3_ := Aside0.mk (below_step (by repeat (first | (with_reducible first | exact HB.out | apply below_alloc | apply pw_below_drewN | apply below_drew1 | refine below_set ?_ (IsA41.ge HI0.out)) | exact HB.out)) hb); clear HI0; clear HK; clear HB; have HO234 := n0_; have HI0 := n1_; have HK := n2_; have HB := n3_; clear n0_ n1_ n2_ n3_; clear hb ho12; obtain ⟨Ao13, co13, eo13⟩ := Kd.R_slice HO234.out; subst eo13) | ((with_reducible refine gate_callee (f := 78) rfl ?_); refine goesL_ (some 29) rfl rfl Tryd.func78 (by kernel_rfl) rfl #[.slice Ao13 y232.length co13] rfl (by (try simp only [List.map_toArray, List.map_cons, List.map_nil]); first | done | rfl | (simp only [List.length_drop, List.length_take]; rfl)) ?_; (with_reducible refine (spec_l03Text.calls k _ _ y232 t235 _ ?side1 ?side2 A8.out).mono ?_); (case side1 => repeat (first | exact (Kd.R_reads' HO234.out).2.2 | (with_reducible refine Kd.C_alloc ?_ _) | (with_reducible refine Kd.C_drewN ?_ _) | (with_reducible refine Kd.C_drew ?_))); (case side2 => exact (Kd.R_reads' HO234.out).2.1); rintro e w14 ⟨rfl, hb⟩; refine ⟨_, rfl, ?_⟩; have n0_ := Aside0.mk (Kd.R_below (by (with_reducible repeat (first | apply Kd.R_alloc | apply Kd.R_drewN | apply Kd.R_drew)); exact HO234.out) hb); have n1_ := Aside0.mk (IsA41.below (by repeat (first | (with_reducible first | exact HI0.out | apply IsA41.alloc | apply IsA41.drewN | apply IsA41.drew | apply IsA41.set_0 | apply IsA41.set_1 | apply IsA41.set_2 | apply IsA41.set_3 | apply IsA41.set_4 | apply IsA41.set_5 | apply IsA41.set_6 | apply IsA41.set_7 | apply IsA41.set_8) | exact HI0.out)) hb); have n2_ := Aside0.mk (KeepBut.trans (by repeat (first | (with_reducible first | exact HK.out | apply KeepBut.set | apply keep_drewN | apply keep_drew | apply keep_alloc) | exact HK.out)) (KeepBut.of_below hb g.block none) (.inl rfl)); have n3_ := Aside0.mk (below_step (by repeat (first | (with_reducible first | exact HB.out | apply below_alloc | apply pw_below_drewN | apply below_drew1 | refine below_set ?_ (IsA41.ge HI0.out)) | exact HB.out)) hb); clear HO234; clear HI0; clear HK; clear HB; have HO234 := n0_; have HI0 := n1_; have HK := n2_; have HB := n3_; clear n0_ n1_ n2_ n3_; (try clear hb); (try clear hb2); (try clear hk); (try clear hi)))
        go_ret
        exact ⟨by first | rfl | (simp [errW_none, errW_some] <;> rfl) | (simp [*, errW_none, errW_some] <;> rfl), by repeat (first | (with_reducible first | exact HI0.out | apply IsA41.alloc | apply IsA41.drewN | apply IsA41.drew | apply IsA41.set_0 | apply IsA41.set_1 | apply IsA41.set_2 | apply IsA41.set_3 | apply IsA41.set_4 | apply IsA41.set_5 | apply IsA41.set_6 | apply IsA41.set_7 | apply IsA41.set_8) | exact HI0.out), by repeat (first | (with_reducible first | exact HB.out | apply below_alloc | apply pw_below_drewN | apply below_drew1 | refine below_set ?_ (IsA41.ge HI0.out)) | exact HB.out), by repeat (first | (with_reducible first | exact HK.out | apply KeepBut.set | apply keep_drewN | apply keep_drew | apply keep_alloc) | exact HK.out)⟩
      · rw [if_neg c9] at H
        exact absurd H (by simp)
    · rw [if_neg c7] at H
      have c7b0 : (s0_0 == 2) = false := beq_eq_false_iff_ne.mpr c7
      have c7b1 : (s0_0 != 2) = true := bne_iff_ne.mpr c7
      replace H := Option.bind_eq_some_iff.mp H
      obtain ⟨t236, A150, H⟩ := H
      replace H : (some (t236, s0_0, s0_1, s0_2, s0_3, s0_4, s0_5, s0_6, s0_7, s0_8)) = some (r1, r2, r3, r4, r5, r6, r7, r8, r9, r10) := H
      have A15 := Aside0.mk A150
      clear A150
      simp only [Option.some.injEq, Prod.mk.injEq] at H
      obtain ⟨rfl, rfl, rfl, rfl, rfl, rfl, rfl, rfl, rfl, rfl⟩ := H
      obtain ⟨HGz16, hgz16⟩ := HI0.out
      have hcz16_0 := BlkA.cell0 HGz16
      have hcz16_1 := BlkA.cell1 HGz16
      have hcz16_2 := BlkA.cell2 HGz16
      have hcz16_3 := BlkA.cell3 HGz16
      have hcz16_4 := BlkA.cell4 HGz16
      have hcz16_5 := BlkA.cell5 HGz16
      have hcz16_5n : _ = some _ := (show World.cell? _ ⟨g.block, g.off + 4 + 1, none⟩ = some _ from BlkA.cell5 HGz16)
      have hcz16_6 := BlkA.cell6 HGz16
      have hcz16_7 := BlkA.cell7 HGz16
      have hcz16_8 := BlkA.cell8 HGz16
      clear HGz16 hgz16
      go_enter Tryd.func44, Tryd.ntmps44
      try go_wp2
      have n0_ := Aside0.mk (IsA41.drew HI0.out)
      have n1_ := Aside0.mk (keep_drew HK.out)
      have n2_ := Aside0.mk (below_drew1 HB.out)
      clear HI0
      clear HK
      clear HB
      have HI0 := n0_
      have HK := n1_
      have HB := n2_
      clear n0_ n1_ n2_
      obtain ⟨hbS_, -⟩ := HI0.out
      have SB0 := Aside0.mk hbS_
      clear hbS_
      refine start_ (n := 14) (S := fun w' => w'.cell? g = some (.int .i64 s0_0) ∧ w'.cell? ⟨g.block, g.off + 1, none⟩ = some (.int .i64 s0_1) ∧ w'.cell? ⟨g.block, g.off + 2, none⟩ = some (.int .i64 s0_2) ∧ w'.cell? ⟨g.block, g.off + 3, none⟩ = some (.int .i64 s0_3) ∧ w'.cell? ⟨g.block, g.off + 4, none⟩ = some (.int .i64 s0_4) ∧ w'.cell? ⟨g.block, g.off + 5, none⟩ = some (.int .i64 s0_5) ∧ w'.cell? ⟨g.block, g.off + 6, none⟩ = some (.int .i64 s0_6) ∧ w'.cell? ⟨g.block, g.off + 7, none⟩ = some (.int .i64 s0_7) ∧ w'.cell? ⟨g.block, g.off + 8, none⟩ = some (.int .i64 s0_8)) (ds := []) #[false, false, false, false, false, false, false, false, false, false, false, false, false, false] (by kernel_rfl) rfl rfl ⟨BlkA.cell0 SB0.out, BlkA.cell1 SB0.out, BlkA.cell2 SB0.out, BlkA.cell3 SB0.out, BlkA.cell4 SB0.out, BlkA.cell5 SB0.out, BlkA.cell6 SB0.out, BlkA.cell7 SB0.out, BlkA.cell8 SB0.out⟩ (fun hHeld => ?_); refine with_tabW spec_l11Text.tab6 spec_l11Text.bits6 (fun HT_ HW_ => ?_)
      generalize w.drew = w17 at SB0 HI0 HK HB hHeld ⊢
      refine pure_ (i := 0) (N := some 31) (v := ?_) (a' := ?_) #[true, false, false, false, false, false, false, false, false, false, false, false, false, false] rfl rfl (any_of HT_.out (by kernel_rfl)) (fun _ _ _ h => h) (Or.inl ⟨by rfl, ?_⟩) ?_ ?_
      rotate_left
      · intro w'
        go_simp
        with_reducible rfl
      rotate_left
      · simp only [Act.put, List.setIfInBounds_toArray, List.set_cons_zero, List.set_cons_succ, i64_w, i32_w]
        rfl
      refine pure_ (i := 1) (N := some 32) (v := ?_) (a' := ?_) #[true, true, false, false, false, false, false, false, false, false, false, false, false, false] rfl rfl (any_of HT_.out (by kernel_rfl)) (fun _ _ _ h => h) (Or.inl ⟨by rfl, ?_⟩) ?_ ?_
      rotate_left
      · intro w'
        go_simp
        with_reducible rfl
      rotate_left
      · simp only [Act.put, List.setIfInBounds_toArray, List.set_cons_zero, List.set_cons_succ, i64_w, i32_w]
        rfl
      refine pure_ (i := 2) (N := some 33) (v := ?_) (a' := ?_) #[true, true, true, false, false, false, false, false, false, false, false, false, false, false] rfl rfl (any_of HT_.out (by kernel_rfl)) (fun _ _ _ h => h) (Or.inl ⟨by rfl, ?_⟩) ?_ ?_
      rotate_left
      · intro w'
        go_simp
        with_reducible rfl
      rotate_left
      · simp only [Act.put, List.setIfInBounds_toArray, List.set_cons_zero, List.set_cons_succ, i64_w, i32_w]
        rfl
      refine pure_ (i := 4) (N := some 35) (v := ?_) (a' := ?_) #[true, true, true, false, true, false, false, false, false, false, false, false, false, false] rfl rfl (any_of HT_.out (by kernel_rfl)) (fun _ _ _ h => h) (Or.inl ⟨by rfl, ?_⟩) ?_ ?_
      rotate_left
      · intro w'
        go_simp
        with_reducible rfl
      rotate_left
      · simp only [Act.put, List.setIfInBounds_toArray, List.set_cons_zero, List.set_cons_succ, i64_w, i32_w]
        rfl
      refine pure_ (i := 5) (N := some 36) (v := ?_) (a' := ?_) #[true, true, true, false, true, true, false, false, false, false, false, false, false, false] rfl rfl (any_of HT_.out (by kernel_rfl)) (fun _ _ _ h => h) (Or.inl ⟨by rfl, ?_⟩) ?_ ?_
      rotate_left
      · intro w'
        go_simp
        with_reducible rfl
      rotate_left
      · simp only [Act.put, List.setIfInBounds_toArray, List.set_cons_zero, List.set_cons_succ, i64_w, i32_w]
        rfl
      refine pure_ (i := 6) (N := some 37) (v := ?_) (a' := ?_) #[true, true, true, false, true, true, true, false, false, false, false, false, false, false] rfl rfl (any_of HT_.out (by kernel_rfl)) (fun _ _ _ h => h) (Or.inl ⟨by rfl, ?_⟩) ?_ ?_
      rotate_left
      · intro w'
        go_simp
        with_reducible rfl
      rotate_left
      · simp only [Act.put, List.setIfInBounds_toArray, List.set_cons_zero, List.set_cons_succ, i64_w, i32_w]
        rfl
      refine pure_ (i := 8) (N := some 39) (v := ?_) (a' := ?_) #[true, true, true, false, true, true, true, false, true, false, false, false, false, false] rfl rfl (any_of HT_.out (by kernel_rfl)) (fun _ _ _ h => h) (Or.inl ⟨by rfl, ?_⟩) ?_ ?_
      rotate_left
      · intro w'
        go_simp
        with_reducible rfl
      rotate_left
      · simp only [Act.put, List.setIfInBounds_toArray, List.set_cons_zero, List.set_cons_succ, i64_w, i32_w]
        rfl
      refine pure_ (i := 9) (N := some 40) (v := ?_) (a' := ?_) #[true, true, true, false, true, true, true, false, true, true, false, false, false, false] rfl rfl (any_of HT_.out (by kernel_rfl)) (fun _ _ _ h => h) (Or.inl ⟨by rfl, ?_⟩) ?_ ?_
      rotate_left
      · intro w'
        go_simp
        with_reducible rfl
      rotate_left
      · simp only [Act.put, List.setIfInBounds_toArray, List.set_cons_zero, List.set_cons_succ, i64_w, i32_w]
        rfl
      refine pure_ (i := 10) (N := some 41) (v := ?_) (a' := ?_) #[true, true, true, false, true, true, true, false, true, true, true, false, false, false] rfl rfl (any_of HT_.out (by kernel_rfl)) (fun _ _ _ h => h) (Or.inl ⟨by rfl, ?_⟩) ?_ ?_
      rotate_left
      · intro w'
        go_simp
        with_reducible rfl
      rotate_left
      · simp only [Act.put, List.setIfInBounds_toArray, List.set_cons_zero, List.set_cons_succ, i64_w, i32_w]
        rfl
      refine take_ (i := 3) (N := some 34) (v := ?_) (a' := ?_) #[true, true, true, true, true, true, true, false, true, true, true, false, false, false] rfl rfl (take_ofW HT_.out HW_.out (by kernel_rfl)) (fun _ _ _ h => h) (Or.inl ⟨by rfl, ?_⟩) hHeld ?_ ?_
      rotate_left
      · rintro w' ⟨s0, s1, s2, s3, s4, s5, s6, s7, s8⟩
        go_simp
        with_reducible rfl
      rotate_left
      · simp only [Act.put, List.setIfInBounds_toArray, List.set_cons_zero, List.set_cons_succ, i64_w, i32_w]
        rfl
      refine take_ (i := 7) (N := some 38) (v := ?_) (a' := ?_) #[true, true, true, true, true, true, true, true, true, true, true, false, false, false] rfl rfl (take_ofW HT_.out HW_.out (by kernel_rfl)) (fun _ _ _ h => h) (Or.inl ⟨by rfl, ?_⟩) hHeld ?_ ?_
      rotate_left
      · rintro w' ⟨s0, s1, s2, s3, s4, s5, s6, s7, s8⟩
        go_simp
        with_reducible rfl
      rotate_left
      · simp only [Act.put, List.setIfInBounds_toArray, List.set_cons_zero, List.set_cons_succ, i64_w, i32_w]
        rfl
      refine take_ (i := 11) (N := some 42) (v := ?_) (a' := ?_) #[true, true, true, true, true, true, true, true, true, true, true, true, false, false] rfl rfl (take_ofW HT_.out HW_.out (by kernel_rfl)) (fun _ _ _ h => h) (Or.inl ⟨by rfl, ?_⟩) hHeld ?_ ?_
      rotate_left
      · rintro w' ⟨s0, s1, s2, s3, s4, s5, s6, s7, s8⟩
        go_simp
        with_reducible rfl
      rotate_left
      · simp only [Act.put, List.setIfInBounds_toArray, List.set_cons_zero, List.set_cons_succ, i64_w, i32_w]
        rfl
      refine one_ (i := 12) (N := some 43) #[true, true, true, true, true, true, true, true, true, true, true, true, true, false] rfl rfl (one_of HT_.out (by kernel_rfl)) (by decide) (fun K hK => ?_)
      refine goes_ Tryd.func77 (by kernel_rfl) rfl #[.string (⟨#[103, 114, 111, 117, 116]⟩ : ByteArray), .int .i64 s0_6, .int .i64 s0_7, .int .i64 s0_8] (by rfl) rfl rfl (by (try simp only [List.map_toArray, List.map_cons, List.map_nil]); first | done | rfl | (simp only [List.length_drop, List.length_take]; rfl)) ?_
      with_reducible refine (spec_l11Three.calls k (⟨#[103, 114, 111, 117, 116]⟩ : ByteArray) s0_6 s0_7 s0_8 t236 _ A15.out).mono ?_
      rintro e w18 ⟨rfl, hb⟩
      refine ⟨_, rfl, ?_⟩
      have n0_ := Aside0.mk (IsA41.below (by repeat (first | (with_reducible first | exact HI0.out | apply IsA41.alloc | apply IsA41.drewN | apply IsA41.drew | apply IsA41.set_0 | apply IsA41.set_1 | apply IsA41.set_2 | apply IsA41.set_3 | apply IsA41.set_4 | apply IsA41.set_5 | apply IsA41.set_6 | apply IsA41.set_7 | apply IsA41.set_8 | refine IsA41.far ?_ NB0_0.out _) | exact HI0.out)) hb)
      have n1_ := Aside0.mk (BlkA.below (by (with_reducible repeat (first | refine blk_drewN ?_ _ | refine blk_drew ?_ | refine blk_alloc ?_ _)); exact SB0.out) hb)
      have n2_ := Aside0.mk (KeepBut.trans (by repeat (first | (with_reducible first | exact HK.out | apply KeepBut.set | apply keep_drewN | apply keep_drew | apply keep_alloc | refine keep_far ?_ GW0.out _) | exact HK.out)) (KeepBut.of_below hb g.block none) (.inl rfl))
      have n3_ := Aside0.mk (below_step (by repeat (first | (with_reducible first | exact HB.out | apply below_alloc | apply pw_below_drewN | apply below_drew1 | refine below_set ?_ (IsA41.ge HI0.out) | refine below_set ?_ GE0.out) | exact HB.out)) hb)
      clear HI0
      clear SB0
      clear HK
      clear HB
      have HI0 := n0_
      have SB0 := n1_
      have HK := n2_
      have HB := n3_
      clear n0_ n1_ n2_ n3_
      (try clear hb)
      (try clear hb2)
      (try clear hk)
      (try clear hi)
      refine hK.out _ _ ⟨BlkA.cell0 SB0.out, BlkA.cell1 SB0.out, BlkA.cell2 SB0.out, BlkA.cell3 SB0.out, BlkA.cell4 SB0.out, BlkA.cell5 SB0.out, BlkA.cell6 SB0.out, BlkA.cell7 SB0.out, BlkA.cell8 SB0.out⟩ (fun hHeld => ?_)
      clear hK K
      refine norm_ (a' := ?_) ?_ ?_
      rotate_left
      · show Act.put _ (some 43) _ = _
        simp only [Act.put, List.setIfInBounds_toArray, List.set_cons_zero, List.set_cons_succ, i64_w, i32_w]
        rfl
      refine pure_ (i := 13) (N := some 2) (v := ?_) (a' := ?_) #[true, true, true, true, true, true, true, true, true, true, true, true, true, true] rfl rfl (any_of HT_.out (by kernel_rfl)) (fun _ _ _ h => h) (Or.inl ⟨by rfl, ?_⟩) ?_ ?_
      rotate_left
      · intro w'
        go_simp
        with_reducible rfl
      rotate_left
      · simp only [Act.put, List.setIfInBounds_toArray, List.set_cons_zero, List.set_cons_succ, i64_w, i32_w]
        rfl
      refine done_ (done_of HT_.out (by kernel_rfl)) ?_
      (try clear SB0)
      try go_wp2
      go_ret
      exact ⟨by first | rfl | (simp [errW_none, errW_some] <;> rfl) | (simp [*, errW_none, errW_some] <;> rfl), by repeat (first | (with_reducible first | exact HI0.out | apply IsA41.alloc | apply IsA41.drewN | apply IsA41.drew | apply IsA41.set_0 | apply IsA41.set_1 | apply IsA41.set_2 | apply IsA41.set_3 | apply IsA41.set_4 | apply IsA41.set_5 | apply IsA41.set_6 | apply IsA41.set_7 | apply IsA41.set_8) | exact HI0.out), by repeat (first | (with_reducible first | exact HB.out | apply below_alloc | apply pw_below_drewN | apply below_drew1 | refine below_set ?_ (IsA41.ge HI0.out)) | exact HB.out), by repeat (first | (with_reducible first | exact HK.out | apply KeepBut.set | apply keep_drewN | apply keep_drew | apply keep_alloc) | exact HK.out)⟩


end Go.Proofs.YtahmgalkliicfaaDoor.Q

/- What a deed must be, as both programs ask it. -/
namespace Go.Proofs.YtahmgalkliicfaaDoor.PuVD
open Go.RowKit Go.Proofs.YtahmgalkliicfaaDoorW.PrintWords Go.Proofs.YtahmgalkliicfaaDoor.Q

theorem l00In_eq (a b c : Int) : spec_l00In.f a b c = some (decide (b ≤ a) && decide (a ≤ c)) := by
  unfold spec_l00In.f; split <;> simp_all <;> (intros; omega)
theorem within_eq (a b c : Int) : impl_within.f a b c = some (decide (b ≤ a) && decide (a ≤ c)) := by
  unfold impl_within.f; split <;> simp_all <;> (intros; omega)
theorem ite_and (a b : Bool) : (if a = true then some b else some false) = some (a && b) := by cases a <;> simp
theorem turn_eq (a b : Int) : spec_l02Turn.f a b = some (decide (-12 ≤ a) && decide (a ≤ 12) && (decide (-12 ≤ b) && decide (b ≤ 12))) := by
  simp only [spec_l02Turn.f, l00In_eq, Option.bind_some, ite_and]
theorem turn2_eq (a b : Int) : impl_isTurn.f a b = some (decide (-12 ≤ a) && decide (a ≤ 12) && (decide (-12 ≤ b) && decide (b ≤ 12))) := by
  simp [impl_isTurn.f, impl_areWithin.f, Ha.areIn, Ha.inB]
theorem bound_eq (a : Int) : spec_l06Bound.f a = some (decide (0 ≤ a) && decide (a ≤ 1000000)) := by
  simp only [spec_l06Bound.f, l00In_eq, Option.bind_some]
theorem litres_eq (a : Int) : spec_l07Litres.f a = some (decide (0 ≤ a) && decide (a ≤ 100000)) := by
  simp only [spec_l07Litres.f, l00In_eq, Option.bind_some]
theorem ring_eq (a b : Int) : spec_l03Is.f a b = some (decide (0 ≤ a) && decide (a ≤ 1) && (decide (0 ≤ b) && decide (b ≤ 15))) := by
  simp only [spec_l03Is.f, l00In_eq, Option.bind_some, ite_and]
theorem ring2_eq (a b : Int) : impl_ValidRing.f a b = some (decide (0 ≤ a) && decide (a ≤ 1) && (decide (0 ≤ b) && decide (b ≤ 15))) := by
  simp only [impl_ValidRing.f, within_eq, Option.bind_some, ite_and]
theorem are_eq (a b : Int) : impl_areWithin.f [a, b] 0 100000 = some (decide (0 ≤ a) && decide (a ≤ 100000) && (decide (0 ≤ b) && decide (b ≤ 100000))) := by
  simp [impl_areWithin.f, Ha.areIn, Ha.inB]

/-- a deed is as its kind asks. -/
def deedB (x0 x1 x2 x3 x4 x5 x6 x7 x8 : Int) : Bool :=
  if x0 = 1 then (decide (-12 ≤ x1) && decide (x1 ≤ 12) && (decide (-12 ≤ x2) && decide (x2 ≤ 12))) && (decide (0 ≤ x3) && decide (x3 ≤ 1000000)) && (x4 == 0 && x5 == 0) && (x6 == 0 && x7 == 0 && x8 == 0)
  else if x0 = 2 then (x1 == 0 && x2 == 0 && x3 == 0) && (decide (0 ≤ x4) && decide (x4 ≤ 1) && (decide (0 ≤ x5) && decide (x5 ≤ 15))) && (x6 == 0 && x7 == 0 && x8 == 0)
  else if x0 = 3 then (x1 == 0 && x2 == 0 && x3 == 0) && (x4 == 0 && x5 == 0) && (decide (0 ≤ x6) && decide (x6 ≤ 100000)) && (decide (0 ≤ x7) && decide (x7 ≤ 100000)) && (decide (0 ≤ x8) && decide (x8 ≤ 100))
  else false

theorem j1_eq (k : Nat) (a b : Bool) (x0 x1 x2 x3 x4 x5 x6 x7 x8 : Int) (ha : a = !(x1 == 0 && x2 == 0 && x3 == 0)) (hb : b = !(x6 == 0 && x7 == 0 && x8 == 0)) :
    spec_l11Deed.j1 (k + 1) a b x0 x1 x2 x3 x4 x5 x6 x7 x8 = some (deedB x0 x1 x2 x3 x4 x5 x6 x7 x8, x0, x1, x2, x3, x4, x5, x6, x7, x8) := by
  simp only [spec_l11Deed.j1, turn_eq, bound_eq, litres_eq, ring_eq, l00In_eq, Option.bind_some, deedB]
  by_cases h1 : x0 = 1
  · simp only [h1, if_true, if_false]
    cases hA : (decide (-12 ≤ x1) && decide (x1 ≤ 12) && (decide (-12 ≤ x2) && decide (x2 ≤ 12))) <;> cases hB : (decide (0 ≤ x3) && decide (x3 ≤ 1000000)) <;> cases hC : (x4 == 0 && x5 == 0) <;> simp [hb]
  · by_cases h2 : x0 = 2
    · subst h2
      simp only [h1, if_true, if_false]
      cases hA : (x1 == 0 && x2 == 0 && x3 == 0) <;> simp [ha, hA, hb] <;> (cases hB : (decide (0 ≤ x4) && decide (x4 ≤ 1) && (decide (0 ≤ x5) && decide (x5 ≤ 15))) <;> simp_all <;> (intros; omega))
    · by_cases h3 : x0 = 3
      · subst h3
        simp only [h1, h2, if_true, if_false]
        cases hA : (x1 == 0 && x2 == 0 && x3 == 0) <;> simp [ha, hA]
        cases hB : (x4 == 0 && x5 == 0) <;> cases hC : (decide (0 ≤ x6) && decide (x6 ≤ 100000)) <;> cases hD : (decide (0 ≤ x7) && decide (x7 ≤ 100000)) <;> simp_all <;> (intros; omega)
      · simp [h1, h2, h3]

theorem deed_two (x0 x1 x2 x3 x4 x5 x6 x7 x8 : Int) : spec_l11Deed.f 2 x0 x1 x2 x3 x4 x5 x6 x7 x8 = some (deedB x0 x1 x2 x3 x4 x5 x6 x7 x8, x0, x1, x2, x3, x4, x5, x6, x7, x8) := by
  have h0 : ∀ a : Bool, a = !(x1 == 0 && x2 == 0 && x3 == 0) → spec_l11Deed.j0 2 a x0 x1 x2 x3 x4 x5 x6 x7 x8 = some (deedB x0 x1 x2 x3 x4 x5 x6 x7 x8, x0, x1, x2, x3, x4, x5, x6, x7, x8) := by
    intro a ha
    simp only [spec_l11Deed.j0]
    by_cases h6 : x6 = 0
    · by_cases h7 : x7 = 0
      · rw [if_pos h6, if_pos h7]; exact j1_eq 0 _ _ _ _ _ _ _ _ _ _ _ ha (by simp [h6, h7]; rfl)
      · rw [if_pos h6, if_neg h7]; exact j1_eq 0 _ _ _ _ _ _ _ _ _ _ _ ha (by simp [h7])
    · rw [if_neg h6]; exact j1_eq 0 _ _ _ _ _ _ _ _ _ _ _ ha (by simp [h6])
  have : spec_l11Deed.f 2 x0 x1 x2 x3 x4 x5 x6 x7 x8 = some (deedB x0 x1 x2 x3 x4 x5 x6 x7 x8, x0, x1, x2, x3, x4, x5, x6, x7, x8) := by
    simp only [spec_l11Deed.f]
    by_cases h6 : x1 = 0
    · by_cases h7 : x2 = 0
      · rw [if_pos h6, if_pos h7]; exact h0 _ (by simp [h6, h7]; rfl)
      · rw [if_pos h6, if_neg h7]; exact h0 _ (by simp [h7])
    · rw [if_neg h6]; exact h0 _ (by simp [h6])
  exact this
theorem deed_any (x0 x1 x2 x3 x4 x5 x6 x7 x8 : Int) (k : Nat) (hk : 2 ≤ k) : spec_l11Deed.f k x0 x1 x2 x3 x4 x5 x6 x7 x8 = some (deedB x0 x1 x2 x3 x4 x5 x6 x7 x8, x0, x1, x2, x3, x4, x5, x6, x7, x8) := by
  obtain ⟨d, rfl⟩ := Nat.exists_eq_add_of_le hk
  clear hk
  induction d with
  | zero => exact deed_two _ _ _ _ _ _ _ _ _
  | succ d ih => exact spec_l11Deed.mono _ _ _ _ _ _ _ _ _ _ _ ih

theorem impl_eq (x0 x1 x2 x3 x4 x5 x6 x7 x8 : Int) : impl_ValidDeed.f x0 x1 x2 x3 x4 x5 x6 x7 x8 = some (deedB x0 x1 x2 x3 x4 x5 x6 x7 x8) := by
  simp only [impl_ValidDeed.f, turn2_eq, within_eq, ring2_eq, are_eq, Option.bind_some, ite_and, deedB]
  by_cases h1 : x0 = 1
  · simp [h1, Bool.and_comm, Bool.and_left_comm, Bool.and_assoc]
  · by_cases h2 : x0 = 2
    · simp [h2, Bool.and_comm, Bool.and_left_comm, Bool.and_assoc]
    · by_cases h3 : x0 = 3
      · simp [h3, Bool.and_comm, Bool.and_left_comm, Bool.and_assoc]
      · simp [h1, h2, h3]

end Go.Proofs.YtahmgalkliicfaaDoor.PuVD

namespace Go.Proofs.YtahmgalkliicfaaDoor.PuD
open Go.RowKit Go.Proofs.YtahmgalkliicfaaDoorW.PrintWords Go.Proofs.YtahmgalkliicfaaDoorW.PrintLast Go.Proofs.YtahmgalkliicfaaDoorW.PrintMore Go.Proofs.YtahmgalkliicfaaDoor.Q
def txt (l : List UInt8) : ByteArray := ⟨l.toArray⟩
theorem txt_append (a b : List UInt8) : txt a ++ txt b = txt (a ++ b) := by
  apply ByteArray.ext; simp [txt, ByteArray.data_append]
theorem txt_size (a : List UInt8) : (txt a).size = a.length := by simp [txt, ByteArray.size]
theorem dig_one (u : Nat) : strOfNums [(wrap64 (48 - (Int.tmod (-(u : Int)) 10))) % 256] = txt [UInt8.ofNat (48 + u % 10)] := by
  have h : (wrap64 (48 - (Int.tmod (-(u : Int)) 10))) % 256 = ((48 + u % 10 : Nat) : Int) := by
    rw [Int.neg_tmod, Int.tmod_eq_emod_of_nonneg (by omega)]
    unfold wrap64; omega
  rw [h]
  rfl
theorem div_one (u : Nat) (hu : u ≤ 9223372036854775808) : wrap64 (Int.tdiv (-(u : Int)) 10) = -((u / 10 : Nat) : Int) := by
  rw [Int.neg_tdiv, Int.tdiv_eq_ediv_of_nonneg (by omega)]
  unfold wrap64; omega
theorem decDigits_ge {u : Nat} (h : 10 ≤ u) : Lib.decDigits u = Lib.decDigits (u / 10) ++ [UInt8.ofNat (48 + u % 10)] := by
  rw [Lib.decDigits, dif_neg (by omega)]
theorem dec_loop (s : List UInt8) (hs : s.length ≤ 1) : ∀ (k u : Nat) (acc : List UInt8), u ≤ 9223372036854775808 → u < 10 ^ k → acc.length + k ≤ 1000 → spec_l01Dec.l0 (k + 1) (txt s) (-(u : Int)) (txt acc) = some (txt (s ++ (if u = 0 then [] else Lib.decDigits u) ++ acc)) := by
  intro k
  induction k with
  | zero =>
    intro u acc h1 h2 h3
    obtain rfl : u = 0 := by simpa using h2
    simp only [spec_l01Dec.l0]
    rw [if_neg (by omega), txt_size, txt_size, if_pos (by omega), txt_append]; simp
  | succ k ih =>
    intro u acc h1 h2 h3
    rw [spec_l01Dec.l0]
    by_cases hu : u = 0
    · subst hu
      rw [if_neg (by omega), txt_size, txt_size, if_pos (by omega), txt_append]; simp
    · rw [if_pos (by omega), Option.bind_some, dig_one, txt_size, txt_size, if_pos (by simp; omega), div_one u h1, txt_append]
      rw [ih (u / 10) _ (by omega) (by rw [Nat.pow_succ] at h2; omega) (by simp; omega), if_neg hu]
      congr 2
      by_cases h10 : u < 10
      · rw [if_pos (by omega), Lib.decDigits_one h10]; simp [show u % 10 = u by omega]
      · rw [if_neg (by omega), decDigits_ge (u := u) (by omega)]; simp
theorem l01Dec_eq (n : Int) (h0 : -9223372036854775808 ≤ n) (h1 : n ≤ 9223372036854775807) (k : Nat) (hk : k = 22) : spec_l01Dec.f k n = some (txt (Lib.itoa n)) := by
  subst hk
  have key : ∀ (s : List UInt8) (u : Nat), s.length ≤ 1 → u ≤ 9223372036854775808 → spec_l01Dec.j0 22 (txt s) (-(u : Int)) = some (txt (s ++ Lib.decDigits u)) := by
    intro s u hs hu
    rw [spec_l01Dec.j0, dig_one, div_one u hu]
    rw [dec_loop s hs 20 (u / 10) _ (by omega) (by omega) (by simp)]
    congr 2
    by_cases h10 : u < 10
    · rw [if_pos (by omega), Lib.decDigits_one h10]; simp [show u % 10 = u by omega]
    · rw [if_neg (by omega), decDigits_ge (u := u) (by omega)]; simp
  unfold spec_l01Dec.f Lib.itoa
  by_cases hn : n < 0
  · rw [if_pos hn, if_pos hn]
    have := key [45] n.natAbs (by simp) (by omega)
    rw [show -((n.natAbs : Nat) : Int) = n by omega] at this
    exact this
  · rw [if_neg hn, if_neg hn]
    have := key [] n.toNat (by simp) (by omega)
    rw [show -((n.toNat : Nat) : Int) = wrap64 (-n) by unfold wrap64; omega] at this
    rw [List.nil_append] at this
    exact this
theorem l01Dec_any (n : Int) (h0 : -9223372036854775808 ≤ n) (h1 : n ≤ 9223372036854775807) (k : Nat) (hk : 22 ≤ k) : spec_l01Dec.f k n = some (txt (Lib.itoa n)) := by
  obtain ⟨d, rfl⟩ := Nat.exists_eq_add_of_le hk
  clear hk
  induction d with
  | zero => exact l01Dec_eq n h0 h1 22 rfl
  | succ d ih => exact spec_l01Dec.mono n _ _ ih
theorem decDigits_len (u : Nat) : ∀ d, u < 10 ^ (d + 1) → (Lib.decDigits u).length ≤ d + 1 := by
  intro d
  induction d generalizing u with
  | zero => intro h; rw [Lib.decDigits, dif_pos (by simpa using h)]; simp
  | succ d ih =>
    intro h
    rw [Lib.decDigits]
    split
    · simp
    · have := ih (u / 10) (by rw [Nat.pow_succ] at h; omega)
      simp only [List.length_append, List.length_singleton]; omega
theorem itoa_len (n : Int) (h0 : -9223372036854775808 ≤ n) (h1 : n ≤ 9223372036854775807) : (Lib.itoa n).length ≤ 20 := by
  unfold Lib.itoa
  split
  · have := decDigits_len n.natAbs 18 (by omega)
    simp only [List.length_cons]; omega
  · have := decDigits_len n.toNat 18 (by omega)
    omega
end Go.Proofs.YtahmgalkliicfaaDoor.PuD

/- The text of a deed: what both programs put together. -/
namespace Go.Proofs.YtahmgalkliicfaaDoor.PuDT
open Go.RowKit Go.Proofs.YtahmgalkliicfaaDoorW.PrintWords Go.Proofs.YtahmgalkliicfaaDoor.Q Go.Proofs.YtahmgalkliicfaaDoor.PuD Go.Proofs.YtahmgalkliicfaaDoor.PuVD

def ok64 (n : Int) : Prop := -9223372036854775808 ≤ n ∧ n ≤ 9223372036854775807
theorem wrap_id {x : Int} (h1 : -9223372036854775808 ≤ x) (h2 : x ≤ 9223372036854775807) : wrap64 x = x := by unfold wrap64; omega
theorem lit0 : (⟨#[]⟩ : ByteArray) = txt [] := rfl
theorem lit1 (a : UInt8) : (⟨#[a]⟩ : ByteArray) = txt [a] := rfl
theorem litn (l : List UInt8) : (⟨l.toArray⟩ : ByteArray) = txt l := rfl
theorem decimal_eq (n : Int) (h : ok64 n) : impl_Decimal.f n = some (txt (Lib.itoa n)) := by unfold impl_Decimal.f; rw [if_pos (show _ ∧ _ from h)]; rfl

def threeT (a b c : Int) : List UInt8 := Lib.itoa a ++ [32] ++ Lib.itoa b ++ [32] ++ Lib.itoa c
def ringT (kind key : Int) : List UInt8 := (if kind = 0 then [115] else [116]) ++ Lib.itoa key
def deedT (x0 x1 x2 x3 x4 x5 x6 x7 x8 : Int) : List UInt8 :=
  if x0 = 1 then [112, 117, 115, 104, 32] ++ threeT x1 x2 x3 else if x0 = 2 then [98, 117, 105, 108, 100, 32] ++ ringT x4 x5 else [103, 114, 111, 117, 116, 32] ++ threeT x6 x7 x8

theorem three_len (a b c : Int) (ha : ok64 a) (hb : ok64 b) (hc : ok64 c) : (threeT a b c).length ≤ 62 := by
  have := itoa_len a ha.1 ha.2; have := itoa_len b hb.1 hb.2; have := itoa_len c hc.1 hc.2
  simp only [threeT, List.length_append, List.length_singleton]; omega

theorem specThree_eq (w : List UInt8) (hw : w.length ≤ 100) (a b c : Int) (ha : ok64 a) (hb : ok64 b) (hc : ok64 c) (k : Nat) (hk : 22 ≤ k) : spec_l11Three.f k (txt w) a b c = some (txt (w ++ [32] ++ threeT a b c)) := by
  have := itoa_len a ha.1 ha.2; have := itoa_len b hb.1 hb.2; have := itoa_len c hc.1 hc.2
  simp only [spec_l11Three.f, l01Dec_any _ ha.1 ha.2 k hk, l01Dec_any _ hb.1 hb.2 k hk, l01Dec_any _ hc.1 hc.2 k hk, Option.bind_some, lit1, txt_append, txt_size, List.length_append, List.length_singleton]
  repeat rw [if_pos (by omega)]
  simp [threeT]

theorem specRing_eq (kind key : Int) (hk2 : ok64 key) (k : Nat) (hk : 24 ≤ k) : spec_l03Text.f k [⟨kind, key⟩] = some (txt (ringT kind key)) := by
  have := itoa_len key hk2.1 hk2.2
  obtain ⟨k, rfl⟩ : ∃ m, k = m + 1 + 1 := ⟨k - 2, by omega⟩
  have hw : wrap64 ((0 : Int) + 1) = 1 := by unfold wrap64; omega
  simp only [spec_l03Text.f, spec_l03Text.l0, List.length_singleton, hw]
  by_cases h : kind = 0
  · simp only [rd_T39, List.getD_cons_zero, Int.toNat_zero, h, l01Dec_any _ hk2.1 hk2.2 (k + 1) (by omega), Option.bind_some, lit0, lit1, txt_append, txt_size, List.length_append, List.length_singleton, List.nil_append, List.length_nil]
    simp only [show ¬ ((0 : Int) > 0) by omega, if_true, if_false, Int.le_refl]
    rw [if_pos (by decide), if_pos (by omega), if_pos (by omega), if_neg (by decide)]
    simp [ringT]
  · simp only [rd_T39, List.getD_cons_zero, Int.toNat_zero, h, l01Dec_any _ hk2.1 hk2.2 (k + 1) (by omega), Option.bind_some, lit0, lit1, txt_append, txt_size, List.length_append, List.length_singleton, List.nil_append, List.length_nil]
    simp only [show ¬ ((0 : Int) > 0) by omega, if_true, if_false, Int.le_refl]
    rw [if_pos (by decide), if_pos (by omega), if_pos (by omega), if_neg (by decide)]
    simp [ringT, h]

theorem implThree_eq (a b c : Int) (ha : ok64 a) (hb : ok64 b) (hc : ok64 c) (k : Nat) (hk : 4 ≤ k) : impl_decimals.f k [a, b, c] (⟨#[32]⟩ : ByteArray) = some (txt (threeT a b c)) := by
  have h1 := itoa_len a ha.1 ha.2; have h2 := itoa_len b hb.1 hb.2; have h3 := itoa_len c hc.1 hc.2
  obtain ⟨k, rfl⟩ : ∃ m, k = m + 1 + 1 + 1 + 1 := ⟨k - 4, by omega⟩
  have w0 : wrap64 ((0 : Int) + 1) = 1 := by unfold wrap64; omega
  have w1 : wrap64 ((1 : Int) + 1) = 2 := by unfold wrap64; omega
  have w2 : wrap64 ((2 : Int) + 1) = 3 := by unfold wrap64; omega
  have hj : Lib.join ([txt (Lib.itoa a), txt (Lib.itoa b), txt (Lib.itoa c)].map (·.data.toList)) [32] = threeT a b c := by
    simp [Lib.join, List.intercalate, List.intersperse, threeT, txt]
  have hl : (threeT a b c).length ≤ 62 := three_len a b c ha hb hc
  simp only [impl_decimals.f, impl_decimals.l0, List.length_cons, List.length_nil, w0, w1, w2]
  simp only [rd, show ((0 : Int)).toNat = 0 from rfl, show ((1 : Int)).toNat = 1 from rfl, show ((2 : Int)).toNat = 2 from rfl, List.getD_cons_zero, List.getD_cons_succ, decimal_eq _ ha, decimal_eq _ hb, decimal_eq _ hc, Option.bind_some, List.nil_append, List.cons_append, List.length_append, List.length_cons, List.length_nil]
  repeat rw [if_pos (by decide)]
  rw [if_neg (by decide), strings_Join.f]
  rw [show (⟨#[32]⟩ : ByteArray).data.toList = [32] from rfl, hj, if_pos ⟨by omega, by simp⟩]
  rfl

theorem implRing_eq (kind key : Int) (hk : kind = 0 ∨ kind = 1) (hk2 : ok64 key) : impl_ringText.f kind key = some (txt (ringT kind key)) := by
  have := itoa_len key hk2.1 hk2.2
  rcases hk with rfl | rfl
  · simp only [impl_ringText.f, decimal_eq _ hk2, Option.bind_some, show wrap64 ((0 : Int) + 1) = 1 by unfold wrap64; omega]
    rw [if_pos (by decide), if_pos (by decide), if_pos (by decide)]
    rw [show (⟨#[115, 116]⟩ : ByteArray).extract (0 : Int).toNat (1 : Int).toNat = txt [115] from rfl, txt_size, txt_size, txt_append, if_pos (by simp; omega)]
    rfl
  · simp only [impl_ringText.f, decimal_eq _ hk2, Option.bind_some, show wrap64 ((1 : Int) + 1) = 2 by unfold wrap64; omega]
    rw [if_pos (by decide), if_pos (by decide), if_pos (by decide)]
    rw [show (⟨#[115, 116]⟩ : ByteArray).extract (1 : Int).toNat (2 : Int).toNat = txt [116] from rfl, txt_size, txt_size, txt_append, if_pos (by simp; omega)]
    rfl

theorem deed_facts {x0 x1 x2 x3 x4 x5 x6 x7 x8 : Int} (h : deedB x0 x1 x2 x3 x4 x5 x6 x7 x8 = true) : ok64 x1 ∧ ok64 x2 ∧ ok64 x3 ∧ ok64 x5 ∧ ok64 x6 ∧ ok64 x7 ∧ ok64 x8 ∧ (x0 = 2 → x4 = 0 ∨ x4 = 1) := by
  unfold deedB at h
  split at h
  · simp only [Bool.and_eq_true, decide_eq_true_eq, beq_iff_eq] at h
    refine ⟨⟨?_, ?_⟩, ⟨?_, ?_⟩, ⟨?_, ?_⟩, ⟨?_, ?_⟩, ⟨?_, ?_⟩, ⟨?_, ?_⟩, ⟨?_, ?_⟩, ?_⟩ <;> omega
  · split at h
    · simp only [Bool.and_eq_true, decide_eq_true_eq, beq_iff_eq] at h
      refine ⟨⟨?_, ?_⟩, ⟨?_, ?_⟩, ⟨?_, ?_⟩, ⟨?_, ?_⟩, ⟨?_, ?_⟩, ⟨?_, ?_⟩, ⟨?_, ?_⟩, ?_⟩ <;> omega
    · split at h
      · simp only [Bool.and_eq_true, decide_eq_true_eq, beq_iff_eq] at h
        refine ⟨⟨?_, ?_⟩, ⟨?_, ?_⟩, ⟨?_, ?_⟩, ⟨?_, ?_⟩, ⟨?_, ?_⟩, ⟨?_, ?_⟩, ⟨?_, ?_⟩, ?_⟩ <;> omega
      · cases h

theorem ring_len (a b : Int) (hb : ok64 b) : (ringT a b).length ≤ 21 := by
  have := itoa_len b hb.1 hb.2
  unfold ringT; split <;> simp <;> omega

theorem deedT_len {x0 x1 x2 x3 x4 x5 x6 x7 x8 : Int} (h : deedB x0 x1 x2 x3 x4 x5 x6 x7 x8 = true) : (deedT x0 x1 x2 x3 x4 x5 x6 x7 x8).length ≤ 70 := by
  obtain ⟨h1, h2, h3, h5, h6, h7, h8, h4⟩ := deed_facts h
  have := three_len x1 x2 x3 h1 h2 h3; have := three_len x6 x7 x8 h6 h7 h8; have := ring_len x4 x5 h5
  unfold deedT
  split
  · simp only [List.length_append, List.length_cons, List.length_nil]; omega
  · split <;> simp only [List.length_append, List.length_cons, List.length_nil] <;> omega

theorem specDeedT {x0 x1 x2 x3 x4 x5 x6 x7 x8 : Int} (h : deedB x0 x1 x2 x3 x4 x5 x6 x7 x8 = true) (k : Nat) (hk : 24 ≤ k) : spec_l11Text.f k x0 x1 x2 x3 x4 x5 x6 x7 x8 = some (txt (deedT x0 x1 x2 x3 x4 x5 x6 x7 x8), x0, x1, x2, x3, x4, x5, x6, x7, x8) := by
  obtain ⟨h1, h2, h3, h5, h6, h7, h8, h4⟩ := deed_facts h
  have hr := ring_len x4 x5 h5
  unfold spec_l11Text.f deedT
  by_cases e1 : x0 = 1
  · rw [if_pos e1, if_pos e1, show (⟨#[112, 117, 115, 104]⟩ : ByteArray) = txt [112, 117, 115, 104] from rfl, specThree_eq _ (by simp) _ _ _ h1 h2 h3 k (by omega)]; rfl
  · rw [if_neg e1, if_neg e1]
    by_cases e2 : x0 = 2
    · rw [if_pos e2, if_pos e2, specRing_eq _ _ h5 k hk, Option.bind_some, txt_size, if_pos (by omega), show (⟨#[98, 117, 105, 108, 100, 32]⟩ : ByteArray) = txt [98, 117, 105, 108, 100, 32] from rfl, txt_append]
    · rw [if_neg e2, if_neg e2, show (⟨#[103, 114, 111, 117, 116]⟩ : ByteArray) = txt [103, 114, 111, 117, 116] from rfl, specThree_eq _ (by simp) _ _ _ h6 h7 h8 k (by omega)]; rfl

theorem implDeedT {x0 x1 x2 x3 x4 x5 x6 x7 x8 : Int} (h : deedB x0 x1 x2 x3 x4 x5 x6 x7 x8 = true) (k : Nat) (hk : 4 ≤ k) : impl_deedText.f k x0 x1 x2 x3 x4 x5 x6 x7 x8 = some (txt (deedT x0 x1 x2 x3 x4 x5 x6 x7 x8)) := by
  obtain ⟨h1, h2, h3, h5, h6, h7, h8, h4⟩ := deed_facts h
  have hr := ring_len x4 x5 h5; have ht := three_len x1 x2 x3 h1 h2 h3; have ht2 := three_len x6 x7 x8 h6 h7 h8
  unfold impl_deedText.f deedT
  by_cases e1 : x0 = 1
  · rw [if_pos e1, if_pos e1, implThree_eq _ _ _ h1 h2 h3 k hk, Option.bind_some, txt_size, if_pos (by omega), show (⟨#[112, 117, 115, 104, 32]⟩ : ByteArray) = txt [112, 117, 115, 104, 32] from rfl, txt_append]
  · rw [if_neg e1, if_neg e1]
    by_cases e2 : x0 = 2
    · rw [if_pos e2, if_pos e2, implRing_eq _ _ (h4 e2) h5, Option.bind_some, txt_size, if_pos (by omega), show (⟨#[98, 117, 105, 108, 100, 32]⟩ : ByteArray) = txt [98, 117, 105, 108, 100, 32] from rfl, txt_append]
    · rw [if_neg e2, if_neg e2, implThree_eq _ _ _ h6 h7 h8 k hk, Option.bind_some, txt_size, if_pos (by omega), show (⟨#[103, 114, 111, 117, 116, 32]⟩ : ByteArray) = txt [103, 114, 111, 117, 116, 32] from rfl, txt_append]
end Go.Proofs.YtahmgalkliicfaaDoor.PuDT

/- The reference's l11Deeds: whether all deeds are valid, each looked at where it lies. -/
namespace Go.Proofs.YtahmgalkliicfaaDoor.Hk
open Go.RowKit Go.Proofs.YtahmgalkliicfaaDoorW.PrintWords Go.Proofs.YtahmgalkliicfaaDoorW.PrintLast Go.Proofs.YtahmgalkliicfaaDoorW.PrintMore Go.Proofs.YtahmgalkliicfaaDoor.Q Go.Proofs.YtahmgalkliicfaaDoor.Ha Go.Proofs.YtahmgalkliicfaaDoor.PuVD Go.Proofs.YtahmgalkliicfaaDoor.PuDT

abbrev Dd := S41
def deedS (x : Dd) : Bool := deedB x.f0 x.f1 x.f2 x.f3 x.f4.f0 x.f4.f1 x.f5 x.f6 x.f7
def cellsD (x : Dd) : List Value := [.int .i64 x.f0, .int .i64 x.f1, .int .i64 x.f2, .int .i64 x.f3, .int .i64 x.f4.f0, .int .i64 x.f4.f1, .int .i64 x.f5, .int .i64 x.f6, .int .i64 x.f7]

theorem add_add' (a : Addr) (i j : Nat) : (a.add i).add j = a.add (i + j) := by
  simp only [Addr.add]
  split <;> split <;> simp_all [Nat.add_assoc]

theorem blkA_at {w : World} {A : Option Addr} {xs : List Dd} (h : Kd.C k41 w A xs.length xs) (k : Nat) (hk : k < xs.length) : ∃ ad, A = some ad ∧ BlkA w (ad.add (k * 9)) (cellsD (xs[k])) := by
  obtain ⟨ad, c, e, _, hK, hc⟩ := Kd.C_get h z41 (k : Int) (by omega) (by omega)
  have hx : xs.getD (k : Int).toNat z41 = xs[k] := by simp [List.getD_eq_getElem?_getD, hk]
  rw [hx] at hK
  obtain rfl := k41_open hK
  have hc' : ∀ j u, (cellsD xs[k])[j]? = some u → w.cell? ((ad.add (k * 9)).add j) = some u := by
    intro j u hu
    rw [add_add']
    have := hc j u hu
    rw [Int.toNat_natCast] at this
    exact this
  refine ⟨ad, e, ?_, hc'⟩
  have := World.block_lt_of_cell? w _ (hc' 0 _ rfl)
  rwa [add_block] at this

theorem l11Deeds_any (A : Option Addr) (c : Nat) (l : List Dd) (w : World) (hr : Kd.C k41 w A l.length l) :
    Calls Tryd.prog 48 #[.slice A l.length c] w fun e w' => e = .returned (.bool (decide ((l.length : Int) ≤ 60) && l.all deedS)) ∧ Below w.heap.size w w' := by
  have hlen : l.length ≤ 9223372036854775807 := hr.2.1
  have HR := Aside0.mk hr
  clear hr
  by_cases h60 : (l.length : Int) ≤ 60
  · have h60' : decide ((60 : Int) < (l.length : Int)) = false := by simpa using h60
    go_enter Tryd.func48, Tryd.ntmps48
    go_wp2
    go_loopw [3] (fun i wr => ∃ k : Nat, k ≤ l.length ∧ i = .int .i64 k ∧ Aside0 ((l.take k).all deedS = true) ∧ Aside0 (Below w.heap.size w wr)) (fun i _ => l.length - (intOf i).toNat)
    case atStart => exact ⟨0, by omega, rfl, ⟨by simp⟩, ⟨Below.refl _ _⟩⟩
    case round =>
      rename_i wr _
      obtain ⟨k, hk, rfl, hall, hbw⟩ := hrel
      by_cases hlt : k < l.length
      · obtain ⟨ad, rfl, hB⟩ := blkA_at (Kd.C_below HR.out hbw.out) k hlt
        have HI := Aside0.mk (show IsA41 wr wr (ad.add (k * 9)) l[k].f0 l[k].f1 l[k].f2 l[k].f3 l[k].f4.f0 l[k].f4.f1 l[k].f5 l[k].f6 l[k].f7 from ⟨hB, Nat.le_refl _⟩)
        clear hB
        by_cases hd : deedS l[k] = true
        · have HD := Aside0.mk (show spec_l11Deed.f 2 l[k].f0 l[k].f1 l[k].f2 l[k].f3 l[k].f4.f0 l[k].f4.f1 l[k].f5 l[k].f6 l[k].f7 = some (true, l[k].f0, l[k].f1, l[k].f2, l[k].f3, l[k].f4.f0, l[k].f4.f1, l[k].f5, l[k].f6, l[k].f7) by rw [deed_any _ _ _ _ _ _ _ _ _ 2 (by omega)]; rw [show deedB l[k].f0 l[k].f1 l[k].f2 l[k].f3 l[k].f4.f0 l[k].f4.f1 l[k].f5 l[k].f6 l[k].f7 = true from hd])
          have HA := Aside0.mk (show (l.take (k + 1)).all deedS = true by rw [List.take_succ_eq_append_getElem hlt, List.all_append, hall.out]; simp [hd])
          clear hd
          go_wp2_with (go_at_call 43; (with_reducible refine (spec_l11Deed.callsA 2 _ _ _ _ _ _ _ _ _ _ true _ _ _ _ _ _ _ _ _ wr wr HI.out (Below.refl _ _) HD.out).mono ?_); rintro e w' ⟨rfl, _, hb1, _⟩)
          go_roundw
          case rel => exact ⟨k + 1, by omega, by go_num, HA, ⟨below_then hbw.out hbw.out.size hb1⟩⟩
          case measure => simp [intOf]; omega
        · have hd : deedS l[k] = false := by simpa using hd
          have HD := Aside0.mk (show spec_l11Deed.f 2 l[k].f0 l[k].f1 l[k].f2 l[k].f3 l[k].f4.f0 l[k].f4.f1 l[k].f5 l[k].f6 l[k].f7 = some (false, l[k].f0, l[k].f1, l[k].f2, l[k].f3, l[k].f4.f0, l[k].f4.f1, l[k].f5, l[k].f6, l[k].f7) by rw [deed_any _ _ _ _ _ _ _ _ _ 2 (by omega)]; rw [show deedB l[k].f0 l[k].f1 l[k].f2 l[k].f3 l[k].f4.f0 l[k].f4.f1 l[k].f5 l[k].f6 l[k].f7 = false from hd])
          have HA := Aside0.mk (show (decide ((l.length : Int) ≤ 60) && l.all deedS) = false by rw [show l.all deedS = false from List.all_eq_false.2 ⟨l[k], List.getElem_mem hlt, by simp [hd]⟩]; simp)
          clear hd
          go_wp2_with (go_at_call 43; (with_reducible refine (spec_l11Deed.callsA 2 _ _ _ _ _ _ _ _ _ _ false _ _ _ _ _ _ _ _ _ wr wr HI.out (Below.refl _ _) HD.out).mono ?_); rintro e w' ⟨rfl, _, hb1, _⟩)
          go_ret
          exact ⟨ret_bool HA.out.symm, below_then hbw.out hbw.out.size hb1⟩
      · obtain rfl : k = l.length := by omega
        have HF := Aside0.mk (show (decide ((l.length : Int) ≤ 60) && l.all deedS) = true by have := hall.out; simp at this; simp [h60]; exact this)
        go_wp2
        go_ret
        exact ⟨ret_bool HF.out.symm, hbw.out⟩
  · have HF := Aside0.mk (show (decide ((l.length : Int) ≤ 60) && l.all deedS) = false by simp; omega)
    have h60' : decide ((60 : Int) < (l.length : Int)) = true := by simp; omega
    go_enter Tryd.func48, Tryd.ntmps48
    go_wp2
    go_ret
    exact ⟨ret_bool HF.out.symm, Below.refl _ _⟩
end Go.Proofs.YtahmgalkliicfaaDoor.Hk

/- areDeeds: whether deeds are few and all valid. -/
namespace Go.Proofs.YtahmgalkliicfaaDoor.Hm
open Go.RowKit Go.Proofs.YtahmgalkliicfaaDoorW.PrintWords Go.Proofs.YtahmgalkliicfaaDoorW.PrintLast Go.Proofs.YtahmgalkliicfaaDoorW.PrintMore Go.Proofs.YtahmgalkliicfaaDoor.Q Go.Proofs.YtahmgalkliicfaaDoor.Ha Go.Proofs.YtahmgalkliicfaaDoor.PuVD Go.Proofs.YtahmgalkliicfaaDoor.PuDT Go.Proofs.YtahmgalkliicfaaDoor.Hk

def idxD (p : Dd → Bool) : List Dd → Int → Int
  | [], _ => -1
  | x :: xs, k => if p x then k else idxD p xs (k + 1)
theorem idxD_neg (p : Dd → Bool) (l : List Dd) (k : Int) (hk : 0 ≤ k) : decide (idxD p l k ≥ 0) = l.any p := by
  induction l generalizing k with
  | nil => simp [idxD]
  | cons x xs ih =>
    by_cases h : p x = true
    · simp [idxD, h, hk]
    · simp only [idxD, h]; simp [ih (k + 1) (by omega), h]

theorem lit_any (x : Dd) (w : World) :
    Calls Tryd.prog 85 #[.agg #[.int .i64 x.f0, .int .i64 x.f1, .int .i64 x.f2, .int .i64 x.f3, .int .i64 x.f4.f0, .int .i64 x.f4.f1, .int .i64 x.f5, .int .i64 x.f6, .int .i64 x.f7]] w fun e w' => e = .returned (.bool (!deedS x)) ∧ Below w.heap.size w w' := by
  have hu := Tryd.underlying41
  have HV := Aside0.mk (impl_eq x.f0 x.f1 x.f2 x.f3 x.f4.f0 x.f4.f1 x.f5 x.f6 x.f7)
  go_enter Tryd.func85, Tryd.ntmps85
  go_wp2_with (go_at_call 46; refine (impl_ValidDeed.calls _ _ _ _ _ _ _ _ _ _ _ HV.out).mono ?_; rintro e w' ⟨rfl, hb1⟩)
  go_ret
  exact ⟨rfl, below_step (below_alloc (Below.refl _ _) _) hb1⟩

set_option maxRecDepth 100000 in
theorem idx_any (A : Option Addr) (c : Nat) (l : List Dd) (w : World) (hr : Kd.C k41 w A l.length l) :
    Calls Tryd.prog 99 #[.slice A l.length c, .func (.func 85) #[] #[]] w fun e w' => e = .returned (.int .i64 (idxD (fun x => !deedS x) l 0)) ∧ Below w.heap.size w w' := by
  have hlen : l.length ≤ 9223372036854775807 := hr.2.1
  have hu := Tryd.underlying41
  have HR := Aside0.mk hr
  clear hr
  go_enter Tryd.func99, Tryd.ntmps99
  go_wp2
  go_loopw [8, 5] (fun i _ wr => ∃ k : Nat, k ≤ l.length ∧ i = .int .i64 k ∧ Aside0 (idxD (fun x => !deedS x) l 0 = idxD (fun x => !deedS x) (l.drop k) k) ∧ Aside0 (Below w.heap.size w wr)) (fun i _ _ => l.length - (intOf i).toNat)
  case atStart => exact ⟨0, by omega, rfl, ⟨by simp⟩, ⟨Below.refl _ _⟩⟩
  case round =>
    rename_i wr _
    obtain ⟨k, hk, rfl, HI, hbw⟩ := hrel
    by_cases hlt : k < l.length
    · obtain ⟨ad, rfl, hx0, hx1, hx2, hx3, hx4, hx5, hx6, hx7, hx8⟩ := at_T41 (Kd.C_below HR.out hbw.out) (k : Int) (by omega) (by omega)
      simp only [Int.toNat_natCast] at hx0 hx1 hx2 hx3 hx4 hx5 hx6 hx7 hx8
      have hd : l.drop k = rd_T41 l k :: l.drop (k + 1) := by rw [List.drop_eq_getElem_cons hlt]; simp [rd_T41, hlt]
      have HD := Lib.hid hd
      clear hd
      by_cases hin : deedS (rd_T41 l k) = true
      · have HA := Aside0.mk (show idxD (fun x => !deedS x) l 0 = idxD (fun x => !deedS x) (l.drop (k + 1)) ((k + 1 : Nat) : Int) by rw [HI.out, HD.out]; simp [idxD, hin])
        have hq : (!deedS (rd_T41 l k)) = false := by simp [hin]
        clear hin
        go_wp2_with (go_at_call 85; refine (lit_any (rd_T41 l k) _).mono ?_; rintro e w' ⟨rfl, hb1⟩)
        go_roundw
        case rel => exact ⟨k + 1, by omega, by go_num, HA, ⟨below_step hbw.out hb1⟩⟩
        case measure => simp [intOf]; omega
      · have HA := Aside0.mk (show idxD (fun x => !deedS x) l 0 = k by rw [HI.out, HD.out]; simp [idxD, hin])
        have hq : (!deedS (rd_T41 l k)) = true := by simp [hin]
        clear hin
        go_wp2_with (go_at_call 85; refine (lit_any (rd_T41 l k) _).mono ?_; rintro e w' ⟨rfl, hb1⟩)
        go_ret
        exact ⟨ret_int HA.out.symm, below_step hbw.out hb1⟩
    · obtain rfl : k = l.length := by omega
      have HF := Aside0.mk (show idxD (fun x => !deedS x) l 0 = -1 by rw [HI.out, List.drop_length]; rfl)
      go_wp2
      go_ret
      exact ⟨ret_int (by rw [HF.out]), hbw.out⟩

theorem contains_any (A : Option Addr) (c : Nat) (l : List Dd) (w : World) (hr : Kd.C k41 w A l.length l) :
    Calls Tryd.prog 84 #[.slice A l.length c, .func (.func 85) #[] #[]] w fun e w' => e = .returned (.bool (l.any fun x => !deedS x)) ∧ Below w.heap.size w w' := by
  have HR := Lib.hid (idxD_neg (fun x => !deedS x) l 0 (by omega))
  go_enter Tryd.func84, Tryd.ntmps84
  go_wp2_with (go_at_call 99; refine (idx_any _ _ _ _ hr).mono ?_; rintro e w' ⟨rfl, hb1⟩)
  go_ret
  exact ⟨ret_bool HR.out, hb1⟩

def deedsB (l : List Dd) : Bool := decide ((l.length : Int) ≤ 60) && l.all deedS
theorem areDeeds_any (A : Option Addr) (c : Nat) (l : List Dd) (w : World) (hr : Kd.C k41 w A l.length l) :
    Calls Tryd.prog 50 #[.slice A l.length c] w fun e w' => e = .returned (.bool (deedsB l)) ∧ Below w.heap.size w w' := by
  have HX := Lib.hid (show (!l.any fun x => !deedS x) = l.all deedS by simp [List.any_eq_not_all_not])
  by_cases h : (l.length : Int) ≤ 60
  · have h' : decide ((l.length : Int) ≤ 60) = true := by simpa using h
    go_enter Tryd.func50, Tryd.ntmps50
    go_wp2_with (go_at_call 84; refine (contains_any _ _ _ _ hr).mono ?_; rintro e w' ⟨rfl, hb1⟩)
    go_ret
    exact ⟨ret_bool (by rw [HX.out]; simp [deedsB, h]), hb1⟩
  · have h' : decide ((l.length : Int) ≤ 60) = false := by simpa using h
    go_enter Tryd.func50, Tryd.ntmps50
    go_wp2
    go_ret
    exact ⟨ret_bool (by simp [deedsB]; omega), Below.refl _ _⟩
end Go.Proofs.YtahmgalkliicfaaDoor.Hm

-- made by a patched copy of print.sh: this session's own
namespace Go.Proofs.YtahmgalkliicfaaDoor.Q
open Go.RowKit Go.Proofs.YtahmgalkliicfaaDoorW.PrintWords Go.Proofs.YtahmgalkliicfaaDoorW.PrintLast Go.Proofs.YtahmgalkliicfaaDoorW.PrintMore
attribute [local go_sem] max2_int min2_int max_two min_two max_three min_three max_four min_four   -- for this text's walks alone
set_option linter.unusedVariables false
set_option linter.unusedSimpArgs false

/-! ### spec_l01Check: function 83 -/
def spec_l01Check.l0 : Nat → ByteArray → Int → Int → Option (Int)
  | 0, _, _, _ => none
  | k + 1, x1, x5, x6 => if x6 < (x1.size : Int) then (if 0 ≤ x6 then (spec_l01Check.l0 k x1 (Int.tmod (wrap64 ((wrap64 ((wrap64 (257 * x5)) + (wrap64 (bt x1 x6)))) + 1)) 99991) (wrap64 (x6 + 1))) else (none)) else (some x5)
def spec_l01Check.f (k : Nat) (a0 : Int) (a1 : ByteArray) : Option (Int) := spec_l01Check.l0 k a1 a0 0
theorem spec_l01Check.mono_l : ∀ k, (∀ y0 y1 y2, LeO (spec_l01Check.l0 k y0 y1 y2) (spec_l01Check.l0 (k + 1) y0 y1 y2))
  | 0 => fun _ _ _ r h => by simp [spec_l01Check.l0] at h
  | k + 1 => by
    have ih0 := spec_l01Check.mono_l k
    · intro y0 y1 y2
      unfold spec_l01Check.l0
      repeat' first
      | (with_reducible exact ih0 _ _ _)
      | (with_reducible exact LeO.refl _)
      | (with_reducible exact LeO.none _)
      | (with_reducible refine LeO.ite ?_ ?_)
      | (with_reducible refine LeO.bind ?_ (fun _ => ?_))
      | exact ih0 _ _ _
      | exact LeO.none _
      | refine LeO.ite ?_ ?_
      | refine LeO.bind ?_ (fun _ => ?_)
theorem spec_l01Check.mono : ∀ a0 a1 k, LeO (spec_l01Check.f k a0 a1) (spec_l01Check.f (k + 1) a0 a1) := by
  intro a0 a1 k
  have ih0 := spec_l01Check.mono_l k
  unfold spec_l01Check.f
  repeat' first
      | (with_reducible exact ih0 _ _ _)
      | (with_reducible exact LeO.refl _)
      | (with_reducible exact LeO.none _)
      | (with_reducible refine LeO.ite ?_ ?_)
      | (with_reducible refine LeO.bind ?_ (fun _ => ?_))
      | exact ih0 _ _ _
      | exact LeO.none _
      | refine LeO.ite ?_ ?_
      | refine LeO.bind ?_ (fun _ => ?_)
set_option maxHeartbeats 8000000 in
set_option maxRecDepth 100000 in
theorem spec_l01Check.calls (k : Nat) (a0 : Int) (a1 : ByteArray) (r : Int) (w : World) (h : spec_l01Check.f k a0 a1 = some r) :
    Calls Tryd.prog 83 #[.int .i64 a0, .string a1] w fun e w' => e = .returned (.int .i64 r) ∧ Drawn0 w w' := by
  have H : (spec_l01Check.l0 k a1 a0 0) = some r := h
  clear h
  have H' := Aside0.mk H
  clear H
  go_enter Tryd.func83, Tryd.ntmps83
  go_wp2
  go_loopg [5, 6] k (fun kq v5 v6 w' => ∃ (x5_1 : Int) (x6_1 : Int), v5 = .int .i64 x5_1 ∧ v6 = .int .i64 x6_1 ∧ Aside0 (spec_l01Check.l0 kq a1 x5_1 x6_1 = some r) ∧ Aside0 (kq ≤ k) ∧ Drawn0 w w')
  case atStart => exact ⟨(a0), (0), (by first | rfl | (simp; done) | (simp [*]; done)), (by first | rfl | (simp; done) | (simp [*]; done)), H', ⟨Nat.le_refl _⟩, by repeat (first | exact Drawn0.refl _ | apply Drawn0.step)⟩
  case round =>
    clear H'
    try clear p2
    obtain ⟨x5_1, x6_1, rfl, rfl, HA, HK1, ⟨m1, rfl⟩⟩ := hrel
    cases gk with
    | zero => exact absurd HA.out (by simp [spec_l01Check.l0])
    | succ k1 =>
      have H := HA.out
      clear HA
      simp only [spec_l01Check.l0] at H
      by_cases c3 : x6_1 < (a1.size : Int)
      · rw [if_pos c3] at H
        have c3b0 : decide (x6_1 < (a1.size : Int)) = true := decide_eq_true c3
        clear c3
        by_cases c4 : 0 ≤ x6_1
        · rw [if_pos c4] at H
          have c4b0 : decide (0 ≤ x6_1) = true := decide_eq_true c4
          clear c4
          have H' := Aside0.mk H
          clear H
          have p5 : 0 ≤ (x6_1 : Int) := of_decide_eq_true (by first | (with_reducible assumption) | assumption)
          have q5 : x6_1 < (a1.size : Int) := of_decide_eq_true (by first | (with_reducible assumption) | assumption)
          have hx5 := bt_at a1 x6_1
          replace p5 := eq_true p5
          replace q5 := eq_true q5
          go_wp2
          go_roundg k1
          case measure => have := HK1.out; omega
          case rel => exact ⟨(Int.tmod (wrap64 ((wrap64 ((wrap64 (257 * x5_1)) + (wrap64 (bt a1 x6_1)))) + 1)) 99991), (wrap64 (x6_1 + 1)), (by first | rfl | (simp; done) | (simp [*]; done)), (by first | rfl | (simp; done) | (simp [*]; done)), H', ⟨by have := HK1.out; omega⟩, by repeat (first | exact Drawn0.refl _ | apply Drawn0.step)⟩
        · rw [if_neg c4] at H
          exact absurd H (by simp)
      · rw [if_neg c3] at H
        have c3b0 : decide (x6_1 < (a1.size : Int)) = false := decide_eq_false c3
        clear c3
        obtain rfl := Option.some.inj H
        go_wp2
        go_ret
        exact ⟨by first | rfl | (simp; done) | (simp [*]; done), by repeat (first | exact Drawn0.refl _ | apply Drawn0.step)⟩

end Go.Proofs.YtahmgalkliicfaaDoor.Q

/- The reference's l11Journal: the journal of valid deeds. -/
namespace Go.Proofs.YtahmgalkliicfaaDoor.Hl
open Go.RowKit Go.Proofs.YtahmgalkliicfaaDoorW.PrintWords Go.Proofs.YtahmgalkliicfaaDoorW.PrintLast Go.Proofs.YtahmgalkliicfaaDoorW.PrintMore Go.Proofs.YtahmgalkliicfaaDoor.Q Go.Proofs.YtahmgalkliicfaaDoor.Ha Go.Proofs.YtahmgalkliicfaaDoor.PuVD Go.Proofs.YtahmgalkliicfaaDoor.PuDT Go.Proofs.YtahmgalkliicfaaDoor.PuD Go.Proofs.YtahmgalkliicfaaDoor.Hk

/-- The check number of a text. -/
def chk (n : Int) (t : List UInt8) : Int := t.foldl (fun n b => (257 * n + (b.toNat : Int) + 1) % 99991) n
theorem chk_in (n : Int) (t : List UInt8) (h : 0 ≤ n ∧ n < 99991) : 0 ≤ chk n t ∧ chk n t < 99991 := by
  induction t generalizing n with
  | nil => exact h
  | cons b t ih =>
    refine ih _ ⟨?_, ?_⟩
    · exact Int.emod_nonneg _ (by decide)
    · exact Int.emod_lt_of_pos _ (by decide)

theorem check_loop (t : List UInt8) (ht : t.length ≤ 1000000) : ∀ (d k i : Nat) (n : Int), i + d = t.length → d < k → 0 ≤ n → n < 99991 → spec_l01Check.l0 k (txt t) n i = some (chk n (t.drop i)) := by
  intro d
  induction d with
  | zero =>
    intro k i n hi hk h0 h1
    obtain ⟨k, rfl⟩ : ∃ m, k = m + 1 := ⟨k - 1, by omega⟩
    simp only [spec_l01Check.l0, txt_size]
    rw [if_neg (by omega), List.drop_eq_nil_of_le (by omega)]; rfl
  | succ d ih =>
    intro k i n hi hk h0 h1
    obtain ⟨k, rfl⟩ : ∃ m, k = m + 1 := ⟨k - 1, by omega⟩
    have hlt : i < t.length := by omega
    have hb : bt (txt t) (i : Int) = (t[i].toNat : Int) := by
      have h1 : (i : Int).toNat < (txt t).size := by rw [txt_size]; omega
      unfold bt
      rw [dif_pos h1]
      rfl
    have hb2 := t[i].toNat_lt
    simp only [spec_l01Check.l0, txt_size]
    rw [if_pos (by omega), if_pos (by omega), hb]
    have e : Int.tmod (wrap64 ((wrap64 ((wrap64 (257 * n)) + (wrap64 (t[i].toNat : Int)))) + 1)) 99991 = (257 * n + (t[i].toNat : Int) + 1) % 99991 := by
      rw [wrap_id (x := 257 * n) (by omega) (by omega), wrap_id (x := (t[i].toNat : Int)) (by omega) (by omega), wrap_id (x := 257 * n + _) (by omega) (by omega), wrap_id (by omega) (by omega)]
      exact Int.tmod_eq_emod_of_nonneg (by omega)
    rw [e, wrap_id (by omega) (by omega), show (i : Int) + 1 = ((i + 1 : Nat) : Int) by omega, ih k (i + 1) _ (by omega) (by omega) (Int.emod_nonneg _ (by decide)) (Int.emod_lt_of_pos _ (by decide))]
    rw [List.drop_eq_getElem_cons hlt]; rfl

theorem specCheck_eq (n : Int) (h0 : 0 ≤ n) (h1 : n < 99991) (t : List UInt8) (ht : t.length ≤ 1000000) (k : Nat) (hk : t.length < k) : spec_l01Check.f k n (txt t) = some (chk n t) := by
  have := check_loop t ht t.length k 0 n (by omega) hk h0 h1
  simpa [spec_l01Check.f] using this

def textS (x : Dd) : List UInt8 := deedT x.f0 x.f1 x.f2 x.f3 x.f4.f0 x.f4.f1 x.f5 x.f6 x.f7
def lineT (n : Int) (t : List UInt8) : List UInt8 := Lib.itoa n ++ [32] ++ t ++ [10]
/-- The check number behind deeds, and their journal. -/
def jn : List Dd → Int × List UInt8
  | l => l.foldl (fun s x => (chk s.1 (textS x), s.2 ++ lineT (chk s.1 (textS x)) (textS x))) (1, [])
theorem jn_snoc (l : List Dd) (x : Dd) : jn (l ++ [x]) = (chk (jn l).1 (textS x), (jn l).2 ++ lineT (chk (jn l).1 (textS x)) (textS x)) := by simp [jn, List.foldl_append]
theorem jn_in (l : List Dd) : 0 ≤ (jn l).1 ∧ (jn l).1 < 99991 := by
  rcases List.eq_nil_or_concat l with rfl | ⟨l', x, rfl⟩
  · decide
  · rw [List.concat_eq_append, jn_snoc]
    have := jn_in l'
    exact chk_in _ _ this
termination_by l.length
decreasing_by simp_all
theorem itoa_len5 (n : Int) (h0 : 0 ≤ n) (h1 : n < 99991) : (Lib.itoa n).length ≤ 20 := itoa_len n (by omega) (by omega)
theorem jn_len (l : List Dd) (h : l.all deedS = true) : (jn l).2.length ≤ 92 * l.length := by
  rcases List.eq_nil_or_concat l with rfl | ⟨l', x, rfl⟩
  · simp [jn]
  · rw [List.concat_eq_append] at h ⊢
    rw [List.all_append, Bool.and_eq_true] at h
    have h1 := jn_len l' h.1
    have h2 : deedS x = true := by simpa using h.2
    have h3 := deedT_len h2
    have h4 := chk_in (jn l').1 (textS x) (jn_in l')
    have h5 := itoa_len5 _ h4.1 h4.2
    rw [jn_snoc]
    simp only [lineT, List.length_append, List.length_singleton]
    have : (textS x).length ≤ 70 := h3
    omega
termination_by l.length
decreasing_by simp_all

set_option maxRecDepth 100000 in
theorem l11Journal_any (A : Option Addr) (c : Nat) (l : List Dd) (w : World) (hr : Kd.C k41 w A l.length l) (hv : l.all deedS = true) (h60 : l.length ≤ 60) :
    Calls Tryd.prog 49 #[.slice A l.length c] w fun e w' => e = .returned (.string (txt (jn l).2)) ∧ Below w.heap.size w w' := by
  have hlen : l.length ≤ 9223372036854775807 := hr.2.1
  have HR := Aside0.mk hr
  clear hr
  go_enter Tryd.func49, Tryd.ntmps49
  go_wp2
  go_loopw [3, 4, 5] (fun o n i wr => ∃ k : Nat, k ≤ l.length ∧ o = .string (txt (jn (l.take k)).2) ∧ n = .int .i64 (jn (l.take k)).1 ∧ i = .int .i64 k ∧ Aside0 (Below w.heap.size w wr)) (fun _ _ i _ => l.length - (intOf i).toNat)
  case atStart => exact ⟨0, by omega, rfl, rfl, rfl, ⟨Below.refl _ _⟩⟩
  case round =>
    rename_i wr _
    obtain ⟨k, hk, rfl, rfl, rfl, hbw⟩ := hrel
    by_cases hlt : k < l.length
    · obtain ⟨ad, rfl, hB⟩ := blkA_at (Kd.C_below HR.out hbw.out) k hlt
      have HI := Aside0.mk (show IsA41 wr wr (ad.add (k * 9)) l[k].f0 l[k].f1 l[k].f2 l[k].f3 l[k].f4.f0 l[k].f4.f1 l[k].f5 l[k].f6 l[k].f7 from ⟨hB, Nat.le_refl _⟩)
      clear hB
      have hd : deedS l[k] = true := List.all_eq_true.1 hv _ (List.getElem_mem hlt)
      have HD := Aside0.mk (show spec_l11Text.f 24 l[k].f0 l[k].f1 l[k].f2 l[k].f3 l[k].f4.f0 l[k].f4.f1 l[k].f5 l[k].f6 l[k].f7 = some (txt (textS l[k]), l[k].f0, l[k].f1, l[k].f2, l[k].f3, l[k].f4.f0, l[k].f4.f1, l[k].f5, l[k].f6, l[k].f7) from specDeedT hd 24 (Nat.le_refl _))
      have hi := jn_in (l.take k)
      have hl := deedT_len hd
      have HC := Aside0.mk (specCheck_eq (jn (l.take k)).1 hi.1 hi.2 (textS l[k]) (by show (textS l[k]).length ≤ _; have : (textS l[k]).length ≤ 70 := hl; omega) 71 (by have : (textS l[k]).length ≤ 70 := hl; omega))
      have hc := chk_in _ (textS l[k]) hi
      have HX := Aside0.mk (l01Dec_any (chk (jn (l.take k)).1 (textS l[k])) (by omega) (by omega) 22 (Nat.le_refl _))
      have hD := itoa_len5 _ hc.1 hc.2
      have hT : (textS l[k]).length ≤ 70 := hl
      have hO := jn_len (l.take k) (List.all_eq_true.2 fun x hx => List.all_eq_true.1 hv x (List.mem_of_mem_take hx))
      have hO2 : (l.take k).length ≤ 60 := by simp; omega
      have q1 : (9223372036854775807 < (txt (Lib.itoa (chk (jn (l.take k)).1 (textS l[k])))).size + 1) = False := eq_false (by rw [txt_size]; omega)
      have q2 : (9223372036854775807 < (txt (Lib.itoa (chk (jn (l.take k)).1 (textS l[k])))).size + 1 + (txt (textS l[k])).size) = False := eq_false (by rw [txt_size, txt_size]; omega)
      have q3 : (9223372036854775807 < (txt (Lib.itoa (chk (jn (l.take k)).1 (textS l[k])))).size + 1 + (txt (textS l[k])).size + 1) = False := eq_false (by rw [txt_size, txt_size]; omega)
      have q4 : (9223372036854775807 < (txt (jn (l.take k)).2).size + ((txt (Lib.itoa (chk (jn (l.take k)).1 (textS l[k])))).size + 1 + (txt (textS l[k])).size + 1)) = False := eq_false (by rw [txt_size, txt_size, txt_size]; omega)
      have HN := Aside0.mk (show (txt (jn (l.take k)).2 ++ (txt (Lib.itoa (chk (jn (l.take k)).1 (textS l[k]))) ++ (⟨#[32]⟩ : ByteArray) ++ txt (textS l[k]) ++ (⟨#[10]⟩ : ByteArray))) = txt (jn (l.take (k + 1))).2 ∧ chk (jn (l.take k)).1 (textS l[k]) = (jn (l.take (k + 1))).1 by
        rw [List.take_succ_eq_append_getElem hlt, jn_snoc]
        exact ⟨by rw [show (⟨#[32]⟩ : ByteArray) = txt [32] from rfl, show (⟨#[10]⟩ : ByteArray) = txt [10] from rfl]; simp only [txt_append]; rfl, rfl⟩)
      clear hd hl hi hc hD hT hO hO2
      go_wp2_with (first
        | (go_at_call 44; (with_reducible refine (spec_l11Text.callsA 24 _ _ _ _ _ _ _ _ _ _ _ _ _ _ _ _ _ _ _ _ wr wr HI.out (Below.refl _ _) HD.out).mono ?_); rintro e w' ⟨rfl, _, hb1, _⟩)
        | (go_at_call 83; (refine (spec_l01Check.calls 71 _ _ _ _ HC.out).mono ?_); rintro e w' ⟨rfl, nd, rfl⟩)
        | (go_at_call 67; (refine (spec_l01Dec.calls 22 _ _ _ HX.out).mono ?_); rintro e w' ⟨rfl, hb2⟩))
      clear q1 q2 q3 q4
      go_roundw
      case rel => exact ⟨k + 1, by omega, by rw [← HN.out.1], by rw [← HN.out.2], by go_num, ⟨below_step (pw_below_drewN (below_step hbw.out hb1) _) hb2⟩⟩
      case measure => simp [intOf]; omega
    · obtain rfl : k = l.length := by omega
      go_wp2
      go_ret
      exact ⟨by show Ending.returned (.string (txt (jn (l.take l.length)).2)) = _; rw [List.take_length], hbw.out⟩
end Go.Proofs.YtahmgalkliicfaaDoor.Hl

/- The program's JournalText: a Builder is written deed by deed. -/
namespace Go.Proofs.YtahmgalkliicfaaDoor.Hn
open Go.RowKit Go.Proofs.YtahmgalkliicfaaDoorW.PrintWords Go.Proofs.YtahmgalkliicfaaDoorW.PrintLast Go.Proofs.YtahmgalkliicfaaDoorW.PrintMore Go.Proofs.YtahmgalkliicfaaDoor.Q Go.Proofs.YtahmgalkliicfaaDoor.Ha Go.Proofs.YtahmgalkliicfaaDoor.PuVD Go.Proofs.YtahmgalkliicfaaDoor.PuDT Go.Proofs.YtahmgalkliicfaaDoor.PuD Go.Proofs.YtahmgalkliicfaaDoor.Hk Go.Proofs.YtahmgalkliicfaaDoor.Hl Go.Proofs.YtahmgalkliicfaaDoor.Hm

theorem checkI_loop (t : List UInt8) (ht : t.length ≤ 1000000) : ∀ (d k i : Nat) (n : Int), i + d = t.length → d < k → 0 ≤ n → n < 99991 → impl_check.l0 k n (txt t) (t.length : Int) i = some (chk n (t.drop i)) := by
  intro d
  induction d with
  | zero =>
    intro k i n hi hk h0 h1
    obtain ⟨k, rfl⟩ : ∃ m, k = m + 1 := ⟨k - 1, by omega⟩
    simp only [impl_check.l0]
    rw [if_neg (by omega), List.drop_eq_nil_of_le (by omega)]; rfl
  | succ d ih =>
    intro k i n hi hk h0 h1
    obtain ⟨k, rfl⟩ : ∃ m, k = m + 1 := ⟨k - 1, by omega⟩
    have hlt : i < t.length := by omega
    have hb : bt (txt t) (i : Int) = (t[i].toNat : Int) := by
      have h1 : (i : Int).toNat < (txt t).size := by rw [txt_size]; omega
      unfold bt
      rw [dif_pos h1]
      rfl
    have hb2 := t[i].toNat_lt
    simp only [impl_check.l0, txt_size]
    rw [if_pos (by omega), if_pos (by omega), if_pos (by omega), hb]
    have e : Int.tmod (wrap64 ((wrap64 ((wrap64 (257 * n)) + (wrap64 (t[i].toNat : Int)))) + 1)) 99991 = (257 * n + (t[i].toNat : Int) + 1) % 99991 := by
      rw [wrap_id (x := 257 * n) (by omega) (by omega), wrap_id (x := (t[i].toNat : Int)) (by omega) (by omega), wrap_id (x := 257 * n + _) (by omega) (by omega), wrap_id (by omega) (by omega)]
      exact Int.tmod_eq_emod_of_nonneg (by omega)
    rw [e, wrap_id (by omega) (by omega), show (i : Int) + 1 = ((i + 1 : Nat) : Int) by omega, ih k (i + 1) _ (by omega) (by omega) (Int.emod_nonneg _ (by decide)) (Int.emod_lt_of_pos _ (by decide))]
    rw [List.drop_eq_getElem_cons hlt]; rfl
theorem implCheck_eq (n : Int) (h0 : 0 ≤ n) (h1 : n < 99991) (t : List UInt8) (ht : t.length ≤ 1000000) (k : Nat) (hk : t.length < k) : impl_check.f k n (txt t) = some (chk n t) := by
  have := checkI_loop t ht t.length k 0 n (by omega) hk h0 h1
  simpa [impl_check.f, txt_size] using this

theorem journal_no (A : Option Addr) (c : Nat) (l : List Dd) (w : World) (hr : Kd.C k41 w A l.length l) (h : deedsB l = false) :
    Calls Tryd.prog 21 #[.slice A l.length c] w fun e w' => e = .returned (.tuple #[.string ⟨#[]⟩, .bool false]) ∧ Below w.heap.size w w' := by
  go_enter Tryd.func21, Tryd.ntmps21
  go_wp2_with (go_at_call 50; refine (areDeeds_any _ _ _ _ hr).mono ?_; rintro e w' ⟨rfl, hb1⟩)
  go_ret2
  exact ⟨rfl, hb1⟩

theorem builder_below {T e : TypeId} {B b : Nat} {p : Value} {bs : List Value} {w w1 : World} (h : Lib.BuilderAt T e B b p bs w) (hb : Below w.heap.size w w1) : Lib.BuilderAt T e B b p bs w1 := by
  obtain ⟨h1, v, h2, h3, h4⟩ := h
  refine ⟨h1, v, ?_, own_move h3 (fun k hk => hb.block k (own_lt h3 k hk)), h4⟩
  rw [hb.block b ?_]
  · exact h2
  · rcases Nat.lt_or_ge b w.heap.size with h | h
    · exact h
    · rw [Array.getElem?_eq_none h] at h2; cases h2
/-- The builder in block b holds the bytes t, and what lay below is as it was. -/
def J (w : World) (b : Nat) (t : List UInt8) (W : World) : Prop := Below w.heap.size w W ∧ Lib.IsBuilder 84 5 w.heap.size b (Lib.byteCells t) W
theorem J.step {w : World} {b : Nat} {t : List UInt8} {W W1 : World} (h : J w b t W) (hb : Below W.heap.size W W1) : J w b t W1 :=
  ⟨below_step h.1 hb, h.2.imp (fun x => builder_below x hb) (fun x => builder_below x hb)⟩
theorem J.drew {w : World} {b : Nat} {t : List UInt8} {W : World} (h : J w b t W) : J w b t W.drew := h.step (below_drew1 (Below.refl _ _))
theorem J.drewN {w : World} {b : Nat} {t : List UInt8} {W : World} (h : J w b t W) (n : Nat) : J w b t (W.drewN n) := h.step (pw_below_drewN (Below.refl _ _) n)
theorem J.start {w W : World} (hb : Below w.heap.size w W) : J w W.heap.size [] (W.alloc (.cells #[.pointer none, .slice none 0 0] 84)) :=
  ⟨below_alloc hb _, .inl ⟨hb.size, .slice none 0 0, blk_new _ _, ⟨rfl, .inl ⟨rfl, rfl⟩⟩, by simp [Value.ownBlock]⟩⟩
theorem J.write {w : World} {b : Nat} {t : List UInt8} {W : World} (h : J w b t W) (u : List UInt8) (hl : t.length + u.length ≤ 140737488355328) :
    Calls Tryd.prog 52 #[.pointer (some ⟨b, 0, none⟩), .string (txt u)] W fun e W' => e = .returned (.tuple #[.int .i64 (txt u).size, .nilIface]) ∧ J w b (t ++ u) W' := by
  refine (Tryd.Builder_WriteString w.heap.size b (Lib.byteCells t) (txt u) W h.2 (by rw [Lib.byteCells_length, txt_size]; exact hl) h.1.size).mono ?_
  rintro e W' ⟨he, hB, hb⟩
  refine ⟨he, h.1.trans hb, .inr ?_⟩
  rw [Lib.byteCells_append]
  exact hB
theorem J.read {w : World} {b : Nat} {t : List UInt8} {W : World} (h : J w b t W) :
    Calls Tryd.prog 53 #[.pointer (some ⟨b, 0, none⟩)] W fun e W' => e = .returned (.string (txt t)) ∧ Below w.heap.size w W' := by
  refine (Tryd.Builder_String_any w.heap.size b t W h.2 h.1.size).mono ?_
  rintro e W' ⟨he, hb⟩
  exact ⟨he, h.1.trans hb⟩

/-- And block g holds the deed x. -/
def JB (w : World) (b : Nat) (t : List UInt8) (g : Nat) (x : Dd) (W : World) : Prop := J w b t W ∧ W.heap[g]? = some (.cells (cellsD x).toArray 41 (0, 0))
theorem JB.step {w : World} {b : Nat} {t : List UInt8} {g : Nat} {x : Dd} {W W1 : World} (h : JB w b t g x W) (hb : Below W.heap.size W W1) : JB w b t g x W1 := ⟨h.1.step hb, blk_below h.2 hb⟩
theorem JB.drewN {w : World} {b : Nat} {t : List UInt8} {g : Nat} {x : Dd} {W : World} (h : JB w b t g x W) (n : Nat) : JB w b t g x (W.drewN n) := h.step (pw_below_drewN (Below.refl _ _) n)
theorem JB.cells {w : World} {b : Nat} {t : List UInt8} {g : Nat} {x : Dd} {W : World} (h : JB w b t g x W) : W.cell? ⟨g, 0, none⟩ = some (.int .i64 x.f0) ∧ W.cell? ⟨g, 1, none⟩ = some (.int .i64 x.f1) ∧ W.cell? ⟨g, 2, none⟩ = some (.int .i64 x.f2) ∧ W.cell? ⟨g, 3, none⟩ = some (.int .i64 x.f3) ∧ W.cell? ⟨g, 4, none⟩ = some (.int .i64 x.f4.f0) ∧ W.cell? ⟨g, 5, none⟩ = some (.int .i64 x.f4.f1) ∧ W.cell? ⟨g, 6, none⟩ = some (.int .i64 x.f5) ∧ W.cell? ⟨g, 7, none⟩ = some (.int .i64 x.f6) ∧ W.cell? ⟨g, 8, none⟩ = some (.int .i64 x.f7) :=
  ⟨(blk_cell h.2 0).trans rfl, (blk_cell h.2 1).trans rfl, (blk_cell h.2 2).trans rfl, (blk_cell h.2 3).trans rfl, (blk_cell h.2 4).trans rfl, (blk_cell h.2 5).trans rfl, (blk_cell h.2 6).trans rfl, (blk_cell h.2 7).trans rfl, (blk_cell h.2 8).trans rfl⟩

set_option maxRecDepth 100000 in
set_option maxHeartbeats 2000000 in
theorem journal_yes (A : Option Addr) (c : Nat) (l : List Dd) (w : World) (hr : Kd.C k41 w A l.length l) (h : deedsB l = true) (hT : Tb.TB w) :
    Calls Tryd.prog 21 #[.slice A l.length c] w fun e w' => e = .returned (.tuple #[.string (txt (jn l).2), .bool true]) ∧ Below w.heap.size w w' := by
  have hlen : l.length ≤ 9223372036854775807 := hr.2.1
  have hu := Tryd.underlying41
  have HR := Aside0.mk hr
  have HT := Aside0.mk hT
  have hv : l.all deedS = true ∧ l.length ≤ 60 := by simp only [deedsB, Bool.and_eq_true, decide_eq_true_eq] at h; exact ⟨h.2, by omega⟩
  have HV := Aside0.mk hv.1
  have h60 : l.length ≤ 60 := hv.2
  clear hr hT hv
  go_enter Tryd.func21, Tryd.ntmps21
  go_wp2_with (go_at_call 50; refine (areDeeds_any _ _ _ _ HR.out).mono ?_; rintro e w1 ⟨rfl, hb1⟩)
  obtain ⟨b, hb⟩ : ∃ b, b = w1.heap.size := ⟨_, rfl⟩
  have HJ0 := Aside0.mk (J.start hb1)
  generalize w1.alloc (.cells #[.pointer none, .slice none 0 0] 84) = w2 at HJ0 ⊢
  rw [← hb] at HJ0 ⊢
  clear hb1 hb
  go_loopw [5, 15] (fun n i wr => ∃ k : Nat, k ≤ l.length ∧ n = .int .i64 (jn (l.take k)).1 ∧ i = .int .i64 k ∧ Aside0 (J w b (jn (l.take k)).2 wr)) (fun _ i _ => l.length - (intOf i).toNat)
  case atStart => exact ⟨0, by omega, rfl, rfl, HJ0⟩
  case round =>
    rename_i wr _
    obtain ⟨k, hk, rfl, rfl, HJ⟩ := hrel
    clear HJ0
    by_cases hlt : k < l.length
    · obtain ⟨ad, rfl, hx0, hx1, hx2, hx3, hx4, hx5, hx6, hx7, hx8⟩ := at_T41 (Kd.C_below HR.out HJ.out.1) (k : Int) (by omega) (by omega)
      have hrd : rd_T41 l k = l[k] := by simp [rd_T41, hlt]
      rw [hrd] at hx0 hx1 hx2 hx3 hx4 hx5 hx6 hx7 hx8
      simp only [Int.toNat_natCast] at hx0 hx1 hx2 hx3 hx4 hx5 hx6 hx7 hx8
      have hd : deedS l[k] = true := List.all_eq_true.1 HV.out _ (List.getElem_mem hlt)
      have hi := jn_in (l.take k)
      have hl : (textS l[k]).length ≤ 70 := deedT_len hd
      have hc := chk_in _ (textS l[k]) hi
      have hD := itoa_len5 _ hc.1 hc.2
      have hO := jn_len (l.take k) (List.all_eq_true.2 fun x hx => List.all_eq_true.1 HV.out x (List.mem_of_mem_take hx))
      have hO2 : (l.take k).length ≤ 60 := by simp; omega
      have HN := Aside0.mk (show (jn (l.take k)).2 ++ lineT (chk (jn (l.take k)).1 (textS l[k])) (textS l[k]) = (jn (l.take (k + 1))).2 ∧ chk (jn (l.take k)).1 (textS l[k]) = (jn (l.take (k + 1))).1 by
        rw [List.take_succ_eq_append_getElem hlt, jn_snoc]; exact ⟨rfl, rfl⟩)
      have CC := Aside0.mk (implCheck_eq (jn (l.take k)).1 hi.1 hi.2 (textS l[k]) (by omega) 71 (by omega))
      have CD : Aside0 (∀ W, JB w b (jn (l.take k)).2 wr.heap.size l[k] W → Calls Tryd.prog 47 #[.agg #[.int .i64 l[k].f0, .int .i64 l[k].f1, .int .i64 l[k].f2, .int .i64 l[k].f3, .int .i64 l[k].f4.f0, .int .i64 l[k].f4.f1, .int .i64 l[k].f5, .int .i64 l[k].f6, .int .i64 l[k].f7]] W fun e W' => e = .returned (.string (txt (textS l[k]))) ∧ JB w b (jn (l.take k)).2 wr.heap.size l[k] W') := ⟨fun W hW =>
        (impl_deedText.calls 4 _ _ _ _ _ _ _ _ _ _ W (Tb.TB.below HT.out hW.1.1) (implDeedT hd 4 (by omega))).mono fun e W' ⟨he, hb⟩ => ⟨he, hW.step hb⟩⟩
      have CI : Aside0 (∀ W, JB w b (jn (l.take k)).2 wr.heap.size l[k] W → Calls Tryd.prog 41 #[.int .i64 (chk (jn (l.take k)).1 (textS l[k]))] W fun e W' => e = .returned (.string (txt (Lib.itoa (chk (jn (l.take k)).1 (textS l[k]))))) ∧ JB w b (jn (l.take k)).2 wr.heap.size l[k] W') := ⟨fun W hW =>
        (Tb.decimal_any _ (by omega) (by omega) W (Tb.TB.below HT.out hW.1.1)).mono fun e W' ⟨he, hb⟩ => ⟨he, hW.step hb⟩⟩
      have q1 : (9223372036854775807 < (txt (Lib.itoa (chk (jn (l.take k)).1 (textS l[k])))).size + 1) = False := eq_false (by rw [txt_size]; omega)
      have q2 : (9223372036854775807 < (txt (Lib.itoa (chk (jn (l.take k)).1 (textS l[k])))).size + 1 + (txt (textS l[k])).size) = False := eq_false (by rw [txt_size, txt_size]; omega)
      have q3 : (9223372036854775807 < (txt (Lib.itoa (chk (jn (l.take k)).1 (textS l[k])))).size + 1 + (txt (textS l[k])).size + 1) = False := eq_false (by rw [txt_size, txt_size]; omega)
      have CW : Aside0 (∀ W, JB w b (jn (l.take k)).2 wr.heap.size l[k] W → Calls Tryd.prog 52 #[.pointer (some ⟨b, 0, none⟩), .string (txt (Lib.itoa (chk (jn (l.take k)).1 (textS l[k]))) ++ (⟨#[32]⟩ : ByteArray) ++ txt (textS l[k]) ++ (⟨#[10]⟩ : ByteArray))] W fun e W' => e = .returned (.tuple #[.int .i64 (txt (lineT (chk (jn (l.take k)).1 (textS l[k])) (textS l[k]))).size, .nilIface]) ∧ J w b (jn (l.take (k + 1))).2 W') := ⟨fun W hW => by
        rw [show txt (Lib.itoa (chk (jn (l.take k)).1 (textS l[k]))) ++ (⟨#[32]⟩ : ByteArray) ++ txt (textS l[k]) ++ (⟨#[10]⟩ : ByteArray) = txt (lineT (chk (jn (l.take k)).1 (textS l[k])) (textS l[k])) by rw [show (⟨#[32]⟩ : ByteArray) = txt [32] from rfl, show (⟨#[10]⟩ : ByteArray) = txt [10] from rfl]; simp only [txt_append]; rfl]
        rw [← HN.out.1]
        exact hW.1.write _ (by simp only [lineT, List.length_append, List.length_singleton]; omega)⟩
      clear hd hi hl hc hD hO hO2 hrd
      go_wp2_with (first
        | (go_at_call 47; refine (CD.out _ ⟨HJ.out.step (below_alloc (Below.refl _ _) _), blk_new _ _⟩).mono ?_; rintro e w2 ⟨rfl, hJ1⟩)
        | (go_at_call 51; refine (impl_check.calls 71 _ _ _ _ CC.out).mono ?_; rintro e w' ⟨rfl, nd, rfl⟩))
      have HJ1 := Aside0.mk hJ1
      obtain ⟨c0, c1, c2, c3, c4, c5, c6, c7, c8⟩ := hJ1.cells
      clear hJ1
      go_region_with (first
        | (go_at_call 47; refine (CD.out _ (by first | assumption | exact HJ1.out.drewN _ | exact HJ1.out)).mono ?_; rintro e w3 ⟨rfl, hJ2⟩; obtain ⟨d0, d1, d2, d3, d4, d5, d6, d7, d8⟩ := hJ2.cells)
        | (go_at_call 41; refine (CI.out _ (by first | assumption | exact HJ1.out.drewN _ | exact HJ1.out)).mono ?_; rintro e w3 ⟨rfl, hJ2⟩; obtain ⟨d0, d1, d2, d3, d4, d5, d6, d7, d8⟩ := hJ2.cells)
        | (go_at_call 52; refine (CW.out _ (by first | assumption | exact HJ1.out.drewN _ | exact HJ1.out)).mono ?_; rintro e w3 ⟨rfl, hJ3⟩))
      all_goals (clear q1 q2 q3)
      all_goals
        go_wp2
        go_roundw
        case rel => exact ⟨k + 1, by omega, by rw [← HN.out.2], by go_num, ⟨by assumption⟩⟩
        case measure => simp [intOf]; omega
    · obtain rfl : k = l.length := by omega
      go_wp2_with (go_at_call 53; refine (J.read HJ.out).mono ?_; rintro e w' ⟨rfl, hb2⟩)
      go_ret2
      exact ⟨rfl, hb2⟩
end Go.Proofs.YtahmgalkliicfaaDoor.Hn

-- made by a patched copy of print.sh: this session's own
namespace Go.Proofs.YtahmgalkliicfaaDoor.Q
open Go.RowKit Go.Proofs.YtahmgalkliicfaaDoorW.PrintWords Go.Proofs.YtahmgalkliicfaaDoorW.PrintLast Go.Proofs.YtahmgalkliicfaaDoorW.PrintMore
attribute [local go_sem] max2_int min2_int max_two min_two max_three min_three max_four min_four   -- for this text's walks alone
set_option linter.unusedVariables false
set_option linter.unusedSimpArgs false

/-! ### spec_l11Deeds: function 48 -/
def spec_l11Deeds.f (l0 : List (S41)) : Option (Bool) := some (Hm.deedsB l0)
theorem spec_l11Deeds.calls (A0 : Option Addr) (c0 : Nat) (l0 : List (S41)) (r : Bool) (w : World) (hr0 : Kd.C k41 w A0 l0.length l0) (hc0 : l0.length ≤ c0) (h : spec_l11Deeds.f l0 = some r) :
    Calls Tryd.prog 48 #[.slice A0 l0.length c0] w fun e w' => e = .returned (.bool r) ∧ Below w.heap.size w w' := by
  obtain rfl := Option.some.inj h
  exact Hk.l11Deeds_any A0 c0 l0 w hr0

end Go.Proofs.YtahmgalkliicfaaDoor.Q

-- made by a patched copy of print.sh: this session's own
namespace Go.Proofs.YtahmgalkliicfaaDoor.Q
open Go.RowKit Go.Proofs.YtahmgalkliicfaaDoorW.PrintWords Go.Proofs.YtahmgalkliicfaaDoorW.PrintLast Go.Proofs.YtahmgalkliicfaaDoorW.PrintMore
attribute [local go_sem] max2_int min2_int max_two min_two max_three min_three max_four min_four   -- for this text's walks alone
set_option linter.unusedVariables false
set_option linter.unusedSimpArgs false

/-! ### spec_l11Journal: function 49 -/
def spec_l11Journal.f (l0 : List (S41)) : Option (ByteArray) := if l0.length ≤ 60 ∧ l0.all Hk.deedS = true then some (PuD.txt (Hl.jn l0).2) else none
theorem spec_l11Journal.calls (A0 : Option Addr) (c0 : Nat) (l0 : List (S41)) (r : ByteArray) (w : World) (hr0 : Kd.C k41 w A0 l0.length l0) (hc0 : l0.length ≤ c0) (h : spec_l11Journal.f l0 = some r) :
    Calls Tryd.prog 49 #[.slice A0 l0.length c0] w fun e w' => e = .returned (.string r) ∧ Below w.heap.size w w' := by
  unfold spec_l11Journal.f at h
  split at h
  · rename_i hb
    obtain rfl := Option.some.inj h
    exact Hl.l11Journal_any A0 c0 l0 w hr0 hb.2 hb.1
  · cases h

end Go.Proofs.YtahmgalkliicfaaDoor.Q

-- made by a patched copy of print.sh: this session's own
namespace Go.Proofs.YtahmgalkliicfaaDoor.Q
open Go.RowKit Go.Proofs.YtahmgalkliicfaaDoorW.PrintWords Go.Proofs.YtahmgalkliicfaaDoorW.PrintLast Go.Proofs.YtahmgalkliicfaaDoorW.PrintMore
attribute [local go_sem] max2_int min2_int max_two min_two max_three min_three max_four min_four   -- for this text's walks alone
set_option linter.unusedVariables false
set_option linter.unusedSimpArgs false

/-! ### spec_JournalText: function 19 -/
def spec_JournalText.f (l0 : List (S41)) : Option (ByteArray × Bool) := (spec_l11Deeds.f l0).bind fun t329 => (if t329 = true then ((spec_l11Journal.f l0).bind fun t330 => (some (t330, true))) else (some ((⟨#[]⟩ : ByteArray), false)))
set_option maxHeartbeats 8000000 in
set_option maxRecDepth 100000 in
theorem spec_JournalText.calls (A0 : Option Addr) (c0 : Nat) (l0 : List (S41)) (r1 : ByteArray) (r2 : Bool) (w : World) (hr0 : Kd.C k41 w A0 l0.length l0) (hc0 : l0.length ≤ c0) (h : spec_JournalText.f l0 = some (r1, r2)) :
    Calls Tryd.prog 19 #[.slice A0 l0.length c0] w fun e w' => e = .returned (.tuple #[.string r1, .bool r2]) ∧ Below w.heap.size w w' := by
  have HR0 := Aside0.mk hr0
  have HC0 := Aside0.mk hc0
  clear hr0 hc0
  have HB := Aside0.mk (Below.refl w.heap.size w)
  have H : ((spec_l11Deeds.f l0).bind fun t329 => (if t329 = true then ((spec_l11Journal.f l0).bind fun t330 => (some (t330, true))) else (some ((⟨#[]⟩ : ByteArray), false)))) = some (r1, r2) := h
  clear h
  replace H := Option.bind_eq_some_iff.mp H
  obtain ⟨t329, A20, H⟩ := H
  replace H : (if t329 = true then ((spec_l11Journal.f l0).bind fun t330 => (some (t330, true))) else (some ((⟨#[]⟩ : ByteArray), false))) = some (r1, r2) := H
  have A2 := Aside0.mk A20
  clear A20
  by_cases c3 : t329 = true
  · subst c3
    have H1 : ((spec_l11Journal.f l0).bind fun t330 => (some (t330, true))) = some (r1, r2) := by rw [if_pos rfl] at H; exact H
    clear H
    have H := H1
    clear H1
    replace H := Option.bind_eq_some_iff.mp H
    obtain ⟨t330, A40, H⟩ := H
    replace H : (some (t330, true)) = some (r1, r2) := H
    have A4 := Aside0.mk A40
    clear A40
    simp only [Option.some.injEq, Prod.mk.injEq] at H
    obtain ⟨rfl, rfl⟩ := H
    go_enter Tryd.func19, Tryd.ntmps19
    go_wp2_with (first | ((with_reducible refine gate_callee (f := 48) rfl ?_); refine goesL_ (some 5) rfl rfl Tryd.func48 (by kernel_rfl) rfl #[.slice A0 l0.length c0] rfl (by (try simp only [List.map_toArray, List.map_cons, List.map_nil]); first | done | rfl | (simp only [List.length_drop, List.length_take]; rfl)) ?_; (with_reducible refine (spec_l11Deeds.calls _ _ l0 true _ ?side1 ?side2 A2.out).mono ?_); (case side1 => repeat (first | exact HR0.out | (with_reducible refine Kd.C_alloc ?_ _) | (with_reducible refine Kd.C_drewN ?_ _) | (with_reducible refine Kd.C_drew ?_))); (case side2 => exact HC0.out); rintro e w5 ⟨rfl, hb⟩; refine ⟨_, rfl, ?_⟩; have n0_ := Aside0.mk (below_step (by repeat (first | (with_reducible first | exact HB.out | apply below_alloc | apply pw_below_drewN | apply below_drew1) | exact HB.out)) hb); clear HB; have HB := n0_; clear n0_; (try clear hb); (try clear hb2); (try clear hk); (try clear hi)) | ((with_reducible refine gate_callee (f := 49) rfl ?_); refine goesL_ (some 8) rfl rfl Tryd.func49 (by kernel_rfl) rfl #[.slice A0 l0.length c0] rfl (by (try simp only [List.map_toArray, List.map_cons, List.map_nil]); first | done | rfl | (simp only [List.length_drop, List.length_take]; rfl)) ?_; (with_reducible refine (spec_l11Journal.calls _ _ l0 t330 _ ?side1 ?side2 A4.out).mono ?_); (case side1 => repeat (first | exact (Kd.C_below HR0.out HB.out) | (with_reducible refine Kd.C_alloc ?_ _) | (with_reducible refine Kd.C_drewN ?_ _) | (with_reducible refine Kd.C_drew ?_))); (case side2 => exact HC0.out); rintro e w6 ⟨rfl, hb⟩; refine ⟨_, rfl, ?_⟩; have n0_ := Aside0.mk (below_step (by repeat (first | (with_reducible first | exact HB.out | apply below_alloc | apply pw_below_drewN | apply below_drew1) | exact HB.out)) hb); clear HB; have HB := n0_; clear n0_; (try clear hb); (try clear hb2); (try clear hk); (try clear hi)))
    go_ret2
    exact ⟨by first | rfl | (simp [errW_none, errW_some] <;> rfl) | (simp [*, errW_none, errW_some] <;> rfl), by repeat (first | (with_reducible first | exact HB.out | apply below_alloc | apply pw_below_drewN | apply below_drew1) | exact HB.out)⟩
  · replace c3 := Bool.eq_false_iff.mpr c3
    subst c3
    have H1 : (some ((⟨#[]⟩ : ByteArray), false)) = some (r1, r2) := by rw [if_neg (show ¬ (false = true) by decide)] at H; exact H
    clear H
    have H := H1
    clear H1
    simp only [Option.some.injEq, Prod.mk.injEq] at H
    obtain ⟨rfl, rfl⟩ := H
    go_enter Tryd.func19, Tryd.ntmps19
    go_wp2_with (first | ((with_reducible refine gate_callee (f := 48) rfl ?_); refine goesL_ (some 5) rfl rfl Tryd.func48 (by kernel_rfl) rfl #[.slice A0 l0.length c0] rfl (by (try simp only [List.map_toArray, List.map_cons, List.map_nil]); first | done | rfl | (simp only [List.length_drop, List.length_take]; rfl)) ?_; (with_reducible refine (spec_l11Deeds.calls _ _ l0 false _ ?side1 ?side2 A2.out).mono ?_); (case side1 => repeat (first | exact HR0.out | (with_reducible refine Kd.C_alloc ?_ _) | (with_reducible refine Kd.C_drewN ?_ _) | (with_reducible refine Kd.C_drew ?_))); (case side2 => exact HC0.out); rintro e w7 ⟨rfl, hb⟩; refine ⟨_, rfl, ?_⟩; have n0_ := Aside0.mk (below_step (by repeat (first | (with_reducible first | exact HB.out | apply below_alloc | apply pw_below_drewN | apply below_drew1) | exact HB.out)) hb); clear HB; have HB := n0_; clear n0_; (try clear hb); (try clear hb2); (try clear hk); (try clear hi)))
    go_ret2
    exact ⟨by first | rfl | (simp [errW_none, errW_some] <;> rfl) | (simp [*, errW_none, errW_some] <;> rfl), by repeat (first | (with_reducible first | exact HB.out | apply below_alloc | apply pw_below_drewN | apply below_drew1) | exact HB.out)⟩

end Go.Proofs.YtahmgalkliicfaaDoor.Q

-- made by a patched copy of print.sh: this session's own
namespace Go.Proofs.YtahmgalkliicfaaDoor.Q
open Go.RowKit Go.Proofs.YtahmgalkliicfaaDoorW.PrintWords Go.Proofs.YtahmgalkliicfaaDoorW.PrintLast Go.Proofs.YtahmgalkliicfaaDoorW.PrintMore
attribute [local go_sem] max2_int min2_int max_two min_two max_three min_three max_four min_four   -- for this text's walks alone
set_option linter.unusedVariables false
set_option linter.unusedSimpArgs false

/-! ### laws_toRing: function 45 -/
def laws_toRing.f (a0_0 : Int) (a0_1 : Int) : Option (Int × Int) := some (a0_0, a0_1)
set_option maxHeartbeats 8000000 in
set_option maxRecDepth 100000 in
theorem laws_toRing.calls (a0_0 : Int) (a0_1 : Int) (r1 : Int) (r2 : Int) (w : World) (h : laws_toRing.f a0_0 a0_1 = some (r1, r2)) :
    Calls Tryd.prog 45 #[.agg #[.int .i64 a0_0, .int .i64 a0_1]] w fun e w' => e = .returned (.agg #[.int .i64 r1, .int .i64 r2]) ∧ Below w.heap.size w w' := by
  have hu35 := Tryd.underlying35
  have hu39 := Tryd.underlying39
  have HB := Aside0.mk (Below.refl w.heap.size w)
  have H : (some (a0_0, a0_1)) = some (r1, r2) := h
  clear h
  simp only [Option.some.injEq, Prod.mk.injEq] at H
  obtain ⟨rfl, rfl⟩ := H
  go_enter Tryd.func45, Tryd.ntmps45
  go_wp2_with (first | ((with_reducible refine gate_dst (N := 1) rfl ?_); refine box_event ?hg (N := 1) ?hd (cs := #[.int .i64 a0_0, .int .i64 a0_1]) (t := 35) ?hr ?_; (case hd => rfl); (case hg => rfl); (case hr => first | (go_simp; done) | (go_simp; rfl)); intro gb258 hg w2 hbox hb; have n0_ := Aside0.mk (below_step (by repeat (first | (with_reducible first | exact HB.out | apply below_alloc | apply pw_below_drewN | apply below_drew1) | exact HB.out)) hb); have n1_ := Aside0.mk (hbox); have n2_ := Aside0.mk ((by rw [hg]; exact (below_size (by repeat (first | (with_reducible first | exact HB.out | apply below_alloc | apply pw_below_drewN | apply below_drew1) | exact HB.out))) : w.heap.size ≤ gb258)); have n3_ := Aside0.mk ((by rw [hg]; exact (below_size (by repeat (first | (with_reducible first | exact HB.out | apply below_alloc | apply pw_below_drewN | apply below_drew1) | exact HB.out))) : w.heap.size ≤ gb258)); clear HB; have HB := n0_; have BK258 := n1_; have GW258 := n2_; have GE258 := n3_; clear n0_ n1_ n2_ n3_; clear hb hbox hg) | ((with_reducible refine gate_dst (N := 2) rfl ?_); refine box_event ?hg (N := 2) ?hd (cs := #[.int .i64 0, .int .i64 0]) (t := 39) ?hr ?_; (case hd => rfl); (case hg => rfl); (case hr => first | (go_simp; done) | (go_simp; rfl)); intro gb259 hg w3 hbox hb; have n0_ := Aside0.mk (blk_below (g := gb258) (o := .cells #[.int .i64 a0_0, .int .i64 a0_1] 35 (0, 0)) (by (with_reducible repeat (first | refine blk_drewN ?_ _ | refine blk_drew ?_ | refine blk_alloc ?_ _)); exact BK258.out) hb); have n1_ := Aside0.mk (below_step (by repeat (first | (with_reducible first | exact HB.out | apply below_alloc | apply pw_below_drewN | apply below_drew1 | refine below_set ?_ GE258.out) | exact HB.out)) hb); have n2_ := Aside0.mk (hbox); have n3_ := Aside0.mk ((by rw [hg]; exact (below_size (by repeat (first | (with_reducible first | exact HB.out | apply below_alloc | apply pw_below_drewN | apply below_drew1 | refine below_set ?_ GE258.out) | exact HB.out))) : w.heap.size ≤ gb259)); have n4_ := Aside0.mk ((by rw [hg]; exact (below_size (by repeat (first | (with_reducible first | exact HB.out | apply below_alloc | apply pw_below_drewN | apply below_drew1 | refine below_set ?_ GE258.out) | exact HB.out))) : w.heap.size ≤ gb259)); have n5_ := Aside0.mk ((by rw [hg]; exact Nat.ne_of_lt (blk_lt (g := gb258) (o := .cells #[.int .i64 a0_0, .int .i64 a0_1] 35 (0, 0)) (by (with_reducible repeat (first | refine blk_drewN ?_ _ | refine blk_drew ?_ | refine blk_alloc ?_ _)); exact BK258.out)) : gb258 ≠ gb259)); have n6_ := Aside0.mk ((by rw [hg]; exact Nat.ne_of_gt (blk_lt (g := gb258) (o := .cells #[.int .i64 a0_0, .int .i64 a0_1] 35 (0, 0)) (by (with_reducible repeat (first | refine blk_drewN ?_ _ | refine blk_drew ?_ | refine blk_alloc ?_ _)); exact BK258.out)) : gb259 ≠ gb258)); clear BK258; clear HB; have BK258 := n0_; have HB := n1_; have BK259 := n2_; have GW259 := n3_; have GE259 := n4_; have NB258_259 := n5_; have NB259_258 := n6_; clear n0_ n1_ n2_ n3_ n4_ n5_ n6_; clear hb hbox hg) | ((with_reducible refine gate_dst (N := 3) rfl ?_); refine box_event ?hg (N := 3) ?hd (cs := #[.int .i64 0, .int .i64 0]) (t := 39) ?hr ?_; (case hd => rfl); (case hg => rfl); (case hr => first | (go_simp; done) | (go_simp; rfl)); intro gb260 hg w4 hbox hb; have n0_ := Aside0.mk (blk_below (g := gb258) (o := .cells #[.int .i64 a0_0, .int .i64 a0_1] 35 (0, 0)) (by (with_reducible repeat (first | refine blk_drewN ?_ _ | refine blk_drew ?_ | refine blk_alloc ?_ _)); exact BK258.out) hb); have n1_ := Aside0.mk (blk_below (g := gb259) (o := .cells #[.int .i64 0, .int .i64 0] 39 (0, 0)) (by (with_reducible repeat (first | refine blk_drewN ?_ _ | refine blk_drew ?_ | refine blk_alloc ?_ _)); exact BK259.out) hb); have n2_ := Aside0.mk (below_step (by repeat (first | (with_reducible first | exact HB.out | apply below_alloc | apply pw_below_drewN | apply below_drew1 | refine below_set ?_ GE258.out | refine below_set ?_ GE259.out) | exact HB.out)) hb); have n3_ := Aside0.mk (hbox); have n4_ := Aside0.mk ((by rw [hg]; exact (below_size (by repeat (first | (with_reducible first | exact HB.out | apply below_alloc | apply pw_below_drewN | apply below_drew1 | refine below_set ?_ GE258.out | refine below_set ?_ GE259.out) | exact HB.out))) : w.heap.size ≤ gb260)); have n5_ := Aside0.mk ((by rw [hg]; exact (below_size (by repeat (first | (with_reducible first | exact HB.out | apply below_alloc | apply pw_below_drewN | apply below_drew1 | refine below_set ?_ GE258.out | refine below_set ?_ GE259.out) | exact HB.out))) : w.heap.size ≤ gb260)); have n6_ := Aside0.mk ((by rw [hg]; exact Nat.ne_of_lt (blk_lt (g := gb258) (o := .cells #[.int .i64 a0_0, .int .i64 a0_1] 35 (0, 0)) (by (with_reducible repeat (first | refine blk_drewN ?_ _ | refine blk_drew ?_ | refine blk_alloc ?_ _)); exact BK258.out)) : gb258 ≠ gb260)); have n7_ := Aside0.mk ((by rw [hg]; exact Nat.ne_of_gt (blk_lt (g := gb258) (o := .cells #[.int .i64 a0_0, .int .i64 a0_1] 35 (0, 0)) (by (with_reducible repeat (first | refine blk_drewN ?_ _ | refine blk_drew ?_ | refine blk_alloc ?_ _)); exact BK258.out)) : gb260 ≠ gb258)); have n8_ := Aside0.mk ((by rw [hg]; exact Nat.ne_of_lt (blk_lt (g := gb259) (o := .cells #[.int .i64 0, .int .i64 0] 39 (0, 0)) (by (with_reducible repeat (first | refine blk_drewN ?_ _ | refine blk_drew ?_ | refine blk_alloc ?_ _)); exact BK259.out)) : gb259 ≠ gb260)); have n9_ := Aside0.mk ((by rw [hg]; exact Nat.ne_of_gt (blk_lt (g := gb259) (o := .cells #[.int .i64 0, .int .i64 0] 39 (0, 0)) (by (with_reducible repeat (first | refine blk_drewN ?_ _ | refine blk_drew ?_ | refine blk_alloc ?_ _)); exact BK259.out)) : gb260 ≠ gb259)); clear BK258; clear BK259; clear HB; have BK258 := n0_; have BK259 := n1_; have HB := n2_; have BK260 := n3_; have GW260 := n4_; have GE260 := n5_; have NB258_260 := n6_; have NB260_258 := n7_; have NB259_260 := n8_; have NB260_259 := n9_; clear n0_ n1_ n2_ n3_ n4_ n5_ n6_ n7_ n8_ n9_; clear hb hbox hg; have hnb5 := NB258_259.out; have hnc5 := NB259_258.out; have hnb6 := NB258_260.out; have hnc6 := NB260_258.out; have hcz7_0 : w4.cell? ⟨gb258, 0, none⟩ = some (.int .i64 a0_0) := (blk_cell BK258.out 0).trans rfl; have hcz7_1 : w4.cell? ⟨gb258, 1, none⟩ = some (.int .i64 a0_1) := (blk_cell BK258.out 1).trans rfl; have hfz7_0 := blk_frozen BK258.out 0; have hfz7_1 := blk_frozen BK258.out 1; have hnb8 := NB260_259.out; have hnc8 := NB259_260.out; have hcz9_0 : w4.cell? ⟨gb260, 0, none⟩ = some (.int .i64 0) := (blk_cell BK260.out 0).trans rfl; have hcz9_1 : w4.cell? ⟨gb260, 1, none⟩ = some (.int .i64 0) := (blk_cell BK260.out 1).trans rfl; have hfz9_0 := blk_frozen BK260.out 0; have hfz9_1 := blk_frozen BK260.out 1; have hcz10_0 : w4.cell? ⟨gb259, 0, none⟩ = some (.int .i64 0) := (blk_cell BK259.out 0).trans rfl; have hcz10_1 : w4.cell? ⟨gb259, 1, none⟩ = some (.int .i64 0) := (blk_cell BK259.out 1).trans rfl; have hfz10_0 := blk_frozen BK259.out 0; have hfz10_1 := blk_frozen BK259.out 1))
  refine bodyPost_ret (results_cell_row rfl _ _ gb259 39 #[.int .i64 a0_0, .int .i64 a0_1] (0, 0) _ rfl (by (with_reducible repeat (first | refine blk_drewN ?_ _ | refine blk_drew ?_ | refine blk_alloc ?_ _)); refine blk_put (cs := #[.int .i64 a0_0, .int .i64 0]) ?_ 1 _ rfl; (with_reducible repeat (first | refine blk_drewN ?_ _ | refine blk_drew ?_ | refine blk_alloc ?_ _)); refine blk_put (cs := #[.int .i64 0, .int .i64 0]) ?_ 0 _ rfl; (with_reducible repeat (first | refine blk_drewN ?_ _ | refine blk_drew ?_ | refine blk_alloc ?_ _)); refine blk_far ?_ NB259_260.out _; (with_reducible repeat (first | refine blk_drewN ?_ _ | refine blk_drew ?_ | refine blk_alloc ?_ _)); refine blk_far ?_ NB259_260.out _; (with_reducible repeat (first | refine blk_drewN ?_ _ | refine blk_drew ?_ | refine blk_alloc ?_ _)); exact BK259.out) Tryd.underlying39 rfl (by kernel_rfl)) rfl ?_
  exact ⟨by first | rfl | (simp [errW_none, errW_some] <;> rfl) | (simp [*, errW_none, errW_some] <;> rfl), by repeat (first | (with_reducible first | exact HB.out | apply below_alloc | apply pw_below_drewN | apply below_drew1 | refine below_set ?_ GE258.out | refine below_set ?_ GE259.out | refine below_set ?_ GE260.out) | exact HB.out)⟩

end Go.Proofs.YtahmgalkliicfaaDoor.Q

-- made by a patched copy of print.sh: this session's own
namespace Go.Proofs.YtahmgalkliicfaaDoor.Q
open Go.RowKit Go.Proofs.YtahmgalkliicfaaDoorW.PrintWords Go.Proofs.YtahmgalkliicfaaDoorW.PrintLast Go.Proofs.YtahmgalkliicfaaDoorW.PrintMore
attribute [local go_sem] max2_int min2_int max_two min_two max_three min_three max_four min_four   -- for this text's walks alone
set_option linter.unusedVariables false
set_option linter.unusedSimpArgs false

/-! ### laws_toDeed: function 16 -/
def laws_toDeed.f (a0_0 : Int) (a0_1 : Int) (a0_2 : Int) (a0_3 : Int) (a0_4 : Int) (a0_5 : Int) (a0_6 : Int) (a0_7 : Int) (a0_8 : Int) : Option (Int × Int × Int × Int × Int × Int × Int × Int × Int) := (laws_toRing.f a0_4 a0_5).bind fun bt264 => (some (a0_0, a0_1, a0_2, a0_3, bt264.1, bt264.2, a0_6, a0_7, a0_8))
set_option maxHeartbeats 8000000 in
set_option maxRecDepth 100000 in
theorem laws_toDeed.calls (a0_0 : Int) (a0_1 : Int) (a0_2 : Int) (a0_3 : Int) (a0_4 : Int) (a0_5 : Int) (a0_6 : Int) (a0_7 : Int) (a0_8 : Int) (r1 : Int) (r2 : Int) (r3 : Int) (r4 : Int) (r5 : Int) (r6 : Int) (r7 : Int) (r8 : Int) (r9 : Int) (w : World) (h : laws_toDeed.f a0_0 a0_1 a0_2 a0_3 a0_4 a0_5 a0_6 a0_7 a0_8 = some (r1, r2, r3, r4, r5, r6, r7, r8, r9)) :
    Calls Tryd.prog 16 #[.agg #[.int .i64 a0_0, .int .i64 a0_1, .int .i64 a0_2, .int .i64 a0_3, .int .i64 a0_4, .int .i64 a0_5, .int .i64 a0_6, .int .i64 a0_7, .int .i64 a0_8]] w fun e w' => e = .returned (.agg #[.int .i64 r1, .int .i64 r2, .int .i64 r3, .int .i64 r4, .int .i64 r5, .int .i64 r6, .int .i64 r7, .int .i64 r8, .int .i64 r9]) ∧ Below w.heap.size w w' := by
  have hu37 := Tryd.underlying37
  have hu41 := Tryd.underlying41
  have hu35 := Tryd.underlying35
  have hu39 := Tryd.underlying39
  have HB := Aside0.mk (Below.refl w.heap.size w)
  have H : ((laws_toRing.f a0_4 a0_5).bind fun bt264 => (some (a0_0, a0_1, a0_2, a0_3, bt264.1, bt264.2, a0_6, a0_7, a0_8))) = some (r1, r2, r3, r4, r5, r6, r7, r8, r9) := h
  clear h
  replace H := Option.bind_eq_some_iff.mp H
  obtain ⟨⟨t264, t265⟩, A20, H⟩ := H
  replace H : (some (a0_0, a0_1, a0_2, a0_3, t264, t265, a0_6, a0_7, a0_8)) = some (r1, r2, r3, r4, r5, r6, r7, r8, r9) := H
  have A2 := Aside0.mk A20
  clear A20
  simp only [Option.some.injEq, Prod.mk.injEq] at H
  obtain ⟨rfl, rfl, rfl, rfl, rfl, rfl, rfl, rfl, rfl⟩ := H
  go_enter Tryd.func16, Tryd.ntmps16
  go_wp2_with (first | ((with_reducible refine gate_dst (N := 1) rfl ?_); refine box_event ?hg (N := 1) ?hd (cs := #[.int .i64 a0_0, .int .i64 a0_1, .int .i64 a0_2, .int .i64 a0_3, .int .i64 a0_4, .int .i64 a0_5, .int .i64 a0_6, .int .i64 a0_7, .int .i64 a0_8]) (t := 37) ?hr ?_; (case hd => rfl); (case hg => rfl); (case hr => first | (go_simp; done) | (go_simp; rfl)); intro gb261 hg w3 hbox hb; have n0_ := Aside0.mk (below_step (by repeat (first | (with_reducible first | exact HB.out | apply below_alloc | apply pw_below_drewN | apply below_drew1) | exact HB.out)) hb); have n1_ := Aside0.mk (hbox); have n2_ := Aside0.mk ((by rw [hg]; exact (below_size (by repeat (first | (with_reducible first | exact HB.out | apply below_alloc | apply pw_below_drewN | apply below_drew1) | exact HB.out))) : w.heap.size ≤ gb261)); have n3_ := Aside0.mk ((by rw [hg]; exact (below_size (by repeat (first | (with_reducible first | exact HB.out | apply below_alloc | apply pw_below_drewN | apply below_drew1) | exact HB.out))) : w.heap.size ≤ gb261)); clear HB; have HB := n0_; have BK261 := n1_; have GW261 := n2_; have GE261 := n3_; clear n0_ n1_ n2_ n3_; clear hb hbox hg) | ((with_reducible refine gate_dst (N := 2) rfl ?_); refine box_event ?hg (N := 2) ?hd (cs := #[.int .i64 0, .int .i64 0, .int .i64 0, .int .i64 0, .int .i64 0, .int .i64 0, .int .i64 0, .int .i64 0, .int .i64 0]) (t := 41) ?hr ?_; (case hd => rfl); (case hg => rfl); (case hr => first | (go_simp; done) | (go_simp; rfl)); intro gb262 hg w4 hbox hb; have n0_ := Aside0.mk (blk_below (g := gb261) (o := .cells #[.int .i64 a0_0, .int .i64 a0_1, .int .i64 a0_2, .int .i64 a0_3, .int .i64 a0_4, .int .i64 a0_5, .int .i64 a0_6, .int .i64 a0_7, .int .i64 a0_8] 37 (0, 0)) (by (with_reducible repeat (first | refine blk_drewN ?_ _ | refine blk_drew ?_ | refine blk_alloc ?_ _)); exact BK261.out) hb); have n1_ := Aside0.mk (below_step (by repeat (first | (with_reducible first | exact HB.out | apply below_alloc | apply pw_below_drewN | apply below_drew1 | refine below_set ?_ GE261.out) | exact HB.out)) hb); have n2_ := Aside0.mk (hbox); have n3_ := Aside0.mk ((by rw [hg]; exact (below_size (by repeat (first | (with_reducible first | exact HB.out | apply below_alloc | apply pw_below_drewN | apply below_drew1 | refine below_set ?_ GE261.out) | exact HB.out))) : w.heap.size ≤ gb262)); have n4_ := Aside0.mk ((by rw [hg]; exact (below_size (by repeat (first | (with_reducible first | exact HB.out | apply below_alloc | apply pw_below_drewN | apply below_drew1 | refine below_set ?_ GE261.out) | exact HB.out))) : w.heap.size ≤ gb262)); have n5_ := Aside0.mk ((by rw [hg]; exact Nat.ne_of_lt (blk_lt (g := gb261) (o := .cells #[.int .i64 a0_0, .int .i64 a0_1, .int .i64 a0_2, .int .i64 a0_3, .int .i64 a0_4, .int .i64 a0_5, .int .i64 a0_6, .int .i64 a0_7, .int .i64 a0_8] 37 (0, 0)) (by (with_reducible repeat (first | refine blk_drewN ?_ _ | refine blk_drew ?_ | refine blk_alloc ?_ _)); exact BK261.out)) : gb261 ≠ gb262)); have n6_ := Aside0.mk ((by rw [hg]; exact Nat.ne_of_gt (blk_lt (g := gb261) (o := .cells #[.int .i64 a0_0, .int .i64 a0_1, .int .i64 a0_2, .int .i64 a0_3, .int .i64 a0_4, .int .i64 a0_5, .int .i64 a0_6, .int .i64 a0_7, .int .i64 a0_8] 37 (0, 0)) (by (with_reducible repeat (first | refine blk_drewN ?_ _ | refine blk_drew ?_ | refine blk_alloc ?_ _)); exact BK261.out)) : gb262 ≠ gb261)); clear BK261; clear HB; have BK261 := n0_; have HB := n1_; have BK262 := n2_; have GW262 := n3_; have GE262 := n4_; have NB261_262 := n5_; have NB262_261 := n6_; clear n0_ n1_ n2_ n3_ n4_ n5_ n6_; clear hb hbox hg) | ((with_reducible refine gate_dst (N := 3) rfl ?_); refine box_event ?hg (N := 3) ?hd (cs := #[.int .i64 0, .int .i64 0, .int .i64 0, .int .i64 0, .int .i64 0, .int .i64 0, .int .i64 0, .int .i64 0, .int .i64 0]) (t := 41) ?hr ?_; (case hd => rfl); (case hg => rfl); (case hr => first | (go_simp; done) | (go_simp; rfl)); intro gb263 hg w5 hbox hb; have n0_ := Aside0.mk (blk_below (g := gb261) (o := .cells #[.int .i64 a0_0, .int .i64 a0_1, .int .i64 a0_2, .int .i64 a0_3, .int .i64 a0_4, .int .i64 a0_5, .int .i64 a0_6, .int .i64 a0_7, .int .i64 a0_8] 37 (0, 0)) (by (with_reducible repeat (first | refine blk_drewN ?_ _ | refine blk_drew ?_ | refine blk_alloc ?_ _)); exact BK261.out) hb); have n1_ := Aside0.mk (blk_below (g := gb262) (o := .cells #[.int .i64 0, .int .i64 0, .int .i64 0, .int .i64 0, .int .i64 0, .int .i64 0, .int .i64 0, .int .i64 0, .int .i64 0] 41 (0, 0)) (by (with_reducible repeat (first | refine blk_drewN ?_ _ | refine blk_drew ?_ | refine blk_alloc ?_ _)); exact BK262.out) hb); have n2_ := Aside0.mk (below_step (by repeat (first | (with_reducible first | exact HB.out | apply below_alloc | apply pw_below_drewN | apply below_drew1 | refine below_set ?_ GE261.out | refine below_set ?_ GE262.out) | exact HB.out)) hb); have n3_ := Aside0.mk (hbox); have n4_ := Aside0.mk ((by rw [hg]; exact (below_size (by repeat (first | (with_reducible first | exact HB.out | apply below_alloc | apply pw_below_drewN | apply below_drew1 | refine below_set ?_ GE261.out | refine below_set ?_ GE262.out) | exact HB.out))) : w.heap.size ≤ gb263)); have n5_ := Aside0.mk ((by rw [hg]; exact (below_size (by repeat (first | (with_reducible first | exact HB.out | apply below_alloc | apply pw_below_drewN | apply below_drew1 | refine below_set ?_ GE261.out | refine below_set ?_ GE262.out) | exact HB.out))) : w.heap.size ≤ gb263)); have n6_ := Aside0.mk ((by rw [hg]; exact Nat.ne_of_lt (blk_lt (g := gb261) (o := .cells #[.int .i64 a0_0, .int .i64 a0_1, .int .i64 a0_2, .int .i64 a0_3, .int .i64 a0_4, .int .i64 a0_5, .int .i64 a0_6, .int .i64 a0_7, .int .i64 a0_8] 37 (0, 0)) (by (with_reducible repeat (first | refine blk_drewN ?_ _ | refine blk_drew ?_ | refine blk_alloc ?_ _)); exact BK261.out)) : gb261 ≠ gb263)); have n7_ := Aside0.mk ((by rw [hg]; exact Nat.ne_of_gt (blk_lt (g := gb261) (o := .cells #[.int .i64 a0_0, .int .i64 a0_1, .int .i64 a0_2, .int .i64 a0_3, .int .i64 a0_4, .int .i64 a0_5, .int .i64 a0_6, .int .i64 a0_7, .int .i64 a0_8] 37 (0, 0)) (by (with_reducible repeat (first | refine blk_drewN ?_ _ | refine blk_drew ?_ | refine blk_alloc ?_ _)); exact BK261.out)) : gb263 ≠ gb261)); have n8_ := Aside0.mk ((by rw [hg]; exact Nat.ne_of_lt (blk_lt (g := gb262) (o := .cells #[.int .i64 0, .int .i64 0, .int .i64 0, .int .i64 0, .int .i64 0, .int .i64 0, .int .i64 0, .int .i64 0, .int .i64 0] 41 (0, 0)) (by (with_reducible repeat (first | refine blk_drewN ?_ _ | refine blk_drew ?_ | refine blk_alloc ?_ _)); exact BK262.out)) : gb262 ≠ gb263)); have n9_ := Aside0.mk ((by rw [hg]; exact Nat.ne_of_gt (blk_lt (g := gb262) (o := .cells #[.int .i64 0, .int .i64 0, .int .i64 0, .int .i64 0, .int .i64 0, .int .i64 0, .int .i64 0, .int .i64 0, .int .i64 0] 41 (0, 0)) (by (with_reducible repeat (first | refine blk_drewN ?_ _ | refine blk_drew ?_ | refine blk_alloc ?_ _)); exact BK262.out)) : gb263 ≠ gb262)); clear BK261; clear BK262; clear HB; have BK261 := n0_; have BK262 := n1_; have HB := n2_; have BK263 := n3_; have GW263 := n4_; have GE263 := n5_; have NB261_263 := n6_; have NB263_261 := n7_; have NB262_263 := n8_; have NB263_262 := n9_; clear n0_ n1_ n2_ n3_ n4_ n5_ n6_ n7_ n8_ n9_; clear hb hbox hg; have hnb6 := NB261_262.out; have hnc6 := NB262_261.out; have hnb7 := NB261_263.out; have hnc7 := NB263_261.out; have hcz8_0 : w5.cell? ⟨gb261, 0, none⟩ = some (.int .i64 a0_0) := (blk_cell BK261.out 0).trans rfl; have hcz8_1 : w5.cell? ⟨gb261, 1, none⟩ = some (.int .i64 a0_1) := (blk_cell BK261.out 1).trans rfl; have hcz8_2 : w5.cell? ⟨gb261, 2, none⟩ = some (.int .i64 a0_2) := (blk_cell BK261.out 2).trans rfl; have hcz8_3 : w5.cell? ⟨gb261, 3, none⟩ = some (.int .i64 a0_3) := (blk_cell BK261.out 3).trans rfl; have hcz8_4 : w5.cell? ⟨gb261, 4, none⟩ = some (.int .i64 a0_4) := (blk_cell BK261.out 4).trans rfl; have hcz8_5 : w5.cell? ⟨gb261, 5, none⟩ = some (.int .i64 a0_5) := (blk_cell BK261.out 5).trans rfl; have hcz8_6 : w5.cell? ⟨gb261, 6, none⟩ = some (.int .i64 a0_6) := (blk_cell BK261.out 6).trans rfl; have hcz8_7 : w5.cell? ⟨gb261, 7, none⟩ = some (.int .i64 a0_7) := (blk_cell BK261.out 7).trans rfl; have hcz8_8 : w5.cell? ⟨gb261, 8, none⟩ = some (.int .i64 a0_8) := (blk_cell BK261.out 8).trans rfl; have hfz8_0 := blk_frozen BK261.out 0; have hfz8_1 := blk_frozen BK261.out 1; have hfz8_2 := blk_frozen BK261.out 2; have hfz8_3 := blk_frozen BK261.out 3; have hfz8_4 := blk_frozen BK261.out 4; have hfz8_5 := blk_frozen BK261.out 5; have hfz8_6 := blk_frozen BK261.out 6; have hfz8_7 := blk_frozen BK261.out 7; have hfz8_8 := blk_frozen BK261.out 8; have hnb9 := NB263_262.out; have hnc9 := NB262_263.out; have hcz10_0 : w5.cell? ⟨gb263, 0, none⟩ = some (.int .i64 0) := (blk_cell BK263.out 0).trans rfl; have hcz10_1 : w5.cell? ⟨gb263, 1, none⟩ = some (.int .i64 0) := (blk_cell BK263.out 1).trans rfl; have hcz10_2 : w5.cell? ⟨gb263, 2, none⟩ = some (.int .i64 0) := (blk_cell BK263.out 2).trans rfl; have hcz10_3 : w5.cell? ⟨gb263, 3, none⟩ = some (.int .i64 0) := (blk_cell BK263.out 3).trans rfl; have hcz10_4 : w5.cell? ⟨gb263, 4, none⟩ = some (.int .i64 0) := (blk_cell BK263.out 4).trans rfl; have hcz10_5 : w5.cell? ⟨gb263, 5, none⟩ = some (.int .i64 0) := (blk_cell BK263.out 5).trans rfl; have hcz10_6 : w5.cell? ⟨gb263, 6, none⟩ = some (.int .i64 0) := (blk_cell BK263.out 6).trans rfl; have hcz10_7 : w5.cell? ⟨gb263, 7, none⟩ = some (.int .i64 0) := (blk_cell BK263.out 7).trans rfl; have hcz10_8 : w5.cell? ⟨gb263, 8, none⟩ = some (.int .i64 0) := (blk_cell BK263.out 8).trans rfl; have hfz10_0 := blk_frozen BK263.out 0; have hfz10_1 := blk_frozen BK263.out 1; have hfz10_2 := blk_frozen BK263.out 2; have hfz10_3 := blk_frozen BK263.out 3; have hfz10_4 := blk_frozen BK263.out 4; have hfz10_5 := blk_frozen BK263.out 5; have hfz10_6 := blk_frozen BK263.out 6; have hfz10_7 := blk_frozen BK263.out 7; have hfz10_8 := blk_frozen BK263.out 8) | ((with_reducible refine gate_callee (f := 45) rfl ?_); refine goesL_ (some 18) rfl rfl Tryd.func45 (by kernel_rfl) rfl #[.agg #[.int .i64 a0_4, .int .i64 a0_5]] rfl (by (try simp only [List.map_toArray, List.map_cons, List.map_nil]); first | done | rfl | (simp only [List.length_drop, List.length_take]; rfl)) ?_; (with_reducible refine (laws_toRing.calls a0_4 a0_5 t264 t265 _ A2.out).mono ?_); rintro e w11 ⟨rfl, hb⟩; refine ⟨_, rfl, ?_⟩; have n0_ := Aside0.mk (blk_below (g := gb261) (o := .cells #[.int .i64 a0_0, .int .i64 a0_1, .int .i64 a0_2, .int .i64 a0_3, .int .i64 a0_4, .int .i64 a0_5, .int .i64 a0_6, .int .i64 a0_7, .int .i64 a0_8] 37 (0, 0)) (by (with_reducible repeat (first | refine blk_drewN ?_ _ | refine blk_drew ?_ | refine blk_alloc ?_ _)); refine blk_far ?_ NB261_263.out _; (with_reducible repeat (first | refine blk_drewN ?_ _ | refine blk_drew ?_ | refine blk_alloc ?_ _)); refine blk_far ?_ NB261_263.out _; (with_reducible repeat (first | refine blk_drewN ?_ _ | refine blk_drew ?_ | refine blk_alloc ?_ _)); refine blk_far ?_ NB261_263.out _; (with_reducible repeat (first | refine blk_drewN ?_ _ | refine blk_drew ?_ | refine blk_alloc ?_ _)); refine blk_far ?_ NB261_263.out _; (with_reducible repeat (first | refine blk_drewN ?_ _ | refine blk_drew ?_ | refine blk_alloc ?_ _)); exact BK261.out) hb); have n1_ := Aside0.mk (blk_below (g := gb262) (o := .cells #[.int .i64 0, .int .i64 0, .int .i64 0, .int .i64 0, .int .i64 0, .int .i64 0, .int .i64 0, .int .i64 0, .int .i64 0] 41 (0, 0)) (by (with_reducible repeat (first | refine blk_drewN ?_ _ | refine blk_drew ?_ | refine blk_alloc ?_ _)); refine blk_far ?_ NB262_263.out _; (with_reducible repeat (first | refine blk_drewN ?_ _ | refine blk_drew ?_ | refine blk_alloc ?_ _)); refine blk_far ?_ NB262_263.out _; (with_reducible repeat (first | refine blk_drewN ?_ _ | refine blk_drew ?_ | refine blk_alloc ?_ _)); refine blk_far ?_ NB262_263.out _; (with_reducible repeat (first | refine blk_drewN ?_ _ | refine blk_drew ?_ | refine blk_alloc ?_ _)); refine blk_far ?_ NB262_263.out _; (with_reducible repeat (first | refine blk_drewN ?_ _ | refine blk_drew ?_ | refine blk_alloc ?_ _)); exact BK262.out) hb); have n2_ := Aside0.mk (blk_below (g := gb263) (o := .cells #[.int .i64 a0_0, .int .i64 a0_1, .int .i64 a0_2, .int .i64 a0_3, .int .i64 0, .int .i64 0, .int .i64 0, .int .i64 0, .int .i64 0] 41 (0, 0)) (by (with_reducible repeat (first | refine blk_drewN ?_ _ | refine blk_drew ?_ | refine blk_alloc ?_ _)); refine blk_put (cs := #[.int .i64 a0_0, .int .i64 a0_1, .int .i64 a0_2, .int .i64 0, .int .i64 0, .int .i64 0, .int .i64 0, .int .i64 0, .int .i64 0]) ?_ 3 _ rfl; (with_reducible repeat (first | refine blk_drewN ?_ _ | refine blk_drew ?_ | refine blk_alloc ?_ _)); refine blk_put (cs := #[.int .i64 a0_0, .int .i64 a0_1, .int .i64 0, .int .i64 0, .int .i64 0, .int .i64 0, .int .i64 0, .int .i64 0, .int .i64 0]) ?_ 2 _ rfl; (with_reducible repeat (first | refine blk_drewN ?_ _ | refine blk_drew ?_ | refine blk_alloc ?_ _)); refine blk_put (cs := #[.int .i64 a0_0, .int .i64 0, .int .i64 0, .int .i64 0, .int .i64 0, .int .i64 0, .int .i64 0, .int .i64 0, .int .i64 0]) ?_ 1 _ rfl; (with_reducible repeat (first | refine blk_drewN ?_ _ | refine blk_drew ?_ | refine blk_alloc ?_ _)); refine blk_put (cs := #[.int .i64 0, .int .i64 0, .int .i64 0, .int .i64 0, .int .i64 0, .int .i64 0, .int .i64 0, .int .i64 0, .int .i64 0]) ?_ 0 _ rfl; (with_reducible repeat (first | refine blk_drewN ?_ _ | refine blk_drew ?_ | refine blk_alloc ?_ _)); exact BK263.out) hb); have n3_ := Aside0.mk (below_step (by repeat (first | (with_reducible first | exact HB.out | apply below_alloc | apply pw_below_drewN | apply below_drew1 | refine below_set ?_ GE261.out | refine below_set ?_ GE262.out | refine below_set ?_ GE263.out) | exact HB.out)) hb); clear BK261; clear BK262; clear BK263; clear HB; have BK261 := n0_; have BK262 := n1_; have BK263 := n2_; have HB := n3_; clear n0_ n1_ n2_ n3_; (try clear hb); (try clear hb2); (try clear hk); (try clear hi); have hcz12_0 : w11.cell? ⟨gb263, 0, none⟩ = some (.int .i64 a0_0) := (blk_cell BK263.out 0).trans rfl; have hcz12_1 : w11.cell? ⟨gb263, 1, none⟩ = some (.int .i64 a0_1) := (blk_cell BK263.out 1).trans rfl; have hcz12_2 : w11.cell? ⟨gb263, 2, none⟩ = some (.int .i64 a0_2) := (blk_cell BK263.out 2).trans rfl; have hcz12_3 : w11.cell? ⟨gb263, 3, none⟩ = some (.int .i64 a0_3) := (blk_cell BK263.out 3).trans rfl; have hcz12_4 : w11.cell? ⟨gb263, 4, none⟩ = some (.int .i64 0) := (blk_cell BK263.out 4).trans rfl; have hcz12_5 : w11.cell? ⟨gb263, 5, none⟩ = some (.int .i64 0) := (blk_cell BK263.out 5).trans rfl; have hcz12_6 : w11.cell? ⟨gb263, 6, none⟩ = some (.int .i64 0) := (blk_cell BK263.out 6).trans rfl; have hcz12_7 : w11.cell? ⟨gb263, 7, none⟩ = some (.int .i64 0) := (blk_cell BK263.out 7).trans rfl; have hcz12_8 : w11.cell? ⟨gb263, 8, none⟩ = some (.int .i64 0) := (blk_cell BK263.out 8).trans rfl; have hfz12_0 := blk_frozen BK263.out 0; have hfz12_1 := blk_frozen BK263.out 1; have hfz12_2 := blk_frozen BK263.out 2; have hfz12_3 := blk_frozen BK263.out 3; have hfz12_4 := blk_frozen BK263.out 4; have hfz12_5 := blk_frozen BK263.out 5; have hfz12_6 := blk_frozen BK263.out 6; have hfz12_7 := blk_frozen BK263.out 7; have hfz12_8 := blk_frozen BK263.out 8; have hcz13_0 : w11.cell? ⟨gb261, 0, none⟩ = some (.int .i64 a0_0) := (blk_cell BK261.out 0).trans rfl; have hcz13_1 : w11.cell? ⟨gb261, 1, none⟩ = some (.int .i64 a0_1) := (blk_cell BK261.out 1).trans rfl; have hcz13_2 : w11.cell? ⟨gb261, 2, none⟩ = some (.int .i64 a0_2) := (blk_cell BK261.out 2).trans rfl; have hcz13_3 : w11.cell? ⟨gb261, 3, none⟩ = some (.int .i64 a0_3) := (blk_cell BK261.out 3).trans rfl; have hcz13_4 : w11.cell? ⟨gb261, 4, none⟩ = some (.int .i64 a0_4) := (blk_cell BK261.out 4).trans rfl; have hcz13_5 : w11.cell? ⟨gb261, 5, none⟩ = some (.int .i64 a0_5) := (blk_cell BK261.out 5).trans rfl; have hcz13_6 : w11.cell? ⟨gb261, 6, none⟩ = some (.int .i64 a0_6) := (blk_cell BK261.out 6).trans rfl; have hcz13_7 : w11.cell? ⟨gb261, 7, none⟩ = some (.int .i64 a0_7) := (blk_cell BK261.out 7).trans rfl; have hcz13_8 : w11.cell? ⟨gb261, 8, none⟩ = some (.int .i64 a0_8) := (blk_cell BK261.out 8).trans rfl; have hfz13_0 := blk_frozen BK261.out 0; have hfz13_1 := blk_frozen BK261.out 1; have hfz13_2 := blk_frozen BK261.out 2; have hfz13_3 := blk_frozen BK261.out 3; have hfz13_4 := blk_frozen BK261.out 4; have hfz13_5 := blk_frozen BK261.out 5; have hfz13_6 := blk_frozen BK261.out 6; have hfz13_7 := blk_frozen BK261.out 7; have hfz13_8 := blk_frozen BK261.out 8; have hcz14_0 : w11.cell? ⟨gb262, 0, none⟩ = some (.int .i64 0) := (blk_cell BK262.out 0).trans rfl; have hcz14_1 : w11.cell? ⟨gb262, 1, none⟩ = some (.int .i64 0) := (blk_cell BK262.out 1).trans rfl; have hcz14_2 : w11.cell? ⟨gb262, 2, none⟩ = some (.int .i64 0) := (blk_cell BK262.out 2).trans rfl; have hcz14_3 : w11.cell? ⟨gb262, 3, none⟩ = some (.int .i64 0) := (blk_cell BK262.out 3).trans rfl; have hcz14_4 : w11.cell? ⟨gb262, 4, none⟩ = some (.int .i64 0) := (blk_cell BK262.out 4).trans rfl; have hcz14_5 : w11.cell? ⟨gb262, 5, none⟩ = some (.int .i64 0) := (blk_cell BK262.out 5).trans rfl; have hcz14_6 : w11.cell? ⟨gb262, 6, none⟩ = some (.int .i64 0) := (blk_cell BK262.out 6).trans rfl; have hcz14_7 : w11.cell? ⟨gb262, 7, none⟩ = some (.int .i64 0) := (blk_cell BK262.out 7).trans rfl; have hcz14_8 : w11.cell? ⟨gb262, 8, none⟩ = some (.int .i64 0) := (blk_cell BK262.out 8).trans rfl; have hfz14_0 := blk_frozen BK262.out 0; have hfz14_1 := blk_frozen BK262.out 1; have hfz14_2 := blk_frozen BK262.out 2; have hfz14_3 := blk_frozen BK262.out 3; have hfz14_4 := blk_frozen BK262.out 4; have hfz14_5 := blk_frozen BK262.out 5; have hfz14_6 := blk_frozen BK262.out 6; have hfz14_7 := blk_frozen BK262.out 7; have hfz14_8 := blk_frozen BK262.out 8))
  refine bodyPost_ret (results_cell_row rfl _ _ gb262 41 #[.int .i64 a0_0, .int .i64 a0_1, .int .i64 a0_2, .int .i64 a0_3, .int .i64 t264, .int .i64 t265, .int .i64 a0_6, .int .i64 a0_7, .int .i64 a0_8] (0, 0) _ rfl (by (with_reducible repeat (first | refine blk_drewN ?_ _ | refine blk_drew ?_ | refine blk_alloc ?_ _)); refine blk_put (cs := #[.int .i64 a0_0, .int .i64 a0_1, .int .i64 a0_2, .int .i64 a0_3, .int .i64 t264, .int .i64 t265, .int .i64 a0_6, .int .i64 a0_7, .int .i64 0]) ?_ 8 _ rfl; (with_reducible repeat (first | refine blk_drewN ?_ _ | refine blk_drew ?_ | refine blk_alloc ?_ _)); refine blk_put (cs := #[.int .i64 a0_0, .int .i64 a0_1, .int .i64 a0_2, .int .i64 a0_3, .int .i64 t264, .int .i64 t265, .int .i64 a0_6, .int .i64 0, .int .i64 0]) ?_ 7 _ rfl; (with_reducible repeat (first | refine blk_drewN ?_ _ | refine blk_drew ?_ | refine blk_alloc ?_ _)); refine blk_put (cs := #[.int .i64 a0_0, .int .i64 a0_1, .int .i64 a0_2, .int .i64 a0_3, .int .i64 t264, .int .i64 t265, .int .i64 0, .int .i64 0, .int .i64 0]) ?_ 6 _ rfl; (with_reducible repeat (first | refine blk_drewN ?_ _ | refine blk_drew ?_ | refine blk_alloc ?_ _)); refine blk_put (cs := #[.int .i64 a0_0, .int .i64 a0_1, .int .i64 a0_2, .int .i64 a0_3, .int .i64 t264, .int .i64 0, .int .i64 0, .int .i64 0, .int .i64 0]) ?_ 5 _ rfl; (with_reducible repeat (first | refine blk_drewN ?_ _ | refine blk_drew ?_ | refine blk_alloc ?_ _)); refine blk_put (cs := #[.int .i64 a0_0, .int .i64 a0_1, .int .i64 a0_2, .int .i64 a0_3, .int .i64 0, .int .i64 0, .int .i64 0, .int .i64 0, .int .i64 0]) ?_ 4 _ rfl; (with_reducible repeat (first | refine blk_drewN ?_ _ | refine blk_drew ?_ | refine blk_alloc ?_ _)); refine blk_put (cs := #[.int .i64 a0_0, .int .i64 a0_1, .int .i64 a0_2, .int .i64 0, .int .i64 0, .int .i64 0, .int .i64 0, .int .i64 0, .int .i64 0]) ?_ 3 _ rfl; (with_reducible repeat (first | refine blk_drewN ?_ _ | refine blk_drew ?_ | refine blk_alloc ?_ _)); refine blk_put (cs := #[.int .i64 a0_0, .int .i64 a0_1, .int .i64 0, .int .i64 0, .int .i64 0, .int .i64 0, .int .i64 0, .int .i64 0, .int .i64 0]) ?_ 2 _ rfl; (with_reducible repeat (first | refine blk_drewN ?_ _ | refine blk_drew ?_ | refine blk_alloc ?_ _)); refine blk_put (cs := #[.int .i64 a0_0, .int .i64 0, .int .i64 0, .int .i64 0, .int .i64 0, .int .i64 0, .int .i64 0, .int .i64 0, .int .i64 0]) ?_ 1 _ rfl; (with_reducible repeat (first | refine blk_drewN ?_ _ | refine blk_drew ?_ | refine blk_alloc ?_ _)); refine blk_put (cs := #[.int .i64 0, .int .i64 0, .int .i64 0, .int .i64 0, .int .i64 0, .int .i64 0, .int .i64 0, .int .i64 0, .int .i64 0]) ?_ 0 _ rfl; (with_reducible repeat (first | refine blk_drewN ?_ _ | refine blk_drew ?_ | refine blk_alloc ?_ _)); refine blk_far ?_ NB262_263.out _; (with_reducible repeat (first | refine blk_drewN ?_ _ | refine blk_drew ?_ | refine blk_alloc ?_ _)); refine blk_far ?_ NB262_263.out _; (with_reducible repeat (first | refine blk_drewN ?_ _ | refine blk_drew ?_ | refine blk_alloc ?_ _)); refine blk_far ?_ NB262_263.out _; (with_reducible repeat (first | refine blk_drewN ?_ _ | refine blk_drew ?_ | refine blk_alloc ?_ _)); refine blk_far ?_ NB262_263.out _; (with_reducible repeat (first | refine blk_drewN ?_ _ | refine blk_drew ?_ | refine blk_alloc ?_ _)); refine blk_far ?_ NB262_263.out _; (with_reducible repeat (first | refine blk_drewN ?_ _ | refine blk_drew ?_ | refine blk_alloc ?_ _)); exact BK262.out) Tryd.underlying41 rfl (by kernel_rfl)) rfl ?_
  exact ⟨by first | rfl | (simp [errW_none, errW_some] <;> rfl) | (simp [*, errW_none, errW_some] <;> rfl), by repeat (first | (with_reducible first | exact HB.out | apply below_alloc | apply pw_below_drewN | apply below_drew1 | refine below_set ?_ GE261.out | refine below_set ?_ GE262.out | refine below_set ?_ GE263.out) | exact HB.out)⟩

end Go.Proofs.YtahmgalkliicfaaDoor.Q

-- made by a patched copy of print.sh: this session's own
namespace Go.Proofs.YtahmgalkliicfaaDoor.Q
open Go.RowKit Go.Proofs.YtahmgalkliicfaaDoorW.PrintWords Go.Proofs.YtahmgalkliicfaaDoorW.PrintLast Go.Proofs.YtahmgalkliicfaaDoorW.PrintMore
attribute [local go_sem] max2_int min2_int max_two min_two max_three min_three max_four min_four   -- for this text's walks alone
set_option linter.unusedVariables false
set_option linter.unusedSimpArgs false

/-! ### laws_toDeedS: function 20 -/
def laws_toDeedS.l0 : Nat → List (S37) → List (S41) → Int → Option ((List (S41)))
  | 0, _, _, _ => none
  | k + 1, x0, x3, x4 => if x4 < (x0.length : Int) then (if 0 ≤ x4 then ((laws_toDeed.f ((rd_T37 x0 x4).f0) ((rd_T37 x0 x4).f1) ((rd_T37 x0 x4).f2) ((rd_T37 x0 x4).f3) ((rd_T37 x0 x4).f4.f0) ((rd_T37 x0 x4).f4.f1) ((rd_T37 x0 x4).f5) ((rd_T37 x0 x4).f6) ((rd_T37 x0 x4).f7)).bind fun bt335 => (if x4 < (x3.length : Int) then (laws_toDeedS.l0 k x0 (x3.set (x4 : Int).toNat (⟨bt335.1, bt335.2.1, bt335.2.2.1, bt335.2.2.2.1, (⟨bt335.2.2.2.2.1, bt335.2.2.2.2.2.1⟩ : S39), bt335.2.2.2.2.2.2.1, bt335.2.2.2.2.2.2.2.1, bt335.2.2.2.2.2.2.2.2⟩ : S41)) (wrap64 (x4 + 1))) else (none))) else (none)) else (some x3)
def laws_toDeedS.f (k : Nat) (l0 : List (S37)) : Option ((List (S41))) := if 0 ≤ (l0.length : Int) then (if ((l0.length : Int) : Int).toNat ≤ 3909374676536 then (laws_toDeedS.l0 k l0 (List.replicate ((l0.length : Int) : Int).toNat z41) 0) else (none)) else (none)
theorem laws_toDeedS.mono_l : ∀ k, (∀ y0 y1 y2, LeO (laws_toDeedS.l0 k y0 y1 y2) (laws_toDeedS.l0 (k + 1) y0 y1 y2))
  | 0 => fun _ _ _ r h => by simp [laws_toDeedS.l0] at h
  | k + 1 => by
    have ih0 := laws_toDeedS.mono_l k
    · intro y0 y1 y2
      unfold laws_toDeedS.l0
      repeat' first
      | (with_reducible exact ih0 _ _ _)
      | (with_reducible exact LeO.refl _)
      | (with_reducible exact LeO.none _)
      | (with_reducible refine LeO.ite ?_ ?_)
      | (with_reducible refine LeO.bind ?_ (fun _ => ?_))
      | exact ih0 _ _ _
      | exact LeO.none _
      | refine LeO.ite ?_ ?_
      | refine LeO.bind ?_ (fun _ => ?_)
theorem laws_toDeedS.mono : ∀ a0 k, LeO (laws_toDeedS.f k a0) (laws_toDeedS.f (k + 1) a0) := by
  intro a0 k
  have ih0 := laws_toDeedS.mono_l k
  unfold laws_toDeedS.f
  repeat' first
      | (with_reducible exact ih0 _ _ _)
      | (with_reducible exact LeO.refl _)
      | (with_reducible exact LeO.none _)
      | (with_reducible refine LeO.ite ?_ ?_)
      | (with_reducible refine LeO.bind ?_ (fun _ => ?_))
      | exact ih0 _ _ _
      | exact LeO.none _
      | refine LeO.ite ?_ ?_
      | refine LeO.bind ?_ (fun _ => ?_)
set_option maxHeartbeats 8000000 in
set_option maxRecDepth 100000 in
theorem laws_toDeedS.calls (k : Nat) (A0 : Option Addr) (c0 : Nat) (l0 : List (S37)) (r : List (S41)) (w : World) (hr0 : Kd.C k37 w A0 l0.length l0) (hc0 : l0.length ≤ c0) (h : laws_toDeedS.f k l0 = some r) :
    Calls Tryd.prog 20 #[.slice A0 l0.length c0] w fun e w' => ∃ v0_ : Value, e = .returned (v0_) ∧ Kd.R k41 41 w' w.heap.size (fun _ => True) v0_ r ∧ Below w.heap.size w w' := by
  have hu37 := Tryd.underlying37
  have hu41 := Tryd.underlying41
  have HR0 := Aside0.mk hr0
  have HC0 := Aside0.mk hc0
  clear hr0 hc0
  have HB := Aside0.mk (Below.refl w.heap.size w)
  have H : (if 0 ≤ (l0.length : Int) then (if ((l0.length : Int) : Int).toNat ≤ 3909374676536 then (laws_toDeedS.l0 k l0 (List.replicate ((l0.length : Int) : Int).toNat z41) 0) else (none)) else (none)) = some r := h
  clear h
  by_cases c2 : 0 ≤ (l0.length : Int)
  · rw [if_pos c2] at H
    have c2b0 := eq_true c2
    have c2b1 : decide (0 ≤ (l0.length : Int)) = true := decide_eq_true c2
    clear c2
    by_cases c3 : ((l0.length : Int) : Int).toNat ≤ 3909374676536
    · rw [if_pos c3] at H
      have c3b0 := eq_true c3
      have c3b1 : decide (((l0.length : Int) : Int).toNat ≤ 3909374676536) = true := decide_eq_true c3
      clear c3
      obtain ⟨y331, hy331⟩ : ∃ y_ : List (S41), y_ = (List.replicate ((l0.length : Int) : Int).toNat z41) := ⟨_, rfl⟩
      replace H : (laws_toDeedS.l0 k l0 y331 0) = some r := by first | (rw [hy331]; with_reducible exact H) | (have H2_ := (Option.bind_some _ _).symm.trans H; rw [hy331]; with_reducible exact H2_) | (have H2_ := (Option.bind_some _ _).symm.trans H; with_reducible exact H2_) | with_reducible exact H | (rw [hy331]; exact H) | exact H
      have Ny331 := Aside0.mk hy331
      clear hy331
      have H' := Aside0.mk H
      clear H
      go_enter Tryd.func20, Tryd.ntmps20
      go_wp2_with (first | ((with_reducible refine gate_dst (N := 7) rfl ?_); refine Kd.R_make k41 _ 41 rfl (N := 7) rfl 47 _ _ rfl (l0.length : Int) rfl rfl Tryd.underlying47 (.agg #[(.int .i64 0), (.int .i64 0), (.int .i64 0), (.int .i64 0), (.int .i64 0), (.int .i64 0), (.int .i64 0), (.int .i64 0), (.int .i64 0)]) 72 info41 rfl (by decide) (by omega) z41 (ok := fun _ => True) (okp := fun _ => True) (k41_mkM _ _ _ z41 ) (fun _ hk => hk) trivial (of_decide_eq_true (by first | (with_reducible assumption) | assumption)) (Nat.le_trans (Nat.mul_le_mul_right _ (of_decide_eq_true (by first | (with_reducible assumption) | assumption) : (l0.length : Int).toNat ≤ 3909374676536)) (by omega)) (Below.refl _ _) (Nat.le_refl _) ?_; intro v332 w4 ho5 hb hg_ hnew_; clear hg_ hnew_; (first | rw [← Ny331.out] at ho5 | (simp only [Int.reduceToNat] at ho5; rw [← Ny331.out] at ho5)); have n0_ := Aside0.mk (Kd.R_lower ho5 (below_size (by repeat (first | (with_reducible first | exact HB.out | apply below_alloc | apply pw_below_drewN | apply below_drew1) | exact HB.out)))); have n1_ := Aside0.mk (below_step (by repeat (first | (with_reducible first | exact HB.out | apply below_alloc | apply pw_below_drewN | apply below_drew1) | exact HB.out)) hb); clear HB; have HO333 := n0_; have HB := n1_; clear n0_ n1_; clear hb ho5))
      go_loopg [4] k (fun kq v4 w' => ∃ (x3_1 : List (S41)) (x4_1 : Int), v4 = .int .i64 x4_1 ∧ Aside0 (laws_toDeedS.l0 kq l0 x3_1 x4_1 = some r) ∧ Aside0 (kq ≤ k) ∧ Aside0 (Kd.R k41 41 w' w.heap.size (fun _ => True) v332 x3_1) ∧ Aside0 (Below w.heap.size w w'))
      case atStart => exact ⟨(y331), (0), (by first | rfl | (simp; done) | (simp [*]; done)), H', ⟨Nat.le_refl _⟩, ⟨by (with_reducible repeat (first | apply Kd.R_alloc | apply Kd.R_drewN | apply Kd.R_drew)); exact HO333.out⟩, ⟨by repeat (first | (with_reducible first | exact HB.out | apply below_alloc | apply pw_below_drewN | apply below_drew1) | exact HB.out)⟩⟩
      case round =>
        clear H'
        try clear c2
        try clear c2b0
        try clear c2b1
        try clear p2
        try clear c3
        try clear c3b0
        try clear c3b1
        obtain ⟨x3_1, x4_1, rfl, HA, HK1, HO_3, HB⟩ := hrel
        cases gk with
        | zero => exact absurd HA.out (by simp [laws_toDeedS.l0])
        | succ k1 =>
          have H := HA.out
          clear HA
          simp only [laws_toDeedS.l0] at H
          by_cases c6 : x4_1 < (l0.length : Int)
          · rw [if_pos c6] at H
            have c6b0 : decide (x4_1 < (l0.length : Int)) = true := decide_eq_true c6
            clear c6
            by_cases c7 : 0 ≤ x4_1
            · rw [if_pos c7] at H
              have c7b0 : decide (0 ≤ x4_1) = true := decide_eq_true c7
              clear c7
              replace H := Option.bind_eq_some_iff.mp H
              obtain ⟨⟨t335, t336, t337, t338, t339, t340, t341, t342, t343⟩, A80, H⟩ := H
              replace H : (if x4_1 < (x3_1.length : Int) then (laws_toDeedS.l0 k1 l0 (x3_1.set (x4_1 : Int).toNat (⟨t335, t336, t337, t338, (⟨t339, t340⟩ : S39), t341, t342, t343⟩ : S41)) (wrap64 (x4_1 + 1))) else (none)) = some r := H
              have A8 := Aside0.mk A80
              clear A80
              by_cases c9 : x4_1 < (x3_1.length : Int)
              · rw [if_pos c9] at H
                have c9b0 : decide (x4_1 < (x3_1.length : Int)) = true := decide_eq_true c9
                clear c9
                obtain ⟨y344, hy344⟩ : ∃ y_ : List (S41), y_ = (x3_1.set (x4_1 : Int).toNat (⟨t335, t336, t337, t338, (⟨t339, t340⟩ : S39), t341, t342, t343⟩ : S41)) := ⟨_, rfl⟩
                replace H : (laws_toDeedS.l0 k1 l0 y344 (wrap64 (x4_1 + 1))) = some r := by first | (rw [hy344]; with_reducible exact H) | (have H2_ := (Option.bind_some _ _).symm.trans H; rw [hy344]; with_reducible exact H2_) | (have H2_ := (Option.bind_some _ _).symm.trans H; with_reducible exact H2_) | with_reducible exact H | (rw [hy344]; exact H) | exact H
                have Ny344 := Aside0.mk hy344
                clear hy344
                have H' := Aside0.mk H
                clear H
                have p334 : 0 ≤ (x4_1 : Int) := of_decide_eq_true (by first | (with_reducible assumption) | assumption)
                have q334 : x4_1 < (l0.length : Int) := of_decide_eq_true (by first | (with_reducible assumption) | assumption)
                obtain ⟨ad334, e334, hx334_0, hx334_1, hx334_2, hx334_3, hx334_4, hx334_5, hx334_6, hx334_7, hx334_8⟩ := at_T37 HR0.out x4_1 p334 q334
                cases e334
                replace hx334_0 := (HB.out.cell (World.block_lt_of_cell? w _ hx334_0)).trans hx334_0
                replace hx334_1 := (HB.out.cell (World.block_lt_of_cell? w _ hx334_1)).trans hx334_1
                replace hx334_2 := (HB.out.cell (World.block_lt_of_cell? w _ hx334_2)).trans hx334_2
                replace hx334_3 := (HB.out.cell (World.block_lt_of_cell? w _ hx334_3)).trans hx334_3
                replace hx334_4 := (HB.out.cell (World.block_lt_of_cell? w _ hx334_4)).trans hx334_4
                replace hx334_5 := (HB.out.cell (World.block_lt_of_cell? w _ hx334_5)).trans hx334_5
                replace hx334_6 := (HB.out.cell (World.block_lt_of_cell? w _ hx334_6)).trans hx334_6
                replace hx334_7 := (HB.out.cell (World.block_lt_of_cell? w _ hx334_7)).trans hx334_7
                replace hx334_8 := (HB.out.cell (World.block_lt_of_cell? w _ hx334_8)).trans hx334_8
                replace p334 := eq_true p334
                replace q334 := eq_true q334
                go_wp2_with (first | ((with_reducible refine gate_callee (f := 16) rfl ?_); refine goesL_ (some 20) rfl rfl Tryd.func16 (by kernel_rfl) rfl #[.agg #[.int .i64 ((rd_T37 l0 x4_1).f0), .int .i64 ((rd_T37 l0 x4_1).f1), .int .i64 ((rd_T37 l0 x4_1).f2), .int .i64 ((rd_T37 l0 x4_1).f3), .int .i64 ((rd_T37 l0 x4_1).f4.f0), .int .i64 ((rd_T37 l0 x4_1).f4.f1), .int .i64 ((rd_T37 l0 x4_1).f5), .int .i64 ((rd_T37 l0 x4_1).f6), .int .i64 ((rd_T37 l0 x4_1).f7)]] rfl (by (try simp only [List.map_toArray, List.map_cons, List.map_nil]); first | done | rfl | (simp only [List.length_drop, List.length_take]; rfl)) ?_; (with_reducible refine (laws_toDeed.calls ((rd_T37 l0 x4_1).f0) ((rd_T37 l0 x4_1).f1) ((rd_T37 l0 x4_1).f2) ((rd_T37 l0 x4_1).f3) ((rd_T37 l0 x4_1).f4.f0) ((rd_T37 l0 x4_1).f4.f1) ((rd_T37 l0 x4_1).f5) ((rd_T37 l0 x4_1).f6) ((rd_T37 l0 x4_1).f7) t335 t336 t337 t338 t339 t340 t341 t342 t343 _ A8.out).mono ?_); rintro e w11 ⟨rfl, hb⟩; refine ⟨_, rfl, ?_⟩; have n0_ := Aside0.mk (Kd.R_below (by (with_reducible repeat (first | apply Kd.R_alloc | apply Kd.R_drewN | apply Kd.R_drew)); exact HO_3.out) hb); have n1_ := Aside0.mk (below_step (by repeat (first | (with_reducible first | exact HB.out | apply below_alloc | apply pw_below_drewN | apply below_drew1) | exact HB.out)) hb); clear HO_3; clear HB; have HO_3 := n0_; have HB := n1_; clear n0_ n1_; (try clear hb); (try clear hb2); (try clear hk); (try clear hi); have p10 : 0 ≤ (x4_1 : Int) := of_decide_eq_true (by first | (with_reducible assumption) | assumption); have q10 : (x4_1 : Int) < ((x3_1.length : Int) : Int) := of_decide_eq_true (by first | (with_reducible assumption) | assumption); obtain ⟨go10, co10, eo10, gb10, gl10, cl10, HG10⟩ := Kd.R_form HO_3.out (by omega); (first | cases eo10 | (injection eo10 with ea_ en_ ec_; (first | subst ea_ | (injection ea_ with ea_; subst ea_)); subst ec_; clear en_)); have GB10 := Aside0.mk gb10; have GG10 := Aside0.mk HG10; clear gb10 gl10 HG10; obtain ⟨ce10, hcl10, hM10, hcc10, hfr10⟩ := Kd.R_elem HO_3.out z41 (x4_1 : Int) p10 q10; obtain rfl := k41_openM hM10; have hx10_0 : w11.cell? ⟨go10, (x4_1 : Int).toNat * 9, none⟩ = some (.int .i64 ((rd_T41 x3_1 x4_1).f0)) := hcc10 0 _ rfl; have hx10_1 : w11.cell? ⟨go10, (x4_1 : Int).toNat * 9 + 1, none⟩ = some (.int .i64 ((rd_T41 x3_1 x4_1).f1)) := hcc10 1 _ rfl; have hx10_2 : w11.cell? ⟨go10, (x4_1 : Int).toNat * 9 + 2, none⟩ = some (.int .i64 ((rd_T41 x3_1 x4_1).f2)) := hcc10 2 _ rfl; have hx10_3 : w11.cell? ⟨go10, (x4_1 : Int).toNat * 9 + 3, none⟩ = some (.int .i64 ((rd_T41 x3_1 x4_1).f3)) := hcc10 3 _ rfl; have hx10_4 : w11.cell? ⟨go10, (x4_1 : Int).toNat * 9 + 4, none⟩ = some (.int .i64 ((rd_T41 x3_1 x4_1).f4.f0)) := hcc10 4 _ rfl; have hx10_5 : w11.cell? ⟨go10, (x4_1 : Int).toNat * 9 + 5, none⟩ = some (.int .i64 ((rd_T41 x3_1 x4_1).f4.f1)) := hcc10 5 _ rfl; have hx10_6 : w11.cell? ⟨go10, (x4_1 : Int).toNat * 9 + 6, none⟩ = some (.int .i64 ((rd_T41 x3_1 x4_1).f5)) := hcc10 6 _ rfl; have hx10_7 : w11.cell? ⟨go10, (x4_1 : Int).toNat * 9 + 7, none⟩ = some (.int .i64 ((rd_T41 x3_1 x4_1).f6)) := hcc10 7 _ rfl; have hx10_8 : w11.cell? ⟨go10, (x4_1 : Int).toNat * 9 + 8, none⟩ = some (.int .i64 ((rd_T41 x3_1 x4_1).f7)) := hcc10 8 _ rfl; have hf10_0 : w11.frozen? ⟨go10, (x4_1 : Int).toNat * 9, none⟩ = false := hfr10 0; have hf10_1 : w11.frozen? ⟨go10, (x4_1 : Int).toNat * 9 + 1, none⟩ = false := hfr10 1; have hf10_2 : w11.frozen? ⟨go10, (x4_1 : Int).toNat * 9 + 2, none⟩ = false := hfr10 2; have hf10_3 : w11.frozen? ⟨go10, (x4_1 : Int).toNat * 9 + 3, none⟩ = false := hfr10 3; have hf10_4 : w11.frozen? ⟨go10, (x4_1 : Int).toNat * 9 + 4, none⟩ = false := hfr10 4; have hf10_5 : w11.frozen? ⟨go10, (x4_1 : Int).toNat * 9 + 5, none⟩ = false := hfr10 5; have hf10_6 : w11.frozen? ⟨go10, (x4_1 : Int).toNat * 9 + 6, none⟩ = false := hfr10 6; have hf10_7 : w11.frozen? ⟨go10, (x4_1 : Int).toNat * 9 + 7, none⟩ = false := hfr10 7; have hf10_8 : w11.frozen? ⟨go10, (x4_1 : Int).toNat * 9 + 8, none⟩ = false := hfr10 8; clear hcl10 hcc10 hfr10 hM10; replace p10 := eq_true p10; replace q10 := eq_true q10; have HX12 := Aside0.mk (show Kd.R k41 41 w11 w.heap.size (fun _ => True) (.slice (some ⟨go10, 0, none⟩) x3_1.length co10) x3_1 from (by (with_reducible repeat (first | apply Kd.R_alloc | apply Kd.R_drewN | apply Kd.R_drew)); exact HO_3.out)); obtain ⟨ce12, hcl12, hM12, hcc12, hfr12⟩ := Kd.R_elem HX12.out z41 (x4_1 : Int) (of_decide_eq_true (by first | (with_reducible assumption) | assumption)) (by have h_ : (x4_1 : Int) < ((x3_1.length : Int) : Int) := of_decide_eq_true (by first | (with_reducible assumption) | assumption); first | exact h_ | (have e_ := (Kd.R_reads' HO_3.out).1; omega) | simpa using h_); obtain rfl := k41_openM hM12; have HP12 := Kd.R_seg HX12.out (x4_1 : Int) (of_decide_eq_true (by first | (with_reducible assumption) | assumption)) (by have h_ : (x4_1 : Int) < ((x3_1.length : Int) : Int) := of_decide_eq_true (by first | (with_reducible assumption) | assumption); first | exact h_ | (have e_ := (Kd.R_reads' HO_3.out).1; omega) | simpa using h_) (seg := [.int .i64 t335, .int .i64 t336, .int .i64 t337, .int .i64 t338, .int .i64 t339, .int .i64 t340, .int .i64 t341, .int .i64 t342, .int .i64 t343]) (j := 0) hcl12 hcc12 (show 9 ≤ 9 from by decide) (x' := (⟨t335, t336, t337, t338, (⟨t339, t340⟩ : S39), t341, t342, t343⟩ : S41)) (k41_mkM _ _ _ (⟨t335, t336, t337, t338, (⟨t339, t340⟩ : S39), t341, t342, t343⟩ : S41) ) (fun _ hk => hk); have hx12_0 := hcc12 0 _ rfl; (try simp only [show (k41).sz = 9 from rfl, Nat.mul_one, Nat.add_zero] at hx12_0); have hf12_0 := hfr12 0; (try simp only [show (k41).sz = 9 from rfl, Nat.mul_one, Nat.add_zero] at hf12_0); have hx12_1 := hcc12 1 _ rfl; (try simp only [show (k41).sz = 9 from rfl, Nat.mul_one, Nat.add_zero] at hx12_1); have hf12_1 := hfr12 1; (try simp only [show (k41).sz = 9 from rfl, Nat.mul_one, Nat.add_zero] at hf12_1); have hx12_2 := hcc12 2 _ rfl; (try simp only [show (k41).sz = 9 from rfl, Nat.mul_one, Nat.add_zero] at hx12_2); have hf12_2 := hfr12 2; (try simp only [show (k41).sz = 9 from rfl, Nat.mul_one, Nat.add_zero] at hf12_2); have hx12_3 := hcc12 3 _ rfl; (try simp only [show (k41).sz = 9 from rfl, Nat.mul_one, Nat.add_zero] at hx12_3); have hf12_3 := hfr12 3; (try simp only [show (k41).sz = 9 from rfl, Nat.mul_one, Nat.add_zero] at hf12_3); have hx12_4 := hcc12 4 _ rfl; (try simp only [show (k41).sz = 9 from rfl, Nat.mul_one, Nat.add_zero] at hx12_4); have hf12_4 := hfr12 4; (try simp only [show (k41).sz = 9 from rfl, Nat.mul_one, Nat.add_zero] at hf12_4); have hx12_5 := hcc12 5 _ rfl; (try simp only [show (k41).sz = 9 from rfl, Nat.mul_one, Nat.add_zero] at hx12_5); have hf12_5 := hfr12 5; (try simp only [show (k41).sz = 9 from rfl, Nat.mul_one, Nat.add_zero] at hf12_5); have hx12_6 := hcc12 6 _ rfl; (try simp only [show (k41).sz = 9 from rfl, Nat.mul_one, Nat.add_zero] at hx12_6); have hf12_6 := hfr12 6; (try simp only [show (k41).sz = 9 from rfl, Nat.mul_one, Nat.add_zero] at hf12_6); have hx12_7 := hcc12 7 _ rfl; (try simp only [show (k41).sz = 9 from rfl, Nat.mul_one, Nat.add_zero] at hx12_7); have hf12_7 := hfr12 7; (try simp only [show (k41).sz = 9 from rfl, Nat.mul_one, Nat.add_zero] at hf12_7); have hx12_8 := hcc12 8 _ rfl; (try simp only [show (k41).sz = 9 from rfl, Nat.mul_one, Nat.add_zero] at hx12_8); have hf12_8 := hfr12 8; (try simp only [show (k41).sz = 9 from rfl, Nat.mul_one, Nat.add_zero] at hf12_8); clear hcl12 hcc12 hfr12 hM12) | ((with_reducible refine gate_store (t := 41) (p := 21) rfl ?_); refine store_event (t := 41) (p := 21) (v := ?vo_w13) (w1 := (((((((((w11.setCell ⟨go10, (x4_1 : Int).toNat * 9, none⟩ (.int .i64 t335)).setCell ⟨go10, (x4_1 : Int).toNat * 9 + 1, none⟩ (.int .i64 t336)).setCell ⟨go10, (x4_1 : Int).toNat * 9 + 2, none⟩ (.int .i64 t337)).setCell ⟨go10, (x4_1 : Int).toNat * 9 + 3, none⟩ (.int .i64 t338)).setCell ⟨go10, (x4_1 : Int).toNat * 9 + 4, none⟩ (.int .i64 t339)).setCell ⟨go10, (x4_1 : Int).toNat * 9 + 5, none⟩ (.int .i64 t340)).setCell ⟨go10, (x4_1 : Int).toNat * 9 + 6, none⟩ (.int .i64 t341)).setCell ⟨go10, (x4_1 : Int).toNat * 9 + 7, none⟩ (.int .i64 t342)).setCell ⟨go10, (x4_1 : Int).toNat * 9 + 8, none⟩ (.int .i64 t343))) ?hg ?ho ?hn ?hr ?_; (case ho => rfl); (case hg => rfl); (case hn => rfl); (case hr => first | (go_simp; done) | (go_simp; rfl)); intro w13 hw; have hg : w11.grownBy w13 (some go10) := (by rw [hw]; exact HP12.2); have hp_ : Kd.R k41 41 w13 w.heap.size (fun _ => True) (.slice (some ⟨go10, 0, none⟩) x3_1.length co10) y344 := (by rw [hw, Ny344.out]; exact HP12.1); clear HP12; have n0_ := Aside0.mk (hp_); have n1_ := Aside0.mk ((by rw [hw]; exact below_set (below_set (below_set (below_set (below_set (below_set (below_set (below_set (below_set (HB.out) GB10.out) GB10.out) GB10.out) GB10.out) GB10.out) GB10.out) GB10.out) GB10.out) GB10.out : Below w.heap.size w w13)); clear HO_3; clear HB; have HO_3 := n0_; have HB := n1_; clear n0_ n1_; clear hg hw hp_))
                go_roundg k1
                case measure => have := HK1.out; omega
                case rel => exact ⟨(y344), (wrap64 (x4_1 + 1)), (by first | rfl | (simp; done) | (simp [*]; done)), H', ⟨by have := HK1.out; omega⟩, ⟨by (with_reducible repeat (first | apply Kd.R_alloc | apply Kd.R_drewN | apply Kd.R_drew)); exact HO_3.out⟩, ⟨by repeat (first | (with_reducible first | exact HB.out | apply below_alloc | apply pw_below_drewN | apply below_drew1) | exact HB.out)⟩⟩
              · rw [if_neg c9] at H
                exact absurd H (by simp)
            · rw [if_neg c7] at H
              exact absurd H (by simp)
          · rw [if_neg c6] at H
            have c6b0 : decide (x4_1 < (l0.length : Int)) = false := decide_eq_false c6
            clear c6
            obtain rfl := Option.some.inj H
            go_wp2
            go_ret
            exact ⟨_, by first | rfl | (simp [errW_none, errW_some] <;> rfl) | (simp [*, errW_none, errW_some] <;> rfl), by (with_reducible repeat (first | apply Kd.R_alloc | apply Kd.R_drewN | apply Kd.R_drew)); exact HO_3.out, by repeat (first | (with_reducible first | exact HB.out | apply below_alloc | apply pw_below_drewN | apply below_drew1) | exact HB.out)⟩
    · rw [if_neg c3] at H
      exact absurd H (by simp)
  · rw [if_neg c2] at H
    exact absurd H (by simp)

end Go.Proofs.YtahmgalkliicfaaDoor.Q

-- made by a patched copy of print.sh: this session's own
namespace Go.Proofs.YtahmgalkliicfaaDoor.Q
open Go.RowKit Go.Proofs.YtahmgalkliicfaaDoorW.PrintWords Go.Proofs.YtahmgalkliicfaaDoorW.PrintLast Go.Proofs.YtahmgalkliicfaaDoorW.PrintMore
attribute [local go_sem] max2_int min2_int max_two min_two max_three min_three max_four min_four   -- for this text's walks alone
set_option linter.unusedVariables false
set_option linter.unusedSimpArgs false

/-! ### impl_JournalText: function 21 -/
def impl_JournalText.f (l0 : List (S41)) : Option (ByteArray × Bool) := some (if Hm.deedsB l0 = true then (PuD.txt (Hl.jn l0).2, true) else ((⟨#[]⟩ : ByteArray), false))
theorem impl_JournalText.calls (A0 : Option Addr) (c0 : Nat) (l0 : List (S41)) (r1 : ByteArray) (r2 : Bool) (w : World) (hr0 : Kd.C k41 w A0 l0.length l0) (hc0 : l0.length ≤ c0) (hT : Tb.TB w) (h : impl_JournalText.f l0 = some (r1, r2)) :
    Calls Tryd.prog 21 #[.slice A0 l0.length c0] w fun e w' => e = .returned (.tuple #[.string r1, .bool r2]) ∧ Below w.heap.size w w' := by
  unfold impl_JournalText.f at h
  cases hd : Hm.deedsB l0 with
  | true =>
    rw [hd, if_pos rfl] at h
    cases h
    exact Hn.journal_yes A0 c0 l0 w hr0 hd hT
  | false =>
    rw [hd, if_neg (by decide)] at h
    cases h
    exact Hn.journal_no A0 c0 l0 w hr0 hd

end Go.Proofs.YtahmgalkliicfaaDoor.Q

-- made by a patched copy of print.sh: this session's own
namespace Go.Proofs.YtahmgalkliicfaaDoor.Q
open Go.RowKit Go.Proofs.YtahmgalkliicfaaDoorW.PrintWords Go.Proofs.YtahmgalkliicfaaDoorW.PrintLast Go.Proofs.YtahmgalkliicfaaDoorW.PrintMore
attribute [local go_sem] max2_int min2_int max_two min_two max_three min_three max_four min_four   -- for this text's walks alone
set_option linter.unusedVariables false
set_option linter.unusedSimpArgs false

/-! ### laws_eqRing: function 62 -/
def laws_eqRing.f (a0_0 : Int) (a0_1 : Int) (a1_0 : Int) (a1_1 : Int) : Option (Bool) := if a0_0 = a1_0 then (if a0_1 = a1_1 then (some true) else (some false)) else (some false)
set_option maxHeartbeats 8000000 in
set_option maxRecDepth 100000 in
theorem laws_eqRing.calls (a0_0 : Int) (a0_1 : Int) (a1_0 : Int) (a1_1 : Int) (r : Bool) (w : World) (h : laws_eqRing.f a0_0 a0_1 a1_0 a1_1 = some r) :
    Calls Tryd.prog 62 #[.agg #[.int .i64 a0_0, .int .i64 a0_1], .agg #[.int .i64 a1_0, .int .i64 a1_1]] w fun e w' => e = .returned (.bool r) ∧ Below w.heap.size w w' := by
  have hu39 := Tryd.underlying39
  have HB := Aside0.mk (Below.refl w.heap.size w)
  have H : (if a0_0 = a1_0 then (if a0_1 = a1_1 then (some true) else (some false)) else (some false)) = some r := h
  clear h
  by_cases c3 : a0_0 = a1_0
  · rw [if_pos c3] at H
    have c3b0 : (a0_0 == a1_0) = true := beq_iff_eq.mpr c3
    have c3b1 : (a0_0 != a1_0) = false := bne_eq_false_iff_eq.mpr c3
    clear c3
    by_cases c4 : a0_1 = a1_1
    · rw [if_pos c4] at H
      have c4b0 : (a0_1 == a1_1) = true := beq_iff_eq.mpr c4
      have c4b1 : (a0_1 != a1_1) = false := bne_eq_false_iff_eq.mpr c4
      clear c4
      obtain rfl := Option.some.inj H
      go_enter Tryd.func62, Tryd.ntmps62
      go_wp2_with (first | ((with_reducible refine gate_dst (N := 2) rfl ?_); refine box_event ?hg (N := 2) ?hd (cs := #[.int .i64 a0_0, .int .i64 a0_1]) (t := 39) ?hr ?_; (case hd => rfl); (case hg => rfl); (case hr => first | (go_simp; done) | (go_simp; rfl)); intro gb345 hg w5 hbox hb; have n0_ := Aside0.mk (below_step (by repeat (first | (with_reducible first | exact HB.out | apply below_alloc | apply pw_below_drewN | apply below_drew1) | exact HB.out)) hb); have n1_ := Aside0.mk (hbox); have n2_ := Aside0.mk ((by rw [hg]; exact (below_size (by repeat (first | (with_reducible first | exact HB.out | apply below_alloc | apply pw_below_drewN | apply below_drew1) | exact HB.out))) : w.heap.size ≤ gb345)); have n3_ := Aside0.mk ((by rw [hg]; exact (below_size (by repeat (first | (with_reducible first | exact HB.out | apply below_alloc | apply pw_below_drewN | apply below_drew1) | exact HB.out))) : w.heap.size ≤ gb345)); clear HB; have HB := n0_; have BK345 := n1_; have GW345 := n2_; have GE345 := n3_; clear n0_ n1_ n2_ n3_; clear hb hbox hg) | ((with_reducible refine gate_dst (N := 3) rfl ?_); refine box_event ?hg (N := 3) ?hd (cs := #[.int .i64 a1_0, .int .i64 a1_1]) (t := 39) ?hr ?_; (case hd => rfl); (case hg => rfl); (case hr => first | (go_simp; done) | (go_simp; rfl)); intro gb346 hg w6 hbox hb; have n0_ := Aside0.mk (blk_below (g := gb345) (o := .cells #[.int .i64 a0_0, .int .i64 a0_1] 39 (0, 0)) (by (with_reducible repeat (first | refine blk_drewN ?_ _ | refine blk_drew ?_ | refine blk_alloc ?_ _)); exact BK345.out) hb); have n1_ := Aside0.mk (below_step (by repeat (first | (with_reducible first | exact HB.out | apply below_alloc | apply pw_below_drewN | apply below_drew1 | refine below_set ?_ GE345.out) | exact HB.out)) hb); have n2_ := Aside0.mk (hbox); have n3_ := Aside0.mk ((by rw [hg]; exact (below_size (by repeat (first | (with_reducible first | exact HB.out | apply below_alloc | apply pw_below_drewN | apply below_drew1 | refine below_set ?_ GE345.out) | exact HB.out))) : w.heap.size ≤ gb346)); have n4_ := Aside0.mk ((by rw [hg]; exact (below_size (by repeat (first | (with_reducible first | exact HB.out | apply below_alloc | apply pw_below_drewN | apply below_drew1 | refine below_set ?_ GE345.out) | exact HB.out))) : w.heap.size ≤ gb346)); have n5_ := Aside0.mk ((by rw [hg]; exact Nat.ne_of_lt (blk_lt (g := gb345) (o := .cells #[.int .i64 a0_0, .int .i64 a0_1] 39 (0, 0)) (by (with_reducible repeat (first | refine blk_drewN ?_ _ | refine blk_drew ?_ | refine blk_alloc ?_ _)); exact BK345.out)) : gb345 ≠ gb346)); have n6_ := Aside0.mk ((by rw [hg]; exact Nat.ne_of_gt (blk_lt (g := gb345) (o := .cells #[.int .i64 a0_0, .int .i64 a0_1] 39 (0, 0)) (by (with_reducible repeat (first | refine blk_drewN ?_ _ | refine blk_drew ?_ | refine blk_alloc ?_ _)); exact BK345.out)) : gb346 ≠ gb345)); clear BK345; clear HB; have BK345 := n0_; have HB := n1_; have BK346 := n2_; have GW346 := n3_; have GE346 := n4_; have NB345_346 := n5_; have NB346_345 := n6_; clear n0_ n1_ n2_ n3_ n4_ n5_ n6_; clear hb hbox hg; have hnb7 := NB345_346.out; have hnc7 := NB346_345.out; have hcz8_0 : w6.cell? ⟨gb345, 0, none⟩ = some (.int .i64 a0_0) := (blk_cell BK345.out 0).trans rfl; have hcz8_1 : w6.cell? ⟨gb345, 1, none⟩ = some (.int .i64 a0_1) := (blk_cell BK345.out 1).trans rfl; have hfz8_0 := blk_frozen BK345.out 0; have hfz8_1 := blk_frozen BK345.out 1; have hcz9_0 : w6.cell? ⟨gb346, 0, none⟩ = some (.int .i64 a1_0) := (blk_cell BK346.out 0).trans rfl; have hcz9_1 : w6.cell? ⟨gb346, 1, none⟩ = some (.int .i64 a1_1) := (blk_cell BK346.out 1).trans rfl; have hfz9_0 := blk_frozen BK346.out 0; have hfz9_1 := blk_frozen BK346.out 1))
      go_ret
      exact ⟨by first | rfl | (simp [errW_none, errW_some] <;> rfl) | (simp [*, errW_none, errW_some] <;> rfl), by repeat (first | (with_reducible first | exact HB.out | apply below_alloc | apply pw_below_drewN | apply below_drew1 | refine below_set ?_ GE345.out | refine below_set ?_ GE346.out) | exact HB.out)⟩
    · rw [if_neg c4] at H
      have c4b0 : (a0_1 == a1_1) = false := beq_eq_false_iff_ne.mpr c4
      have c4b1 : (a0_1 != a1_1) = true := bne_iff_ne.mpr c4
      obtain rfl := Option.some.inj H
      go_enter Tryd.func62, Tryd.ntmps62
      go_wp2_with (first | ((with_reducible refine gate_dst (N := 2) rfl ?_); refine box_event ?hg (N := 2) ?hd (cs := #[.int .i64 a0_0, .int .i64 a0_1]) (t := 39) ?hr ?_; (case hd => rfl); (case hg => rfl); (case hr => first | (go_simp; done) | (go_simp; rfl)); intro gb345 hg w10 hbox hb; have n0_ := Aside0.mk (below_step (by repeat (first | (with_reducible first | exact HB.out | apply below_alloc | apply pw_below_drewN | apply below_drew1) | exact HB.out)) hb); have n1_ := Aside0.mk (hbox); have n2_ := Aside0.mk ((by rw [hg]; exact (below_size (by repeat (first | (with_reducible first | exact HB.out | apply below_alloc | apply pw_below_drewN | apply below_drew1) | exact HB.out))) : w.heap.size ≤ gb345)); have n3_ := Aside0.mk ((by rw [hg]; exact (below_size (by repeat (first | (with_reducible first | exact HB.out | apply below_alloc | apply pw_below_drewN | apply below_drew1) | exact HB.out))) : w.heap.size ≤ gb345)); clear HB; have HB := n0_; have BK345 := n1_; have GW345 := n2_; have GE345 := n3_; clear n0_ n1_ n2_ n3_; clear hb hbox hg) | ((with_reducible refine gate_dst (N := 3) rfl ?_); refine box_event ?hg (N := 3) ?hd (cs := #[.int .i64 a1_0, .int .i64 a1_1]) (t := 39) ?hr ?_; (case hd => rfl); (case hg => rfl); (case hr => first | (go_simp; done) | (go_simp; rfl)); intro gb346 hg w11 hbox hb; have n0_ := Aside0.mk (blk_below (g := gb345) (o := .cells #[.int .i64 a0_0, .int .i64 a0_1] 39 (0, 0)) (by (with_reducible repeat (first | refine blk_drewN ?_ _ | refine blk_drew ?_ | refine blk_alloc ?_ _)); exact BK345.out) hb); have n1_ := Aside0.mk (below_step (by repeat (first | (with_reducible first | exact HB.out | apply below_alloc | apply pw_below_drewN | apply below_drew1 | refine below_set ?_ GE345.out) | exact HB.out)) hb); have n2_ := Aside0.mk (hbox); have n3_ := Aside0.mk ((by rw [hg]; exact (below_size (by repeat (first | (with_reducible first | exact HB.out | apply below_alloc | apply pw_below_drewN | apply below_drew1 | refine below_set ?_ GE345.out) | exact HB.out))) : w.heap.size ≤ gb346)); have n4_ := Aside0.mk ((by rw [hg]; exact (below_size (by repeat (first | (with_reducible first | exact HB.out | apply below_alloc | apply pw_below_drewN | apply below_drew1 | refine below_set ?_ GE345.out) | exact HB.out))) : w.heap.size ≤ gb346)); have n5_ := Aside0.mk ((by rw [hg]; exact Nat.ne_of_lt (blk_lt (g := gb345) (o := .cells #[.int .i64 a0_0, .int .i64 a0_1] 39 (0, 0)) (by (with_reducible repeat (first | refine blk_drewN ?_ _ | refine blk_drew ?_ | refine blk_alloc ?_ _)); exact BK345.out)) : gb345 ≠ gb346)); have n6_ := Aside0.mk ((by rw [hg]; exact Nat.ne_of_gt (blk_lt (g := gb345) (o := .cells #[.int .i64 a0_0, .int .i64 a0_1] 39 (0, 0)) (by (with_reducible repeat (first | refine blk_drewN ?_ _ | refine blk_drew ?_ | refine blk_alloc ?_ _)); exact BK345.out)) : gb346 ≠ gb345)); clear BK345; clear HB; have BK345 := n0_; have HB := n1_; have BK346 := n2_; have GW346 := n3_; have GE346 := n4_; have NB345_346 := n5_; have NB346_345 := n6_; clear n0_ n1_ n2_ n3_ n4_ n5_ n6_; clear hb hbox hg; have hnb12 := NB345_346.out; have hnc12 := NB346_345.out; have hcz13_0 : w11.cell? ⟨gb345, 0, none⟩ = some (.int .i64 a0_0) := (blk_cell BK345.out 0).trans rfl; have hcz13_1 : w11.cell? ⟨gb345, 1, none⟩ = some (.int .i64 a0_1) := (blk_cell BK345.out 1).trans rfl; have hfz13_0 := blk_frozen BK345.out 0; have hfz13_1 := blk_frozen BK345.out 1; have hcz14_0 : w11.cell? ⟨gb346, 0, none⟩ = some (.int .i64 a1_0) := (blk_cell BK346.out 0).trans rfl; have hcz14_1 : w11.cell? ⟨gb346, 1, none⟩ = some (.int .i64 a1_1) := (blk_cell BK346.out 1).trans rfl; have hfz14_0 := blk_frozen BK346.out 0; have hfz14_1 := blk_frozen BK346.out 1))
      go_ret
      exact ⟨by first | rfl | (simp [errW_none, errW_some] <;> rfl) | (simp [*, errW_none, errW_some] <;> rfl), by repeat (first | (with_reducible first | exact HB.out | apply below_alloc | apply pw_below_drewN | apply below_drew1 | refine below_set ?_ GE345.out | refine below_set ?_ GE346.out) | exact HB.out)⟩
  · rw [if_neg c3] at H
    have c3b0 : (a0_0 == a1_0) = false := beq_eq_false_iff_ne.mpr c3
    have c3b1 : (a0_0 != a1_0) = true := bne_iff_ne.mpr c3
    obtain rfl := Option.some.inj H
    go_enter Tryd.func62, Tryd.ntmps62
    go_wp2_with (first | ((with_reducible refine gate_dst (N := 2) rfl ?_); refine box_event ?hg (N := 2) ?hd (cs := #[.int .i64 a0_0, .int .i64 a0_1]) (t := 39) ?hr ?_; (case hd => rfl); (case hg => rfl); (case hr => first | (go_simp; done) | (go_simp; rfl)); intro gb345 hg w15 hbox hb; have n0_ := Aside0.mk (below_step (by repeat (first | (with_reducible first | exact HB.out | apply below_alloc | apply pw_below_drewN | apply below_drew1) | exact HB.out)) hb); have n1_ := Aside0.mk (hbox); have n2_ := Aside0.mk ((by rw [hg]; exact (below_size (by repeat (first | (with_reducible first | exact HB.out | apply below_alloc | apply pw_below_drewN | apply below_drew1) | exact HB.out))) : w.heap.size ≤ gb345)); have n3_ := Aside0.mk ((by rw [hg]; exact (below_size (by repeat (first | (with_reducible first | exact HB.out | apply below_alloc | apply pw_below_drewN | apply below_drew1) | exact HB.out))) : w.heap.size ≤ gb345)); clear HB; have HB := n0_; have BK345 := n1_; have GW345 := n2_; have GE345 := n3_; clear n0_ n1_ n2_ n3_; clear hb hbox hg) | ((with_reducible refine gate_dst (N := 3) rfl ?_); refine box_event ?hg (N := 3) ?hd (cs := #[.int .i64 a1_0, .int .i64 a1_1]) (t := 39) ?hr ?_; (case hd => rfl); (case hg => rfl); (case hr => first | (go_simp; done) | (go_simp; rfl)); intro gb346 hg w16 hbox hb; have n0_ := Aside0.mk (blk_below (g := gb345) (o := .cells #[.int .i64 a0_0, .int .i64 a0_1] 39 (0, 0)) (by (with_reducible repeat (first | refine blk_drewN ?_ _ | refine blk_drew ?_ | refine blk_alloc ?_ _)); exact BK345.out) hb); have n1_ := Aside0.mk (below_step (by repeat (first | (with_reducible first | exact HB.out | apply below_alloc | apply pw_below_drewN | apply below_drew1 | refine below_set ?_ GE345.out) | exact HB.out)) hb); have n2_ := Aside0.mk (hbox); have n3_ := Aside0.mk ((by rw [hg]; exact (below_size (by repeat (first | (with_reducible first | exact HB.out | apply below_alloc | apply pw_below_drewN | apply below_drew1 | refine below_set ?_ GE345.out) | exact HB.out))) : w.heap.size ≤ gb346)); have n4_ := Aside0.mk ((by rw [hg]; exact (below_size (by repeat (first | (with_reducible first | exact HB.out | apply below_alloc | apply pw_below_drewN | apply below_drew1 | refine below_set ?_ GE345.out) | exact HB.out))) : w.heap.size ≤ gb346)); have n5_ := Aside0.mk ((by rw [hg]; exact Nat.ne_of_lt (blk_lt (g := gb345) (o := .cells #[.int .i64 a0_0, .int .i64 a0_1] 39 (0, 0)) (by (with_reducible repeat (first | refine blk_drewN ?_ _ | refine blk_drew ?_ | refine blk_alloc ?_ _)); exact BK345.out)) : gb345 ≠ gb346)); have n6_ := Aside0.mk ((by rw [hg]; exact Nat.ne_of_gt (blk_lt (g := gb345) (o := .cells #[.int .i64 a0_0, .int .i64 a0_1] 39 (0, 0)) (by (with_reducible repeat (first | refine blk_drewN ?_ _ | refine blk_drew ?_ | refine blk_alloc ?_ _)); exact BK345.out)) : gb346 ≠ gb345)); clear BK345; clear HB; have BK345 := n0_; have HB := n1_; have BK346 := n2_; have GW346 := n3_; have GE346 := n4_; have NB345_346 := n5_; have NB346_345 := n6_; clear n0_ n1_ n2_ n3_ n4_ n5_ n6_; clear hb hbox hg; have hnb17 := NB345_346.out; have hnc17 := NB346_345.out; have hcz18_0 : w16.cell? ⟨gb345, 0, none⟩ = some (.int .i64 a0_0) := (blk_cell BK345.out 0).trans rfl; have hcz18_1 : w16.cell? ⟨gb345, 1, none⟩ = some (.int .i64 a0_1) := (blk_cell BK345.out 1).trans rfl; have hfz18_0 := blk_frozen BK345.out 0; have hfz18_1 := blk_frozen BK345.out 1; have hcz19_0 : w16.cell? ⟨gb346, 0, none⟩ = some (.int .i64 a1_0) := (blk_cell BK346.out 0).trans rfl; have hcz19_1 : w16.cell? ⟨gb346, 1, none⟩ = some (.int .i64 a1_1) := (blk_cell BK346.out 1).trans rfl; have hfz19_0 := blk_frozen BK346.out 0; have hfz19_1 := blk_frozen BK346.out 1))
    go_ret
    exact ⟨by first | rfl | (simp [errW_none, errW_some] <;> rfl) | (simp [*, errW_none, errW_some] <;> rfl), by repeat (first | (with_reducible first | exact HB.out | apply below_alloc | apply pw_below_drewN | apply below_drew1 | refine below_set ?_ GE345.out | refine below_set ?_ GE346.out) | exact HB.out)⟩

end Go.Proofs.YtahmgalkliicfaaDoor.Q

-- made by a patched copy of print.sh: this session's own
namespace Go.Proofs.YtahmgalkliicfaaDoor.Q
open Go.RowKit Go.Proofs.YtahmgalkliicfaaDoorW.PrintWords Go.Proofs.YtahmgalkliicfaaDoorW.PrintLast Go.Proofs.YtahmgalkliicfaaDoorW.PrintMore
attribute [local go_sem] max2_int min2_int max_two min_two max_three min_three max_four min_four   -- for this text's walks alone
set_option linter.unusedVariables false
set_option linter.unusedSimpArgs false

/-! ### laws_eqDeed: function 29 -/
def laws_eqDeed.f (a0_0 : Int) (a0_1 : Int) (a0_2 : Int) (a0_3 : Int) (a0_4 : Int) (a0_5 : Int) (a0_6 : Int) (a0_7 : Int) (a0_8 : Int) (a1_0 : Int) (a1_1 : Int) (a1_2 : Int) (a1_3 : Int) (a1_4 : Int) (a1_5 : Int) (a1_6 : Int) (a1_7 : Int) (a1_8 : Int) : Option (Bool) := if a0_0 = a1_0 then (if a0_1 = a1_1 then (if a0_2 = a1_2 then (if a0_3 = a1_3 then ((laws_eqRing.f a0_4 a0_5 a1_4 a1_5).bind fun t349 => (if t349 = true then (if a0_6 = a1_6 then (if a0_7 = a1_7 then (if a0_8 = a1_8 then (some true) else (some false)) else (some false)) else (some false)) else (some false))) else (some false)) else (some false)) else (some false)) else (some false)
set_option maxHeartbeats 8000000 in
set_option maxRecDepth 100000 in
theorem laws_eqDeed.calls (a0_0 : Int) (a0_1 : Int) (a0_2 : Int) (a0_3 : Int) (a0_4 : Int) (a0_5 : Int) (a0_6 : Int) (a0_7 : Int) (a0_8 : Int) (a1_0 : Int) (a1_1 : Int) (a1_2 : Int) (a1_3 : Int) (a1_4 : Int) (a1_5 : Int) (a1_6 : Int) (a1_7 : Int) (a1_8 : Int) (r : Bool) (w : World) (h : laws_eqDeed.f a0_0 a0_1 a0_2 a0_3 a0_4 a0_5 a0_6 a0_7 a0_8 a1_0 a1_1 a1_2 a1_3 a1_4 a1_5 a1_6 a1_7 a1_8 = some r) :
    Calls Tryd.prog 29 #[.agg #[.int .i64 a0_0, .int .i64 a0_1, .int .i64 a0_2, .int .i64 a0_3, .int .i64 a0_4, .int .i64 a0_5, .int .i64 a0_6, .int .i64 a0_7, .int .i64 a0_8], .agg #[.int .i64 a1_0, .int .i64 a1_1, .int .i64 a1_2, .int .i64 a1_3, .int .i64 a1_4, .int .i64 a1_5, .int .i64 a1_6, .int .i64 a1_7, .int .i64 a1_8]] w fun e w' => e = .returned (.bool r) ∧ Below w.heap.size w w' := by
  have hu41 := Tryd.underlying41
  have hu39 := Tryd.underlying39
  have HB := Aside0.mk (Below.refl w.heap.size w)
  have H : (if a0_0 = a1_0 then (if a0_1 = a1_1 then (if a0_2 = a1_2 then (if a0_3 = a1_3 then ((laws_eqRing.f a0_4 a0_5 a1_4 a1_5).bind fun t349 => (if t349 = true then (if a0_6 = a1_6 then (if a0_7 = a1_7 then (if a0_8 = a1_8 then (some true) else (some false)) else (some false)) else (some false)) else (some false))) else (some false)) else (some false)) else (some false)) else (some false)) = some r := h
  clear h
  by_cases c3 : a0_0 = a1_0
  · rw [if_pos c3] at H
    have c3b0 : (a0_0 == a1_0) = true := beq_iff_eq.mpr c3
    have c3b1 : (a0_0 != a1_0) = false := bne_eq_false_iff_eq.mpr c3
    clear c3
    by_cases c4 : a0_1 = a1_1
    · rw [if_pos c4] at H
      have c4b0 : (a0_1 == a1_1) = true := beq_iff_eq.mpr c4
      have c4b1 : (a0_1 != a1_1) = false := bne_eq_false_iff_eq.mpr c4
      clear c4
      by_cases c5 : a0_2 = a1_2
      · rw [if_pos c5] at H
        have c5b0 : (a0_2 == a1_2) = true := beq_iff_eq.mpr c5
        have c5b1 : (a0_2 != a1_2) = false := bne_eq_false_iff_eq.mpr c5
        clear c5
        by_cases c6 : a0_3 = a1_3
        · rw [if_pos c6] at H
          have c6b0 : (a0_3 == a1_3) = true := beq_iff_eq.mpr c6
          have c6b1 : (a0_3 != a1_3) = false := bne_eq_false_iff_eq.mpr c6
          clear c6
          replace H := Option.bind_eq_some_iff.mp H
          obtain ⟨t349, A70, H⟩ := H
          replace H : (if t349 = true then (if a0_6 = a1_6 then (if a0_7 = a1_7 then (if a0_8 = a1_8 then (some true) else (some false)) else (some false)) else (some false)) else (some false)) = some r := H
          have A7 := Aside0.mk A70
          clear A70
          by_cases c8 : t349 = true
          · subst c8
            have H1 : (if a0_6 = a1_6 then (if a0_7 = a1_7 then (if a0_8 = a1_8 then (some true) else (some false)) else (some false)) else (some false)) = some r := by rw [if_pos rfl] at H; exact H
            clear H
            have H := H1
            clear H1
            by_cases c9 : a0_6 = a1_6
            · rw [if_pos c9] at H
              have c9b0 : (a0_6 == a1_6) = true := beq_iff_eq.mpr c9
              have c9b1 : (a0_6 != a1_6) = false := bne_eq_false_iff_eq.mpr c9
              clear c9
              by_cases c10 : a0_7 = a1_7
              · rw [if_pos c10] at H
                have c10b0 : (a0_7 == a1_7) = true := beq_iff_eq.mpr c10
                have c10b1 : (a0_7 != a1_7) = false := bne_eq_false_iff_eq.mpr c10
                clear c10
                by_cases c11 : a0_8 = a1_8
                · rw [if_pos c11] at H
                  have c11b0 : (a0_8 == a1_8) = true := beq_iff_eq.mpr c11
                  have c11b1 : (a0_8 != a1_8) = false := bne_eq_false_iff_eq.mpr c11
                  clear c11
                  obtain rfl := Option.some.inj H
                  go_enter Tryd.func29, Tryd.ntmps29
                  go_wp2_with (first | ((with_reducible refine gate_dst (N := 2) rfl ?_); refine box_event ?hg (N := 2) ?hd (cs := #[.int .i64 a0_0, .int .i64 a0_1, .int .i64 a0_2, .int .i64 a0_3, .int .i64 a0_4, .int .i64 a0_5, .int .i64 a0_6, .int .i64 a0_7, .int .i64 a0_8]) (t := 41) ?hr ?_; (case hd => rfl); (case hg => rfl); (case hr => first | (go_simp; done) | (go_simp; rfl)); intro gb347 hg w12 hbox hb; have n0_ := Aside0.mk (below_step (by repeat (first | (with_reducible first | exact HB.out | apply below_alloc | apply pw_below_drewN | apply below_drew1) | exact HB.out)) hb); have n1_ := Aside0.mk (hbox); have n2_ := Aside0.mk ((by rw [hg]; exact (below_size (by repeat (first | (with_reducible first | exact HB.out | apply below_alloc | apply pw_below_drewN | apply below_drew1) | exact HB.out))) : w.heap.size ≤ gb347)); have n3_ := Aside0.mk ((by rw [hg]; exact (below_size (by repeat (first | (with_reducible first | exact HB.out | apply below_alloc | apply pw_below_drewN | apply below_drew1) | exact HB.out))) : w.heap.size ≤ gb347)); clear HB; have HB := n0_; have BK347 := n1_; have GW347 := n2_; have GE347 := n3_; clear n0_ n1_ n2_ n3_; clear hb hbox hg) | ((with_reducible refine gate_dst (N := 3) rfl ?_); refine box_event ?hg (N := 3) ?hd (cs := #[.int .i64 a1_0, .int .i64 a1_1, .int .i64 a1_2, .int .i64 a1_3, .int .i64 a1_4, .int .i64 a1_5, .int .i64 a1_6, .int .i64 a1_7, .int .i64 a1_8]) (t := 41) ?hr ?_; (case hd => rfl); (case hg => rfl); (case hr => first | (go_simp; done) | (go_simp; rfl)); intro gb348 hg w13 hbox hb; have n0_ := Aside0.mk (blk_below (g := gb347) (o := .cells #[.int .i64 a0_0, .int .i64 a0_1, .int .i64 a0_2, .int .i64 a0_3, .int .i64 a0_4, .int .i64 a0_5, .int .i64 a0_6, .int .i64 a0_7, .int .i64 a0_8] 41 (0, 0)) (by (with_reducible repeat (first | refine blk_drewN ?_ _ | refine blk_drew ?_ | refine blk_alloc ?_ _)); exact BK347.out) hb); have n1_ := Aside0.mk (below_step (by repeat (first | (with_reducible first | exact HB.out | apply below_alloc | apply pw_below_drewN | apply below_drew1 | refine below_set ?_ GE347.out) | exact HB.out)) hb); have n2_ := Aside0.mk (hbox); have n3_ := Aside0.mk ((by rw [hg]; exact (below_size (by repeat (first | (with_reducible first | exact HB.out | apply below_alloc | apply pw_below_drewN | apply below_drew1 | refine below_set ?_ GE347.out) | exact HB.out))) : w.heap.size ≤ gb348)); have n4_ := Aside0.mk ((by rw [hg]; exact (below_size (by repeat (first | (with_reducible first | exact HB.out | apply below_alloc | apply pw_below_drewN | apply below_drew1 | refine below_set ?_ GE347.out) | exact HB.out))) : w.heap.size ≤ gb348)); have n5_ := Aside0.mk ((by rw [hg]; exact Nat.ne_of_lt (blk_lt (g := gb347) (o := .cells #[.int .i64 a0_0, .int .i64 a0_1, .int .i64 a0_2, .int .i64 a0_3, .int .i64 a0_4, .int .i64 a0_5, .int .i64 a0_6, .int .i64 a0_7, .int .i64 a0_8] 41 (0, 0)) (by (with_reducible repeat (first | refine blk_drewN ?_ _ | refine blk_drew ?_ | refine blk_alloc ?_ _)); exact BK347.out)) : gb347 ≠ gb348)); have n6_ := Aside0.mk ((by rw [hg]; exact Nat.ne_of_gt (blk_lt (g := gb347) (o := .cells #[.int .i64 a0_0, .int .i64 a0_1, .int .i64 a0_2, .int .i64 a0_3, .int .i64 a0_4, .int .i64 a0_5, .int .i64 a0_6, .int .i64 a0_7, .int .i64 a0_8] 41 (0, 0)) (by (with_reducible repeat (first | refine blk_drewN ?_ _ | refine blk_drew ?_ | refine blk_alloc ?_ _)); exact BK347.out)) : gb348 ≠ gb347)); clear BK347; clear HB; have BK347 := n0_; have HB := n1_; have BK348 := n2_; have GW348 := n3_; have GE348 := n4_; have NB347_348 := n5_; have NB348_347 := n6_; clear n0_ n1_ n2_ n3_ n4_ n5_ n6_; clear hb hbox hg; have hnb14 := NB347_348.out; have hnc14 := NB348_347.out; have hcz15_0 : w13.cell? ⟨gb347, 0, none⟩ = some (.int .i64 a0_0) := (blk_cell BK347.out 0).trans rfl; have hcz15_1 : w13.cell? ⟨gb347, 1, none⟩ = some (.int .i64 a0_1) := (blk_cell BK347.out 1).trans rfl; have hcz15_2 : w13.cell? ⟨gb347, 2, none⟩ = some (.int .i64 a0_2) := (blk_cell BK347.out 2).trans rfl; have hcz15_3 : w13.cell? ⟨gb347, 3, none⟩ = some (.int .i64 a0_3) := (blk_cell BK347.out 3).trans rfl; have hcz15_4 : w13.cell? ⟨gb347, 4, none⟩ = some (.int .i64 a0_4) := (blk_cell BK347.out 4).trans rfl; have hcz15_5 : w13.cell? ⟨gb347, 5, none⟩ = some (.int .i64 a0_5) := (blk_cell BK347.out 5).trans rfl; have hcz15_6 : w13.cell? ⟨gb347, 6, none⟩ = some (.int .i64 a0_6) := (blk_cell BK347.out 6).trans rfl; have hcz15_7 : w13.cell? ⟨gb347, 7, none⟩ = some (.int .i64 a0_7) := (blk_cell BK347.out 7).trans rfl; have hcz15_8 : w13.cell? ⟨gb347, 8, none⟩ = some (.int .i64 a0_8) := (blk_cell BK347.out 8).trans rfl; have hfz15_0 := blk_frozen BK347.out 0; have hfz15_1 := blk_frozen BK347.out 1; have hfz15_2 := blk_frozen BK347.out 2; have hfz15_3 := blk_frozen BK347.out 3; have hfz15_4 := blk_frozen BK347.out 4; have hfz15_5 := blk_frozen BK347.out 5; have hfz15_6 := blk_frozen BK347.out 6; have hfz15_7 := blk_frozen BK347.out 7; have hfz15_8 := blk_frozen BK347.out 8; have hcz16_0 : w13.cell? ⟨gb348, 0, none⟩ = some (.int .i64 a1_0) := (blk_cell BK348.out 0).trans rfl; have hcz16_1 : w13.cell? ⟨gb348, 1, none⟩ = some (.int .i64 a1_1) := (blk_cell BK348.out 1).trans rfl; have hcz16_2 : w13.cell? ⟨gb348, 2, none⟩ = some (.int .i64 a1_2) := (blk_cell BK348.out 2).trans rfl; have hcz16_3 : w13.cell? ⟨gb348, 3, none⟩ = some (.int .i64 a1_3) := (blk_cell BK348.out 3).trans rfl; have hcz16_4 : w13.cell? ⟨gb348, 4, none⟩ = some (.int .i64 a1_4) := (blk_cell BK348.out 4).trans rfl; have hcz16_5 : w13.cell? ⟨gb348, 5, none⟩ = some (.int .i64 a1_5) := (blk_cell BK348.out 5).trans rfl; have hcz16_6 : w13.cell? ⟨gb348, 6, none⟩ = some (.int .i64 a1_6) := (blk_cell BK348.out 6).trans rfl; have hcz16_7 : w13.cell? ⟨gb348, 7, none⟩ = some (.int .i64 a1_7) := (blk_cell BK348.out 7).trans rfl; have hcz16_8 : w13.cell? ⟨gb348, 8, none⟩ = some (.int .i64 a1_8) := (blk_cell BK348.out 8).trans rfl; have hfz16_0 := blk_frozen BK348.out 0; have hfz16_1 := blk_frozen BK348.out 1; have hfz16_2 := blk_frozen BK348.out 2; have hfz16_3 := blk_frozen BK348.out 3; have hfz16_4 := blk_frozen BK348.out 4; have hfz16_5 := blk_frozen BK348.out 5; have hfz16_6 := blk_frozen BK348.out 6; have hfz16_7 := blk_frozen BK348.out 7; have hfz16_8 := blk_frozen BK348.out 8) | ((with_reducible refine gate_callee (f := 62) rfl ?_); refine goesL_ (some 29) rfl rfl Tryd.func62 (by kernel_rfl) rfl #[.agg #[.int .i64 a0_4, .int .i64 a0_5], .agg #[.int .i64 a1_4, .int .i64 a1_5]] rfl (by (try simp only [List.map_toArray, List.map_cons, List.map_nil]); first | done | rfl | (simp only [List.length_drop, List.length_take]; rfl)) ?_; (with_reducible refine (laws_eqRing.calls a0_4 a0_5 a1_4 a1_5 true _ A7.out).mono ?_); rintro e w17 ⟨rfl, hb⟩; refine ⟨_, rfl, ?_⟩; have n0_ := Aside0.mk (blk_below (g := gb347) (o := .cells #[.int .i64 a0_0, .int .i64 a0_1, .int .i64 a0_2, .int .i64 a0_3, .int .i64 a0_4, .int .i64 a0_5, .int .i64 a0_6, .int .i64 a0_7, .int .i64 a0_8] 41 (0, 0)) (by (with_reducible repeat (first | refine blk_drewN ?_ _ | refine blk_drew ?_ | refine blk_alloc ?_ _)); exact BK347.out) hb); have n1_ := Aside0.mk (blk_below (g := gb348) (o := .cells #[.int .i64 a1_0, .int .i64 a1_1, .int .i64 a1_2, .int .i64 a1_3, .int .i64 a1_4, .int .i64 a1_5, .int .i64 a1_6, .int .i64 a1_7, .int .i64 a1_8] 41 (0, 0)) (by (with_reducible repeat (first | refine blk_drewN ?_ _ | refine blk_drew ?_ | refine blk_alloc ?_ _)); exact BK348.out) hb); have n2_ := Aside0.mk (below_step (by repeat (first | (with_reducible first | exact HB.out | apply below_alloc | apply pw_below_drewN | apply below_drew1 | refine below_set ?_ GE347.out | refine below_set ?_ GE348.out) | exact HB.out)) hb); clear BK347; clear BK348; clear HB; have BK347 := n0_; have BK348 := n1_; have HB := n2_; clear n0_ n1_ n2_; (try clear hb); (try clear hb2); (try clear hk); (try clear hi); have hcz18_0 : w17.cell? ⟨gb347, 0, none⟩ = some (.int .i64 a0_0) := (blk_cell BK347.out 0).trans rfl; have hcz18_1 : w17.cell? ⟨gb347, 1, none⟩ = some (.int .i64 a0_1) := (blk_cell BK347.out 1).trans rfl; have hcz18_2 : w17.cell? ⟨gb347, 2, none⟩ = some (.int .i64 a0_2) := (blk_cell BK347.out 2).trans rfl; have hcz18_3 : w17.cell? ⟨gb347, 3, none⟩ = some (.int .i64 a0_3) := (blk_cell BK347.out 3).trans rfl; have hcz18_4 : w17.cell? ⟨gb347, 4, none⟩ = some (.int .i64 a0_4) := (blk_cell BK347.out 4).trans rfl; have hcz18_5 : w17.cell? ⟨gb347, 5, none⟩ = some (.int .i64 a0_5) := (blk_cell BK347.out 5).trans rfl; have hcz18_6 : w17.cell? ⟨gb347, 6, none⟩ = some (.int .i64 a0_6) := (blk_cell BK347.out 6).trans rfl; have hcz18_7 : w17.cell? ⟨gb347, 7, none⟩ = some (.int .i64 a0_7) := (blk_cell BK347.out 7).trans rfl; have hcz18_8 : w17.cell? ⟨gb347, 8, none⟩ = some (.int .i64 a0_8) := (blk_cell BK347.out 8).trans rfl; have hfz18_0 := blk_frozen BK347.out 0; have hfz18_1 := blk_frozen BK347.out 1; have hfz18_2 := blk_frozen BK347.out 2; have hfz18_3 := blk_frozen BK347.out 3; have hfz18_4 := blk_frozen BK347.out 4; have hfz18_5 := blk_frozen BK347.out 5; have hfz18_6 := blk_frozen BK347.out 6; have hfz18_7 := blk_frozen BK347.out 7; have hfz18_8 := blk_frozen BK347.out 8; have hcz19_0 : w17.cell? ⟨gb348, 0, none⟩ = some (.int .i64 a1_0) := (blk_cell BK348.out 0).trans rfl; have hcz19_1 : w17.cell? ⟨gb348, 1, none⟩ = some (.int .i64 a1_1) := (blk_cell BK348.out 1).trans rfl; have hcz19_2 : w17.cell? ⟨gb348, 2, none⟩ = some (.int .i64 a1_2) := (blk_cell BK348.out 2).trans rfl; have hcz19_3 : w17.cell? ⟨gb348, 3, none⟩ = some (.int .i64 a1_3) := (blk_cell BK348.out 3).trans rfl; have hcz19_4 : w17.cell? ⟨gb348, 4, none⟩ = some (.int .i64 a1_4) := (blk_cell BK348.out 4).trans rfl; have hcz19_5 : w17.cell? ⟨gb348, 5, none⟩ = some (.int .i64 a1_5) := (blk_cell BK348.out 5).trans rfl; have hcz19_6 : w17.cell? ⟨gb348, 6, none⟩ = some (.int .i64 a1_6) := (blk_cell BK348.out 6).trans rfl; have hcz19_7 : w17.cell? ⟨gb348, 7, none⟩ = some (.int .i64 a1_7) := (blk_cell BK348.out 7).trans rfl; have hcz19_8 : w17.cell? ⟨gb348, 8, none⟩ = some (.int .i64 a1_8) := (blk_cell BK348.out 8).trans rfl; have hfz19_0 := blk_frozen BK348.out 0; have hfz19_1 := blk_frozen BK348.out 1; have hfz19_2 := blk_frozen BK348.out 2; have hfz19_3 := blk_frozen BK348.out 3; have hfz19_4 := blk_frozen BK348.out 4; have hfz19_5 := blk_frozen BK348.out 5; have hfz19_6 := blk_frozen BK348.out 6; have hfz19_7 := blk_frozen BK348.out 7; have hfz19_8 := blk_frozen BK348.out 8))
                  go_ret
                  exact ⟨by first | rfl | (simp [errW_none, errW_some] <;> rfl) | (simp [*, errW_none, errW_some] <;> rfl), by repeat (first | (with_reducible first | exact HB.out | apply below_alloc | apply pw_below_drewN | apply below_drew1 | refine below_set ?_ GE347.out | refine below_set ?_ GE348.out) | exact HB.out)⟩
                · rw [if_neg c11] at H
                  have c11b0 : (a0_8 == a1_8) = false := beq_eq_false_iff_ne.mpr c11
                  have c11b1 : (a0_8 != a1_8) = true := bne_iff_ne.mpr c11
                  obtain rfl := Option.some.inj H
                  go_enter Tryd.func29, Tryd.ntmps29
                  go_wp2_with (first | ((with_reducible refine gate_dst (N := 2) rfl ?_); refine box_event ?hg (N := 2) ?hd (cs := #[.int .i64 a0_0, .int .i64 a0_1, .int .i64 a0_2, .int .i64 a0_3, .int .i64 a0_4, .int .i64 a0_5, .int .i64 a0_6, .int .i64 a0_7, .int .i64 a0_8]) (t := 41) ?hr ?_; (case hd => rfl); (case hg => rfl); (case hr => first | (go_simp; done) | (go_simp; rfl)); intro gb347 hg w20 hbox hb; have n0_ := Aside0.mk (below_step (by repeat (first | (with_reducible first | exact HB.out | apply below_alloc | apply pw_below_drewN | apply below_drew1) | exact HB.out)) hb); have n1_ := Aside0.mk (hbox); have n2_ := Aside0.mk ((by rw [hg]; exact (below_size (by repeat (first | (with_reducible first | exact HB.out | apply below_alloc | apply pw_below_drewN | apply below_drew1) | exact HB.out))) : w.heap.size ≤ gb347)); have n3_ := Aside0.mk ((by rw [hg]; exact (below_size (by repeat (first | (with_reducible first | exact HB.out | apply below_alloc | apply pw_below_drewN | apply below_drew1) | exact HB.out))) : w.heap.size ≤ gb347)); clear HB; have HB := n0_; have BK347 := n1_; have GW347 := n2_; have GE347 := n3_; clear n0_ n1_ n2_ n3_; clear hb hbox hg) | ((with_reducible refine gate_dst (N := 3) rfl ?_); refine box_event ?hg (N := 3) ?hd (cs := #[.int .i64 a1_0, .int .i64 a1_1, .int .i64 a1_2, .int .i64 a1_3, .int .i64 a1_4, .int .i64 a1_5, .int .i64 a1_6, .int .i64 a1_7, .int .i64 a1_8]) (t := 41) ?hr ?_; (case hd => rfl); (case hg => rfl); (case hr => first | (go_simp; done) | (go_simp; rfl)); intro gb348 hg w21 hbox hb; have n0_ := Aside0.mk (blk_below (g := gb347) (o := .cells #[.int .i64 a0_0, .int .i64 a0_1, .int .i64 a0_2, .int .i64 a0_3, .int .i64 a0_4, .int .i64 a0_5, .int .i64 a0_6, .int .i64 a0_7, .int .i64 a0_8] 41 (0, 0)) (by (with_reducible repeat (first | refine blk_drewN ?_ _ | refine blk_drew ?_ | refine blk_alloc ?_ _)); exact BK347.out) hb); have n1_ := Aside0.mk (below_step (by repeat (first | (with_reducible first | exact HB.out | apply below_alloc | apply pw_below_drewN | apply below_drew1 | refine below_set ?_ GE347.out) | exact HB.out)) hb); have n2_ := Aside0.mk (hbox); have n3_ := Aside0.mk ((by rw [hg]; exact (below_size (by repeat (first | (with_reducible first | exact HB.out | apply below_alloc | apply pw_below_drewN | apply below_drew1 | refine below_set ?_ GE347.out) | exact HB.out))) : w.heap.size ≤ gb348)); have n4_ := Aside0.mk ((by rw [hg]; exact (below_size (by repeat (first | (with_reducible first | exact HB.out | apply below_alloc | apply pw_below_drewN | apply below_drew1 | refine below_set ?_ GE347.out) | exact HB.out))) : w.heap.size ≤ gb348)); have n5_ := Aside0.mk ((by rw [hg]; exact Nat.ne_of_lt (blk_lt (g := gb347) (o := .cells #[.int .i64 a0_0, .int .i64 a0_1, .int .i64 a0_2, .int .i64 a0_3, .int .i64 a0_4, .int .i64 a0_5, .int .i64 a0_6, .int .i64 a0_7, .int .i64 a0_8] 41 (0, 0)) (by (with_reducible repeat (first | refine blk_drewN ?_ _ | refine blk_drew ?_ | refine blk_alloc ?_ _)); exact BK347.out)) : gb347 ≠ gb348)); have n6_ := Aside0.mk ((by rw [hg]; exact Nat.ne_of_gt (blk_lt (g := gb347) (o := .cells #[.int .i64 a0_0, .int .i64 a0_1, .int .i64 a0_2, .int .i64 a0_3, .int .i64 a0_4, .int .i64 a0_5, .int .i64 a0_6, .int .i64 a0_7, .int .i64 a0_8] 41 (0, 0)) (by (with_reducible repeat (first | refine blk_drewN ?_ _ | refine blk_drew ?_ | refine blk_alloc ?_ _)); exact BK347.out)) : gb348 ≠ gb347)); clear BK347; clear HB; have BK347 := n0_; have HB := n1_; have BK348 := n2_; have GW348 := n3_; have GE348 := n4_; have NB347_348 := n5_; have NB348_347 := n6_; clear n0_ n1_ n2_ n3_ n4_ n5_ n6_; clear hb hbox hg; have hnb22 := NB347_348.out; have hnc22 := NB348_347.out; have hcz23_0 : w21.cell? ⟨gb347, 0, none⟩ = some (.int .i64 a0_0) := (blk_cell BK347.out 0).trans rfl; have hcz23_1 : w21.cell? ⟨gb347, 1, none⟩ = some (.int .i64 a0_1) := (blk_cell BK347.out 1).trans rfl; have hcz23_2 : w21.cell? ⟨gb347, 2, none⟩ = some (.int .i64 a0_2) := (blk_cell BK347.out 2).trans rfl; have hcz23_3 : w21.cell? ⟨gb347, 3, none⟩ = some (.int .i64 a0_3) := (blk_cell BK347.out 3).trans rfl; have hcz23_4 : w21.cell? ⟨gb347, 4, none⟩ = some (.int .i64 a0_4) := (blk_cell BK347.out 4).trans rfl; have hcz23_5 : w21.cell? ⟨gb347, 5, none⟩ = some (.int .i64 a0_5) := (blk_cell BK347.out 5).trans rfl; have hcz23_6 : w21.cell? ⟨gb347, 6, none⟩ = some (.int .i64 a0_6) := (blk_cell BK347.out 6).trans rfl; have hcz23_7 : w21.cell? ⟨gb347, 7, none⟩ = some (.int .i64 a0_7) := (blk_cell BK347.out 7).trans rfl; have hcz23_8 : w21.cell? ⟨gb347, 8, none⟩ = some (.int .i64 a0_8) := (blk_cell BK347.out 8).trans rfl; have hfz23_0 := blk_frozen BK347.out 0; have hfz23_1 := blk_frozen BK347.out 1; have hfz23_2 := blk_frozen BK347.out 2; have hfz23_3 := blk_frozen BK347.out 3; have hfz23_4 := blk_frozen BK347.out 4; have hfz23_5 := blk_frozen BK347.out 5; have hfz23_6 := blk_frozen BK347.out 6; have hfz23_7 := blk_frozen BK347.out 7; have hfz23_8 := blk_frozen BK347.out 8; have hcz24_0 : w21.cell? ⟨gb348, 0, none⟩ = some (.int .i64 a1_0) := (blk_cell BK348.out 0).trans rfl; have hcz24_1 : w21.cell? ⟨gb348, 1, none⟩ = some (.int .i64 a1_1) := (blk_cell BK348.out 1).trans rfl; have hcz24_2 : w21.cell? ⟨gb348, 2, none⟩ = some (.int .i64 a1_2) := (blk_cell BK348.out 2).trans rfl; have hcz24_3 : w21.cell? ⟨gb348, 3, none⟩ = some (.int .i64 a1_3) := (blk_cell BK348.out 3).trans rfl; have hcz24_4 : w21.cell? ⟨gb348, 4, none⟩ = some (.int .i64 a1_4) := (blk_cell BK348.out 4).trans rfl; have hcz24_5 : w21.cell? ⟨gb348, 5, none⟩ = some (.int .i64 a1_5) := (blk_cell BK348.out 5).trans rfl; have hcz24_6 : w21.cell? ⟨gb348, 6, none⟩ = some (.int .i64 a1_6) := (blk_cell BK348.out 6).trans rfl; have hcz24_7 : w21.cell? ⟨gb348, 7, none⟩ = some (.int .i64 a1_7) := (blk_cell BK348.out 7).trans rfl; have hcz24_8 : w21.cell? ⟨gb348, 8, none⟩ = some (.int .i64 a1_8) := (blk_cell BK348.out 8).trans rfl; have hfz24_0 := blk_frozen BK348.out 0; have hfz24_1 := blk_frozen BK348.out 1; have hfz24_2 := blk_frozen BK348.out 2; have hfz24_3 := blk_frozen BK348.out 3; have hfz24_4 := blk_frozen BK348.out 4; have hfz24_5 := blk_frozen BK348.out 5; have hfz24_6 := blk_frozen BK348.out 6; have hfz24_7 := blk_frozen BK348.out 7; have hfz24_8 := blk_frozen BK348.out 8) | ((with_reducible refine gate_callee (f := 62) rfl ?_); refine goesL_ (some 29) rfl rfl Tryd.func62 (by kernel_rfl) rfl #[.agg #[.int .i64 a0_4, .int .i64 a0_5], .agg #[.int .i64 a1_4, .int .i64 a1_5]] rfl (by (try simp only [List.map_toArray, List.map_cons, List.map_nil]); first | done | rfl | (simp only [List.length_drop, List.length_take]; rfl)) ?_; (with_reducible refine (laws_eqRing.calls a0_4 a0_5 a1_4 a1_5 true _ A7.out).mono ?_); rintro e w25 ⟨rfl, hb⟩; refine ⟨_, rfl, ?_⟩; have n0_ := Aside0.mk (blk_below (g := gb347) (o := .cells #[.int .i64 a0_0, .int .i64 a0_1, .int .i64 a0_2, .int .i64 a0_3, .int .i64 a0_4, .int .i64 a0_5, .int .i64 a0_6, .int .i64 a0_7, .int .i64 a0_8] 41 (0, 0)) (by (with_reducible repeat (first | refine blk_drewN ?_ _ | refine blk_drew ?_ | refine blk_alloc ?_ _)); exact BK347.out) hb); have n1_ := Aside0.mk (blk_below (g := gb348) (o := .cells #[.int .i64 a1_0, .int .i64 a1_1, .int .i64 a1_2, .int .i64 a1_3, .int .i64 a1_4, .int .i64 a1_5, .int .i64 a1_6, .int .i64 a1_7, .int .i64 a1_8] 41 (0, 0)) (by (with_reducible repeat (first | refine blk_drewN ?_ _ | refine blk_drew ?_ | refine blk_alloc ?_ _)); exact BK348.out) hb); have n2_ := Aside0.mk (below_step (by repeat (first | (with_reducible first | exact HB.out | apply below_alloc | apply pw_below_drewN | apply below_drew1 | refine below_set ?_ GE347.out | refine below_set ?_ GE348.out) | exact HB.out)) hb); clear BK347; clear BK348; clear HB; have BK347 := n0_; have BK348 := n1_; have HB := n2_; clear n0_ n1_ n2_; (try clear hb); (try clear hb2); (try clear hk); (try clear hi); have hcz26_0 : w25.cell? ⟨gb347, 0, none⟩ = some (.int .i64 a0_0) := (blk_cell BK347.out 0).trans rfl; have hcz26_1 : w25.cell? ⟨gb347, 1, none⟩ = some (.int .i64 a0_1) := (blk_cell BK347.out 1).trans rfl; have hcz26_2 : w25.cell? ⟨gb347, 2, none⟩ = some (.int .i64 a0_2) := (blk_cell BK347.out 2).trans rfl; have hcz26_3 : w25.cell? ⟨gb347, 3, none⟩ = some (.int .i64 a0_3) := (blk_cell BK347.out 3).trans rfl; have hcz26_4 : w25.cell? ⟨gb347, 4, none⟩ = some (.int .i64 a0_4) := (blk_cell BK347.out 4).trans rfl; have hcz26_5 : w25.cell? ⟨gb347, 5, none⟩ = some (.int .i64 a0_5) := (blk_cell BK347.out 5).trans rfl; have hcz26_6 : w25.cell? ⟨gb347, 6, none⟩ = some (.int .i64 a0_6) := (blk_cell BK347.out 6).trans rfl; have hcz26_7 : w25.cell? ⟨gb347, 7, none⟩ = some (.int .i64 a0_7) := (blk_cell BK347.out 7).trans rfl; have hcz26_8 : w25.cell? ⟨gb347, 8, none⟩ = some (.int .i64 a0_8) := (blk_cell BK347.out 8).trans rfl; have hfz26_0 := blk_frozen BK347.out 0; have hfz26_1 := blk_frozen BK347.out 1; have hfz26_2 := blk_frozen BK347.out 2; have hfz26_3 := blk_frozen BK347.out 3; have hfz26_4 := blk_frozen BK347.out 4; have hfz26_5 := blk_frozen BK347.out 5; have hfz26_6 := blk_frozen BK347.out 6; have hfz26_7 := blk_frozen BK347.out 7; have hfz26_8 := blk_frozen BK347.out 8; have hcz27_0 : w25.cell? ⟨gb348, 0, none⟩ = some (.int .i64 a1_0) := (blk_cell BK348.out 0).trans rfl; have hcz27_1 : w25.cell? ⟨gb348, 1, none⟩ = some (.int .i64 a1_1) := (blk_cell BK348.out 1).trans rfl; have hcz27_2 : w25.cell? ⟨gb348, 2, none⟩ = some (.int .i64 a1_2) := (blk_cell BK348.out 2).trans rfl; have hcz27_3 : w25.cell? ⟨gb348, 3, none⟩ = some (.int .i64 a1_3) := (blk_cell BK348.out 3).trans rfl; have hcz27_4 : w25.cell? ⟨gb348, 4, none⟩ = some (.int .i64 a1_4) := (blk_cell BK348.out 4).trans rfl; have hcz27_5 : w25.cell? ⟨gb348, 5, none⟩ = some (.int .i64 a1_5) := (blk_cell BK348.out 5).trans rfl; have hcz27_6 : w25.cell? ⟨gb348, 6, none⟩ = some (.int .i64 a1_6) := (blk_cell BK348.out 6).trans rfl; have hcz27_7 : w25.cell? ⟨gb348, 7, none⟩ = some (.int .i64 a1_7) := (blk_cell BK348.out 7).trans rfl; have hcz27_8 : w25.cell? ⟨gb348, 8, none⟩ = some (.int .i64 a1_8) := (blk_cell BK348.out 8).trans rfl; have hfz27_0 := blk_frozen BK348.out 0; have hfz27_1 := blk_frozen BK348.out 1; have hfz27_2 := blk_frozen BK348.out 2; have hfz27_3 := blk_frozen BK348.out 3; have hfz27_4 := blk_frozen BK348.out 4; have hfz27_5 := blk_frozen BK348.out 5; have hfz27_6 := blk_frozen BK348.out 6; have hfz27_7 := blk_frozen BK348.out 7; have hfz27_8 := blk_frozen BK348.out 8))
                  go_ret
                  exact ⟨by first | rfl | (simp [errW_none, errW_some] <;> rfl) | (simp [*, errW_none, errW_some] <;> rfl), by repeat (first | (with_reducible first | exact HB.out | apply below_alloc | apply pw_below_drewN | apply below_drew1 | refine below_set ?_ GE347.out | refine below_set ?_ GE348.out) | exact HB.out)⟩
              · rw [if_neg c10] at H
                have c10b0 : (a0_7 == a1_7) = false := beq_eq_false_iff_ne.mpr c10
                have c10b1 : (a0_7 != a1_7) = true := bne_iff_ne.mpr c10
                obtain rfl := Option.some.inj H
                go_enter Tryd.func29, Tryd.ntmps29
                go_wp2_with (first | ((with_reducible refine gate_dst (N := 2) rfl ?_); refine box_event ?hg (N := 2) ?hd (cs := #[.int .i64 a0_0, .int .i64 a0_1, .int .i64 a0_2, .int .i64 a0_3, .int .i64 a0_4, .int .i64 a0_5, .int .i64 a0_6, .int .i64 a0_7, .int .i64 a0_8]) (t := 41) ?hr ?_; (case hd => rfl); (case hg => rfl); (case hr => first | (go_simp; done) | (go_simp; rfl)); intro gb347 hg w28 hbox hb; have n0_ := Aside0.mk (below_step (by repeat (first | (with_reducible first | exact HB.out | apply below_alloc | apply pw_below_drewN | apply below_drew1) | exact HB.out)) hb); have n1_ := Aside0.mk (hbox); have n2_ := Aside0.mk ((by rw [hg]; exact (below_size (by repeat (first | (with_reducible first | exact HB.out | apply below_alloc | apply pw_below_drewN | apply below_drew1) | exact HB.out))) : w.heap.size ≤ gb347)); have n3_ := Aside0.mk ((by rw [hg]; exact (below_size (by repeat (first | (with_reducible first | exact HB.out | apply below_alloc | apply pw_below_drewN | apply below_drew1) | exact HB.out))) : w.heap.size ≤ gb347)); clear HB; have HB := n0_; have BK347 := n1_; have GW347 := n2_; have GE347 := n3_; clear n0_ n1_ n2_ n3_; clear hb hbox hg) | ((with_reducible refine gate_dst (N := 3) rfl ?_); refine box_event ?hg (N := 3) ?hd (cs := #[.int .i64 a1_0, .int .i64 a1_1, .int .i64 a1_2, .int .i64 a1_3, .int .i64 a1_4, .int .i64 a1_5, .int .i64 a1_6, .int .i64 a1_7, .int .i64 a1_8]) (t := 41) ?hr ?_; (case hd => rfl); (case hg => rfl); (case hr => first | (go_simp; done) | (go_simp; rfl)); intro gb348 hg w29 hbox hb; have n0_ := Aside0.mk (blk_below (g := gb347) (o := .cells #[.int .i64 a0_0, .int .i64 a0_1, .int .i64 a0_2, .int .i64 a0_3, .int .i64 a0_4, .int .i64 a0_5, .int .i64 a0_6, .int .i64 a0_7, .int .i64 a0_8] 41 (0, 0)) (by (with_reducible repeat (first | refine blk_drewN ?_ _ | refine blk_drew ?_ | refine blk_alloc ?_ _)); exact BK347.out) hb); have n1_ := Aside0.mk (below_step (by repeat (first | (with_reducible first | exact HB.out | apply below_alloc | apply pw_below_drewN | apply below_drew1 | refine below_set ?_ GE347.out) | exact HB.out)) hb); have n2_ := Aside0.mk (hbox); have n3_ := Aside0.mk ((by rw [hg]; exact (below_size (by repeat (first | (with_reducible first | exact HB.out | apply below_alloc | apply pw_below_drewN | apply below_drew1 | refine below_set ?_ GE347.out) | exact HB.out))) : w.heap.size ≤ gb348)); have n4_ := Aside0.mk ((by rw [hg]; exact (below_size (by repeat (first | (with_reducible first | exact HB.out | apply below_alloc | apply pw_below_drewN | apply below_drew1 | refine below_set ?_ GE347.out) | exact HB.out))) : w.heap.size ≤ gb348)); have n5_ := Aside0.mk ((by rw [hg]; exact Nat.ne_of_lt (blk_lt (g := gb347) (o := .cells #[.int .i64 a0_0, .int .i64 a0_1, .int .i64 a0_2, .int .i64 a0_3, .int .i64 a0_4, .int .i64 a0_5, .int .i64 a0_6, .int .i64 a0_7, .int .i64 a0_8] 41 (0, 0)) (by (with_reducible repeat (first | refine blk_drewN ?_ _ | refine blk_drew ?_ | refine blk_alloc ?_ _)); exact BK347.out)) : gb347 ≠ gb348)); have n6_ := Aside0.mk ((by rw [hg]; exact Nat.ne_of_gt (blk_lt (g := gb347) (o := .cells #[.int .i64 a0_0, .int .i64 a0_1, .int .i64 a0_2, .int .i64 a0_3, .int .i64 a0_4, .int .i64 a0_5, .int .i64 a0_6, .int .i64 a0_7, .int .i64 a0_8] 41 (0, 0)) (by (with_reducible repeat (first | refine blk_drewN ?_ _ | refine blk_drew ?_ | refine blk_alloc ?_ _)); exact BK347.out)) : gb348 ≠ gb347)); clear BK347; clear HB; have BK347 := n0_; have HB := n1_; have BK348 := n2_; have GW348 := n3_; have GE348 := n4_; have NB347_348 := n5_; have NB348_347 := n6_; clear n0_ n1_ n2_ n3_ n4_ n5_ n6_; clear hb hbox hg; have hnb30 := NB347_348.out; have hnc30 := NB348_347.out; have hcz31_0 : w29.cell? ⟨gb347, 0, none⟩ = some (.int .i64 a0_0) := (blk_cell BK347.out 0).trans rfl; have hcz31_1 : w29.cell? ⟨gb347, 1, none⟩ = some (.int .i64 a0_1) := (blk_cell BK347.out 1).trans rfl; have hcz31_2 : w29.cell? ⟨gb347, 2, none⟩ = some (.int .i64 a0_2) := (blk_cell BK347.out 2).trans rfl; have hcz31_3 : w29.cell? ⟨gb347, 3, none⟩ = some (.int .i64 a0_3) := (blk_cell BK347.out 3).trans rfl; have hcz31_4 : w29.cell? ⟨gb347, 4, none⟩ = some (.int .i64 a0_4) := (blk_cell BK347.out 4).trans rfl; have hcz31_5 : w29.cell? ⟨gb347, 5, none⟩ = some (.int .i64 a0_5) := (blk_cell BK347.out 5).trans rfl; have hcz31_6 : w29.cell? ⟨gb347, 6, none⟩ = some (.int .i64 a0_6) := (blk_cell BK347.out 6).trans rfl; have hcz31_7 : w29.cell? ⟨gb347, 7, none⟩ = some (.int .i64 a0_7) := (blk_cell BK347.out 7).trans rfl; have hcz31_8 : w29.cell? ⟨gb347, 8, none⟩ = some (.int .i64 a0_8) := (blk_cell BK347.out 8).trans rfl; have hfz31_0 := blk_frozen BK347.out 0; have hfz31_1 := blk_frozen BK347.out 1; have hfz31_2 := blk_frozen BK347.out 2; have hfz31_3 := blk_frozen BK347.out 3; have hfz31_4 := blk_frozen BK347.out 4; have hfz31_5 := blk_frozen BK347.out 5; have hfz31_6 := blk_frozen BK347.out 6; have hfz31_7 := blk_frozen BK347.out 7; have hfz31_8 := blk_frozen BK347.out 8; have hcz32_0 : w29.cell? ⟨gb348, 0, none⟩ = some (.int .i64 a1_0) := (blk_cell BK348.out 0).trans rfl; have hcz32_1 : w29.cell? ⟨gb348, 1, none⟩ = some (.int .i64 a1_1) := (blk_cell BK348.out 1).trans rfl; have hcz32_2 : w29.cell? ⟨gb348, 2, none⟩ = some (.int .i64 a1_2) := (blk_cell BK348.out 2).trans rfl; have hcz32_3 : w29.cell? ⟨gb348, 3, none⟩ = some (.int .i64 a1_3) := (blk_cell BK348.out 3).trans rfl; have hcz32_4 : w29.cell? ⟨gb348, 4, none⟩ = some (.int .i64 a1_4) := (blk_cell BK348.out 4).trans rfl; have hcz32_5 : w29.cell? ⟨gb348, 5, none⟩ = some (.int .i64 a1_5) := (blk_cell BK348.out 5).trans rfl; have hcz32_6 : w29.cell? ⟨gb348, 6, none⟩ = some (.int .i64 a1_6) := (blk_cell BK348.out 6).trans rfl; have hcz32_7 : w29.cell? ⟨gb348, 7, none⟩ = some (.int .i64 a1_7) := (blk_cell BK348.out 7).trans rfl; have hcz32_8 : w29.cell? ⟨gb348, 8, none⟩ = some (.int .i64 a1_8) := (blk_cell BK348.out 8).trans rfl; have hfz32_0 := blk_frozen BK348.out 0; have hfz32_1 := blk_frozen BK348.out 1; have hfz32_2 := blk_frozen BK348.out 2; have hfz32_3 := blk_frozen BK348.out 3; have hfz32_4 := blk_frozen BK348.out 4; have hfz32_5 := blk_frozen BK348.out 5; have hfz32_6 := blk_frozen BK348.out 6; have hfz32_7 := blk_frozen BK348.out 7; have hfz32_8 := blk_frozen BK348.out 8) | ((with_reducible refine gate_callee (f := 62) rfl ?_); refine goesL_ (some 29) rfl rfl Tryd.func62 (by kernel_rfl) rfl #[.agg #[.int .i64 a0_4, .int .i64 a0_5], .agg #[.int .i64 a1_4, .int .i64 a1_5]] rfl (by (try simp only [List.map_toArray, List.map_cons, List.map_nil]); first | done | rfl | (simp only [List.length_drop, List.length_take]; rfl)) ?_; (with_reducible refine (laws_eqRing.calls a0_4 a0_5 a1_4 a1_5 true _ A7.out).mono ?_); rintro e w33 ⟨rfl, hb⟩; refine ⟨_, rfl, ?_⟩; have n0_ := Aside0.mk (blk_below (g := gb347) (o := .cells #[.int .i64 a0_0, .int .i64 a0_1, .int .i64 a0_2, .int .i64 a0_3, .int .i64 a0_4, .int .i64 a0_5, .int .i64 a0_6, .int .i64 a0_7, .int .i64 a0_8] 41 (0, 0)) (by (with_reducible repeat (first | refine blk_drewN ?_ _ | refine blk_drew ?_ | refine blk_alloc ?_ _)); exact BK347.out) hb); have n1_ := Aside0.mk (blk_below (g := gb348) (o := .cells #[.int .i64 a1_0, .int .i64 a1_1, .int .i64 a1_2, .int .i64 a1_3, .int .i64 a1_4, .int .i64 a1_5, .int .i64 a1_6, .int .i64 a1_7, .int .i64 a1_8] 41 (0, 0)) (by (with_reducible repeat (first | refine blk_drewN ?_ _ | refine blk_drew ?_ | refine blk_alloc ?_ _)); exact BK348.out) hb); have n2_ := Aside0.mk (below_step (by repeat (first | (with_reducible first | exact HB.out | apply below_alloc | apply pw_below_drewN | apply below_drew1 | refine below_set ?_ GE347.out | refine below_set ?_ GE348.out) | exact HB.out)) hb); clear BK347; clear BK348; clear HB; have BK347 := n0_; have BK348 := n1_; have HB := n2_; clear n0_ n1_ n2_; (try clear hb); (try clear hb2); (try clear hk); (try clear hi); have hcz34_0 : w33.cell? ⟨gb347, 0, none⟩ = some (.int .i64 a0_0) := (blk_cell BK347.out 0).trans rfl; have hcz34_1 : w33.cell? ⟨gb347, 1, none⟩ = some (.int .i64 a0_1) := (blk_cell BK347.out 1).trans rfl; have hcz34_2 : w33.cell? ⟨gb347, 2, none⟩ = some (.int .i64 a0_2) := (blk_cell BK347.out 2).trans rfl; have hcz34_3 : w33.cell? ⟨gb347, 3, none⟩ = some (.int .i64 a0_3) := (blk_cell BK347.out 3).trans rfl; have hcz34_4 : w33.cell? ⟨gb347, 4, none⟩ = some (.int .i64 a0_4) := (blk_cell BK347.out 4).trans rfl; have hcz34_5 : w33.cell? ⟨gb347, 5, none⟩ = some (.int .i64 a0_5) := (blk_cell BK347.out 5).trans rfl; have hcz34_6 : w33.cell? ⟨gb347, 6, none⟩ = some (.int .i64 a0_6) := (blk_cell BK347.out 6).trans rfl; have hcz34_7 : w33.cell? ⟨gb347, 7, none⟩ = some (.int .i64 a0_7) := (blk_cell BK347.out 7).trans rfl; have hcz34_8 : w33.cell? ⟨gb347, 8, none⟩ = some (.int .i64 a0_8) := (blk_cell BK347.out 8).trans rfl; have hfz34_0 := blk_frozen BK347.out 0; have hfz34_1 := blk_frozen BK347.out 1; have hfz34_2 := blk_frozen BK347.out 2; have hfz34_3 := blk_frozen BK347.out 3; have hfz34_4 := blk_frozen BK347.out 4; have hfz34_5 := blk_frozen BK347.out 5; have hfz34_6 := blk_frozen BK347.out 6; have hfz34_7 := blk_frozen BK347.out 7; have hfz34_8 := blk_frozen BK347.out 8; have hcz35_0 : w33.cell? ⟨gb348, 0, none⟩ = some (.int .i64 a1_0) := (blk_cell BK348.out 0).trans rfl; have hcz35_1 : w33.cell? ⟨gb348, 1, none⟩ = some (.int .i64 a1_1) := (blk_cell BK348.out 1).trans rfl; have hcz35_2 : w33.cell? ⟨gb348, 2, none⟩ = some (.int .i64 a1_2) := (blk_cell BK348.out 2).trans rfl; have hcz35_3 : w33.cell? ⟨gb348, 3, none⟩ = some (.int .i64 a1_3) := (blk_cell BK348.out 3).trans rfl; have hcz35_4 : w33.cell? ⟨gb348, 4, none⟩ = some (.int .i64 a1_4) := (blk_cell BK348.out 4).trans rfl; have hcz35_5 : w33.cell? ⟨gb348, 5, none⟩ = some (.int .i64 a1_5) := (blk_cell BK348.out 5).trans rfl; have hcz35_6 : w33.cell? ⟨gb348, 6, none⟩ = some (.int .i64 a1_6) := (blk_cell BK348.out 6).trans rfl; have hcz35_7 : w33.cell? ⟨gb348, 7, none⟩ = some (.int .i64 a1_7) := (blk_cell BK348.out 7).trans rfl; have hcz35_8 : w33.cell? ⟨gb348, 8, none⟩ = some (.int .i64 a1_8) := (blk_cell BK348.out 8).trans rfl; have hfz35_0 := blk_frozen BK348.out 0; have hfz35_1 := blk_frozen BK348.out 1; have hfz35_2 := blk_frozen BK348.out 2; have hfz35_3 := blk_frozen BK348.out 3; have hfz35_4 := blk_frozen BK348.out 4; have hfz35_5 := blk_frozen BK348.out 5; have hfz35_6 := blk_frozen BK348.out 6; have hfz35_7 := blk_frozen BK348.out 7; have hfz35_8 := blk_frozen BK348.out 8))
                go_ret
                exact ⟨by first | rfl | (simp [errW_none, errW_some] <;> rfl) | (simp [*, errW_none, errW_some] <;> rfl), by repeat (first | (with_reducible first | exact HB.out | apply below_alloc | apply pw_below_drewN | apply below_drew1 | refine below_set ?_ GE347.out | refine below_set ?_ GE348.out) | exact HB.out)⟩
            · rw [if_neg c9] at H
              have c9b0 : (a0_6 == a1_6) = false := beq_eq_false_iff_ne.mpr c9
              have c9b1 : (a0_6 != a1_6) = true := bne_iff_ne.mpr c9
              obtain rfl := Option.some.inj H
              go_enter Tryd.func29, Tryd.ntmps29
              go_wp2_with (first | ((with_reducible refine gate_dst (N := 2) rfl ?_); refine box_event ?hg (N := 2) ?hd (cs := #[.int .i64 a0_0, .int .i64 a0_1, .int .i64 a0_2, .int .i64 a0_3, .int .i64 a0_4, .int .i64 a0_5, .int .i64 a0_6, .int .i64 a0_7, .int .i64 a0_8]) (t := 41) ?hr ?_; (case hd => rfl); (case hg => rfl); (case hr => first | (go_simp; done) | (go_simp; rfl)); intro gb347 hg w36 hbox hb; have n0_ := Aside0.mk (below_step (by repeat (first | (with_reducible first | exact HB.out | apply below_alloc | apply pw_below_drewN | apply below_drew1) | exact HB.out)) hb); have n1_ := Aside0.mk (hbox); have n2_ := Aside0.mk ((by rw [hg]; exact (below_size (by repeat (first | (with_reducible first | exact HB.out | apply below_alloc | apply pw_below_drewN | apply below_drew1) | exact HB.out))) : w.heap.size ≤ gb347)); have n3_ := Aside0.mk ((by rw [hg]; exact (below_size (by repeat (first | (with_reducible first | exact HB.out | apply below_alloc | apply pw_below_drewN | apply below_drew1) | exact HB.out))) : w.heap.size ≤ gb347)); clear HB; have HB := n0_; have BK347 := n1_; have GW347 := n2_; have GE347 := n3_; clear n0_ n1_ n2_ n3_; clear hb hbox hg) | ((with_reducible refine gate_dst (N := 3) rfl ?_); refine box_event ?hg (N := 3) ?hd (cs := #[.int .i64 a1_0, .int .i64 a1_1, .int .i64 a1_2, .int .i64 a1_3, .int .i64 a1_4, .int .i64 a1_5, .int .i64 a1_6, .int .i64 a1_7, .int .i64 a1_8]) (t := 41) ?hr ?_; (case hd => rfl); (case hg => rfl); (case hr => first | (go_simp; done) | (go_simp; rfl)); intro gb348 hg w37 hbox hb; have n0_ := Aside0.mk (blk_below (g := gb347) (o := .cells #[.int .i64 a0_0, .int .i64 a0_1, .int .i64 a0_2, .int .i64 a0_3, .int .i64 a0_4, .int .i64 a0_5, .int .i64 a0_6, .int .i64 a0_7, .int .i64 a0_8] 41 (0, 0)) (by (with_reducible repeat (first | refine blk_drewN ?_ _ | refine blk_drew ?_ | refine blk_alloc ?_ _)); exact BK347.out) hb); have n1_ := Aside0.mk (below_step (by repeat (first | (with_reducible first | exact HB.out | apply below_alloc | apply pw_below_drewN | apply below_drew1 | refine below_set ?_ GE347.out) | exact HB.out)) hb); have n2_ := Aside0.mk (hbox); have n3_ := Aside0.mk ((by rw [hg]; exact (below_size (by repeat (first | (with_reducible first | exact HB.out | apply below_alloc | apply pw_below_drewN | apply below_drew1 | refine below_set ?_ GE347.out) | exact HB.out))) : w.heap.size ≤ gb348)); have n4_ := Aside0.mk ((by rw [hg]; exact (below_size (by repeat (first | (with_reducible first | exact HB.out | apply below_alloc | apply pw_below_drewN | apply below_drew1 | refine below_set ?_ GE347.out) | exact HB.out))) : w.heap.size ≤ gb348)); have n5_ := Aside0.mk ((by rw [hg]; exact Nat.ne_of_lt (blk_lt (g := gb347) (o := .cells #[.int .i64 a0_0, .int .i64 a0_1, .int .i64 a0_2, .int .i64 a0_3, .int .i64 a0_4, .int .i64 a0_5, .int .i64 a0_6, .int .i64 a0_7, .int .i64 a0_8] 41 (0, 0)) (by (with_reducible repeat (first | refine blk_drewN ?_ _ | refine blk_drew ?_ | refine blk_alloc ?_ _)); exact BK347.out)) : gb347 ≠ gb348)); have n6_ := Aside0.mk ((by rw [hg]; exact Nat.ne_of_gt (blk_lt (g := gb347) (o := .cells #[.int .i64 a0_0, .int .i64 a0_1, .int .i64 a0_2, .int .i64 a0_3, .int .i64 a0_4, .int .i64 a0_5, .int .i64 a0_6, .int .i64 a0_7, .int .i64 a0_8] 41 (0, 0)) (by (with_reducible repeat (first | refine blk_drewN ?_ _ | refine blk_drew ?_ | refine blk_alloc ?_ _)); exact BK347.out)) : gb348 ≠ gb347)); clear BK347; clear HB; have BK347 := n0_; have HB := n1_; have BK348 := n2_; have GW348 := n3_; have GE348 := n4_; have NB347_348 := n5_; have NB348_347 := n6_; clear n0_ n1_ n2_ n3_ n4_ n5_ n6_; clear hb hbox hg; have hnb38 := NB347_348.out; have hnc38 := NB348_347.out; have hcz39_0 : w37.cell? ⟨gb347, 0, none⟩ = some (.int .i64 a0_0) := (blk_cell BK347.out 0).trans rfl; have hcz39_1 : w37.cell? ⟨gb347, 1, none⟩ = some (.int .i64 a0_1) := (blk_cell BK347.out 1).trans rfl; have hcz39_2 : w37.cell? ⟨gb347, 2, none⟩ = some (.int .i64 a0_2) := (blk_cell BK347.out 2).trans rfl; have hcz39_3 : w37.cell? ⟨gb347, 3, none⟩ = some (.int .i64 a0_3) := (blk_cell BK347.out 3).trans rfl; have hcz39_4 : w37.cell? ⟨gb347, 4, none⟩ = some (.int .i64 a0_4) := (blk_cell BK347.out 4).trans rfl; have hcz39_5 : w37.cell? ⟨gb347, 5, none⟩ = some (.int .i64 a0_5) := (blk_cell BK347.out 5).trans rfl; have hcz39_6 : w37.cell? ⟨gb347, 6, none⟩ = some (.int .i64 a0_6) := (blk_cell BK347.out 6).trans rfl; have hcz39_7 : w37.cell? ⟨gb347, 7, none⟩ = some (.int .i64 a0_7) := (blk_cell BK347.out 7).trans rfl; have hcz39_8 : w37.cell? ⟨gb347, 8, none⟩ = some (.int .i64 a0_8) := (blk_cell BK347.out 8).trans rfl; have hfz39_0 := blk_frozen BK347.out 0; have hfz39_1 := blk_frozen BK347.out 1; have hfz39_2 := blk_frozen BK347.out 2; have hfz39_3 := blk_frozen BK347.out 3; have hfz39_4 := blk_frozen BK347.out 4; have hfz39_5 := blk_frozen BK347.out 5; have hfz39_6 := blk_frozen BK347.out 6; have hfz39_7 := blk_frozen BK347.out 7; have hfz39_8 := blk_frozen BK347.out 8; have hcz40_0 : w37.cell? ⟨gb348, 0, none⟩ = some (.int .i64 a1_0) := (blk_cell BK348.out 0).trans rfl; have hcz40_1 : w37.cell? ⟨gb348, 1, none⟩ = some (.int .i64 a1_1) := (blk_cell BK348.out 1).trans rfl; have hcz40_2 : w37.cell? ⟨gb348, 2, none⟩ = some (.int .i64 a1_2) := (blk_cell BK348.out 2).trans rfl; have hcz40_3 : w37.cell? ⟨gb348, 3, none⟩ = some (.int .i64 a1_3) := (blk_cell BK348.out 3).trans rfl; have hcz40_4 : w37.cell? ⟨gb348, 4, none⟩ = some (.int .i64 a1_4) := (blk_cell BK348.out 4).trans rfl; have hcz40_5 : w37.cell? ⟨gb348, 5, none⟩ = some (.int .i64 a1_5) := (blk_cell BK348.out 5).trans rfl; have hcz40_6 : w37.cell? ⟨gb348, 6, none⟩ = some (.int .i64 a1_6) := (blk_cell BK348.out 6).trans rfl; have hcz40_7 : w37.cell? ⟨gb348, 7, none⟩ = some (.int .i64 a1_7) := (blk_cell BK348.out 7).trans rfl; have hcz40_8 : w37.cell? ⟨gb348, 8, none⟩ = some (.int .i64 a1_8) := (blk_cell BK348.out 8).trans rfl; have hfz40_0 := blk_frozen BK348.out 0; have hfz40_1 := blk_frozen BK348.out 1; have hfz40_2 := blk_frozen BK348.out 2; have hfz40_3 := blk_frozen BK348.out 3; have hfz40_4 := blk_frozen BK348.out 4; have hfz40_5 := blk_frozen BK348.out 5; have hfz40_6 := blk_frozen BK348.out 6; have hfz40_7 := blk_frozen BK348.out 7; have hfz40_8 := blk_frozen BK348.out 8) | ((with_reducible refine gate_callee (f := 62) rfl ?_); refine goesL_ (some 29) rfl rfl Tryd.func62 (by kernel_rfl) rfl #[.agg #[.int .i64 a0_4, .int .i64 a0_5], .agg #[.int .i64 a1_4, .int .i64 a1_5]] rfl (by (try simp only [List.map_toArray, List.map_cons, List.map_nil]); first | done | rfl | (simp only [List.length_drop, List.length_take]; rfl)) ?_; (with_reducible refine (laws_eqRing.calls a0_4 a0_5 a1_4 a1_5 true _ A7.out).mono ?_); rintro e w41 ⟨rfl, hb⟩; refine ⟨_, rfl, ?_⟩; have n0_ := Aside0.mk (blk_below (g := gb347) (o := .cells #[.int .i64 a0_0, .int .i64 a0_1, .int .i64 a0_2, .int .i64 a0_3, .int .i64 a0_4, .int .i64 a0_5, .int .i64 a0_6, .int .i64 a0_7, .int .i64 a0_8] 41 (0, 0)) (by (with_reducible repeat (first | refine blk_drewN ?_ _ | refine blk_drew ?_ | refine blk_alloc ?_ _)); exact BK347.out) hb); have n1_ := Aside0.mk (blk_below (g := gb348) (o := .cells #[.int .i64 a1_0, .int .i64 a1_1, .int .i64 a1_2, .int .i64 a1_3, .int .i64 a1_4, .int .i64 a1_5, .int .i64 a1_6, .int .i64 a1_7, .int .i64 a1_8] 41 (0, 0)) (by (with_reducible repeat (first | refine blk_drewN ?_ _ | refine blk_drew ?_ | refine blk_alloc ?_ _)); exact BK348.out) hb); have n2_ := Aside0.mk (below_step (by repeat (first | (with_reducible first | exact HB.out | apply below_alloc | apply pw_below_drewN | apply below_drew1 | refine below_set ?_ GE347.out | refine below_set ?_ GE348.out) | exact HB.out)) hb); clear BK347; clear BK348; clear HB; have BK347 := n0_; have BK348 := n1_; have HB := n2_; clear n0_ n1_ n2_; (try clear hb); (try clear hb2); (try clear hk); (try clear hi); have hcz42_0 : w41.cell? ⟨gb347, 0, none⟩ = some (.int .i64 a0_0) := (blk_cell BK347.out 0).trans rfl; have hcz42_1 : w41.cell? ⟨gb347, 1, none⟩ = some (.int .i64 a0_1) := (blk_cell BK347.out 1).trans rfl; have hcz42_2 : w41.cell? ⟨gb347, 2, none⟩ = some (.int .i64 a0_2) := (blk_cell BK347.out 2).trans rfl; have hcz42_3 : w41.cell? ⟨gb347, 3, none⟩ = some (.int .i64 a0_3) := (blk_cell BK347.out 3).trans rfl; have hcz42_4 : w41.cell? ⟨gb347, 4, none⟩ = some (.int .i64 a0_4) := (blk_cell BK347.out 4).trans rfl; have hcz42_5 : w41.cell? ⟨gb347, 5, none⟩ = some (.int .i64 a0_5) := (blk_cell BK347.out 5).trans rfl; have hcz42_6 : w41.cell? ⟨gb347, 6, none⟩ = some (.int .i64 a0_6) := (blk_cell BK347.out 6).trans rfl; have hcz42_7 : w41.cell? ⟨gb347, 7, none⟩ = some (.int .i64 a0_7) := (blk_cell BK347.out 7).trans rfl; have hcz42_8 : w41.cell? ⟨gb347, 8, none⟩ = some (.int .i64 a0_8) := (blk_cell BK347.out 8).trans rfl; have hfz42_0 := blk_frozen BK347.out 0; have hfz42_1 := blk_frozen BK347.out 1; have hfz42_2 := blk_frozen BK347.out 2; have hfz42_3 := blk_frozen BK347.out 3; have hfz42_4 := blk_frozen BK347.out 4; have hfz42_5 := blk_frozen BK347.out 5; have hfz42_6 := blk_frozen BK347.out 6; have hfz42_7 := blk_frozen BK347.out 7; have hfz42_8 := blk_frozen BK347.out 8; have hcz43_0 : w41.cell? ⟨gb348, 0, none⟩ = some (.int .i64 a1_0) := (blk_cell BK348.out 0).trans rfl; have hcz43_1 : w41.cell? ⟨gb348, 1, none⟩ = some (.int .i64 a1_1) := (blk_cell BK348.out 1).trans rfl; have hcz43_2 : w41.cell? ⟨gb348, 2, none⟩ = some (.int .i64 a1_2) := (blk_cell BK348.out 2).trans rfl; have hcz43_3 : w41.cell? ⟨gb348, 3, none⟩ = some (.int .i64 a1_3) := (blk_cell BK348.out 3).trans rfl; have hcz43_4 : w41.cell? ⟨gb348, 4, none⟩ = some (.int .i64 a1_4) := (blk_cell BK348.out 4).trans rfl; have hcz43_5 : w41.cell? ⟨gb348, 5, none⟩ = some (.int .i64 a1_5) := (blk_cell BK348.out 5).trans rfl; have hcz43_6 : w41.cell? ⟨gb348, 6, none⟩ = some (.int .i64 a1_6) := (blk_cell BK348.out 6).trans rfl; have hcz43_7 : w41.cell? ⟨gb348, 7, none⟩ = some (.int .i64 a1_7) := (blk_cell BK348.out 7).trans rfl; have hcz43_8 : w41.cell? ⟨gb348, 8, none⟩ = some (.int .i64 a1_8) := (blk_cell BK348.out 8).trans rfl; have hfz43_0 := blk_frozen BK348.out 0; have hfz43_1 := blk_frozen BK348.out 1; have hfz43_2 := blk_frozen BK348.out 2; have hfz43_3 := blk_frozen BK348.out 3; have hfz43_4 := blk_frozen BK348.out 4; have hfz43_5 := blk_frozen BK348.out 5; have hfz43_6 := blk_frozen BK348.out 6; have hfz43_7 := blk_frozen BK348.out 7; have hfz43_8 := blk_frozen BK348.out 8))
              go_ret
              exact ⟨by first | rfl | (simp [errW_none, errW_some] <;> rfl) | (simp [*, errW_none, errW_some] <;> rfl), by repeat (first | (with_reducible first | exact HB.out | apply below_alloc | apply pw_below_drewN | apply below_drew1 | refine below_set ?_ GE347.out | refine below_set ?_ GE348.out) | exact HB.out)⟩
          · replace c8 := Bool.eq_false_iff.mpr c8
            subst c8
            have H1 : (some false) = some r := by rw [if_neg (show ¬ (false = true) by decide)] at H; exact H
            clear H
            have H := H1
            clear H1
            obtain rfl := Option.some.inj H
            go_enter Tryd.func29, Tryd.ntmps29
            go_wp2_with (first | ((with_reducible refine gate_dst (N := 2) rfl ?_); refine box_event ?hg (N := 2) ?hd (cs := #[.int .i64 a0_0, .int .i64 a0_1, .int .i64 a0_2, .int .i64 a0_3, .int .i64 a0_4, .int .i64 a0_5, .int .i64 a0_6, .int .i64 a0_7, .int .i64 a0_8]) (t := 41) ?hr ?_; (case hd => rfl); (case hg => rfl); (case hr => first | (go_simp; done) | (go_simp; rfl)); intro gb347 hg w44 hbox hb; have n0_ := Aside0.mk (below_step (by repeat (first | (with_reducible first | exact HB.out | apply below_alloc | apply pw_below_drewN | apply below_drew1) | exact HB.out)) hb); have n1_ := Aside0.mk (hbox); have n2_ := Aside0.mk ((by rw [hg]; exact (below_size (by repeat (first | (with_reducible first | exact HB.out | apply below_alloc | apply pw_below_drewN | apply below_drew1) | exact HB.out))) : w.heap.size ≤ gb347)); have n3_ := Aside0.mk ((by rw [hg]; exact (below_size (by repeat (first | (with_reducible first | exact HB.out | apply below_alloc | apply pw_below_drewN | apply below_drew1) | exact HB.out))) : w.heap.size ≤ gb347)); clear HB; have HB := n0_; have BK347 := n1_; have GW347 := n2_; have GE347 := n3_; clear n0_ n1_ n2_ n3_; clear hb hbox hg) | ((with_reducible refine gate_dst (N := 3) rfl ?_); refine box_event ?hg (N := 3) ?hd (cs := #[.int .i64 a1_0, .int .i64 a1_1, .int .i64 a1_2, .int .i64 a1_3, .int .i64 a1_4, .int .i64 a1_5, .int .i64 a1_6, .int .i64 a1_7, .int .i64 a1_8]) (t := 41) ?hr ?_; (case hd => rfl); (case hg => rfl); (case hr => first | (go_simp; done) | (go_simp; rfl)); intro gb348 hg w45 hbox hb; have n0_ := Aside0.mk (blk_below (g := gb347) (o := .cells #[.int .i64 a0_0, .int .i64 a0_1, .int .i64 a0_2, .int .i64 a0_3, .int .i64 a0_4, .int .i64 a0_5, .int .i64 a0_6, .int .i64 a0_7, .int .i64 a0_8] 41 (0, 0)) (by (with_reducible repeat (first | refine blk_drewN ?_ _ | refine blk_drew ?_ | refine blk_alloc ?_ _)); exact BK347.out) hb); have n1_ := Aside0.mk (below_step (by repeat (first | (with_reducible first | exact HB.out | apply below_alloc | apply pw_below_drewN | apply below_drew1 | refine below_set ?_ GE347.out) | exact HB.out)) hb); have n2_ := Aside0.mk (hbox); have n3_ := Aside0.mk ((by rw [hg]; exact (below_size (by repeat (first | (with_reducible first | exact HB.out | apply below_alloc | apply pw_below_drewN | apply below_drew1 | refine below_set ?_ GE347.out) | exact HB.out))) : w.heap.size ≤ gb348)); have n4_ := Aside0.mk ((by rw [hg]; exact (below_size (by repeat (first | (with_reducible first | exact HB.out | apply below_alloc | apply pw_below_drewN | apply below_drew1 | refine below_set ?_ GE347.out) | exact HB.out))) : w.heap.size ≤ gb348)); have n5_ := Aside0.mk ((by rw [hg]; exact Nat.ne_of_lt (blk_lt (g := gb347) (o := .cells #[.int .i64 a0_0, .int .i64 a0_1, .int .i64 a0_2, .int .i64 a0_3, .int .i64 a0_4, .int .i64 a0_5, .int .i64 a0_6, .int .i64 a0_7, .int .i64 a0_8] 41 (0, 0)) (by (with_reducible repeat (first | refine blk_drewN ?_ _ | refine blk_drew ?_ | refine blk_alloc ?_ _)); exact BK347.out)) : gb347 ≠ gb348)); have n6_ := Aside0.mk ((by rw [hg]; exact Nat.ne_of_gt (blk_lt (g := gb347) (o := .cells #[.int .i64 a0_0, .int .i64 a0_1, .int .i64 a0_2, .int .i64 a0_3, .int .i64 a0_4, .int .i64 a0_5, .int .i64 a0_6, .int .i64 a0_7, .int .i64 a0_8] 41 (0, 0)) (by (with_reducible repeat (first | refine blk_drewN ?_ _ | refine blk_drew ?_ | refine blk_alloc ?_ _)); exact BK347.out)) : gb348 ≠ gb347)); clear BK347; clear HB; have BK347 := n0_; have HB := n1_; have BK348 := n2_; have GW348 := n3_; have GE348 := n4_; have NB347_348 := n5_; have NB348_347 := n6_; clear n0_ n1_ n2_ n3_ n4_ n5_ n6_; clear hb hbox hg; have hnb46 := NB347_348.out; have hnc46 := NB348_347.out; have hcz47_0 : w45.cell? ⟨gb347, 0, none⟩ = some (.int .i64 a0_0) := (blk_cell BK347.out 0).trans rfl; have hcz47_1 : w45.cell? ⟨gb347, 1, none⟩ = some (.int .i64 a0_1) := (blk_cell BK347.out 1).trans rfl; have hcz47_2 : w45.cell? ⟨gb347, 2, none⟩ = some (.int .i64 a0_2) := (blk_cell BK347.out 2).trans rfl; have hcz47_3 : w45.cell? ⟨gb347, 3, none⟩ = some (.int .i64 a0_3) := (blk_cell BK347.out 3).trans rfl; have hcz47_4 : w45.cell? ⟨gb347, 4, none⟩ = some (.int .i64 a0_4) := (blk_cell BK347.out 4).trans rfl; have hcz47_5 : w45.cell? ⟨gb347, 5, none⟩ = some (.int .i64 a0_5) := (blk_cell BK347.out 5).trans rfl; have hcz47_6 : w45.cell? ⟨gb347, 6, none⟩ = some (.int .i64 a0_6) := (blk_cell BK347.out 6).trans rfl; have hcz47_7 : w45.cell? ⟨gb347, 7, none⟩ = some (.int .i64 a0_7) := (blk_cell BK347.out 7).trans rfl; have hcz47_8 : w45.cell? ⟨gb347, 8, none⟩ = some (.int .i64 a0_8) := (blk_cell BK347.out 8).trans rfl; have hfz47_0 := blk_frozen BK347.out 0; have hfz47_1 := blk_frozen BK347.out 1; have hfz47_2 := blk_frozen BK347.out 2; have hfz47_3 := blk_frozen BK347.out 3; have hfz47_4 := blk_frozen BK347.out 4; have hfz47_5 := blk_frozen BK347.out 5; have hfz47_6 := blk_frozen BK347.out 6; have hfz47_7 := blk_frozen BK347.out 7; have hfz47_8 := blk_frozen BK347.out 8; have hcz48_0 : w45.cell? ⟨gb348, 0, none⟩ = some (.int .i64 a1_0) := (blk_cell BK348.out 0).trans rfl; have hcz48_1 : w45.cell? ⟨gb348, 1, none⟩ = some (.int .i64 a1_1) := (blk_cell BK348.out 1).trans rfl; have hcz48_2 : w45.cell? ⟨gb348, 2, none⟩ = some (.int .i64 a1_2) := (blk_cell BK348.out 2).trans rfl; have hcz48_3 : w45.cell? ⟨gb348, 3, none⟩ = some (.int .i64 a1_3) := (blk_cell BK348.out 3).trans rfl; have hcz48_4 : w45.cell? ⟨gb348, 4, none⟩ = some (.int .i64 a1_4) := (blk_cell BK348.out 4).trans rfl; have hcz48_5 : w45.cell? ⟨gb348, 5, none⟩ = some (.int .i64 a1_5) := (blk_cell BK348.out 5).trans rfl; have hcz48_6 : w45.cell? ⟨gb348, 6, none⟩ = some (.int .i64 a1_6) := (blk_cell BK348.out 6).trans rfl; have hcz48_7 : w45.cell? ⟨gb348, 7, none⟩ = some (.int .i64 a1_7) := (blk_cell BK348.out 7).trans rfl; have hcz48_8 : w45.cell? ⟨gb348, 8, none⟩ = some (.int .i64 a1_8) := (blk_cell BK348.out 8).trans rfl; have hfz48_0 := blk_frozen BK348.out 0; have hfz48_1 := blk_frozen BK348.out 1; have hfz48_2 := blk_frozen BK348.out 2; have hfz48_3 := blk_frozen BK348.out 3; have hfz48_4 := blk_frozen BK348.out 4; have hfz48_5 := blk_frozen BK348.out 5; have hfz48_6 := blk_frozen BK348.out 6; have hfz48_7 := blk_frozen BK348.out 7; have hfz48_8 := blk_frozen BK348.out 8) | ((with_reducible refine gate_callee (f := 62) rfl ?_); refine goesL_ (some 29) rfl rfl Tryd.func62 (by kernel_rfl) rfl #[.agg #[.int .i64 a0_4, .int .i64 a0_5], .agg #[.int .i64 a1_4, .int .i64 a1_5]] rfl (by (try simp only [List.map_toArray, List.map_cons, List.map_nil]); first | done | rfl | (simp only [List.length_drop, List.length_take]; rfl)) ?_; (with_reducible refine (laws_eqRing.calls a0_4 a0_5 a1_4 a1_5 false _ A7.out).mono ?_); rintro e w49 ⟨rfl, hb⟩; refine ⟨_, rfl, ?_⟩; have n0_ := Aside0.mk (blk_below (g := gb347) (o := .cells #[.int .i64 a0_0, .int .i64 a0_1, .int .i64 a0_2, .int .i64 a0_3, .int .i64 a0_4, .int .i64 a0_5, .int .i64 a0_6, .int .i64 a0_7, .int .i64 a0_8] 41 (0, 0)) (by (with_reducible repeat (first | refine blk_drewN ?_ _ | refine blk_drew ?_ | refine blk_alloc ?_ _)); exact BK347.out) hb); have n1_ := Aside0.mk (blk_below (g := gb348) (o := .cells #[.int .i64 a1_0, .int .i64 a1_1, .int .i64 a1_2, .int .i64 a1_3, .int .i64 a1_4, .int .i64 a1_5, .int .i64 a1_6, .int .i64 a1_7, .int .i64 a1_8] 41 (0, 0)) (by (with_reducible repeat (first | refine blk_drewN ?_ _ | refine blk_drew ?_ | refine blk_alloc ?_ _)); exact BK348.out) hb); have n2_ := Aside0.mk (below_step (by repeat (first | (with_reducible first | exact HB.out | apply below_alloc | apply pw_below_drewN | apply below_drew1 | refine below_set ?_ GE347.out | refine below_set ?_ GE348.out) | exact HB.out)) hb); clear BK347; clear BK348; clear HB; have BK347 := n0_; have BK348 := n1_; have HB := n2_; clear n0_ n1_ n2_; (try clear hb); (try clear hb2); (try clear hk); (try clear hi)))
            go_ret
            exact ⟨by first | rfl | (simp [errW_none, errW_some] <;> rfl) | (simp [*, errW_none, errW_some] <;> rfl), by repeat (first | (with_reducible first | exact HB.out | apply below_alloc | apply pw_below_drewN | apply below_drew1 | refine below_set ?_ GE347.out | refine below_set ?_ GE348.out) | exact HB.out)⟩
        · rw [if_neg c6] at H
          have c6b0 : (a0_3 == a1_3) = false := beq_eq_false_iff_ne.mpr c6
          have c6b1 : (a0_3 != a1_3) = true := bne_iff_ne.mpr c6
          obtain rfl := Option.some.inj H
          go_enter Tryd.func29, Tryd.ntmps29
          go_wp2_with (first | ((with_reducible refine gate_dst (N := 2) rfl ?_); refine box_event ?hg (N := 2) ?hd (cs := #[.int .i64 a0_0, .int .i64 a0_1, .int .i64 a0_2, .int .i64 a0_3, .int .i64 a0_4, .int .i64 a0_5, .int .i64 a0_6, .int .i64 a0_7, .int .i64 a0_8]) (t := 41) ?hr ?_; (case hd => rfl); (case hg => rfl); (case hr => first | (go_simp; done) | (go_simp; rfl)); intro gb347 hg w50 hbox hb; have n0_ := Aside0.mk (below_step (by repeat (first | (with_reducible first | exact HB.out | apply below_alloc | apply pw_below_drewN | apply below_drew1) | exact HB.out)) hb); have n1_ := Aside0.mk (hbox); have n2_ := Aside0.mk ((by rw [hg]; exact (below_size (by repeat (first | (with_reducible first | exact HB.out | apply below_alloc | apply pw_below_drewN | apply below_drew1) | exact HB.out))) : w.heap.size ≤ gb347)); have n3_ := Aside0.mk ((by rw [hg]; exact (below_size (by repeat (first | (with_reducible first | exact HB.out | apply below_alloc | apply pw_below_drewN | apply below_drew1) | exact HB.out))) : w.heap.size ≤ gb347)); clear HB; have HB := n0_; have BK347 := n1_; have GW347 := n2_; have GE347 := n3_; clear n0_ n1_ n2_ n3_; clear hb hbox hg) | ((with_reducible refine gate_dst (N := 3) rfl ?_); refine box_event ?hg (N := 3) ?hd (cs := #[.int .i64 a1_0, .int .i64 a1_1, .int .i64 a1_2, .int .i64 a1_3, .int .i64 a1_4, .int .i64 a1_5, .int .i64 a1_6, .int .i64 a1_7, .int .i64 a1_8]) (t := 41) ?hr ?_; (case hd => rfl); (case hg => rfl); (case hr => first | (go_simp; done) | (go_simp; rfl)); intro gb348 hg w51 hbox hb; have n0_ := Aside0.mk (blk_below (g := gb347) (o := .cells #[.int .i64 a0_0, .int .i64 a0_1, .int .i64 a0_2, .int .i64 a0_3, .int .i64 a0_4, .int .i64 a0_5, .int .i64 a0_6, .int .i64 a0_7, .int .i64 a0_8] 41 (0, 0)) (by (with_reducible repeat (first | refine blk_drewN ?_ _ | refine blk_drew ?_ | refine blk_alloc ?_ _)); exact BK347.out) hb); have n1_ := Aside0.mk (below_step (by repeat (first | (with_reducible first | exact HB.out | apply below_alloc | apply pw_below_drewN | apply below_drew1 | refine below_set ?_ GE347.out) | exact HB.out)) hb); have n2_ := Aside0.mk (hbox); have n3_ := Aside0.mk ((by rw [hg]; exact (below_size (by repeat (first | (with_reducible first | exact HB.out | apply below_alloc | apply pw_below_drewN | apply below_drew1 | refine below_set ?_ GE347.out) | exact HB.out))) : w.heap.size ≤ gb348)); have n4_ := Aside0.mk ((by rw [hg]; exact (below_size (by repeat (first | (with_reducible first | exact HB.out | apply below_alloc | apply pw_below_drewN | apply below_drew1 | refine below_set ?_ GE347.out) | exact HB.out))) : w.heap.size ≤ gb348)); have n5_ := Aside0.mk ((by rw [hg]; exact Nat.ne_of_lt (blk_lt (g := gb347) (o := .cells #[.int .i64 a0_0, .int .i64 a0_1, .int .i64 a0_2, .int .i64 a0_3, .int .i64 a0_4, .int .i64 a0_5, .int .i64 a0_6, .int .i64 a0_7, .int .i64 a0_8] 41 (0, 0)) (by (with_reducible repeat (first | refine blk_drewN ?_ _ | refine blk_drew ?_ | refine blk_alloc ?_ _)); exact BK347.out)) : gb347 ≠ gb348)); have n6_ := Aside0.mk ((by rw [hg]; exact Nat.ne_of_gt (blk_lt (g := gb347) (o := .cells #[.int .i64 a0_0, .int .i64 a0_1, .int .i64 a0_2, .int .i64 a0_3, .int .i64 a0_4, .int .i64 a0_5, .int .i64 a0_6, .int .i64 a0_7, .int .i64 a0_8] 41 (0, 0)) (by (with_reducible repeat (first | refine blk_drewN ?_ _ | refine blk_drew ?_ | refine blk_alloc ?_ _)); exact BK347.out)) : gb348 ≠ gb347)); clear BK347; clear HB; have BK347 := n0_; have HB := n1_; have BK348 := n2_; have GW348 := n3_; have GE348 := n4_; have NB347_348 := n5_; have NB348_347 := n6_; clear n0_ n1_ n2_ n3_ n4_ n5_ n6_; clear hb hbox hg; have hnb52 := NB347_348.out; have hnc52 := NB348_347.out; have hcz53_0 : w51.cell? ⟨gb347, 0, none⟩ = some (.int .i64 a0_0) := (blk_cell BK347.out 0).trans rfl; have hcz53_1 : w51.cell? ⟨gb347, 1, none⟩ = some (.int .i64 a0_1) := (blk_cell BK347.out 1).trans rfl; have hcz53_2 : w51.cell? ⟨gb347, 2, none⟩ = some (.int .i64 a0_2) := (blk_cell BK347.out 2).trans rfl; have hcz53_3 : w51.cell? ⟨gb347, 3, none⟩ = some (.int .i64 a0_3) := (blk_cell BK347.out 3).trans rfl; have hcz53_4 : w51.cell? ⟨gb347, 4, none⟩ = some (.int .i64 a0_4) := (blk_cell BK347.out 4).trans rfl; have hcz53_5 : w51.cell? ⟨gb347, 5, none⟩ = some (.int .i64 a0_5) := (blk_cell BK347.out 5).trans rfl; have hcz53_6 : w51.cell? ⟨gb347, 6, none⟩ = some (.int .i64 a0_6) := (blk_cell BK347.out 6).trans rfl; have hcz53_7 : w51.cell? ⟨gb347, 7, none⟩ = some (.int .i64 a0_7) := (blk_cell BK347.out 7).trans rfl; have hcz53_8 : w51.cell? ⟨gb347, 8, none⟩ = some (.int .i64 a0_8) := (blk_cell BK347.out 8).trans rfl; have hfz53_0 := blk_frozen BK347.out 0; have hfz53_1 := blk_frozen BK347.out 1; have hfz53_2 := blk_frozen BK347.out 2; have hfz53_3 := blk_frozen BK347.out 3; have hfz53_4 := blk_frozen BK347.out 4; have hfz53_5 := blk_frozen BK347.out 5; have hfz53_6 := blk_frozen BK347.out 6; have hfz53_7 := blk_frozen BK347.out 7; have hfz53_8 := blk_frozen BK347.out 8; have hcz54_0 : w51.cell? ⟨gb348, 0, none⟩ = some (.int .i64 a1_0) := (blk_cell BK348.out 0).trans rfl; have hcz54_1 : w51.cell? ⟨gb348, 1, none⟩ = some (.int .i64 a1_1) := (blk_cell BK348.out 1).trans rfl; have hcz54_2 : w51.cell? ⟨gb348, 2, none⟩ = some (.int .i64 a1_2) := (blk_cell BK348.out 2).trans rfl; have hcz54_3 : w51.cell? ⟨gb348, 3, none⟩ = some (.int .i64 a1_3) := (blk_cell BK348.out 3).trans rfl; have hcz54_4 : w51.cell? ⟨gb348, 4, none⟩ = some (.int .i64 a1_4) := (blk_cell BK348.out 4).trans rfl; have hcz54_5 : w51.cell? ⟨gb348, 5, none⟩ = some (.int .i64 a1_5) := (blk_cell BK348.out 5).trans rfl; have hcz54_6 : w51.cell? ⟨gb348, 6, none⟩ = some (.int .i64 a1_6) := (blk_cell BK348.out 6).trans rfl; have hcz54_7 : w51.cell? ⟨gb348, 7, none⟩ = some (.int .i64 a1_7) := (blk_cell BK348.out 7).trans rfl; have hcz54_8 : w51.cell? ⟨gb348, 8, none⟩ = some (.int .i64 a1_8) := (blk_cell BK348.out 8).trans rfl; have hfz54_0 := blk_frozen BK348.out 0; have hfz54_1 := blk_frozen BK348.out 1; have hfz54_2 := blk_frozen BK348.out 2; have hfz54_3 := blk_frozen BK348.out 3; have hfz54_4 := blk_frozen BK348.out 4; have hfz54_5 := blk_frozen BK348.out 5; have hfz54_6 := blk_frozen BK348.out 6; have hfz54_7 := blk_frozen BK348.out 7; have hfz54_8 := blk_frozen BK348.out 8))
          go_ret
          exact ⟨by first | rfl | (simp [errW_none, errW_some] <;> rfl) | (simp [*, errW_none, errW_some] <;> rfl), by repeat (first | (with_reducible first | exact HB.out | apply below_alloc | apply pw_below_drewN | apply below_drew1 | refine below_set ?_ GE347.out | refine below_set ?_ GE348.out) | exact HB.out)⟩
      · rw [if_neg c5] at H
        have c5b0 : (a0_2 == a1_2) = false := beq_eq_false_iff_ne.mpr c5
        have c5b1 : (a0_2 != a1_2) = true := bne_iff_ne.mpr c5
        obtain rfl := Option.some.inj H
        go_enter Tryd.func29, Tryd.ntmps29
        go_wp2_with (first | ((with_reducible refine gate_dst (N := 2) rfl ?_); refine box_event ?hg (N := 2) ?hd (cs := #[.int .i64 a0_0, .int .i64 a0_1, .int .i64 a0_2, .int .i64 a0_3, .int .i64 a0_4, .int .i64 a0_5, .int .i64 a0_6, .int .i64 a0_7, .int .i64 a0_8]) (t := 41) ?hr ?_; (case hd => rfl); (case hg => rfl); (case hr => first | (go_simp; done) | (go_simp; rfl)); intro gb347 hg w55 hbox hb; have n0_ := Aside0.mk (below_step (by repeat (first | (with_reducible first | exact HB.out | apply below_alloc | apply pw_below_drewN | apply below_drew1) | exact HB.out)) hb); have n1_ := Aside0.mk (hbox); have n2_ := Aside0.mk ((by rw [hg]; exact (below_size (by repeat (first | (with_reducible first | exact HB.out | apply below_alloc | apply pw_below_drewN | apply below_drew1) | exact HB.out))) : w.heap.size ≤ gb347)); have n3_ := Aside0.mk ((by rw [hg]; exact (below_size (by repeat (first | (with_reducible first | exact HB.out | apply below_alloc | apply pw_below_drewN | apply below_drew1) | exact HB.out))) : w.heap.size ≤ gb347)); clear HB; have HB := n0_; have BK347 := n1_; have GW347 := n2_; have GE347 := n3_; clear n0_ n1_ n2_ n3_; clear hb hbox hg) | ((with_reducible refine gate_dst (N := 3) rfl ?_); refine box_event ?hg (N := 3) ?hd (cs := #[.int .i64 a1_0, .int .i64 a1_1, .int .i64 a1_2, .int .i64 a1_3, .int .i64 a1_4, .int .i64 a1_5, .int .i64 a1_6, .int .i64 a1_7, .int .i64 a1_8]) (t := 41) ?hr ?_; (case hd => rfl); (case hg => rfl); (case hr => first | (go_simp; done) | (go_simp; rfl)); intro gb348 hg w56 hbox hb; have n0_ := Aside0.mk (blk_below (g := gb347) (o := .cells #[.int .i64 a0_0, .int .i64 a0_1, .int .i64 a0_2, .int .i64 a0_3, .int .i64 a0_4, .int .i64 a0_5, .int .i64 a0_6, .int .i64 a0_7, .int .i64 a0_8] 41 (0, 0)) (by (with_reducible repeat (first | refine blk_drewN ?_ _ | refine blk_drew ?_ | refine blk_alloc ?_ _)); exact BK347.out) hb); have n1_ := Aside0.mk (below_step (by repeat (first | (with_reducible first | exact HB.out | apply below_alloc | apply pw_below_drewN | apply below_drew1 | refine below_set ?_ GE347.out) | exact HB.out)) hb); have n2_ := Aside0.mk (hbox); have n3_ := Aside0.mk ((by rw [hg]; exact (below_size (by repeat (first | (with_reducible first | exact HB.out | apply below_alloc | apply pw_below_drewN | apply below_drew1 | refine below_set ?_ GE347.out) | exact HB.out))) : w.heap.size ≤ gb348)); have n4_ := Aside0.mk ((by rw [hg]; exact (below_size (by repeat (first | (with_reducible first | exact HB.out | apply below_alloc | apply pw_below_drewN | apply below_drew1 | refine below_set ?_ GE347.out) | exact HB.out))) : w.heap.size ≤ gb348)); have n5_ := Aside0.mk ((by rw [hg]; exact Nat.ne_of_lt (blk_lt (g := gb347) (o := .cells #[.int .i64 a0_0, .int .i64 a0_1, .int .i64 a0_2, .int .i64 a0_3, .int .i64 a0_4, .int .i64 a0_5, .int .i64 a0_6, .int .i64 a0_7, .int .i64 a0_8] 41 (0, 0)) (by (with_reducible repeat (first | refine blk_drewN ?_ _ | refine blk_drew ?_ | refine blk_alloc ?_ _)); exact BK347.out)) : gb347 ≠ gb348)); have n6_ := Aside0.mk ((by rw [hg]; exact Nat.ne_of_gt (blk_lt (g := gb347) (o := .cells #[.int .i64 a0_0, .int .i64 a0_1, .int .i64 a0_2, .int .i64 a0_3, .int .i64 a0_4, .int .i64 a0_5, .int .i64 a0_6, .int .i64 a0_7, .int .i64 a0_8] 41 (0, 0)) (by (with_reducible repeat (first | refine blk_drewN ?_ _ | refine blk_drew ?_ | refine blk_alloc ?_ _)); exact BK347.out)) : gb348 ≠ gb347)); clear BK347; clear HB; have BK347 := n0_; have HB := n1_; have BK348 := n2_; have GW348 := n3_; have GE348 := n4_; have NB347_348 := n5_; have NB348_347 := n6_; clear n0_ n1_ n2_ n3_ n4_ n5_ n6_; clear hb hbox hg; have hnb57 := NB347_348.out; have hnc57 := NB348_347.out; have hcz58_0 : w56.cell? ⟨gb347, 0, none⟩ = some (.int .i64 a0_0) := (blk_cell BK347.out 0).trans rfl; have hcz58_1 : w56.cell? ⟨gb347, 1, none⟩ = some (.int .i64 a0_1) := (blk_cell BK347.out 1).trans rfl; have hcz58_2 : w56.cell? ⟨gb347, 2, none⟩ = some (.int .i64 a0_2) := (blk_cell BK347.out 2).trans rfl; have hcz58_3 : w56.cell? ⟨gb347, 3, none⟩ = some (.int .i64 a0_3) := (blk_cell BK347.out 3).trans rfl; have hcz58_4 : w56.cell? ⟨gb347, 4, none⟩ = some (.int .i64 a0_4) := (blk_cell BK347.out 4).trans rfl; have hcz58_5 : w56.cell? ⟨gb347, 5, none⟩ = some (.int .i64 a0_5) := (blk_cell BK347.out 5).trans rfl; have hcz58_6 : w56.cell? ⟨gb347, 6, none⟩ = some (.int .i64 a0_6) := (blk_cell BK347.out 6).trans rfl; have hcz58_7 : w56.cell? ⟨gb347, 7, none⟩ = some (.int .i64 a0_7) := (blk_cell BK347.out 7).trans rfl; have hcz58_8 : w56.cell? ⟨gb347, 8, none⟩ = some (.int .i64 a0_8) := (blk_cell BK347.out 8).trans rfl; have hfz58_0 := blk_frozen BK347.out 0; have hfz58_1 := blk_frozen BK347.out 1; have hfz58_2 := blk_frozen BK347.out 2; have hfz58_3 := blk_frozen BK347.out 3; have hfz58_4 := blk_frozen BK347.out 4; have hfz58_5 := blk_frozen BK347.out 5; have hfz58_6 := blk_frozen BK347.out 6; have hfz58_7 := blk_frozen BK347.out 7; have hfz58_8 := blk_frozen BK347.out 8; have hcz59_0 : w56.cell? ⟨gb348, 0, none⟩ = some (.int .i64 a1_0) := (blk_cell BK348.out 0).trans rfl; have hcz59_1 : w56.cell? ⟨gb348, 1, none⟩ = some (.int .i64 a1_1) := (blk_cell BK348.out 1).trans rfl; have hcz59_2 : w56.cell? ⟨gb348, 2, none⟩ = some (.int .i64 a1_2) := (blk_cell BK348.out 2).trans rfl; have hcz59_3 : w56.cell? ⟨gb348, 3, none⟩ = some (.int .i64 a1_3) := (blk_cell BK348.out 3).trans rfl; have hcz59_4 : w56.cell? ⟨gb348, 4, none⟩ = some (.int .i64 a1_4) := (blk_cell BK348.out 4).trans rfl; have hcz59_5 : w56.cell? ⟨gb348, 5, none⟩ = some (.int .i64 a1_5) := (blk_cell BK348.out 5).trans rfl; have hcz59_6 : w56.cell? ⟨gb348, 6, none⟩ = some (.int .i64 a1_6) := (blk_cell BK348.out 6).trans rfl; have hcz59_7 : w56.cell? ⟨gb348, 7, none⟩ = some (.int .i64 a1_7) := (blk_cell BK348.out 7).trans rfl; have hcz59_8 : w56.cell? ⟨gb348, 8, none⟩ = some (.int .i64 a1_8) := (blk_cell BK348.out 8).trans rfl; have hfz59_0 := blk_frozen BK348.out 0; have hfz59_1 := blk_frozen BK348.out 1; have hfz59_2 := blk_frozen BK348.out 2; have hfz59_3 := blk_frozen BK348.out 3; have hfz59_4 := blk_frozen BK348.out 4; have hfz59_5 := blk_frozen BK348.out 5; have hfz59_6 := blk_frozen BK348.out 6; have hfz59_7 := blk_frozen BK348.out 7; have hfz59_8 := blk_frozen BK348.out 8))
        go_ret
        exact ⟨by first | rfl | (simp [errW_none, errW_some] <;> rfl) | (simp [*, errW_none, errW_some] <;> rfl), by repeat (first | (with_reducible first | exact HB.out | apply below_alloc | apply pw_below_drewN | apply below_drew1 | refine below_set ?_ GE347.out | refine below_set ?_ GE348.out) | exact HB.out)⟩
    · rw [if_neg c4] at H
      have c4b0 : (a0_1 == a1_1) = false := beq_eq_false_iff_ne.mpr c4
      have c4b1 : (a0_1 != a1_1) = true := bne_iff_ne.mpr c4
      obtain rfl := Option.some.inj H
      go_enter Tryd.func29, Tryd.ntmps29
      go_wp2_with (first | ((with_reducible refine gate_dst (N := 2) rfl ?_); refine box_event ?hg (N := 2) ?hd (cs := #[.int .i64 a0_0, .int .i64 a0_1, .int .i64 a0_2, .int .i64 a0_3, .int .i64 a0_4, .int .i64 a0_5, .int .i64 a0_6, .int .i64 a0_7, .int .i64 a0_8]) (t := 41) ?hr ?_; (case hd => rfl); (case hg => rfl); (case hr => first | (go_simp; done) | (go_simp; rfl)); intro gb347 hg w60 hbox hb; have n0_ := Aside0.mk (below_step (by repeat (first | (with_reducible first | exact HB.out | apply below_alloc | apply pw_below_drewN | apply below_drew1) | exact HB.out)) hb); have n1_ := Aside0.mk (hbox); have n2_ := Aside0.mk ((by rw [hg]; exact (below_size (by repeat (first | (with_reducible first | exact HB.out | apply below_alloc | apply pw_below_drewN | apply below_drew1) | exact HB.out))) : w.heap.size ≤ gb347)); have n3_ := Aside0.mk ((by rw [hg]; exact (below_size (by repeat (first | (with_reducible first | exact HB.out | apply below_alloc | apply pw_below_drewN | apply below_drew1) | exact HB.out))) : w.heap.size ≤ gb347)); clear HB; have HB := n0_; have BK347 := n1_; have GW347 := n2_; have GE347 := n3_; clear n0_ n1_ n2_ n3_; clear hb hbox hg) | ((with_reducible refine gate_dst (N := 3) rfl ?_); refine box_event ?hg (N := 3) ?hd (cs := #[.int .i64 a1_0, .int .i64 a1_1, .int .i64 a1_2, .int .i64 a1_3, .int .i64 a1_4, .int .i64 a1_5, .int .i64 a1_6, .int .i64 a1_7, .int .i64 a1_8]) (t := 41) ?hr ?_; (case hd => rfl); (case hg => rfl); (case hr => first | (go_simp; done) | (go_simp; rfl)); intro gb348 hg w61 hbox hb; have n0_ := Aside0.mk (blk_below (g := gb347) (o := .cells #[.int .i64 a0_0, .int .i64 a0_1, .int .i64 a0_2, .int .i64 a0_3, .int .i64 a0_4, .int .i64 a0_5, .int .i64 a0_6, .int .i64 a0_7, .int .i64 a0_8] 41 (0, 0)) (by (with_reducible repeat (first | refine blk_drewN ?_ _ | refine blk_drew ?_ | refine blk_alloc ?_ _)); exact BK347.out) hb); have n1_ := Aside0.mk (below_step (by repeat (first | (with_reducible first | exact HB.out | apply below_alloc | apply pw_below_drewN | apply below_drew1 | refine below_set ?_ GE347.out) | exact HB.out)) hb); have n2_ := Aside0.mk (hbox); have n3_ := Aside0.mk ((by rw [hg]; exact (below_size (by repeat (first | (with_reducible first | exact HB.out | apply below_alloc | apply pw_below_drewN | apply below_drew1 | refine below_set ?_ GE347.out) | exact HB.out))) : w.heap.size ≤ gb348)); have n4_ := Aside0.mk ((by rw [hg]; exact (below_size (by repeat (first | (with_reducible first | exact HB.out | apply below_alloc | apply pw_below_drewN | apply below_drew1 | refine below_set ?_ GE347.out) | exact HB.out))) : w.heap.size ≤ gb348)); have n5_ := Aside0.mk ((by rw [hg]; exact Nat.ne_of_lt (blk_lt (g := gb347) (o := .cells #[.int .i64 a0_0, .int .i64 a0_1, .int .i64 a0_2, .int .i64 a0_3, .int .i64 a0_4, .int .i64 a0_5, .int .i64 a0_6, .int .i64 a0_7, .int .i64 a0_8] 41 (0, 0)) (by (with_reducible repeat (first | refine blk_drewN ?_ _ | refine blk_drew ?_ | refine blk_alloc ?_ _)); exact BK347.out)) : gb347 ≠ gb348)); have n6_ := Aside0.mk ((by rw [hg]; exact Nat.ne_of_gt (blk_lt (g := gb347) (o := .cells #[.int .i64 a0_0, .int .i64 a0_1, .int .i64 a0_2, .int .i64 a0_3, .int .i64 a0_4, .int .i64 a0_5, .int .i64 a0_6, .int .i64 a0_7, .int .i64 a0_8] 41 (0, 0)) (by (with_reducible repeat (first | refine blk_drewN ?_ _ | refine blk_drew ?_ | refine blk_alloc ?_ _)); exact BK347.out)) : gb348 ≠ gb347)); clear BK347; clear HB; have BK347 := n0_; have HB := n1_; have BK348 := n2_; have GW348 := n3_; have GE348 := n4_; have NB347_348 := n5_; have NB348_347 := n6_; clear n0_ n1_ n2_ n3_ n4_ n5_ n6_; clear hb hbox hg; have hnb62 := NB347_348.out; have hnc62 := NB348_347.out; have hcz63_0 : w61.cell? ⟨gb347, 0, none⟩ = some (.int .i64 a0_0) := (blk_cell BK347.out 0).trans rfl; have hcz63_1 : w61.cell? ⟨gb347, 1, none⟩ = some (.int .i64 a0_1) := (blk_cell BK347.out 1).trans rfl; have hcz63_2 : w61.cell? ⟨gb347, 2, none⟩ = some (.int .i64 a0_2) := (blk_cell BK347.out 2).trans rfl; have hcz63_3 : w61.cell? ⟨gb347, 3, none⟩ = some (.int .i64 a0_3) := (blk_cell BK347.out 3).trans rfl; have hcz63_4 : w61.cell? ⟨gb347, 4, none⟩ = some (.int .i64 a0_4) := (blk_cell BK347.out 4).trans rfl; have hcz63_5 : w61.cell? ⟨gb347, 5, none⟩ = some (.int .i64 a0_5) := (blk_cell BK347.out 5).trans rfl; have hcz63_6 : w61.cell? ⟨gb347, 6, none⟩ = some (.int .i64 a0_6) := (blk_cell BK347.out 6).trans rfl; have hcz63_7 : w61.cell? ⟨gb347, 7, none⟩ = some (.int .i64 a0_7) := (blk_cell BK347.out 7).trans rfl; have hcz63_8 : w61.cell? ⟨gb347, 8, none⟩ = some (.int .i64 a0_8) := (blk_cell BK347.out 8).trans rfl; have hfz63_0 := blk_frozen BK347.out 0; have hfz63_1 := blk_frozen BK347.out 1; have hfz63_2 := blk_frozen BK347.out 2; have hfz63_3 := blk_frozen BK347.out 3; have hfz63_4 := blk_frozen BK347.out 4; have hfz63_5 := blk_frozen BK347.out 5; have hfz63_6 := blk_frozen BK347.out 6; have hfz63_7 := blk_frozen BK347.out 7; have hfz63_8 := blk_frozen BK347.out 8; have hcz64_0 : w61.cell? ⟨gb348, 0, none⟩ = some (.int .i64 a1_0) := (blk_cell BK348.out 0).trans rfl; have hcz64_1 : w61.cell? ⟨gb348, 1, none⟩ = some (.int .i64 a1_1) := (blk_cell BK348.out 1).trans rfl; have hcz64_2 : w61.cell? ⟨gb348, 2, none⟩ = some (.int .i64 a1_2) := (blk_cell BK348.out 2).trans rfl; have hcz64_3 : w61.cell? ⟨gb348, 3, none⟩ = some (.int .i64 a1_3) := (blk_cell BK348.out 3).trans rfl; have hcz64_4 : w61.cell? ⟨gb348, 4, none⟩ = some (.int .i64 a1_4) := (blk_cell BK348.out 4).trans rfl; have hcz64_5 : w61.cell? ⟨gb348, 5, none⟩ = some (.int .i64 a1_5) := (blk_cell BK348.out 5).trans rfl; have hcz64_6 : w61.cell? ⟨gb348, 6, none⟩ = some (.int .i64 a1_6) := (blk_cell BK348.out 6).trans rfl; have hcz64_7 : w61.cell? ⟨gb348, 7, none⟩ = some (.int .i64 a1_7) := (blk_cell BK348.out 7).trans rfl; have hcz64_8 : w61.cell? ⟨gb348, 8, none⟩ = some (.int .i64 a1_8) := (blk_cell BK348.out 8).trans rfl; have hfz64_0 := blk_frozen BK348.out 0; have hfz64_1 := blk_frozen BK348.out 1; have hfz64_2 := blk_frozen BK348.out 2; have hfz64_3 := blk_frozen BK348.out 3; have hfz64_4 := blk_frozen BK348.out 4; have hfz64_5 := blk_frozen BK348.out 5; have hfz64_6 := blk_frozen BK348.out 6; have hfz64_7 := blk_frozen BK348.out 7; have hfz64_8 := blk_frozen BK348.out 8))
      go_ret
      exact ⟨by first | rfl | (simp [errW_none, errW_some] <;> rfl) | (simp [*, errW_none, errW_some] <;> rfl), by repeat (first | (with_reducible first | exact HB.out | apply below_alloc | apply pw_below_drewN | apply below_drew1 | refine below_set ?_ GE347.out | refine below_set ?_ GE348.out) | exact HB.out)⟩
  · rw [if_neg c3] at H
    have c3b0 : (a0_0 == a1_0) = false := beq_eq_false_iff_ne.mpr c3
    have c3b1 : (a0_0 != a1_0) = true := bne_iff_ne.mpr c3
    obtain rfl := Option.some.inj H
    go_enter Tryd.func29, Tryd.ntmps29
    go_wp2_with (first | ((with_reducible refine gate_dst (N := 2) rfl ?_); refine box_event ?hg (N := 2) ?hd (cs := #[.int .i64 a0_0, .int .i64 a0_1, .int .i64 a0_2, .int .i64 a0_3, .int .i64 a0_4, .int .i64 a0_5, .int .i64 a0_6, .int .i64 a0_7, .int .i64 a0_8]) (t := 41) ?hr ?_; (case hd => rfl); (case hg => rfl); (case hr => first | (go_simp; done) | (go_simp; rfl)); intro gb347 hg w65 hbox hb; have n0_ := Aside0.mk (below_step (by repeat (first | (with_reducible first | exact HB.out | apply below_alloc | apply pw_below_drewN | apply below_drew1) | exact HB.out)) hb); have n1_ := Aside0.mk (hbox); have n2_ := Aside0.mk ((by rw [hg]; exact (below_size (by repeat (first | (with_reducible first | exact HB.out | apply below_alloc | apply pw_below_drewN | apply below_drew1) | exact HB.out))) : w.heap.size ≤ gb347)); have n3_ := Aside0.mk ((by rw [hg]; exact (below_size (by repeat (first | (with_reducible first | exact HB.out | apply below_alloc | apply pw_below_drewN | apply below_drew1) | exact HB.out))) : w.heap.size ≤ gb347)); clear HB; have HB := n0_; have BK347 := n1_; have GW347 := n2_; have GE347 := n3_; clear n0_ n1_ n2_ n3_; clear hb hbox hg) | ((with_reducible refine gate_dst (N := 3) rfl ?_); refine box_event ?hg (N := 3) ?hd (cs := #[.int .i64 a1_0, .int .i64 a1_1, .int .i64 a1_2, .int .i64 a1_3, .int .i64 a1_4, .int .i64 a1_5, .int .i64 a1_6, .int .i64 a1_7, .int .i64 a1_8]) (t := 41) ?hr ?_; (case hd => rfl); (case hg => rfl); (case hr => first | (go_simp; done) | (go_simp; rfl)); intro gb348 hg w66 hbox hb; have n0_ := Aside0.mk (blk_below (g := gb347) (o := .cells #[.int .i64 a0_0, .int .i64 a0_1, .int .i64 a0_2, .int .i64 a0_3, .int .i64 a0_4, .int .i64 a0_5, .int .i64 a0_6, .int .i64 a0_7, .int .i64 a0_8] 41 (0, 0)) (by (with_reducible repeat (first | refine blk_drewN ?_ _ | refine blk_drew ?_ | refine blk_alloc ?_ _)); exact BK347.out) hb); have n1_ := Aside0.mk (below_step (by repeat (first | (with_reducible first | exact HB.out | apply below_alloc | apply pw_below_drewN | apply below_drew1 | refine below_set ?_ GE347.out) | exact HB.out)) hb); have n2_ := Aside0.mk (hbox); have n3_ := Aside0.mk ((by rw [hg]; exact (below_size (by repeat (first | (with_reducible first | exact HB.out | apply below_alloc | apply pw_below_drewN | apply below_drew1 | refine below_set ?_ GE347.out) | exact HB.out))) : w.heap.size ≤ gb348)); have n4_ := Aside0.mk ((by rw [hg]; exact (below_size (by repeat (first | (with_reducible first | exact HB.out | apply below_alloc | apply pw_below_drewN | apply below_drew1 | refine below_set ?_ GE347.out) | exact HB.out))) : w.heap.size ≤ gb348)); have n5_ := Aside0.mk ((by rw [hg]; exact Nat.ne_of_lt (blk_lt (g := gb347) (o := .cells #[.int .i64 a0_0, .int .i64 a0_1, .int .i64 a0_2, .int .i64 a0_3, .int .i64 a0_4, .int .i64 a0_5, .int .i64 a0_6, .int .i64 a0_7, .int .i64 a0_8] 41 (0, 0)) (by (with_reducible repeat (first | refine blk_drewN ?_ _ | refine blk_drew ?_ | refine blk_alloc ?_ _)); exact BK347.out)) : gb347 ≠ gb348)); have n6_ := Aside0.mk ((by rw [hg]; exact Nat.ne_of_gt (blk_lt (g := gb347) (o := .cells #[.int .i64 a0_0, .int .i64 a0_1, .int .i64 a0_2, .int .i64 a0_3, .int .i64 a0_4, .int .i64 a0_5, .int .i64 a0_6, .int .i64 a0_7, .int .i64 a0_8] 41 (0, 0)) (by (with_reducible repeat (first | refine blk_drewN ?_ _ | refine blk_drew ?_ | refine blk_alloc ?_ _)); exact BK347.out)) : gb348 ≠ gb347)); clear BK347; clear HB; have BK347 := n0_; have HB := n1_; have BK348 := n2_; have GW348 := n3_; have GE348 := n4_; have NB347_348 := n5_; have NB348_347 := n6_; clear n0_ n1_ n2_ n3_ n4_ n5_ n6_; clear hb hbox hg; have hnb67 := NB347_348.out; have hnc67 := NB348_347.out; have hcz68_0 : w66.cell? ⟨gb347, 0, none⟩ = some (.int .i64 a0_0) := (blk_cell BK347.out 0).trans rfl; have hcz68_1 : w66.cell? ⟨gb347, 1, none⟩ = some (.int .i64 a0_1) := (blk_cell BK347.out 1).trans rfl; have hcz68_2 : w66.cell? ⟨gb347, 2, none⟩ = some (.int .i64 a0_2) := (blk_cell BK347.out 2).trans rfl; have hcz68_3 : w66.cell? ⟨gb347, 3, none⟩ = some (.int .i64 a0_3) := (blk_cell BK347.out 3).trans rfl; have hcz68_4 : w66.cell? ⟨gb347, 4, none⟩ = some (.int .i64 a0_4) := (blk_cell BK347.out 4).trans rfl; have hcz68_5 : w66.cell? ⟨gb347, 5, none⟩ = some (.int .i64 a0_5) := (blk_cell BK347.out 5).trans rfl; have hcz68_6 : w66.cell? ⟨gb347, 6, none⟩ = some (.int .i64 a0_6) := (blk_cell BK347.out 6).trans rfl; have hcz68_7 : w66.cell? ⟨gb347, 7, none⟩ = some (.int .i64 a0_7) := (blk_cell BK347.out 7).trans rfl; have hcz68_8 : w66.cell? ⟨gb347, 8, none⟩ = some (.int .i64 a0_8) := (blk_cell BK347.out 8).trans rfl; have hfz68_0 := blk_frozen BK347.out 0; have hfz68_1 := blk_frozen BK347.out 1; have hfz68_2 := blk_frozen BK347.out 2; have hfz68_3 := blk_frozen BK347.out 3; have hfz68_4 := blk_frozen BK347.out 4; have hfz68_5 := blk_frozen BK347.out 5; have hfz68_6 := blk_frozen BK347.out 6; have hfz68_7 := blk_frozen BK347.out 7; have hfz68_8 := blk_frozen BK347.out 8; have hcz69_0 : w66.cell? ⟨gb348, 0, none⟩ = some (.int .i64 a1_0) := (blk_cell BK348.out 0).trans rfl; have hcz69_1 : w66.cell? ⟨gb348, 1, none⟩ = some (.int .i64 a1_1) := (blk_cell BK348.out 1).trans rfl; have hcz69_2 : w66.cell? ⟨gb348, 2, none⟩ = some (.int .i64 a1_2) := (blk_cell BK348.out 2).trans rfl; have hcz69_3 : w66.cell? ⟨gb348, 3, none⟩ = some (.int .i64 a1_3) := (blk_cell BK348.out 3).trans rfl; have hcz69_4 : w66.cell? ⟨gb348, 4, none⟩ = some (.int .i64 a1_4) := (blk_cell BK348.out 4).trans rfl; have hcz69_5 : w66.cell? ⟨gb348, 5, none⟩ = some (.int .i64 a1_5) := (blk_cell BK348.out 5).trans rfl; have hcz69_6 : w66.cell? ⟨gb348, 6, none⟩ = some (.int .i64 a1_6) := (blk_cell BK348.out 6).trans rfl; have hcz69_7 : w66.cell? ⟨gb348, 7, none⟩ = some (.int .i64 a1_7) := (blk_cell BK348.out 7).trans rfl; have hcz69_8 : w66.cell? ⟨gb348, 8, none⟩ = some (.int .i64 a1_8) := (blk_cell BK348.out 8).trans rfl; have hfz69_0 := blk_frozen BK348.out 0; have hfz69_1 := blk_frozen BK348.out 1; have hfz69_2 := blk_frozen BK348.out 2; have hfz69_3 := blk_frozen BK348.out 3; have hfz69_4 := blk_frozen BK348.out 4; have hfz69_5 := blk_frozen BK348.out 5; have hfz69_6 := blk_frozen BK348.out 6; have hfz69_7 := blk_frozen BK348.out 7; have hfz69_8 := blk_frozen BK348.out 8))
    go_ret
    exact ⟨by first | rfl | (simp [errW_none, errW_some] <;> rfl) | (simp [*, errW_none, errW_some] <;> rfl), by repeat (first | (with_reducible first | exact HB.out | apply below_alloc | apply pw_below_drewN | apply below_drew1 | refine below_set ?_ GE347.out | refine below_set ?_ GE348.out) | exact HB.out)⟩

end Go.Proofs.YtahmgalkliicfaaDoor.Q

