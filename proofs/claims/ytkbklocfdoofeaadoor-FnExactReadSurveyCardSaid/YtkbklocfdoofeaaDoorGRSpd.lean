/- Parts of the proof that the law of this seat holds: Vb12, AdT, Rv, Rw, RsW, PuRh. -/
import Derived.Test.YtkbklocfdoofeaaDoorGRSpa
import Derived.Test.YtkbklocfdoofeaaDoorGRSpb
import Derived.Deep.RegionLaw
import Derived.Deep.RegionHeldLaw
import Derived.Test.YtkbklocfdoofeaaDoorGRSpc
set_option linter.unusedVariables false
set_option linter.unusedSimpArgs false
-- made by a patched copy of print.sh: this session's own
namespace Go.Proofs.YtkbklocfdoofeaaDoor.Q
open Go.RowKit Go.Proofs.YtkbklocfdoofeaaDoorW.PrintWords Go.Proofs.YtkbklocfdoofeaaDoorW.PrintLast Go.Proofs.YtkbklocfdoofeaaDoorW.PrintMore
attribute [local go_sem] max2_int min2_int max_two min_two max_three min_three max_four min_four   -- for this text's walks alone
set_option linter.unusedVariables false
set_option linter.unusedSimpArgs false

/-! ### strings_Split: function 55 -/
def strings_Split.f (a0 : ByteArray) (a1 : ByteArray) : Option (List (ByteArray)) := match a1.data.toList with
  | [c] => if a0.size < 4294967281 then some ((Sp.split1 c a0.data.toList).map Sp.tx) else none
  | _ => none
theorem strings_Split.calls (a0 : ByteArray) (a1 : ByteArray) (r : List (ByteArray)) (w : World) (hT : Tb.TB w) (h : strings_Split.f a0 a1 = some r) :
    Calls Tryd.prog 55 #[.string a0, .string a1] w fun e w' => ∃ v0_ : Value, e = .returned (v0_) ∧ Kd.R Kd.string 9 w' w.heap.size (fun _ => True) v0_ r ∧ Below w.heap.size w w' := by
  unfold strings_Split.f at h
  split at h
  · rename_i c hc
    split at h
    · rename_i hs
      obtain rfl := Option.some.inj h
      obtain rfl : a1 = Sp.tx [c] := by
        apply ByteArray.ext
        rw [← Array.toList_inj, hc]; rfl
      exact Sp.split_any a0 c w hT hs
    · cases h
  · cases h

end Go.Proofs.YtkbklocfdoofeaaDoor.Q

/- spec_l10Text at a block that may lie ahead of what its slices hold (made out of the printed contract). -/
namespace Go.Proofs.YtkbklocfdoofeaaDoor.Q
open Go.RowKit Go.Proofs.YtkbklocfdoofeaaDoorW.PrintWords Go.Proofs.YtkbklocfdoofeaaDoorW.PrintLast Go.Proofs.YtkbklocfdoofeaaDoorW.PrintMore
attribute [local go_sem] max2_int min2_int max_two min_two max_three min_three max_four min_four   -- for this text's walks alone
set_option linter.unusedVariables false
set_option linter.unusedSimpArgs false
def IsT30 (w0 W : World) (g : Nat) (f0 : Int) (f1 : List (S71)) : Prop := ∃ A1 c1, W.heap[g]? = some (.cells #[.int .i64 f0, .slice A1 f1.length c1] 30 (0, 0)) ∧ True ∧ Kd.C k71 w0 A1 f1.length f1
theorem IsT30.grown {w0 W : World} {g : Nat} {f0 : Int} {f1 : List (S71)} {W1 : World} {row : Option Nat} (h : IsT30 w0 W g f0 f1) (hw : W.grownBy W1 row) (hne : some g ≠ row) : IsT30 w0 W1 g f0 f1 := by
  obtain ⟨A1, c1, hb, hg, hr1⟩ := h
  exact ⟨A1, c1, blk_grown hb hw hne, hg, hr1⟩
theorem IsT30.below {w0 W : World} {g : Nat} {f0 : Int} {f1 : List (S71)} {W1 : World} (h : IsT30 w0 W g f0 f1) (hw : Below W.heap.size W W1) : IsT30 w0 W1 g f0 f1 := h.grown (grown_of_below hw none) (by simp)
theorem IsT30.alloc {w0 W : World} {g : Nat} {f0 : Int} {f1 : List (S71)} (h : IsT30 w0 W g f0 f1) (o : Obj) : IsT30 w0 (W.alloc o) g f0 f1 := h.below (below_alloc (Below.refl _ _) o)
theorem IsT30.drewN {w0 W : World} {g : Nat} {f0 : Int} {f1 : List (S71)} (h : IsT30 w0 W g f0 f1) (m : Nat) : IsT30 w0 (W.drewN m) g f0 f1 := h
theorem IsT30.drew {w0 W : World} {g : Nat} {f0 : Int} {f1 : List (S71)} (h : IsT30 w0 W g f0 f1) : IsT30 w0 W.drew g f0 f1 := h
theorem IsT30.far {w0 W : World} {g : Nat} {f0 : Int} {f1 : List (S71)} {p : Addr} (h : IsT30 w0 W g f0 f1) (hne : g ≠ p.block) (u : Value) : IsT30 w0 (W.setCell p u) g f0 f1 := by
  obtain ⟨A1, c1, hb, hg, hr1⟩ := h
  exact ⟨A1, c1, blk_far hb hne u, hg, hr1⟩
theorem IsT30.set_0 {w0 W : World} {g : Nat} {f0 : Int} {f1 : List (S71)} (h : IsT30 w0 W g f0 f1) (x : Int) : IsT30 w0 (W.setCell ⟨g, 0, none⟩ (.int .i64 x)) g x f1 := by
  obtain ⟨A1, c1, hb, hg, hr1⟩ := h
  exact ⟨A1, c1, by simpa using blk_set hb 0 (.int .i64 x), hg, hr1⟩
theorem IsT30.lt {w0 W : World} {g : Nat} {f0 : Int} {f1 : List (S71)} (h : IsT30 w0 W g f0 f1) : g < W.heap.size := by
  obtain ⟨A1, c1, hb, hg, hr1⟩ := h
  exact blk_lt hb
set_option maxHeartbeats 8000000 in
set_option maxRecDepth 100000 in
theorem spec_l10Text.callsT (k : Nat) (g : Nat) (s0_0 : Int) (s0_1 : List (S71)) (r1 : ByteArray) (r2 : Int) (w0 w : World) (hI : IsT30 w0 w g s0_0 s0_1) (hB : Below w0.heap.size w0 w) (h : spec_l10Text.f k s0_0 s0_1 = some (r1, r2)) :
    Calls Tryd.prog 38 #[.pointer (some ⟨g, 0, none⟩)] w fun e w' => e = .returned (.string r1) ∧ IsT30 w0 w' g r2 s0_1 ∧ Below w0.heap.size w0 w' ∧ KeepBut w w' g none := by
  have hu71 := Tryd.underlying71
  have HI0 := Aside0.mk hI
  have HK := Aside0.mk (KeepBut.refl w g none)
  have HL := Aside0.mk hB.size
  clear hI
  have HW0 := Aside0.mk hB.size
  have HB := Aside0.mk hB
  clear hB
  have H : ((spec_l01Dec.f k s0_0).bind fun t109 => (spec_l10Text.l0 k t109 0 s0_0 s0_1)) = some (r1, r2) := h
  clear h
  replace H := Option.bind_eq_some_iff.mp H
  obtain ⟨t109, A20, H⟩ := H
  replace H : (spec_l10Text.l0 k t109 0 s0_0 s0_1) = some (r1, r2) := H
  have A2 := Aside0.mk A20
  clear A20
  have H' := Aside0.mk H
  clear H
  obtain ⟨ASz3_1, cSz3_1, HGz3, hgz3, HSz3_1⟩ := HI0.out
  have hcz3_0 := cellS30_0 HGz3
  have hcz3_1 := cellS30_1 HGz3
  have hfz3_0 := blk_frozen HGz3 0
  clear HGz3 hgz3
  go_enter Tryd.func38, Tryd.ntmps38
  go_wp2_with (first | ((with_reducible refine gate_callee (f := 67) rfl ?_); refine goesL_ (some 10) rfl rfl Tryd.func67 (by kernel_rfl) rfl #[.int .i64 s0_0] rfl (by (try simp only [List.map_toArray, List.map_cons, List.map_nil]); first | done | rfl | (simp only [List.length_drop, List.length_take]; rfl)) ?_; (with_reducible refine (spec_l01Dec.calls k s0_0 t109 _ A2.out).mono ?_); rintro e w4 ⟨rfl, hb⟩; refine ⟨_, rfl, ?_⟩; have n0_ := Aside0.mk (IsT30.below (by repeat (first | (with_reducible first | exact HI0.out | apply IsT30.alloc | apply IsT30.drewN | apply IsT30.drew | apply IsT30.set_0) | exact HI0.out)) hb); have n1_ := Aside0.mk (KeepBut.trans (by repeat (first | (with_reducible first | exact HK.out | apply KeepBut.set_ | apply keep_drewN | apply keep_drew | apply keep_alloc) | exact HK.out)) (KeepBut.of_below hb g none) (.inl rfl)); have n2_ := Aside0.mk (below_step (by repeat (first | (with_reducible first | exact HB.out | apply below_alloc | apply pw_below_drewN | apply below_drew1 | refine below_set ?_ (IsT30.ge HI0.out)) | exact HB.out)) hb); clear HI0; clear HK; clear HB; have HI0 := n0_; have HK := n1_; have HB := n2_; clear n0_ n1_ n2_; (try clear hb); (try clear hb2); (try clear hk); (try clear hi)))
  go_loopg [3, 4] k (fun kq v3 v4 w' => ∃ (x3_1 : ByteArray) (x4_1 : Int), v3 = .string x3_1 ∧ v4 = .int .i64 x4_1 ∧ Aside0 (spec_l10Text.l0 kq x3_1 x4_1 s0_0 s0_1 = some (r1, r2)) ∧ Aside0 (kq ≤ k) ∧ Aside0 (IsT30 w0 w' g s0_0 s0_1) ∧ Aside0 (KeepBut w w' g none) ∧ Aside0 (Below w0.heap.size w0 w'))
  case atStart => exact ⟨(t109), (0), (by first | rfl | (simp; done) | (simp [*]; done)), (by first | rfl | (simp; done) | (simp [*]; done)), H', ⟨Nat.le_refl _⟩, ⟨by repeat (first | (with_reducible first | exact HI0.out | apply IsT30.alloc | apply IsT30.drewN | apply IsT30.drew | apply IsT30.set_0) | exact HI0.out)⟩, ⟨by repeat (first | (with_reducible first | exact HK.out | apply KeepBut.set_ | apply keep_drewN | apply keep_drew | apply keep_alloc) | exact HK.out)⟩, ⟨by repeat (first | (with_reducible first | exact HB.out | apply below_alloc | apply pw_below_drewN | apply below_drew1 | refine below_set ?_ (IsT30.ge HI0.out)) | exact HB.out)⟩⟩
  case round =>
    clear H'
    try clear p2
    try clear c3
    try clear hcz3_0
    try clear hcz3_1
    try clear hfz3_0
    obtain ⟨x3_1, x4_1, rfl, rfl, HA, HK1, HI0, HK, HB⟩ := hrel
    cases gk with
    | zero => exact absurd HA.out (by simp [spec_l10Text.l0])
    | succ k1 =>
      have H := HA.out
      clear HA
      simp only [spec_l10Text.l0] at H
      by_cases c5 : x4_1 < (s0_1.length : Int)
      · rw [if_pos c5] at H
        have c5b0 : decide (x4_1 < (s0_1.length : Int)) = true := decide_eq_true c5
        clear c5
        by_cases c6 : 0 ≤ x4_1
        · rw [if_pos c6] at H
          have c6b0 : decide (0 ≤ x4_1) = true := decide_eq_true c6
          clear c6
          replace H := Option.bind_eq_some_iff.mp H
          obtain ⟨t112, A70, H⟩ := H
          replace H : (if 1 + t112.size ≤ 9223372036854775807 then (if ((⟨#[32]⟩ : ByteArray) ++ t112).size + 1 ≤ 9223372036854775807 then ((spec_l01Dec.f k1 ((rd_T71 s0_1 x4_1).f1)).bind fun t113 => (if (((⟨#[32]⟩ : ByteArray) ++ t112) ++ (⟨#[62]⟩ : ByteArray)).size + t113.size ≤ 9223372036854775807 then (if ((((⟨#[32]⟩ : ByteArray) ++ t112) ++ (⟨#[62]⟩ : ByteArray)) ++ t113).size + 1 ≤ 9223372036854775807 then ((spec_l01Dec.f k1 ((rd_T71 s0_1 x4_1).f2)).bind fun t114 => (if (((((⟨#[32]⟩ : ByteArray) ++ t112) ++ (⟨#[62]⟩ : ByteArray)) ++ t113) ++ (⟨#[61]⟩ : ByteArray)).size + t114.size ≤ 9223372036854775807 then (if ((((((⟨#[32]⟩ : ByteArray) ++ t112) ++ (⟨#[62]⟩ : ByteArray)) ++ t113) ++ (⟨#[61]⟩ : ByteArray)) ++ t114).size + 1 ≤ 9223372036854775807 then ((spec_l01Dec.f k1 ((rd_T71 s0_1 x4_1).f3)).bind fun t115 => (if (((((((⟨#[32]⟩ : ByteArray) ++ t112) ++ (⟨#[62]⟩ : ByteArray)) ++ t113) ++ (⟨#[61]⟩ : ByteArray)) ++ t114) ++ (⟨#[42]⟩ : ByteArray)).size + t115.size ≤ 9223372036854775807 then (if x3_1.size + ((((((((⟨#[32]⟩ : ByteArray) ++ t112) ++ (⟨#[62]⟩ : ByteArray)) ++ t113) ++ (⟨#[61]⟩ : ByteArray)) ++ t114) ++ (⟨#[42]⟩ : ByteArray)) ++ t115).size ≤ 9223372036854775807 then (spec_l10Text.l0 k1 (x3_1 ++ ((((((((⟨#[32]⟩ : ByteArray) ++ t112) ++ (⟨#[62]⟩ : ByteArray)) ++ t113) ++ (⟨#[61]⟩ : ByteArray)) ++ t114) ++ (⟨#[42]⟩ : ByteArray)) ++ t115)) (wrap64 (x4_1 + 1)) s0_0 s0_1) else (none)) else (none))) else (none)) else (none))) else (none)) else (none))) else (none)) else (none)) = some (r1, r2) := H
          have A7 := Aside0.mk A70
          clear A70
          by_cases c8 : 1 + t112.size ≤ 9223372036854775807
          · rw [if_pos c8] at H
            have c8b0 := eq_true c8
            have c8b1 : decide (1 + t112.size ≤ 9223372036854775807) = true := decide_eq_true c8
            try have c8b2 : (9223372036854775807 < 1 + t112.size) = False := eq_false (Nat.not_lt.2 c8)
            by_cases c9 : ((⟨#[32]⟩ : ByteArray) ++ t112).size + 1 ≤ 9223372036854775807
            · rw [if_pos c9] at H
              have c9b0 := eq_true c9
              have c9b1 : decide (((⟨#[32]⟩ : ByteArray) ++ t112).size + 1 ≤ 9223372036854775807) = true := decide_eq_true c9
              try have c9b2 : (9223372036854775807 < ((⟨#[32]⟩ : ByteArray) ++ t112).size + 1) = False := eq_false (Nat.not_lt.2 c9)
              try have c9b3 : (9223372036854775807 < 1 + t112.size + 1) = False := by have h_ := c9b2; simp only [ByteArray.size_append] at h_; exact h_
              replace H := Option.bind_eq_some_iff.mp H
              obtain ⟨t113, A100, H⟩ := H
              replace H : (if (((⟨#[32]⟩ : ByteArray) ++ t112) ++ (⟨#[62]⟩ : ByteArray)).size + t113.size ≤ 9223372036854775807 then (if ((((⟨#[32]⟩ : ByteArray) ++ t112) ++ (⟨#[62]⟩ : ByteArray)) ++ t113).size + 1 ≤ 9223372036854775807 then ((spec_l01Dec.f k1 ((rd_T71 s0_1 x4_1).f2)).bind fun t114 => (if (((((⟨#[32]⟩ : ByteArray) ++ t112) ++ (⟨#[62]⟩ : ByteArray)) ++ t113) ++ (⟨#[61]⟩ : ByteArray)).size + t114.size ≤ 9223372036854775807 then (if ((((((⟨#[32]⟩ : ByteArray) ++ t112) ++ (⟨#[62]⟩ : ByteArray)) ++ t113) ++ (⟨#[61]⟩ : ByteArray)) ++ t114).size + 1 ≤ 9223372036854775807 then ((spec_l01Dec.f k1 ((rd_T71 s0_1 x4_1).f3)).bind fun t115 => (if (((((((⟨#[32]⟩ : ByteArray) ++ t112) ++ (⟨#[62]⟩ : ByteArray)) ++ t113) ++ (⟨#[61]⟩ : ByteArray)) ++ t114) ++ (⟨#[42]⟩ : ByteArray)).size + t115.size ≤ 9223372036854775807 then (if x3_1.size + ((((((((⟨#[32]⟩ : ByteArray) ++ t112) ++ (⟨#[62]⟩ : ByteArray)) ++ t113) ++ (⟨#[61]⟩ : ByteArray)) ++ t114) ++ (⟨#[42]⟩ : ByteArray)) ++ t115).size ≤ 9223372036854775807 then (spec_l10Text.l0 k1 (x3_1 ++ ((((((((⟨#[32]⟩ : ByteArray) ++ t112) ++ (⟨#[62]⟩ : ByteArray)) ++ t113) ++ (⟨#[61]⟩ : ByteArray)) ++ t114) ++ (⟨#[42]⟩ : ByteArray)) ++ t115)) (wrap64 (x4_1 + 1)) s0_0 s0_1) else (none)) else (none))) else (none)) else (none))) else (none)) else (none)) = some (r1, r2) := H
              have A10 := Aside0.mk A100
              clear A100
              by_cases c11 : (((⟨#[32]⟩ : ByteArray) ++ t112) ++ (⟨#[62]⟩ : ByteArray)).size + t113.size ≤ 9223372036854775807
              · rw [if_pos c11] at H
                have c11b0 := eq_true c11
                have c11b1 : decide ((((⟨#[32]⟩ : ByteArray) ++ t112) ++ (⟨#[62]⟩ : ByteArray)).size + t113.size ≤ 9223372036854775807) = true := decide_eq_true c11
                try have c11b2 : (9223372036854775807 < (((⟨#[32]⟩ : ByteArray) ++ t112) ++ (⟨#[62]⟩ : ByteArray)).size + t113.size) = False := eq_false (Nat.not_lt.2 c11)
                try have c11b3 : (9223372036854775807 < 1 + t112.size + 1 + t113.size) = False := by have h_ := c11b2; simp only [ByteArray.size_append] at h_; exact h_
                by_cases c12 : ((((⟨#[32]⟩ : ByteArray) ++ t112) ++ (⟨#[62]⟩ : ByteArray)) ++ t113).size + 1 ≤ 9223372036854775807
                · rw [if_pos c12] at H
                  have c12b0 := eq_true c12
                  have c12b1 : decide (((((⟨#[32]⟩ : ByteArray) ++ t112) ++ (⟨#[62]⟩ : ByteArray)) ++ t113).size + 1 ≤ 9223372036854775807) = true := decide_eq_true c12
                  try have c12b2 : (9223372036854775807 < ((((⟨#[32]⟩ : ByteArray) ++ t112) ++ (⟨#[62]⟩ : ByteArray)) ++ t113).size + 1) = False := eq_false (Nat.not_lt.2 c12)
                  try have c12b3 : (9223372036854775807 < 1 + t112.size + 1 + t113.size + 1) = False := by have h_ := c12b2; simp only [ByteArray.size_append] at h_; exact h_
                  replace H := Option.bind_eq_some_iff.mp H
                  obtain ⟨t114, A130, H⟩ := H
                  replace H : (if (((((⟨#[32]⟩ : ByteArray) ++ t112) ++ (⟨#[62]⟩ : ByteArray)) ++ t113) ++ (⟨#[61]⟩ : ByteArray)).size + t114.size ≤ 9223372036854775807 then (if ((((((⟨#[32]⟩ : ByteArray) ++ t112) ++ (⟨#[62]⟩ : ByteArray)) ++ t113) ++ (⟨#[61]⟩ : ByteArray)) ++ t114).size + 1 ≤ 9223372036854775807 then ((spec_l01Dec.f k1 ((rd_T71 s0_1 x4_1).f3)).bind fun t115 => (if (((((((⟨#[32]⟩ : ByteArray) ++ t112) ++ (⟨#[62]⟩ : ByteArray)) ++ t113) ++ (⟨#[61]⟩ : ByteArray)) ++ t114) ++ (⟨#[42]⟩ : ByteArray)).size + t115.size ≤ 9223372036854775807 then (if x3_1.size + ((((((((⟨#[32]⟩ : ByteArray) ++ t112) ++ (⟨#[62]⟩ : ByteArray)) ++ t113) ++ (⟨#[61]⟩ : ByteArray)) ++ t114) ++ (⟨#[42]⟩ : ByteArray)) ++ t115).size ≤ 9223372036854775807 then (spec_l10Text.l0 k1 (x3_1 ++ ((((((((⟨#[32]⟩ : ByteArray) ++ t112) ++ (⟨#[62]⟩ : ByteArray)) ++ t113) ++ (⟨#[61]⟩ : ByteArray)) ++ t114) ++ (⟨#[42]⟩ : ByteArray)) ++ t115)) (wrap64 (x4_1 + 1)) s0_0 s0_1) else (none)) else (none))) else (none)) else (none)) = some (r1, r2) := H
                  have A13 := Aside0.mk A130
                  clear A130
                  by_cases c14 : (((((⟨#[32]⟩ : ByteArray) ++ t112) ++ (⟨#[62]⟩ : ByteArray)) ++ t113) ++ (⟨#[61]⟩ : ByteArray)).size + t114.size ≤ 9223372036854775807
                  · rw [if_pos c14] at H
                    have c14b0 := eq_true c14
                    have c14b1 : decide ((((((⟨#[32]⟩ : ByteArray) ++ t112) ++ (⟨#[62]⟩ : ByteArray)) ++ t113) ++ (⟨#[61]⟩ : ByteArray)).size + t114.size ≤ 9223372036854775807) = true := decide_eq_true c14
                    try have c14b2 : (9223372036854775807 < (((((⟨#[32]⟩ : ByteArray) ++ t112) ++ (⟨#[62]⟩ : ByteArray)) ++ t113) ++ (⟨#[61]⟩ : ByteArray)).size + t114.size) = False := eq_false (Nat.not_lt.2 c14)
                    try have c14b3 : (9223372036854775807 < 1 + t112.size + 1 + t113.size + 1 + t114.size) = False := by have h_ := c14b2; simp only [ByteArray.size_append] at h_; exact h_
                    by_cases c15 : ((((((⟨#[32]⟩ : ByteArray) ++ t112) ++ (⟨#[62]⟩ : ByteArray)) ++ t113) ++ (⟨#[61]⟩ : ByteArray)) ++ t114).size + 1 ≤ 9223372036854775807
                    · rw [if_pos c15] at H
                      have c15b0 := eq_true c15
                      have c15b1 : decide (((((((⟨#[32]⟩ : ByteArray) ++ t112) ++ (⟨#[62]⟩ : ByteArray)) ++ t113) ++ (⟨#[61]⟩ : ByteArray)) ++ t114).size + 1 ≤ 9223372036854775807) = true := decide_eq_true c15
                      try have c15b2 : (9223372036854775807 < ((((((⟨#[32]⟩ : ByteArray) ++ t112) ++ (⟨#[62]⟩ : ByteArray)) ++ t113) ++ (⟨#[61]⟩ : ByteArray)) ++ t114).size + 1) = False := eq_false (Nat.not_lt.2 c15)
                      try have c15b3 : (9223372036854775807 < 1 + t112.size + 1 + t113.size + 1 + t114.size + 1) = False := by have h_ := c15b2; simp only [ByteArray.size_append] at h_; exact h_
                      replace H := Option.bind_eq_some_iff.mp H
                      obtain ⟨t115, A160, H⟩ := H
                      replace H : (if (((((((⟨#[32]⟩ : ByteArray) ++ t112) ++ (⟨#[62]⟩ : ByteArray)) ++ t113) ++ (⟨#[61]⟩ : ByteArray)) ++ t114) ++ (⟨#[42]⟩ : ByteArray)).size + t115.size ≤ 9223372036854775807 then (if x3_1.size + ((((((((⟨#[32]⟩ : ByteArray) ++ t112) ++ (⟨#[62]⟩ : ByteArray)) ++ t113) ++ (⟨#[61]⟩ : ByteArray)) ++ t114) ++ (⟨#[42]⟩ : ByteArray)) ++ t115).size ≤ 9223372036854775807 then (spec_l10Text.l0 k1 (x3_1 ++ ((((((((⟨#[32]⟩ : ByteArray) ++ t112) ++ (⟨#[62]⟩ : ByteArray)) ++ t113) ++ (⟨#[61]⟩ : ByteArray)) ++ t114) ++ (⟨#[42]⟩ : ByteArray)) ++ t115)) (wrap64 (x4_1 + 1)) s0_0 s0_1) else (none)) else (none)) = some (r1, r2) := H
                      have A16 := Aside0.mk A160
                      clear A160
                      by_cases c17 : (((((((⟨#[32]⟩ : ByteArray) ++ t112) ++ (⟨#[62]⟩ : ByteArray)) ++ t113) ++ (⟨#[61]⟩ : ByteArray)) ++ t114) ++ (⟨#[42]⟩ : ByteArray)).size + t115.size ≤ 9223372036854775807
                      · rw [if_pos c17] at H
                        have c17b0 := eq_true c17
                        have c17b1 : decide ((((((((⟨#[32]⟩ : ByteArray) ++ t112) ++ (⟨#[62]⟩ : ByteArray)) ++ t113) ++ (⟨#[61]⟩ : ByteArray)) ++ t114) ++ (⟨#[42]⟩ : ByteArray)).size + t115.size ≤ 9223372036854775807) = true := decide_eq_true c17
                        try have c17b2 : (9223372036854775807 < (((((((⟨#[32]⟩ : ByteArray) ++ t112) ++ (⟨#[62]⟩ : ByteArray)) ++ t113) ++ (⟨#[61]⟩ : ByteArray)) ++ t114) ++ (⟨#[42]⟩ : ByteArray)).size + t115.size) = False := eq_false (Nat.not_lt.2 c17)
                        try have c17b3 : (9223372036854775807 < 1 + t112.size + 1 + t113.size + 1 + t114.size + 1 + t115.size) = False := by have h_ := c17b2; simp only [ByteArray.size_append] at h_; exact h_
                        by_cases c18 : x3_1.size + ((((((((⟨#[32]⟩ : ByteArray) ++ t112) ++ (⟨#[62]⟩ : ByteArray)) ++ t113) ++ (⟨#[61]⟩ : ByteArray)) ++ t114) ++ (⟨#[42]⟩ : ByteArray)) ++ t115).size ≤ 9223372036854775807
                        · rw [if_pos c18] at H
                          have c18b0 := eq_true c18
                          have c18b1 : decide (x3_1.size + ((((((((⟨#[32]⟩ : ByteArray) ++ t112) ++ (⟨#[62]⟩ : ByteArray)) ++ t113) ++ (⟨#[61]⟩ : ByteArray)) ++ t114) ++ (⟨#[42]⟩ : ByteArray)) ++ t115).size ≤ 9223372036854775807) = true := decide_eq_true c18
                          try have c18b2 : (9223372036854775807 < x3_1.size + ((((((((⟨#[32]⟩ : ByteArray) ++ t112) ++ (⟨#[62]⟩ : ByteArray)) ++ t113) ++ (⟨#[61]⟩ : ByteArray)) ++ t114) ++ (⟨#[42]⟩ : ByteArray)) ++ t115).size) = False := eq_false (Nat.not_lt.2 c18)
                          try have c18b3 : (9223372036854775807 < x3_1.size + (1 + t112.size + 1 + t113.size + 1 + t114.size + 1 + t115.size)) = False := by have h_ := c18b2; simp only [ByteArray.size_append] at h_; exact h_
                          have H' := Aside0.mk H
                          clear H
                          obtain ⟨ASz19_1, cSz19_1, HGz19, hgz19, HSz19_1⟩ := HI0.out
                          have hcz19_0 := cellS30_0 HGz19
                          have hcz19_1 := cellS30_1 HGz19
                          have hfz19_0 := blk_frozen HGz19 0
                          clear HGz19 hgz19
                          have p110 : 0 ≤ (x4_1 : Int) := of_decide_eq_true (by first | (with_reducible assumption) | assumption)
                          have q110 : x4_1 < (s0_1.length : Int) := of_decide_eq_true (by first | (with_reducible assumption) | assumption)
                          obtain ⟨ad110, e110, hx110_0, hx110_1, hx110_2, hx110_3⟩ := at_T71 HSz19_1 x4_1 p110 q110
                          cases e110
                          replace hx110_0 := pw_cell_below HB.out hx110_0
                          replace hx110_1 := pw_cell_below HB.out hx110_1
                          replace hx110_2 := pw_cell_below HB.out hx110_2
                          replace hx110_3 := pw_cell_below HB.out hx110_3
                          replace p110 := eq_true p110
                          replace q110 := eq_true q110
                          try go_wp2_with (first | ((with_reducible refine gate_dst (N := 5) rfl ?_); refine box_event ?hg (N := 5) ?hd (cs := #[.int .i64 0, .int .i64 0, .int .i64 0, .int .i64 0]) (t := 71) ?hr ?_; (case hd => rfl); (case hg => rfl); (case hr => first | (go_simp; done) | (go_simp; rfl)); intro gb111 hg w20 hbox hb; have n0_ := Aside0.mk (IsT30.below (by repeat (first | (with_reducible first | exact HI0.out | apply IsT30.alloc | apply IsT30.drewN | apply IsT30.drew | apply IsT30.set_0) | exact HI0.out)) hb); have n1_ := Aside0.mk (KeepBut.trans (by repeat (first | (with_reducible first | exact HK.out | apply KeepBut.set_ | apply keep_drewN | apply keep_drew | apply keep_alloc) | exact HK.out)) (KeepBut.of_below hb g none) (.inl rfl)); have n2_ := Aside0.mk (below_step (by repeat (first | (with_reducible first | exact HB.out | apply below_alloc | apply pw_below_drewN | apply below_drew1 | refine below_set ?_ (IsT30.ge HI0.out)) | exact HB.out)) hb); have n3_ := Aside0.mk (hbox); have n4_ := Aside0.mk ((by rw [hg]; exact (keep_size (w := w) (g := g) (row := none) (by repeat (first | (with_reducible first | exact HK.out | apply KeepBut.set_ | apply keep_drewN | apply keep_drew | apply keep_alloc) | exact HK.out))) : w.heap.size ≤ gb111)); have n5_ := Aside0.mk ((Nat.le_trans HW0.out (by rw [hg]; exact (keep_size (w := w) (g := g) (row := none) (by repeat (first | (with_reducible first | exact HK.out | apply KeepBut.set_ | apply keep_drewN | apply keep_drew | apply keep_alloc) | exact HK.out))) : w.heap.size ≤ gb111) : w0.heap.size ≤ gb111)); have n6_ := Aside0.mk ((by rw [hg]; exact Nat.ne_of_lt (IsT30.lt (show IsT30 w0 _ g s0_0 s0_1 from by repeat (first | (with_reducible first | exact HI0.out | apply IsT30.alloc | apply IsT30.drewN | apply IsT30.drew | apply IsT30.set_0) | exact HI0.out))) : g ≠ gb111)); have n7_ := Aside0.mk ((by rw [hg]; exact Nat.ne_of_gt (IsT30.lt (show IsT30 w0 _ g s0_0 s0_1 from by repeat (first | (with_reducible first | exact HI0.out | apply IsT30.alloc | apply IsT30.drewN | apply IsT30.drew | apply IsT30.set_0) | exact HI0.out))) : gb111 ≠ g)); clear HI0; clear HK; clear HB; have HI0 := n0_; have HK := n1_; have HB := n2_; have BK111 := n3_; have GW111 := n4_; have GE111 := n5_; have NB0_111 := n6_; have NB111_0 := n7_; clear n0_ n1_ n2_ n3_ n4_ n5_ n6_ n7_; clear hb hbox hg; have hnb21 := NB111_0.out; have hnc21 := NB0_111.out; have hcz22_0 : w20.cell? ⟨gb111, 0, none⟩ = some (.int .i64 0) := (blk_cell BK111.out 0).trans rfl; have hcz22_1 : w20.cell? ⟨gb111, 1, none⟩ = some (.int .i64 0) := (blk_cell BK111.out 1).trans rfl; have hcz22_2 : w20.cell? ⟨gb111, 2, none⟩ = some (.int .i64 0) := (blk_cell BK111.out 2).trans rfl; have hcz22_3 : w20.cell? ⟨gb111, 3, none⟩ = some (.int .i64 0) := (blk_cell BK111.out 3).trans rfl; have hfz22_0 := blk_frozen BK111.out 0; have hfz22_1 := blk_frozen BK111.out 1; have hfz22_2 := blk_frozen BK111.out 2; have hfz22_3 := blk_frozen BK111.out 3))
                          have n0_ : Aside0 (((((w20.setCell ⟨gb111, 0, none⟩ (.int .i64 ((rd_T71 s0_1 x4_1).f0))).setCell ⟨gb111, 1, none⟩ (.int .i64 ((rd_T71 s0_1 x4_1).f1))).setCell ⟨gb111, 2, none⟩ (.int .i64 ((rd_T71 s0_1 x4_1).f2))).setCell ⟨gb111, 3, none⟩ (.int .i64 ((rd_T71 s0_1 x4_1).f3))).heap[gb111]? = some (.cells #[.int .i64 ((rd_T71 s0_1 x4_1).f0), .int .i64 ((rd_T71 s0_1 x4_1).f1), .int .i64 ((rd_T71 s0_1 x4_1).f2), .int .i64 ((rd_T71 s0_1 x4_1).f3)] 71 (0, 0))) := ⟨by (with_reducible repeat (first | refine blk_drewN ?_ _ | refine blk_drew ?_ | refine blk_alloc ?_ _)); refine blk_put (cs := #[.int .i64 ((rd_T71 s0_1 x4_1).f0), .int .i64 ((rd_T71 s0_1 x4_1).f1), .int .i64 ((rd_T71 s0_1 x4_1).f2), .int .i64 0]) ?_ 3 _ rfl; (with_reducible repeat (first | refine blk_drewN ?_ _ | refine blk_drew ?_ | refine blk_alloc ?_ _)); refine blk_put (cs := #[.int .i64 ((rd_T71 s0_1 x4_1).f0), .int .i64 ((rd_T71 s0_1 x4_1).f1), .int .i64 0, .int .i64 0]) ?_ 2 _ rfl; (with_reducible repeat (first | refine blk_drewN ?_ _ | refine blk_drew ?_ | refine blk_alloc ?_ _)); refine blk_put (cs := #[.int .i64 ((rd_T71 s0_1 x4_1).f0), .int .i64 0, .int .i64 0, .int .i64 0]) ?_ 1 _ rfl; (with_reducible repeat (first | refine blk_drewN ?_ _ | refine blk_drew ?_ | refine blk_alloc ?_ _)); refine blk_put (cs := #[.int .i64 0, .int .i64 0, .int .i64 0, .int .i64 0]) ?_ 0 _ rfl; (with_reducible repeat (first | refine blk_drewN ?_ _ | refine blk_drew ?_ | refine blk_alloc ?_ _)); exact BK111.out⟩
                          have n1_ : Aside0 (IsT30 w0 ((((w20.setCell ⟨gb111, 0, none⟩ (.int .i64 ((rd_T71 s0_1 x4_1).f0))).setCell ⟨gb111, 1, none⟩ (.int .i64 ((rd_T71 s0_1 x4_1).f1))).setCell ⟨gb111, 2, none⟩ (.int .i64 ((rd_T71 s0_1 x4_1).f2))).setCell ⟨gb111, 3, none⟩ (.int .i64 ((rd_T71 s0_1 x4_1).f3))) g s0_0 s0_1) := ⟨by repeat (first | (with_reducible first | exact HI0.out | apply IsT30.alloc | apply IsT30.drewN | apply IsT30.drew | apply IsT30.set_0 | refine IsT30.far ?_ NB0_111.out _) | exact HI0.out)⟩
                          have n2_ : Aside0 (KeepBut w ((((w20.setCell ⟨gb111, 0, none⟩ (.int .i64 ((rd_T71 s0_1 x4_1).f0))).setCell ⟨gb111, 1, none⟩ (.int .i64 ((rd_T71 s0_1 x4_1).f1))).setCell ⟨gb111, 2, none⟩ (.int .i64 ((rd_T71 s0_1 x4_1).f2))).setCell ⟨gb111, 3, none⟩ (.int .i64 ((rd_T71 s0_1 x4_1).f3))) g none) := ⟨by repeat (first | (with_reducible first | exact HK.out | apply KeepBut.set_ | apply keep_drewN | apply keep_drew | apply keep_alloc | refine keep_far ?_ GW111.out _) | exact HK.out)⟩
                          have n3_ : Aside0 (Below w0.heap.size w0 ((((w20.setCell ⟨gb111, 0, none⟩ (.int .i64 ((rd_T71 s0_1 x4_1).f0))).setCell ⟨gb111, 1, none⟩ (.int .i64 ((rd_T71 s0_1 x4_1).f1))).setCell ⟨gb111, 2, none⟩ (.int .i64 ((rd_T71 s0_1 x4_1).f2))).setCell ⟨gb111, 3, none⟩ (.int .i64 ((rd_T71 s0_1 x4_1).f3)))) := ⟨by repeat (first | (with_reducible first | exact HB.out | apply below_alloc | apply pw_below_drewN | apply below_drew1 | refine below_set ?_ (IsT30.ge HI0.out) | refine below_set ?_ GE111.out) | exact HB.out)⟩
                          (try clear BK111)
                          (try clear HI0)
                          (try clear HK)
                          (try clear HB)
                          generalize ((((w20.setCell ⟨gb111, 0, none⟩ (.int .i64 ((rd_T71 s0_1 x4_1).f0))).setCell ⟨gb111, 1, none⟩ (.int .i64 ((rd_T71 s0_1 x4_1).f1))).setCell ⟨gb111, 2, none⟩ (.int .i64 ((rd_T71 s0_1 x4_1).f2))).setCell ⟨gb111, 3, none⟩ (.int .i64 ((rd_T71 s0_1 x4_1).f3))) = w23 at n0_ n1_ n2_ n3_ ⊢
                          have BK111 := n0_
                          have HI0 := n1_
                          have HK := n2_
                          have HB := n3_
                          clear n0_ n1_ n2_ n3_
                          have n0_ := Aside0.mk (blk_drew BK111.out)
                          have n1_ := Aside0.mk (IsT30.drew HI0.out)
                          have n2_ := Aside0.mk (keep_drew HK.out)
                          have n3_ := Aside0.mk (below_drew1 HB.out)
                          clear BK111
                          clear HI0
                          clear HK
                          clear HB
                          have BK111 := n0_
                          have HI0 := n1_
                          have HK := n2_
                          have HB := n3_
                          clear n0_ n1_ n2_ n3_
                          refine start_ (n := 22) (S := fun w' => w'.cell? ⟨gb111, 0, none⟩ = some (.int .i64 ((rd_T71 s0_1 x4_1).f0)) ∧ w'.cell? ⟨gb111, 1, none⟩ = some (.int .i64 ((rd_T71 s0_1 x4_1).f1)) ∧ w'.cell? ⟨gb111, 2, none⟩ = some (.int .i64 ((rd_T71 s0_1 x4_1).f2)) ∧ w'.cell? ⟨gb111, 3, none⟩ = some (.int .i64 ((rd_T71 s0_1 x4_1).f3))) (ds := []) #[false, false, false, false, false, false, false, false, false, false, false, false, false, false, false, false, false, false, false, false, false, false] (by kernel_rfl) rfl rfl ⟨(blk_cell BK111.out 0).trans rfl, (blk_cell BK111.out 1).trans rfl, (blk_cell BK111.out 2).trans rfl, (blk_cell BK111.out 3).trans rfl⟩ (fun hHeld => ?_); refine with_tabW spec_l10Text.tab6 spec_l10Text.bits6 (fun HT_ HW_ => ?_)
                          generalize w23.drew = w24 at BK111 HI0 HK HB hHeld ⊢
                          refine pure_ (i := 0) (N := some 27) (v := ?_) (a' := ?_) #[true, false, false, false, false, false, false, false, false, false, false, false, false, false, false, false, false, false, false, false, false, false] rfl rfl (any_of HT_.out (by kernel_rfl)) (fun _ _ _ h => h) (Or.inl ⟨by rfl, ?_⟩) ?_ ?_
                          rotate_left
                          · intro w'
                            go_simp
                            with_reducible rfl
                          rotate_left
                          · simp only [Act.put, List.setIfInBounds_toArray, List.set_cons_zero, List.set_cons_succ, i64_w, i32_w]
                            rfl
                          refine pure_ (i := 1) (N := some 28) (v := ?_) (a' := ?_) #[true, true, false, false, false, false, false, false, false, false, false, false, false, false, false, false, false, false, false, false, false, false] rfl rfl (any_of HT_.out (by kernel_rfl)) (fun _ _ _ h => h) (Or.inl ⟨by rfl, ?_⟩) ?_ ?_
                          rotate_left
                          · intro w'
                            go_simp
                            with_reducible rfl
                          rotate_left
                          · simp only [Act.put, List.setIfInBounds_toArray, List.set_cons_zero, List.set_cons_succ, i64_w, i32_w]
                            rfl
                          refine pure_ (i := 6) (N := some 33) (v := ?_) (a' := ?_) #[true, true, false, false, false, false, true, false, false, false, false, false, false, false, false, false, false, false, false, false, false, false] rfl rfl (any_of HT_.out (by kernel_rfl)) (fun _ _ _ h => h) (Or.inl ⟨by rfl, ?_⟩) ?_ ?_
                          rotate_left
                          · intro w'
                            go_simp
                            with_reducible rfl
                          rotate_left
                          · simp only [Act.put, List.setIfInBounds_toArray, List.set_cons_zero, List.set_cons_succ, i64_w, i32_w]
                            rfl
                          refine pure_ (i := 11) (N := some 38) (v := ?_) (a' := ?_) #[true, true, false, false, false, false, true, false, false, false, false, true, false, false, false, false, false, false, false, false, false, false] rfl rfl (any_of HT_.out (by kernel_rfl)) (fun _ _ _ h => h) (Or.inl ⟨by rfl, ?_⟩) ?_ ?_
                          rotate_left
                          · intro w'
                            go_simp
                            with_reducible rfl
                          rotate_left
                          · simp only [Act.put, List.setIfInBounds_toArray, List.set_cons_zero, List.set_cons_succ, i64_w, i32_w]
                            rfl
                          refine pure_ (i := 16) (N := some 43) (v := ?_) (a' := ?_) #[true, true, false, false, false, false, true, false, false, false, false, true, false, false, false, false, true, false, false, false, false, false] rfl rfl (any_of HT_.out (by kernel_rfl)) (fun _ _ _ h => h) (Or.inl ⟨by rfl, ?_⟩) ?_ ?_
                          rotate_left
                          · intro w'
                            go_simp
                            with_reducible rfl
                          rotate_left
                          · simp only [Act.put, List.setIfInBounds_toArray, List.set_cons_zero, List.set_cons_succ, i64_w, i32_w]
                            rfl
                          refine take_ (i := 2) (N := some 29) (v := ?_) (a' := ?_) #[true, true, true, false, false, false, true, false, false, false, false, true, false, false, false, false, true, false, false, false, false, false] rfl rfl (take_ofW HT_.out HW_.out (by kernel_rfl)) (fun _ _ _ h => h) (Or.inl ⟨by rfl, ?_⟩) hHeld ?_ ?_
                          rotate_left
                          · rintro w' ⟨s0, s1, s2, s3⟩
                            go_simp
                            with_reducible rfl
                          rotate_left
                          · simp only [Act.put, List.setIfInBounds_toArray, List.set_cons_zero, List.set_cons_succ, i64_w, i32_w]
                            rfl
                          refine take_ (i := 7) (N := some 34) (v := ?_) (a' := ?_) #[true, true, true, false, false, false, true, true, false, false, false, true, false, false, false, false, true, false, false, false, false, false] rfl rfl (take_ofW HT_.out HW_.out (by kernel_rfl)) (fun _ _ _ h => h) (Or.inl ⟨by rfl, ?_⟩) hHeld ?_ ?_
                          rotate_left
                          · rintro w' ⟨s0, s1, s2, s3⟩
                            go_simp
                            with_reducible rfl
                          rotate_left
                          · simp only [Act.put, List.setIfInBounds_toArray, List.set_cons_zero, List.set_cons_succ, i64_w, i32_w]
                            rfl
                          refine take_ (i := 12) (N := some 39) (v := ?_) (a' := ?_) #[true, true, true, false, false, false, true, true, false, false, false, true, true, false, false, false, true, false, false, false, false, false] rfl rfl (take_ofW HT_.out HW_.out (by kernel_rfl)) (fun _ _ _ h => h) (Or.inl ⟨by rfl, ?_⟩) hHeld ?_ ?_
                          rotate_left
                          · rintro w' ⟨s0, s1, s2, s3⟩
                            go_simp
                            with_reducible rfl
                          rotate_left
                          · simp only [Act.put, List.setIfInBounds_toArray, List.set_cons_zero, List.set_cons_succ, i64_w, i32_w]
                            rfl
                          refine take_ (i := 17) (N := some 44) (v := ?_) (a' := ?_) #[true, true, true, false, false, false, true, true, false, false, false, true, true, false, false, false, true, true, false, false, false, false] rfl rfl (take_ofW HT_.out HW_.out (by kernel_rfl)) (fun _ _ _ h => h) (Or.inl ⟨by rfl, ?_⟩) hHeld ?_ ?_
                          rotate_left
                          · rintro w' ⟨s0, s1, s2, s3⟩
                            go_simp
                            with_reducible rfl
                          rotate_left
                          · simp only [Act.put, List.setIfInBounds_toArray, List.set_cons_zero, List.set_cons_succ, i64_w, i32_w]
                            rfl
                          refine one_ (i := 3) (N := some 30) #[true, true, true, true, false, false, true, true, false, false, false, true, true, false, false, false, true, true, false, false, false, false] rfl rfl (one_of HT_.out (by kernel_rfl)) (by decide) (fun K hK => ?_)
                          refine goes_ Tryd.func67 (by kernel_rfl) rfl #[.int .i64 ((rd_T71 s0_1 x4_1).f0)] (by rfl) rfl rfl (by (try simp only [List.map_toArray, List.map_cons, List.map_nil]); first | done | rfl | (simp only [List.length_drop, List.length_take]; rfl)) ?_
                          with_reducible refine (spec_l01Dec.calls k1 ((rd_T71 s0_1 x4_1).f0) t112 _ A7.out).mono ?_
                          rintro e w25 ⟨rfl, hb⟩
                          refine ⟨_, rfl, ?_⟩
                          have n0_ := Aside0.mk (IsT30.below (by repeat (first | (with_reducible first | exact HI0.out | apply IsT30.alloc | apply IsT30.drewN | apply IsT30.drew | apply IsT30.set_0 | refine IsT30.far ?_ NB0_111.out _) | exact HI0.out)) hb)
                          have n1_ := Aside0.mk (blk_below (g := gb111) (o := .cells #[.int .i64 ((rd_T71 s0_1 x4_1).f0), .int .i64 ((rd_T71 s0_1 x4_1).f1), .int .i64 ((rd_T71 s0_1 x4_1).f2), .int .i64 ((rd_T71 s0_1 x4_1).f3)] 71 (0, 0)) (by (with_reducible repeat (first | refine blk_drewN ?_ _ | refine blk_drew ?_ | refine blk_alloc ?_ _)); exact BK111.out) hb)
                          have n2_ := Aside0.mk (KeepBut.trans (by repeat (first | (with_reducible first | exact HK.out | apply KeepBut.set_ | apply keep_drewN | apply keep_drew | apply keep_alloc | refine keep_far ?_ GW111.out _) | exact HK.out)) (KeepBut.of_below hb g none) (.inl rfl))
                          have n3_ := Aside0.mk (below_step (by repeat (first | (with_reducible first | exact HB.out | apply below_alloc | apply pw_below_drewN | apply below_drew1 | refine below_set ?_ (IsT30.ge HI0.out) | refine below_set ?_ GE111.out) | exact HB.out)) hb)
                          clear HI0
                          clear BK111
                          clear HK
                          clear HB
                          have HI0 := n0_
                          have BK111 := n1_
                          have HK := n2_
                          have HB := n3_
                          clear n0_ n1_ n2_ n3_
                          (try clear hb)
                          (try clear hb2)
                          (try clear hk)
                          (try clear hi)
                          refine hK.out _ _ ⟨(blk_cell BK111.out 0).trans rfl, (blk_cell BK111.out 1).trans rfl, (blk_cell BK111.out 2).trans rfl, (blk_cell BK111.out 3).trans rfl⟩ (fun hHeld => ?_)
                          clear hK K
                          refine norm_ (a' := ?_) ?_ ?_
                          rotate_left
                          · show Act.put _ (some 30) _ = _
                            simp only [Act.put, List.setIfInBounds_toArray, List.set_cons_zero, List.set_cons_succ, i64_w, i32_w]
                            rfl
                          refine pure_ (i := 4) (N := some 31) (v := ?_) (a' := ?_) #[true, true, true, true, true, false, true, true, false, false, false, true, true, false, false, false, true, true, false, false, false, false] rfl rfl (any_of HT_.out (by kernel_rfl)) (fun _ _ _ h => h) (Or.inl ⟨by rfl, ?_⟩) ?_ ?_
                          rotate_left
                          · intro w'
                            go_simp
                            with_reducible rfl
                          rotate_left
                          · simp only [Act.put, List.setIfInBounds_toArray, List.set_cons_zero, List.set_cons_succ, i64_w, i32_w]
                            rfl
                          refine pure_ (i := 5) (N := some 32) (v := ?_) (a' := ?_) #[true, true, true, true, true, true, true, true, false, false, false, true, true, false, false, false, true, true, false, false, false, false] rfl rfl (any_of HT_.out (by kernel_rfl)) (fun _ _ _ h => h) (Or.inl ⟨by rfl, ?_⟩) ?_ ?_
                          rotate_left
                          · intro w'
                            go_simp
                            with_reducible rfl
                          rotate_left
                          · simp only [Act.put, List.setIfInBounds_toArray, List.set_cons_zero, List.set_cons_succ, i64_w, i32_w]
                            rfl
                          refine one_ (i := 8) (N := some 35) #[true, true, true, true, true, true, true, true, true, false, false, true, true, false, false, false, true, true, false, false, false, false] rfl rfl (one_of HT_.out (by kernel_rfl)) (by decide) (fun K hK => ?_)
                          refine goes_ Tryd.func67 (by kernel_rfl) rfl #[.int .i64 ((rd_T71 s0_1 x4_1).f1)] (by rfl) rfl rfl (by (try simp only [List.map_toArray, List.map_cons, List.map_nil]); first | done | rfl | (simp only [List.length_drop, List.length_take]; rfl)) ?_
                          with_reducible refine (spec_l01Dec.calls k1 ((rd_T71 s0_1 x4_1).f1) t113 _ A10.out).mono ?_
                          rintro e w26 ⟨rfl, hb⟩
                          refine ⟨_, rfl, ?_⟩
                          have n0_ := Aside0.mk (IsT30.below (by repeat (first | (with_reducible first | exact HI0.out | apply IsT30.alloc | apply IsT30.drewN | apply IsT30.drew | apply IsT30.set_0 | refine IsT30.far ?_ NB0_111.out _) | exact HI0.out)) hb)
                          have n1_ := Aside0.mk (blk_below (g := gb111) (o := .cells #[.int .i64 ((rd_T71 s0_1 x4_1).f0), .int .i64 ((rd_T71 s0_1 x4_1).f1), .int .i64 ((rd_T71 s0_1 x4_1).f2), .int .i64 ((rd_T71 s0_1 x4_1).f3)] 71 (0, 0)) (by (with_reducible repeat (first | refine blk_drewN ?_ _ | refine blk_drew ?_ | refine blk_alloc ?_ _)); exact BK111.out) hb)
                          have n2_ := Aside0.mk (KeepBut.trans (by repeat (first | (with_reducible first | exact HK.out | apply KeepBut.set_ | apply keep_drewN | apply keep_drew | apply keep_alloc | refine keep_far ?_ GW111.out _) | exact HK.out)) (KeepBut.of_below hb g none) (.inl rfl))
                          have n3_ := Aside0.mk (below_step (by repeat (first | (with_reducible first | exact HB.out | apply below_alloc | apply pw_below_drewN | apply below_drew1 | refine below_set ?_ (IsT30.ge HI0.out) | refine below_set ?_ GE111.out) | exact HB.out)) hb)
                          clear HI0
                          clear BK111
                          clear HK
                          clear HB
                          have HI0 := n0_
                          have BK111 := n1_
                          have HK := n2_
                          have HB := n3_
                          clear n0_ n1_ n2_ n3_
                          (try clear hb)
                          (try clear hb2)
                          (try clear hk)
                          (try clear hi)
                          refine hK.out _ _ ⟨(blk_cell BK111.out 0).trans rfl, (blk_cell BK111.out 1).trans rfl, (blk_cell BK111.out 2).trans rfl, (blk_cell BK111.out 3).trans rfl⟩ (fun hHeld => ?_)
                          clear hK K
                          refine norm_ (a' := ?_) ?_ ?_
                          rotate_left
                          · show Act.put _ (some 35) _ = _
                            simp only [Act.put, List.setIfInBounds_toArray, List.set_cons_zero, List.set_cons_succ, i64_w, i32_w]
                            rfl
                          refine pure_ (i := 9) (N := some 36) (v := ?_) (a' := ?_) #[true, true, true, true, true, true, true, true, true, true, false, true, true, false, false, false, true, true, false, false, false, false] rfl rfl (any_of HT_.out (by kernel_rfl)) (fun _ _ _ h => h) (Or.inl ⟨by rfl, ?_⟩) ?_ ?_
                          rotate_left
                          · intro w'
                            go_simp
                            with_reducible rfl
                          rotate_left
                          · simp only [Act.put, List.setIfInBounds_toArray, List.set_cons_zero, List.set_cons_succ, i64_w, i32_w]
                            rfl
                          refine pure_ (i := 10) (N := some 37) (v := ?_) (a' := ?_) #[true, true, true, true, true, true, true, true, true, true, true, true, true, false, false, false, true, true, false, false, false, false] rfl rfl (any_of HT_.out (by kernel_rfl)) (fun _ _ _ h => h) (Or.inl ⟨by rfl, ?_⟩) ?_ ?_
                          rotate_left
                          · intro w'
                            go_simp
                            with_reducible rfl
                          rotate_left
                          · simp only [Act.put, List.setIfInBounds_toArray, List.set_cons_zero, List.set_cons_succ, i64_w, i32_w]
                            rfl
                          refine one_ (i := 13) (N := some 40) #[true, true, true, true, true, true, true, true, true, true, true, true, true, true, false, false, true, true, false, false, false, false] rfl rfl (one_of HT_.out (by kernel_rfl)) (by decide) (fun K hK => ?_)
                          refine goes_ Tryd.func67 (by kernel_rfl) rfl #[.int .i64 ((rd_T71 s0_1 x4_1).f2)] (by rfl) rfl rfl (by (try simp only [List.map_toArray, List.map_cons, List.map_nil]); first | done | rfl | (simp only [List.length_drop, List.length_take]; rfl)) ?_
                          with_reducible refine (spec_l01Dec.calls k1 ((rd_T71 s0_1 x4_1).f2) t114 _ A13.out).mono ?_
                          rintro e w27 ⟨rfl, hb⟩
                          refine ⟨_, rfl, ?_⟩
                          have n0_ := Aside0.mk (IsT30.below (by repeat (first | (with_reducible first | exact HI0.out | apply IsT30.alloc | apply IsT30.drewN | apply IsT30.drew | apply IsT30.set_0 | refine IsT30.far ?_ NB0_111.out _) | exact HI0.out)) hb)
                          have n1_ := Aside0.mk (blk_below (g := gb111) (o := .cells #[.int .i64 ((rd_T71 s0_1 x4_1).f0), .int .i64 ((rd_T71 s0_1 x4_1).f1), .int .i64 ((rd_T71 s0_1 x4_1).f2), .int .i64 ((rd_T71 s0_1 x4_1).f3)] 71 (0, 0)) (by (with_reducible repeat (first | refine blk_drewN ?_ _ | refine blk_drew ?_ | refine blk_alloc ?_ _)); exact BK111.out) hb)
                          have n2_ := Aside0.mk (KeepBut.trans (by repeat (first | (with_reducible first | exact HK.out | apply KeepBut.set_ | apply keep_drewN | apply keep_drew | apply keep_alloc | refine keep_far ?_ GW111.out _) | exact HK.out)) (KeepBut.of_below hb g none) (.inl rfl))
                          have n3_ := Aside0.mk (below_step (by repeat (first | (with_reducible first | exact HB.out | apply below_alloc | apply pw_below_drewN | apply below_drew1 | refine below_set ?_ (IsT30.ge HI0.out) | refine below_set ?_ GE111.out) | exact HB.out)) hb)
                          clear HI0
                          clear BK111
                          clear HK
                          clear HB
                          have HI0 := n0_
                          have BK111 := n1_
                          have HK := n2_
                          have HB := n3_
                          clear n0_ n1_ n2_ n3_
                          (try clear hb)
                          (try clear hb2)
                          (try clear hk)
                          (try clear hi)
                          refine hK.out _ _ ⟨(blk_cell BK111.out 0).trans rfl, (blk_cell BK111.out 1).trans rfl, (blk_cell BK111.out 2).trans rfl, (blk_cell BK111.out 3).trans rfl⟩ (fun hHeld => ?_)
                          clear hK K
                          refine norm_ (a' := ?_) ?_ ?_
                          rotate_left
                          · show Act.put _ (some 40) _ = _
                            simp only [Act.put, List.setIfInBounds_toArray, List.set_cons_zero, List.set_cons_succ, i64_w, i32_w]
                            rfl
                          refine pure_ (i := 14) (N := some 41) (v := ?_) (a' := ?_) #[true, true, true, true, true, true, true, true, true, true, true, true, true, true, true, false, true, true, false, false, false, false] rfl rfl (any_of HT_.out (by kernel_rfl)) (fun _ _ _ h => h) (Or.inl ⟨by rfl, ?_⟩) ?_ ?_
                          rotate_left
                          · intro w'
                            go_simp
                            with_reducible rfl
                          rotate_left
                          · simp only [Act.put, List.setIfInBounds_toArray, List.set_cons_zero, List.set_cons_succ, i64_w, i32_w]
                            rfl
                          refine pure_ (i := 15) (N := some 42) (v := ?_) (a' := ?_) #[true, true, true, true, true, true, true, true, true, true, true, true, true, true, true, true, true, true, false, false, false, false] rfl rfl (any_of HT_.out (by kernel_rfl)) (fun _ _ _ h => h) (Or.inl ⟨by rfl, ?_⟩) ?_ ?_
                          rotate_left
                          · intro w'
                            go_simp
                            with_reducible rfl
                          rotate_left
                          · simp only [Act.put, List.setIfInBounds_toArray, List.set_cons_zero, List.set_cons_succ, i64_w, i32_w]
                            rfl
                          refine one_ (i := 18) (N := some 45) #[true, true, true, true, true, true, true, true, true, true, true, true, true, true, true, true, true, true, true, false, false, false] rfl rfl (one_of HT_.out (by kernel_rfl)) (by decide) (fun K hK => ?_)
                          refine goes_ Tryd.func67 (by kernel_rfl) rfl #[.int .i64 ((rd_T71 s0_1 x4_1).f3)] (by rfl) rfl rfl (by (try simp only [List.map_toArray, List.map_cons, List.map_nil]); first | done | rfl | (simp only [List.length_drop, List.length_take]; rfl)) ?_
                          with_reducible refine (spec_l01Dec.calls k1 ((rd_T71 s0_1 x4_1).f3) t115 _ A16.out).mono ?_
                          rintro e w28 ⟨rfl, hb⟩
                          refine ⟨_, rfl, ?_⟩
                          have n0_ := Aside0.mk (IsT30.below (by repeat (first | (with_reducible first | exact HI0.out | apply IsT30.alloc | apply IsT30.drewN | apply IsT30.drew | apply IsT30.set_0 | refine IsT30.far ?_ NB0_111.out _) | exact HI0.out)) hb)
                          have n1_ := Aside0.mk (blk_below (g := gb111) (o := .cells #[.int .i64 ((rd_T71 s0_1 x4_1).f0), .int .i64 ((rd_T71 s0_1 x4_1).f1), .int .i64 ((rd_T71 s0_1 x4_1).f2), .int .i64 ((rd_T71 s0_1 x4_1).f3)] 71 (0, 0)) (by (with_reducible repeat (first | refine blk_drewN ?_ _ | refine blk_drew ?_ | refine blk_alloc ?_ _)); exact BK111.out) hb)
                          have n2_ := Aside0.mk (KeepBut.trans (by repeat (first | (with_reducible first | exact HK.out | apply KeepBut.set_ | apply keep_drewN | apply keep_drew | apply keep_alloc | refine keep_far ?_ GW111.out _) | exact HK.out)) (KeepBut.of_below hb g none) (.inl rfl))
                          have n3_ := Aside0.mk (below_step (by repeat (first | (with_reducible first | exact HB.out | apply below_alloc | apply pw_below_drewN | apply below_drew1 | refine below_set ?_ (IsT30.ge HI0.out) | refine below_set ?_ GE111.out) | exact HB.out)) hb)
                          clear HI0
                          clear BK111
                          clear HK
                          clear HB
                          have HI0 := n0_
                          have BK111 := n1_
                          have HK := n2_
                          have HB := n3_
                          clear n0_ n1_ n2_ n3_
                          (try clear hb)
                          (try clear hb2)
                          (try clear hk)
                          (try clear hi)
                          refine hK.out _ _ ⟨(blk_cell BK111.out 0).trans rfl, (blk_cell BK111.out 1).trans rfl, (blk_cell BK111.out 2).trans rfl, (blk_cell BK111.out 3).trans rfl⟩ (fun hHeld => ?_)
                          clear hK K
                          refine norm_ (a' := ?_) ?_ ?_
                          rotate_left
                          · show Act.put _ (some 45) _ = _
                            simp only [Act.put, List.setIfInBounds_toArray, List.set_cons_zero, List.set_cons_succ, i64_w, i32_w]
                            rfl
                          refine pure_ (i := 19) (N := some 46) (v := ?_) (a' := ?_) #[true, true, true, true, true, true, true, true, true, true, true, true, true, true, true, true, true, true, true, true, false, false] rfl rfl (any_of HT_.out (by kernel_rfl)) (fun _ _ _ h => h) (Or.inl ⟨by rfl, ?_⟩) ?_ ?_
                          rotate_left
                          · intro w'
                            go_simp
                            with_reducible rfl
                          rotate_left
                          · simp only [Act.put, List.setIfInBounds_toArray, List.set_cons_zero, List.set_cons_succ, i64_w, i32_w]
                            rfl
                          refine pure_ (i := 20) (N := some 47) (v := ?_) (a' := ?_) #[true, true, true, true, true, true, true, true, true, true, true, true, true, true, true, true, true, true, true, true, true, false] rfl rfl (any_of HT_.out (by kernel_rfl)) (fun _ _ _ h => h) (Or.inl ⟨by rfl, ?_⟩) ?_ ?_
                          rotate_left
                          · intro w'
                            go_simp
                            with_reducible rfl
                          rotate_left
                          · simp only [Act.put, List.setIfInBounds_toArray, List.set_cons_zero, List.set_cons_succ, i64_w, i32_w]
                            rfl
                          refine pure_ (i := 21) (N := some 3) (v := ?_) (a' := ?_) #[true, true, true, true, true, true, true, true, true, true, true, true, true, true, true, true, true, true, true, true, true, true] rfl rfl (any_of HT_.out (by kernel_rfl)) (fun _ _ _ h => h) (Or.inl ⟨by rfl, ?_⟩) ?_ ?_
                          rotate_left
                          · intro w'
                            go_simp
                            with_reducible rfl
                          rotate_left
                          · simp only [Act.put, List.setIfInBounds_toArray, List.set_cons_zero, List.set_cons_succ, i64_w, i32_w]
                            rfl
                          refine done_ (done_of HT_.out (by kernel_rfl)) ?_
                          try go_wp2
                          go_roundg k1
                          case measure => have := HK1.out; omega
                          case rel => exact ⟨(x3_1 ++ ((((((((⟨#[32]⟩ : ByteArray) ++ t112) ++ (⟨#[62]⟩ : ByteArray)) ++ t113) ++ (⟨#[61]⟩ : ByteArray)) ++ t114) ++ (⟨#[42]⟩ : ByteArray)) ++ t115)), (wrap64 (x4_1 + 1)), (by first | rfl | (simp; done) | (simp [*]; done)), (by first | rfl | (simp; done) | (simp [*]; done)), H', ⟨by have := HK1.out; omega⟩, ⟨by repeat (first | (with_reducible first | exact HI0.out | apply IsT30.alloc | apply IsT30.drewN | apply IsT30.drew | apply IsT30.set_0 | refine IsT30.far ?_ NB0_111.out _) | exact HI0.out)⟩, ⟨by repeat (first | (with_reducible first | exact HK.out | apply KeepBut.set_ | apply keep_drewN | apply keep_drew | apply keep_alloc | refine keep_far ?_ GW111.out _) | exact HK.out)⟩, ⟨by repeat (first | (with_reducible first | exact HB.out | apply below_alloc | apply pw_below_drewN | apply below_drew1 | refine below_set ?_ (IsT30.ge HI0.out) | refine below_set ?_ GE111.out) | exact HB.out)⟩⟩
                        · rw [if_neg c18] at H
                          exact absurd H (by simp)
                      · rw [if_neg c17] at H
                        exact absurd H (by simp)
                    · rw [if_neg c15] at H
                      exact absurd H (by simp)
                  · rw [if_neg c14] at H
                    exact absurd H (by simp)
                · rw [if_neg c12] at H
                  exact absurd H (by simp)
              · rw [if_neg c11] at H
                exact absurd H (by simp)
            · rw [if_neg c9] at H
              exact absurd H (by simp)
          · rw [if_neg c8] at H
            exact absurd H (by simp)
        · rw [if_neg c6] at H
          exact absurd H (by simp)
      · rw [if_neg c5] at H
        have c5b0 : decide (x4_1 < (s0_1.length : Int)) = false := decide_eq_false c5
        clear c5
        simp only [Option.some.injEq, Prod.mk.injEq] at H
        obtain ⟨rfl, rfl⟩ := H
        obtain ⟨ASz29_1, cSz29_1, HGz29, hgz29, HSz29_1⟩ := HI0.out
        have hcz29_0 := cellS30_0 HGz29
        have hcz29_1 := cellS30_1 HGz29
        have hfz29_0 := blk_frozen HGz29 0
        clear HGz29 hgz29
        go_wp2
        go_ret
        exact ⟨by first | rfl | (simp [errW_none, errW_some] <;> rfl) | (simp [*, errW_none, errW_some] <;> rfl), by repeat (first | (with_reducible first | exact HI0.out | apply IsT30.alloc | apply IsT30.drewN | apply IsT30.drew | apply IsT30.set_0) | exact HI0.out), by repeat (first | (with_reducible first | exact HB.out | apply below_alloc | apply pw_below_drewN | apply below_drew1 | refine below_set ?_ (IsT30.ge HI0.out)) | exact HB.out), by repeat (first | (with_reducible first | exact HK.out | apply KeepBut.set_ | apply keep_drewN | apply keep_drew | apply keep_alloc) | exact HK.out)⟩


end Go.Proofs.YtkbklocfdoofeaaDoor.Q

/- The reference's ReadSurvey: the numbers of a text as a survey, if the survey's text is the text. -/
namespace Go.Proofs.YtkbklocfdoofeaaDoor.Rv
open Go.RowKit Go.Proofs.YtkbklocfdoofeaaDoorW.PrintWords Go.Proofs.YtkbklocfdoofeaaDoorW.PrintLast Go.Proofs.YtkbklocfdoofeaaDoorW.PrintMore Go.Proofs.YtkbklocfdoofeaaDoor.Q Go.Proofs.YtkbklocfdoofeaaDoor.Hb
set_option linter.unusedSimpArgs false
set_option linter.unusedVariables false
abbrev Sg := S71
def TS (B : Nat) (W : World) (v : Value) (xs : List Sg) : Prop := Kd.R k71 71 W B (fun _ => True) v xs
/-- The sight at a place of a list of numbers. -/
def sg1 (l : List Int) (i : Int) : Sg := ⟨rd l i, rd l (wrap64 (i + 1)), rd l (wrap64 (i + 2)), rd l (wrap64 (i + 3))⟩
/-- The first sights of a list of numbers. -/
def sgt (l : List Int) (n : Nat) : List Sg := (List.range n).map fun (j : Nat) => sg1 l (4 * (j : Int) + 1)
theorem sgt_len (l : List Int) (n : Nat) : (sgt l n).length = n := by simp [sgt]
theorem sgt_succ (l : List Int) (n : Nat) : sgt l (n + 1) = sgt l n ++ [sg1 l (4 * (n : Int) + 1)] := by simp [sgt, List.range_succ]
theorem no_nums (k : Nat) (a0 : ByteArray) (nums : List Int) (w : World) (h1 : spec_l02Numbers.f k a0 = some nums) (hno : nums.length = 0 ∨ 33 < nums.length) :
    Calls Tryd.prog 23 #[.string a0] w fun e w' => e = .returned (.tuple #[.agg #[.int .i64 0, .slice none 0 0], .bool false]) ∧ Below w.heap.size w w' := by
  have hu71 := Tryd.underlying71
  have hu30 := Tryd.underlying30
  have H1 := Aside0.mk h1
  clear h1
  rcases hno with h0 | h0
  · have c0 : ((nums.length : Int) == 0) = true := beq_iff_eq.mpr (by omega)
    clear h0
    go_enter Tryd.func23, Tryd.ntmps23
    go_wp2_with (go_at_call 54; refine (spec_l02Numbers.calls k a0 nums _ H1.out).mono ?_; rintro e w1 ⟨v, rfl, hR, hb⟩; obtain ⟨A, cA, rfl, hcA, hC⟩ := Kd.R_reads hR; have hr := blk_below (blk_new w (.cells #[.int .i64 0, .slice none 0 0] 30)) hb; have HR := Aside0.mk hr; have hr0 := blk_cell hr 0; have hr1 := blk_cell hr 1; have hf0 := blk_frozen hr 0; have hf1 := blk_frozen hr 1; have HB := Aside0.mk (below_step (below_alloc (Below.refl w.heap.size w) _) hb); clear hb hR hC hcA hr)
    refine bodyPost_ret (results_ct rfl _ _ w.heap.size 30 #[.int .i64 0, .slice none 0 0] (0, 0) _ rfl (blk_put (blk_put HR.out 0 (.int .i64 0) rfl) 1 (.slice none 0 0) rfl) hu30 rfl (by kernel_rfl)) rfl ?_
    exact ⟨rfl, (HB.out.setCell (p := ⟨w.heap.size, 0, none⟩) (Nat.le_refl _) _).setCell (p := ⟨w.heap.size, 1, none⟩) (Nat.le_refl _) _⟩
  · have c0 : ((nums.length : Int) == 0) = false := beq_eq_false_iff_ne.mpr (by omega)
    have c1 : decide ((33 : Int) < (nums.length : Int)) = true := decide_eq_true (by omega)
    clear h0
    go_enter Tryd.func23, Tryd.ntmps23
    go_wp2_with (go_at_call 54; refine (spec_l02Numbers.calls k a0 nums _ H1.out).mono ?_; rintro e w1 ⟨v, rfl, hR, hb⟩; obtain ⟨A, cA, rfl, hcA, hC⟩ := Kd.R_reads hR; have hr := blk_below (blk_new w (.cells #[.int .i64 0, .slice none 0 0] 30)) hb; have HR := Aside0.mk hr; have hr0 := blk_cell hr 0; have hr1 := blk_cell hr 1; have hf0 := blk_frozen hr 0; have hf1 := blk_frozen hr 1; have HB := Aside0.mk (below_step (below_alloc (Below.refl w.heap.size w) _) hb); clear hb hR hC hcA hr)
    refine bodyPost_ret (results_ct rfl _ _ w.heap.size 30 #[.int .i64 0, .slice none 0 0] (0, 0) _ rfl (blk_put (blk_put HR.out 0 (.int .i64 0) rfl) 1 (.slice none 0 0) rfl) hu30 rfl (by kernel_rfl)) rfl ?_
    exact ⟨rfl, (HB.out.setCell (p := ⟨w.heap.size, 0, none⟩) (Nat.le_refl _) _).setCell (p := ⟨w.heap.size, 1, none⟩) (Nat.le_refl _) _⟩
theorem nums_keep {w1 W : World} {a b c d : Addr} {u1 u2 u3 u4 : Value} (h : w1.cell? a = some u1 ∧ w1.cell? b = some u2 ∧ w1.cell? c = some u3 ∧ w1.cell? d = some u4) (hb : Below w1.heap.size w1 W) :
    W.cell? a = some u1 ∧ W.cell? b = some u2 ∧ W.cell? c = some u3 ∧ W.cell? d = some u4 :=
  ⟨pw_cell_below hb h.1, pw_cell_below hb h.2.1, pw_cell_below hb h.2.2.1, pw_cell_below hb h.2.2.2⟩
/-- The numbers as a survey. -/
def vS (l : List Int) : List Sg := sgt l ((l.length - 1) / 4)
set_option maxHeartbeats 4000000 in
set_option maxRecDepth 100000 in
theorem some_nums (k k2 : Nat) (a0 : ByteArray) (nums : List Int) (t : ByteArray) (bb be : Bool) (w : World) (h1 : spec_l02Numbers.f k a0 = some nums) (hlo : 0 < nums.length) (hhi : nums.length ≤ 33) (hb : surveyB (rd nums 0) (vS nums) = bb)
    (ht : bb = true → ∃ q, spec_l10Text.f k2 (rd nums 0) (vS nums) = some (t, q)) (he : (t.toList == a0.toList) = be) :
    Calls Tryd.prog 23 #[.string a0] w fun e w' => ∃ v, e = .returned (.tuple #[.agg #[.int .i64 (if bb && be then rd nums 0 else 0), v], .bool (bb && be)]) ∧ TS w.heap.size w' v (if bb && be then vS nums else []) ∧ Below w.heap.size w w' := by
  have hu71 := Tryd.underlying71
  have hu30 := Tryd.underlying30
  have H1 := Aside0.mk h1
  have HBB := Aside0.mk hb
  have HTT := Aside0.mk ht
  have HEE := Aside0.mk he
  have c0 : ((nums.length : Int) == 0) = false := beq_eq_false_iff_ne.mpr (by omega)
  have c1 : decide ((33 : Int) < (nums.length : Int)) = false := decide_eq_false (by omega)
  have p0 : (0 : Int) ≤ 0 := Int.le_refl 0
  have q0 : (0 : Int) < (nums.length : Int) := by omega
  have c2 : decide ((0 : Int) < (nums.length : Int)) = true := decide_eq_true q0
  have c3 : decide (0 < nums.length) = true := decide_eq_true hlo
  clear h1 hb ht he
  obtain ⟨pts, hpts⟩ : ∃ p, p = rd nums 0 := ⟨_, rfl⟩
  have HP := Aside0.mk hpts
  clear hpts
  go_enter Tryd.func23, Tryd.ntmps23
  go_wp2_with (go_at_call 54; refine (spec_l02Numbers.calls k a0 nums _ H1.out).mono ?_; rintro e w1 ⟨v, rfl, hR, hb⟩; obtain ⟨A, cA, rfl, hcA, hC⟩ := Kd.R_reads hR; obtain ⟨ad, rfl, hx⟩ := Kd.at_int hC 0 p0 q0; rw [← HP.out] at hx; rw [show Int.toNat 0 = 0 from rfl, Addr.add, if_pos rfl] at hx; have hr := blk_below (blk_new w (.cells #[.int .i64 0, .slice none 0 0] 30)) hb; have HR := Aside0.mk hr; have HC := Aside0.mk hC; have HB := Aside0.mk (below_step (below_alloc (Below.refl w.heap.size w) _) hb); clear hb hR hC hcA hr)
  have hbase : w.heap.size ≤ w1.heap.size := below_size HB.out
  have t0 : TS w1.heap.size (w1.alloc (.cells #[] 71)) (.slice (some ⟨w1.heap.size, 0, none⟩) 0 0) [] := by
    have ho := World.ownsRow_lit (base := w1.heap.size) (e := 71) (size := 4) w1 #[] 0 (by simp) (by simp [maxLen]) (by simp)
    have ho' : (w1.alloc (.cells #[] 71)).ownsRow w1.heap.size 71 4 (.slice (some ⟨w1.heap.size, 0, none⟩) 0 0) 0 [] := by simpa using ho
    exact ⟨fun _ _ => trivial, [], ho', by constructor <;> simp⟩
  have HT := Aside0.mk (Kd.R_alloc t0 (.cells #[.int .i64 pts, .slice (some ⟨w1.heap.size, 0, none⟩) 0 0] 30))
  have Hr0 := Aside0.mk (blk_alloc (blk_alloc HR.out (.cells #[] 71)) (.cells #[.int .i64 pts, .slice (some ⟨w1.heap.size, 0, none⟩) 0 0] 30))
  have b1 := blk_new (w1.alloc (.cells #[] 71)) (.cells #[.int .i64 pts, .slice (some ⟨w1.heap.size, 0, none⟩) 0 0] 30)
  rw [World.size_alloc] at b1
  have Ho0 := Aside0.mk b1
  have HB0 := Aside0.mk (below_alloc (below_alloc (Below.refl w1.heap.size w1) (.cells #[] 71)) (.cells #[.int .i64 pts, .slice (some ⟨w1.heap.size, 0, none⟩) 0 0] 30))
  clear t0 b1
  have hrne : w.heap.size < w1.heap.size := blk_lt HR.out
  obtain ⟨g, hg⟩ : ∃ g, g = w1.heap.size + 1 := ⟨_, rfl⟩
  go_loopw [6] (fun v6 wz => ∃ j : Nat, 4 * j + 1 ≤ nums.length ∧ v6 = .int .i64 (4 * (j : Int) + 1) ∧ ∃ v, Aside0 (TS w1.heap.size wz v (sgt nums j)) ∧ Aside0 (wz.heap[w1.heap.size + 1]? = some (.cells #[.int .i64 pts, v] 30 (0, 0))) ∧ Aside0 (wz.heap[w.heap.size]? = some (.cells #[.int .i64 0, .slice none 0 0] 30 (0, 0))) ∧ Aside0 (Below w1.heap.size w1 wz)) (fun v _ => nums.length - (intOf v).toNat)
  case atStart => exact ⟨0, by omega, rfl, _, ⟨HT.out⟩, Ho0, Hr0, HB0⟩
  case round =>
    clear HT Hr0 Ho0 HB0 hx
    obtain ⟨j, hj, rfl, v, rt, ro, rr, rb⟩ := hrel
    obtain ⟨Av, cv, rfl, hcv, hCv⟩ := Kd.R_reads rt.out
    have HCV := Aside0.mk hCv
    clear hcv hCv
    have ho0 : wr.cell? ⟨w1.heap.size + 1, 0, none⟩ = some (.int .i64 pts) := (blk_cell ro.out 0).trans rfl
    have ho1 : wr.cell? ⟨w1.heap.size + 1, 1, none⟩ = some (.slice Av (sgt nums j).length cv) := (blk_cell ro.out 1).trans rfl
    obtain ⟨x, hx⟩ : ∃ x : Int, x = 4 * (j : Int) + 1 := ⟨_, rfl⟩
    rw [← hx]
    by_cases hlt : 4 * j + 4 < nums.length
    · have c4 : decide (wrap64 (x + 3) < (nums.length : Int)) = true := decide_eq_true (by unfold wrap64; omega)
      obtain ⟨y2, hy2⟩ : ∃ y, wrap64 (x + 1) = y := ⟨_, rfl⟩
      obtain ⟨y3, hy3⟩ : ∃ y, wrap64 (x + 2) = y := ⟨_, rfl⟩
      obtain ⟨y4, hy4⟩ : ∃ y, wrap64 (x + 3) = y := ⟨_, rfl⟩
      have HY := Aside0.mk (And.intro hy2 (And.intro hy3 hy4))
      have hyw2 : IntKind.i64.wrap (x + 1) = y2 := by rw [i64_w]; exact hy2
      have hyw3 : IntKind.i64.wrap (x + 2) = y3 := by rw [i64_w]; exact hy3
      have hyw4 : IntKind.i64.wrap (x + 3) = y4 := by rw [i64_w]; exact hy4
      have p1 : 0 ≤ x := by omega
      have q1 : x < (nums.length : Int) := by omega
      have p2 : 0 ≤ y2 := by have := HY.out; unfold wrap64 at this; omega
      have q2 : y2 < (nums.length : Int) := by have := HY.out; unfold wrap64 at this; omega
      have p3 : 0 ≤ y3 := by have := HY.out; unfold wrap64 at this; omega
      have q3 : y3 < (nums.length : Int) := by have := HY.out; unfold wrap64 at this; omega
      have p4 : 0 ≤ y4 := by have := HY.out; unfold wrap64 at this; omega
      have q4 : y4 < (nums.length : Int) := by have := HY.out; unfold wrap64 at this; omega
      obtain ⟨_, ea, hx1⟩ := Kd.at_int HC.out x p1 q1
      cases ea
      obtain ⟨_, ea, hx2⟩ := Kd.at_int HC.out _ p2 q2
      cases ea
      obtain ⟨_, ea, hx3⟩ := Kd.at_int HC.out _ p3 q3
      cases ea
      obtain ⟨_, ea, hx4⟩ := Kd.at_int HC.out _ p4 q4
      cases ea
      have HX := Aside0.mk (And.intro hx1 (And.intro hx2 (And.intro hx3 hx4)))
      have hol : w1.heap.size + 1 < wr.heap.size := blk_lt ro.out
      replace p1 := eq_true p1
      replace q1 := eq_true q1
      replace p2 := eq_true p2
      replace q2 := eq_true q2
      replace p3 := eq_true p3
      replace q3 := eq_true q3
      replace p4 := eq_true p4
      replace q4 := eq_true q4
      have hlen := Aside0.mk (show ((sgt nums j).length + 1) * 32 ≤ 140737488355328 by rw [sgt_len]; omega)
      have HJ := Aside0.mk (And.intro hx hlt)
      clear hx hlt hx1 hx2 hx3 hx4
      go_wp2_with (fail)
      refine start_ (n := 26) (S := fun w' => w'.cell? ⟨w1.heap.size + 1, 1, none⟩ = some (.slice Av (sgt nums j).length cv) ∧ w'.cell? (ad.add x.toNat) = some (.int .i64 (rd nums x)) ∧ w'.cell? (ad.add y2.toNat) = some (.int .i64 (rd nums y2)) ∧ w'.cell? (ad.add y3.toNat) = some (.int .i64 (rd nums y3)) ∧ w'.cell? (ad.add y4.toNat) = some (.int .i64 (rd nums y4))) (ds := [25]) #[false, false, false, false, false, false, false, false, false, false, false, false, false, false, false, false, false, false, false, false, false, false, false, false, false, false] (by kernel_rfl) rfl rfl ⟨ho1, nums_keep HX.out rb.out.drew⟩ (fun hHeld => ?_)
      refine pure_ (i := 0) (N := some 30) (v := ?_) (a' := ?_) #[true, false, false, false, false, false, false, false, false, false, false, false, false, false, false, false, false, false, false, false, false, false, false, false, false, false] rfl rfl (by kernel_rfl) (fun _ _ _ h => h) (Or.inl ⟨by rfl, ?_⟩) ?_ ?_
      rotate_left
      · intro w'
        go_simp
        with_reducible rfl
      rotate_left
      · simp only [Act.put, List.setIfInBounds_toArray, List.set_cons_zero, List.set_cons_succ, i64_w, i32_w]
        rfl
      refine pure_ (i := 2) (N := some 32) (v := ?_) (a' := ?_) #[true, false, true, false, false, false, false, false, false, false, false, false, false, false, false, false, false, false, false, false, false, false, false, false, false, false] rfl rfl (by kernel_rfl) (fun _ _ _ h => h) (Or.inl ⟨by rfl, ?_⟩) ?_ ?_
      rotate_left
      · intro w'
        go_simp
        with_reducible rfl
      rotate_left
      · simp only [Act.put, List.setIfInBounds_toArray, List.set_cons_zero, List.set_cons_succ, i64_w, i32_w]
        rfl
      refine pure_ (i := 3) (N := some 33) (v := ?_) (a' := ?_) #[true, false, true, true, false, false, false, false, false, false, false, false, false, false, false, false, false, false, false, false, false, false, false, false, false, false] rfl rfl (by kernel_rfl) (fun _ _ _ h => h) (Or.inl ⟨by rfl, ?_⟩) ?_ ?_
      rotate_left
      · intro w'
        go_simp
        with_reducible rfl
      rotate_left
      · simp only [Act.put, List.setIfInBounds_toArray, List.set_cons_zero, List.set_cons_succ, i64_w, i32_w]
        rfl
      refine pure_ (i := 4) (N := some 34) (v := ?_) (a' := ?_) #[true, false, true, true, true, false, false, false, false, false, false, false, false, false, false, false, false, false, false, false, false, false, false, false, false, false] rfl rfl (by kernel_rfl) (fun _ _ _ h => h) (Or.inl ⟨by rfl, ?_⟩) ?_ ?_
      rotate_left
      · intro w'
        go_simp
        with_reducible rfl
      rotate_left
      · simp only [Act.put, List.setIfInBounds_toArray, List.set_cons_zero, List.set_cons_succ, i64_w, i32_w]
        rfl
      refine pure_ (i := 6) (N := some 36) (v := ?_) (a' := ?_) #[true, false, true, true, true, false, true, false, false, false, false, false, false, false, false, false, false, false, false, false, false, false, false, false, false, false] rfl rfl (by kernel_rfl) (fun _ _ _ h => h) (Or.inl ⟨by rfl, ?_⟩) ?_ ?_
      rotate_left
      · intro w'
        go_simp
        with_reducible rfl
      rotate_left
      · simp only [Act.put, List.setIfInBounds_toArray, List.set_cons_zero, List.set_cons_succ, i64_w, i32_w]
        rfl
      refine pure_ (i := 7) (N := some 37) (v := ?_) (a' := ?_) #[true, false, true, true, true, false, true, true, false, false, false, false, false, false, false, false, false, false, false, false, false, false, false, false, false, false] rfl rfl (by kernel_rfl) (fun _ _ _ h => h) (Or.inl ⟨by rfl, ?_⟩) ?_ ?_
      rotate_left
      · intro w'
        go_simp
        with_reducible rfl
      rotate_left
      · simp only [Act.put, List.setIfInBounds_toArray, List.set_cons_zero, List.set_cons_succ, i64_w, i32_w]
        rfl
      refine pure_ (i := 8) (N := some 38) (v := ?_) (a' := ?_) #[true, false, true, true, true, false, true, true, true, false, false, false, false, false, false, false, false, false, false, false, false, false, false, false, false, false] rfl rfl (by kernel_rfl) (fun _ _ _ h => h) (Or.inl ⟨by rfl, ?_⟩) ?_ ?_
      rotate_left
      · intro w'
        go_simp
        with_reducible rfl
      rotate_left
      · simp only [Act.put, List.setIfInBounds_toArray, List.set_cons_zero, List.set_cons_succ, i64_w, i32_w]
        rfl
      refine pure_ (i := 9) (N := some 39) (v := ?_) (a' := ?_) #[true, false, true, true, true, false, true, true, true, true, false, false, false, false, false, false, false, false, false, false, false, false, false, false, false, false] rfl rfl (by kernel_rfl) (fun _ _ _ h => h) (Or.inl ⟨by rfl, ?_⟩) ?_ ?_
      rotate_left
      · intro w'
        go_simp
        with_reducible rfl
      rotate_left
      · simp only [Act.put, List.setIfInBounds_toArray, List.set_cons_zero, List.set_cons_succ, i64_w, i32_w]
        rfl
      refine pure_ (i := 11) (N := some 41) (v := ?_) (a' := ?_) #[true, false, true, true, true, false, true, true, true, true, false, true, false, false, false, false, false, false, false, false, false, false, false, false, false, false] rfl rfl (by kernel_rfl) (fun _ _ _ h => h) (Or.inl ⟨by rfl, ?_⟩) ?_ ?_
      rotate_left
      · intro w'
        go_simp
        with_reducible rfl
      rotate_left
      · simp only [Act.put, List.setIfInBounds_toArray, List.set_cons_zero, List.set_cons_succ, i64_w, i32_w]
        rfl
      refine pure_ (i := 12) (N := some 42) (v := ?_) (a' := ?_) #[true, false, true, true, true, false, true, true, true, true, false, true, true, false, false, false, false, false, false, false, false, false, false, false, false, false] rfl rfl (by kernel_rfl) (fun _ _ _ h => h) (Or.inl ⟨by rfl, ?_⟩) ?_ ?_
      rotate_left
      · intro w'
        go_simp
        with_reducible rfl
      rotate_left
      · simp only [Act.put, List.setIfInBounds_toArray, List.set_cons_zero, List.set_cons_succ, i64_w, i32_w]
        rfl
      refine pure_ (i := 13) (N := some 43) (v := ?_) (a' := ?_) #[true, false, true, true, true, false, true, true, true, true, false, true, true, true, false, false, false, false, false, false, false, false, false, false, false, false] rfl rfl (by kernel_rfl) (fun _ _ _ h => h) (Or.inl ⟨by rfl, ?_⟩) ?_ ?_
      rotate_left
      · intro w'
        go_simp
        with_reducible rfl
      rotate_left
      · simp only [Act.put, List.setIfInBounds_toArray, List.set_cons_zero, List.set_cons_succ, i64_w, i32_w]
        rfl
      refine pure_ (i := 14) (N := some 44) (v := ?_) (a' := ?_) #[true, false, true, true, true, false, true, true, true, true, false, true, true, true, true, false, false, false, false, false, false, false, false, false, false, false] rfl rfl (by kernel_rfl) (fun _ _ _ h => h) (Or.inl ⟨by rfl, ?_⟩) ?_ ?_
      rotate_left
      · intro w'
        go_simp
        with_reducible rfl
      rotate_left
      · simp only [Act.put, List.setIfInBounds_toArray, List.set_cons_zero, List.set_cons_succ, i64_w, i32_w]
        rfl
      refine pure_ (i := 16) (N := some 46) (v := ?_) (a' := ?_) #[true, false, true, true, true, false, true, true, true, true, false, true, true, true, true, false, true, false, false, false, false, false, false, false, false, false] rfl rfl (by kernel_rfl) (fun _ _ _ h => h) (Or.inl ⟨by rfl, ?_⟩) ?_ ?_
      rotate_left
      · intro w'
        go_simp
        with_reducible rfl
      rotate_left
      · simp only [Act.put, List.setIfInBounds_toArray, List.set_cons_zero, List.set_cons_succ, i64_w, i32_w]
        rfl
      refine pure_ (i := 17) (N := some 47) (v := ?_) (a' := ?_) #[true, false, true, true, true, false, true, true, true, true, false, true, true, true, true, false, true, true, false, false, false, false, false, false, false, false] rfl rfl (by kernel_rfl) (fun _ _ _ h => h) (Or.inl ⟨by rfl, ?_⟩) ?_ ?_
      rotate_left
      · intro w'
        go_simp
        with_reducible rfl
      rotate_left
      · simp only [Act.put, List.setIfInBounds_toArray, List.set_cons_zero, List.set_cons_succ, i64_w, i32_w]
        rfl
      refine pure_ (i := 18) (N := some 48) (v := ?_) (a' := ?_) #[true, false, true, true, true, false, true, true, true, true, false, true, true, true, true, false, true, true, true, false, false, false, false, false, false, false] rfl rfl (by kernel_rfl) (fun _ _ _ h => h) (Or.inl ⟨by rfl, ?_⟩) ?_ ?_
      rotate_left
      · intro w'
        go_simp
        with_reducible rfl
      rotate_left
      · simp only [Act.put, List.setIfInBounds_toArray, List.set_cons_zero, List.set_cons_succ, i64_w, i32_w]
        rfl
      refine pure_ (i := 19) (N := some 49) (v := ?_) (a' := ?_) #[true, false, true, true, true, false, true, true, true, true, false, true, true, true, true, false, true, true, true, true, false, false, false, false, false, false] rfl rfl (by kernel_rfl) (fun _ _ _ h => h) (Or.inl ⟨by rfl, ?_⟩) ?_ ?_
      rotate_left
      · intro w'
        go_simp
        with_reducible rfl
      rotate_left
      · simp only [Act.put, List.setIfInBounds_toArray, List.set_cons_zero, List.set_cons_succ, i64_w, i32_w]
        rfl
      refine take_ (i := 1) (N := some 31) (v := ?_) (a' := ?_) #[true, true, true, true, true, false, true, true, true, true, false, true, true, true, true, false, true, true, true, true, false, false, false, false, false, false] rfl rfl (by kernel_rfl) (fun _ _ _ h => h) (Or.inl ⟨by rfl, ?_⟩) hHeld ?_ ?_
      rotate_left
      · rintro w' ⟨s0, s1, s2, s3, s4⟩
        go_simp
        with_reducible rfl
      rotate_left
      · simp only [Act.put, List.setIfInBounds_toArray, List.set_cons_zero, List.set_cons_succ, i64_w, i32_w]
        rfl
      refine take_ (i := 5) (N := some 35) (v := ?_) (a' := ?_) #[true, true, true, true, true, true, true, true, true, true, false, true, true, true, true, false, true, true, true, true, false, false, false, false, false, false] rfl rfl (by kernel_rfl) (fun _ _ _ h => h) (Or.inl ⟨by rfl, ?_⟩) hHeld ?_ ?_
      rotate_left
      · rintro w' ⟨s0, s1, s2, s3, s4⟩
        go_simp
        with_reducible rfl
      rotate_left
      · simp only [Act.put, List.setIfInBounds_toArray, List.set_cons_zero, List.set_cons_succ, i64_w, i32_w]
        rfl
      refine take_ (i := 10) (N := some 40) (v := ?_) (a' := ?_) #[true, true, true, true, true, true, true, true, true, true, true, true, true, true, true, false, true, true, true, true, false, false, false, false, false, false] rfl rfl (by kernel_rfl) (fun _ _ _ h => h) (Or.inl ⟨by rfl, ?_⟩) hHeld ?_ ?_
      rotate_left
      · rintro w' ⟨s0, s1, s2, s3, s4⟩
        go_simp
        with_reducible rfl
      rotate_left
      · simp only [Act.put, List.setIfInBounds_toArray, List.set_cons_zero, List.set_cons_succ, i64_w, i32_w]
        rfl
      refine take_ (i := 15) (N := some 45) (v := ?_) (a' := ?_) #[true, true, true, true, true, true, true, true, true, true, true, true, true, true, true, true, true, true, true, true, false, false, false, false, false, false] rfl rfl (by kernel_rfl) (fun _ _ _ h => h) (Or.inl ⟨by rfl, ?_⟩) hHeld ?_ ?_
      rotate_left
      · rintro w' ⟨s0, s1, s2, s3, s4⟩
        go_simp
        with_reducible rfl
      rotate_left
      · simp only [Act.put, List.setIfInBounds_toArray, List.set_cons_zero, List.set_cons_succ, i64_w, i32_w]
        rfl
      refine take_ (i := 20) (N := some 50) (v := ?_) (a' := ?_) #[true, true, true, true, true, true, true, true, true, true, true, true, true, true, true, true, true, true, true, true, true, false, false, false, false, false] rfl rfl (by kernel_rfl) (fun _ _ _ h => h) (Or.inl ⟨by rfl, ?_⟩) hHeld ?_ ?_
      rotate_left
      · rintro w' ⟨s0, s1, s2, s3, s4⟩
        go_simp
        with_reducible rfl
      rotate_left
      · simp only [Act.put, List.setIfInBounds_toArray, List.set_cons_zero, List.set_cons_succ, i64_w, i32_w]
        rfl
      refine pure_ (i := 21) (N := some 51) (v := ?_) (a' := ?_) #[true, true, true, true, true, true, true, true, true, true, true, true, true, true, true, true, true, true, true, true, true, true, false, false, false, false] rfl rfl (by kernel_rfl) (fun _ _ _ h => h) (Or.inl ⟨by rfl, ?_⟩) ?_ ?_
      rotate_left
      · intro w'
        go_simp
        with_reducible rfl
      rotate_left
      · simp only [Act.put, List.setIfInBounds_toArray, List.set_cons_zero, List.set_cons_succ, i64_w, i32_w]
        rfl
      refine one_ (i := 22) (N := some 52) #[true, true, true, true, true, true, true, true, true, true, true, true, true, true, true, true, true, true, true, true, true, true, true, false, false, false] rfl rfl (by kernel_rfl) (by decide) (fun K hK => ?_)
      refine value_ (v := .slice (some ⟨wr.drew.heap.size, 0, none⟩) 1 1) (w1 := wr.drew.alloc (.cells #[.int .i64 (rd nums x), .int .i64 (rd nums y2), .int .i64 (rd nums y3), .int .i64 (rd nums y4)] 71)) (by rfl) rfl ?_ ?_
      · go_simp
        first | done | exact ⟨rfl, rfl⟩ | rfl
      refine hK.out _ _ ⟨(blk_cell (blk_alloc (blk_drew ro.out) _) 1).trans rfl, nums_keep HX.out (below_alloc rb.out.drew _)⟩ (fun hHeld => ?_)
      clear hK K
      refine norm_ (a' := ?_) ?_ ?_
      rotate_left
      · simp only [Act.put, List.setIfInBounds_toArray, List.set_cons_zero, List.set_cons_succ, i64_w, i32_w]
        rfl
      refine one_ (i := 23) (N := some 53) #[true, true, true, true, true, true, true, true, true, true, true, true, true, true, true, true, true, true, true, true, true, true, true, true, false, false] rfl rfl (by kernel_rfl) (by decide) (fun K hK => ?_)
      refine Kd.R_append_step k71 (w0 := w1) w1.heap.size (by rfl) (.tmp 31) (.tmp 52) 28 71 (.agg #[.int .i64 0, .int .i64 0, .int .i64 0, .int .i64 0]) 32 rfl Tryd.underlying28 info71 rfl (by decide) (by omega) (.slice Av (sgt nums j).length cv) (sgt nums j) (⟨rd nums x, rd nums y2, rd nums y3, rd nums y4⟩ : Sg) [.int .i64 (rd nums x), .int .i64 (rd nums y2), .int .i64 (rd nums y3), .int .i64 (rd nums y4)] (fun _ => True) (fun _ => False) rfl rfl (k71_mkM _ _ _ (⟨rd nums x, rd nums y2, rd nums y3, rd nums y4⟩ : Sg)) (fun _ hk => hk.elim) (fun _ _ => trivial) (Kd.R_drew rt.out) rb.out.drew rb.out.size hlen.out ?_
      intro v1 w2 h1 Hb2 h3 h4
      obtain ⟨A1, c1, rfl⟩ := Kd.R_slice h1
      have qo := blk_grown (w := wr.drew) ro.out h3 (Kd.R_ne rt.out ro.out (by decide))
      have qr := Aside0.mk (blk_grown (w := wr.drew) rr.out h3 (Kd.R_ne rt.out rr.out (by decide)))
      have q1 : w2.cell? ⟨w1.heap.size + 1, 1, none⟩ = some (.slice Av (sgt nums j).length cv) := (blk_cell qo 1).trans rfl
      have q2 := blk_frozen qo 1
      have H1 := Aside0.mk h1
      have QO := Aside0.mk qo
      clear h1 h3 h4 qo
      refine hK.out _ _ ⟨q1, nums_keep HX.out Hb2⟩ (fun hHeld => ?_)
      clear hK K
      refine norm_ (a' := ?_) ?_ ?_
      rotate_left
      · simp only [Act.put, List.setIfInBounds_toArray, List.set_cons_zero, List.set_cons_succ, i64_w, i32_w]
        rfl
      refine pure_ (i := 24) (N := some 54) (v := ?_) (a' := ?_) #[true, true, true, true, true, true, true, true, true, true, true, true, true, true, true, true, true, true, true, true, true, true, true, true, true, false] rfl rfl (by kernel_rfl) (fun _ _ _ h => h) (Or.inl ⟨by rfl, ?_⟩) ?_ ?_
      rotate_left
      · intro w'
        go_simp
        with_reducible rfl
      rotate_left
      · simp only [Act.put, List.setIfInBounds_toArray, List.set_cons_zero, List.set_cons_succ, i64_w, i32_w]
        rfl
      refine last_ (i := 25) (N := none) #[true, true, true, true, true, true, true, true, true, true, true, true, true, true, true, true, true, true, true, true, true, true, true, true, true, true] rfl rfl (by kernel_rfl) (by decide) (fun K hK => ?_)
      refine skip_ (w1 := ?_) (by rfl) rfl ?_ ?_
      rotate_left
      · go_simp
        rfl
      refine hK.out _ _ ?_
      clear hK K
      refine done_ (by kernel_rfl) ?_
      go_wp2_with (fail)
      all_goals (
        go_roundw
        case rel =>
          refine ⟨j + 1, by have := HJ.out; omega, by have := HJ.out; congr 1; unfold wrap64; omega, _, ⟨?_⟩, ⟨blk_put QO.out 1 _ rfl⟩, ⟨blk_far qr.out (show w.heap.size ≠ w1.heap.size + 1 by omega) _⟩, ⟨Hb2.setCell (p := ⟨w1.heap.size + 1, 1, none⟩) (Nat.le_succ _) _⟩⟩
          have h := Kd.R_set H1.out QO.out (by decide) 1 (.slice A1 (sgt nums j ++ [(⟨rd nums x, rd nums y2, rd nums y3, rd nums y4⟩ : Sg)]).length c1)
          rw [show (sgt nums j ++ [(⟨rd nums x, rd nums y2, rd nums y3, rd nums y4⟩ : Sg)]).length = (sgt nums j).length + 1 by simp] at h
          rw [sgt_succ, ← HJ.out.1, sg1, HY.out.1, HY.out.2.1, HY.out.2.2]
          exact h
        case measure => have := HJ.out; simp only [intOf]; unfold wrap64; omega)
    · have c4 : decide (wrap64 (x + 3) < (nums.length : Int)) = false := decide_eq_false (by unfold wrap64; omega)
      have hl : sgt nums j = vS nums := by unfold vS; congr 1; omega
      rw [hl] at rt ro HCV ho1
      clear hx hlt hj hl
      cases bb with
      | false =>
          have hS : surveyB pts (vS nums) = false := by rw [HP.out]; exact HBB.out
          go_wp2_with (go_at_call 37; refine (l10Is_any (w1.heap.size + 1) pts Av cv (vS nums) _ ro.out HCV.out).mono ?_; rintro e w3 ⟨rfl, hb3⟩; have HB3 := Aside0.mk hb3; have hr := blk_below rr.out hb3; have HR3 := Aside0.mk hr; have hr0 := blk_cell hr 0; have hr1 := blk_cell hr 1; have hf0 := blk_frozen hr 0; have hf1 := blk_frozen hr 1; clear hr; clear hb3)
          refine bodyPost_ret (results_ct rfl _ _ w.heap.size 30 #[.int .i64 0, .slice none 0 0] (0, 0) _ rfl (blk_put (blk_put HR3.out 0 (.int .i64 0) rfl) 1 (.slice none 0 0) rfl) hu30 rfl (by kernel_rfl)) rfl ?_
          exact ⟨.slice none 0 0, rfl, Kd.R_nil _ _ _ _ _, ((below_step (below_step HB.out rb.out) HB3.out).setCell (p := ⟨w.heap.size, 0, none⟩) (Nat.le_refl _) _).setCell (p := ⟨w.heap.size, 1, none⟩) (Nat.le_refl _) _⟩
      | true =>
        have hS : surveyB pts (vS nums) = true := by rw [HP.out]; exact HBB.out
        obtain ⟨q, hq⟩ := HTT.out rfl
        rw [← HP.out] at hq
        have HQ := Aside0.mk hq
        clear hq
        cases be with
        | false =>
          have e1 : (t.toList == a0.toList) = false := HEE.out
          have e2 : (t.toList != a0.toList) = true := by rw [bne, e1]; rfl
          go_wp2_with (first
            | (go_at_call 37; refine (l10Is_any (w1.heap.size + 1) pts Av cv (vS nums) _ ro.out HCV.out).mono ?_; rintro e w3 ⟨rfl, hb3⟩; have HB3 := Aside0.mk hb3; clear hb3)
            | (go_at_call 38; refine (spec_l10Text.callsT k2 (w1.heap.size + 1) pts (vS nums) t q w3 _ ⟨Av, cv, blk_below ro.out HB3.out, trivial, Kd.C_below HCV.out HB3.out⟩ (Below.refl _ _) HQ.out).mono ?_; rintro e w4 ⟨rfl, _, hb4, _⟩; have HB4 := Aside0.mk (below_step HB3.out hb4); clear hb4; have hr := blk_below rr.out HB4.out; have HR3 := Aside0.mk hr; have hr0 := blk_cell hr 0; have hr1 := blk_cell hr 1; have hf0 := blk_frozen hr 0; have hf1 := blk_frozen hr 1; clear hr))
          refine bodyPost_ret (results_ct rfl _ _ w.heap.size 30 #[.int .i64 0, .slice none 0 0] (0, 0) _ rfl (blk_put (blk_put HR3.out 0 (.int .i64 0) rfl) 1 (.slice none 0 0) rfl) hu30 rfl (by kernel_rfl)) rfl ?_
          exact ⟨.slice none 0 0, rfl, Kd.R_nil _ _ _ _ _, ((below_step (below_step HB.out rb.out) HB4.out).setCell (p := ⟨w.heap.size, 0, none⟩) (Nat.le_refl _) _).setCell (p := ⟨w.heap.size, 1, none⟩) (Nat.le_refl _) _⟩
        | true =>
          have e1 : (t.toList == a0.toList) = true := HEE.out
          have e2 : (t.toList != a0.toList) = false := by rw [bne, e1]; rfl
          go_wp2_with (first
            | (go_at_call 37; refine (l10Is_any (w1.heap.size + 1) pts Av cv (vS nums) _ ro.out HCV.out).mono ?_; rintro e w3 ⟨rfl, hb3⟩; have HB3 := Aside0.mk hb3; clear hb3)
            | (go_at_call 38; refine (spec_l10Text.callsT k2 (w1.heap.size + 1) pts (vS nums) t q w3 _ ⟨Av, cv, blk_below ro.out HB3.out, trivial, Kd.C_below HCV.out HB3.out⟩ (Below.refl _ _) HQ.out).mono ?_; rintro e w4 ⟨rfl, _, hb4, _⟩; have HB4 := Aside0.mk (below_step HB3.out hb4); clear hb4; have hr := blk_below rr.out HB4.out; have HR3 := Aside0.mk hr; have hr0 := blk_cell hr 0; have hr1 := blk_cell hr 1; have hf0 := blk_frozen hr 0; have hf1 := blk_frozen hr 1; clear hr; have hv := blk_below ro.out HB4.out; have hv0 : w4.cell? ⟨w1.heap.size + 1, 0, none⟩ = some (.int .i64 pts) := (blk_cell hv 0).trans rfl; have hv1 : w4.cell? ⟨w1.heap.size + 1, 1, none⟩ = some (.slice Av (vS nums).length cv) := (blk_cell hv 1).trans rfl; clear hv))
          have RT := Kd.R_below rt.out HB4.out
          refine bodyPost_ret (results_ct rfl _ _ w.heap.size 30 #[.int .i64 pts, .slice Av (vS nums).length cv] (0, 0) _ rfl (blk_put (blk_put HR3.out 0 (.int .i64 pts) rfl) 1 (.slice Av (vS nums).length cv) rfl) hu30 rfl (by kernel_rfl)) rfl ?_
          rw [HP.out]
          refine ⟨_, rfl, ?_, ((below_step (below_step HB.out rb.out) HB4.out).setCell (p := ⟨w.heap.size, 0, none⟩) (Nat.le_refl _) _).setCell (p := ⟨w.heap.size, 1, none⟩) (Nat.le_refl _) _⟩
          exact Kd.R_lower (Kd.R_set (Kd.R_set RT HR3.out (by decide) 0 (.int .i64 (rd nums 0))) (blk_put HR3.out 0 (.int .i64 (rd nums 0)) rfl) (by decide) 1 (.slice Av (vS nums).length cv)) hbase
end Go.Proofs.YtkbklocfdoofeaaDoor.Rv

/- The program's ReadSurvey, walked: the words of a text as a survey, if each is one of a valid survey. -/
namespace Go.Proofs.YtkbklocfdoofeaaDoor.Rw
open Go.RowKit Go.Proofs.YtkbklocfdoofeaaDoorW.PrintWords Go.Proofs.YtkbklocfdoofeaaDoorW.PrintLast Go.Proofs.YtkbklocfdoofeaaDoorW.PrintMore Go.Proofs.YtkbklocfdoofeaaDoor.Q Go.Proofs.YtkbklocfdoofeaaDoor.Rv
theorem take_map_succ (tl : List ByteArray) (f : ByteArray → Sg) (j : Nat) (h : j < tl.length) : (tl.take (j + 1)).map f = (tl.take j).map f ++ [f (rdOf ByteArray.empty tl (j : Int))] := by
  have e : rdOf ByteArray.empty tl (j : Int) = tl[j] := by simp [rdOf, h]
  rw [e, List.take_succ_eq_append_getElem h, List.map_append]; rfl
theorem rd_mem (tl : List ByteArray) (j : Nat) (h : j < tl.length) : rdOf ByteArray.empty tl (j : Int) ∈ tl := by
  have e : rdOf ByteArray.empty tl (j : Int) = tl[j] := by simp [rdOf, h]
  rw [e]; exact List.getElem_mem h
theorem take_good (tl : List ByteArray) (f : ByteArray → Bool) (j : Nat) (h : j < tl.length) (hg : (tl.take j).all f = true) (hj : f (rdOf ByteArray.empty tl (j : Int)) = true) : (tl.take (j + 1)).all f = true := by
  have e : rdOf ByteArray.empty tl (j : Int) = tl[j] := by simp [rdOf, h]
  rw [e] at hj
  rw [List.take_succ_eq_append_getElem h, List.all_append, hg, Bool.true_and]; simp [hj]
theorem bad_all (tl : List ByteArray) (f : ByteArray → Bool) (j : Nat) (h : j < tl.length) (hj : f (rdOf ByteArray.empty tl (j : Int)) = false) : tl.all f = false := by
  rw [List.all_eq_false]
  exact ⟨_, rd_mem tl j h, by rw [hj]; decide⟩
set_option linter.unusedVariables false
set_option maxHeartbeats 4000000 in
set_option maxRecDepth 100000 in
theorem impl_rs (k k2 : Nat) (a0 : ByteArray) (ws tl : List ByteArray) (n0 : Int) (ok0 vb : Bool) (q : ByteArray → Sg) (good : ByteArray → Bool) (w : World) (hT : Tb.TC w) (h1 : strings_Split.f a0 (⟨#[32]⟩ : ByteArray) = some ws) (h2 : impl_ReadDecimal.f (rdOf ByteArray.empty ws 0) = some (n0, ok0))
    (hlen : 0 < ws.length) (hmax : ws.length ≤ 1048577) (htl : tl = ws.drop 1) (h3 : ∀ x ∈ tl, impl_readSight.f k x = some ((q x).f0, (q x).f1, (q x).f2, (q x).f3, good x)) (hv : tl.all good = true → ok0 = true → impl_ValidSurvey.f k2 n0 (tl.map q) = some vb)
    (res : Bool) (R : Int) (L : List Sg) (hR : (res, R, L) = if (tl.all good && ok0 && vb) = true then (true, n0, tl.map q) else (false, 0, [])) :
    Calls Tryd.prog 24 #[.string a0] w fun e w' => ∃ v, e = .returned (.tuple #[.agg #[.int .i64 R, v], .bool res]) ∧ TS w.heap.size w' v L ∧ Below w.heap.size w w' := by
  have HRES := Aside0.mk hR
  clear hR
  have hu71 := Tryd.underlying71
  have hu30 := Tryd.underlying30
  have HT := Aside0.mk hT
  have H1 := Aside0.mk h1
  have H2 := Aside0.mk h2
  have H3 := Aside0.mk h3
  have HV := Aside0.mk hv
  have HTL := Aside0.mk htl
  have hl2 : tl.length = ws.length - (1 : Int).toNat := by rw [htl, List.length_drop]; rfl
  have HL2 := Aside0.mk hl2
  clear hl2
  have p0 : (0 : Int) ≤ 0 := Int.le_refl 0
  have q0 : (0 : Int) < (ws.length : Int) := by omega
  have c2 : decide ((0 : Int) < (ws.length : Int)) = true := decide_eq_true q0
  have c3 : decide (0 < ws.length) = true := decide_eq_true hlen
  have q3 : (0 < ws.length) = True := eq_true hlen
  have q14 : (1 : Int) ≤ ((ws.length : Nat) : Int) := by omega
  clear hT h1 h2 h3 hv htl
  go_enter Tryd.func24, Tryd.ntmps24
  go_wp2_with (first
    | (go_at_call 55; refine (strings_Split.calls a0 (⟨#[32]⟩ : ByteArray) ws _ (Tb.TC.tb (Tb.TC.below HT.out (below_alloc (Below.refl _ _) _))) H1.out).mono ?_; rintro e w1 ⟨v, rfl, hR, hb⟩; obtain ⟨A, cA, rfl, hcA, hC⟩ := Kd.R_reads hR; obtain ⟨ad, rfl, hx⟩ := Kd.at_string hC 0 p0 q0; rw [show Int.toNat 0 = 0 from rfl, Addr.add, if_pos rfl] at hx; have HR := Aside0.mk (blk_below (blk_new w (.cells #[.int .i64 0, .slice none 0 0] 30)) hb); have HC := Aside0.mk hC; have HCA := Aside0.mk hcA; have HB := Aside0.mk (below_step (below_alloc (Below.refl w.heap.size w) _) hb); clear hb hR hC hcA)
    | (go_at_call 56; refine (impl_ReadDecimal.calls (rdOf ByteArray.empty ws 0) n0 ok0 _ (Tb.TC.below HT.out HB.out) H2.out).mono ?_; rintro e w2 ⟨rfl, hb⟩; have HB2 := Aside0.mk hb; clear hb hx; obtain ⟨i014, hi014, _, hsz14, _⟩ := info_parts info9; have hcut14 := cut_from (P := Tryd.prog) 93 9 .i64 Tryd.underlying93 hi014 1 hsz14 (some ad) ws.length cA 1 (by omega) q14; have hr14 := Kd.C_drop (m := (1 : Int).toNat) (c := cA) HC.out (by omega) HCA.out; obtain ⟨A14, hA14⟩ : ∃ A1, A1 = (if cA = (1 : Int).toNat then (some ad) else ((some ad) : Option Addr).map (·.add ((1 : Int).toNat * 1))) := ⟨_, rfl⟩; obtain ⟨c14, hc14⟩ : ∃ c1, c1 = cA - (1 : Int).toNat := ⟨_, rfl⟩; rw [show ws.drop (1 : Int).toNat = tl from HTL.out.symm] at hr14; replace hr14 : Kd.C Kd.string _ A14 tl.length tl := (by rw [hA14]; exact hr14); rw [← HL2.out, ← hA14, ← hc14] at hcut14; have HR14 := Aside0.mk hr14; clear hr14 hi014 hsz14 hc14 hA14))
  have hbase : w.heap.size ≤ w1.heap.size := below_size HB.out
  have hbase2 : w1.heap.size ≤ w2.heap.size := below_size HB2.out
  have hrne : w.heap.size < w1.heap.size := blk_lt HR.out
  have t0 : TS w1.heap.size (w2.alloc (.cells #[.int .i64 n0, .slice none 0 0] 30)) (.slice none 0 0) [] := Kd.R_nil _ _ _ _ _
  have HT0 := Aside0.mk t0
  have Hr0 := Aside0.mk (blk_alloc (blk_below HR.out HB2.out) (.cells #[.int .i64 n0, .slice none 0 0] 30))
  have Ho0 := Aside0.mk (blk_new w2 (.cells #[.int .i64 n0, .slice none 0 0] 30))
  have HB0 := Aside0.mk (below_alloc HB2.out (.cells #[.int .i64 n0, .slice none 0 0] 30))
  clear t0
  go_loopw [26] (fun v26 wz => ∃ j : Nat, j ≤ tl.length ∧ v26 = .int .i64 (j : Int) ∧ Aside0 ((tl.take j).all good = true) ∧ ∃ v, Aside0 (TS w1.heap.size wz v ((tl.take j).map q)) ∧ Aside0 (wz.heap[w2.heap.size]? = some (.cells #[.int .i64 n0, v] 30 (0, 0))) ∧ Aside0 (wz.heap[w.heap.size]? = some (.cells #[.int .i64 0, .slice none 0 0] 30 (0, 0))) ∧ Aside0 (Below w1.heap.size w1 wz)) (fun v _ => tl.length - (intOf v).toNat)
  case atStart => exact ⟨0, by omega, rfl, ⟨rfl⟩, _, ⟨HT0.out⟩, Ho0, Hr0, HB0⟩
  case round =>
    clear HT0 Hr0 Ho0 HB0
    obtain ⟨j, hj, rfl, hgd, v, rt, ro, rr, rb⟩ := hrel
    obtain ⟨ys, hys⟩ : ∃ ys, ys = (tl.take j).map q := ⟨_, rfl⟩
    rw [← hys] at rt
    have HYS := Aside0.mk hys
    clear hys
    obtain ⟨Av, cv, rfl, hcv, hCv⟩ := Kd.R_reads rt.out
    have HCV := Aside0.mk hCv
    have HCv := Aside0.mk hcv
    clear hcv hCv
    have hTr := Aside0.mk (Tb.TC.below HT.out (below_step HB.out rb.out))
    by_cases hlt : j < tl.length
    · have c4 : decide ((j : Int) < (tl.length : Int)) = true := decide_eq_true (by omega)
      have p1 : 0 ≤ (j : Int) := by omega
      have q1 : (j : Int) < (tl.length : Int) := by omega
      obtain ⟨ae, rfl, hx0⟩ := Kd.at_string HR14.out (j : Int) p1 q1
      simp only [Int.toNat_natCast] at hx0
      replace hx0 := pw_cell_below rb.out hx0
      obtain ⟨x, hx⟩ : ∃ x, x = rdOf ByteArray.empty tl (j : Int) := ⟨_, rfl⟩
      rw [← hx] at hx0
      have HXx := Aside0.mk hx
      have HQ := Aside0.mk (H3.out x (hx ▸ rd_mem tl j hlt))
      replace p1 := eq_true p1
      replace q1 := eq_true q1
      have HJ := Aside0.mk hlt
      clear hx hlt
      cases hg : good x with
      | false =>
        have hall : tl.all good = false := bad_all tl good j HJ.out (by rw [← HXx.out]; exact hg)
        have HQ1 := Aside0.mk (hg ▸ HQ.out)
        go_wp2_with (go_at_call 57; refine (impl_readSight.calls k x _ _ _ _ false _ hTr.out HQ1.out).mono ?_; rintro e w3 ⟨rfl, hb3⟩; have HB3 := Aside0.mk hb3; have hr := blk_below rr.out hb3; have HR3 := Aside0.mk hr; have hr0 := blk_cell hr 0; have hr1 := blk_cell hr 1; have hf0 := blk_frozen hr 0; have hf1 := blk_frozen hr 1; clear hr; have hrl : w.heap.size < w3.heap.size := blk_lt (blk_below rr.out HB3.out); clear hb3)
        refine bodyPost_ret (results_ct rfl _ _ w.heap.size 30 #[.int .i64 0, .slice none 0 0] (0, 0) _ rfl (blk_alloc (blk_put (blk_put HR3.out 0 (.int .i64 0) rfl) 1 (.slice none 0 0) rfl) (.cells #[.int .i64 (q x).f0, .int .i64 (q x).f1, .int .i64 (q x).f2, .int .i64 (q x).f3] 71)) hu30 rfl (by kernel_rfl)) rfl ?_
        obtain ⟨e1, e2, e3⟩ : res = false ∧ R = 0 ∧ L = [] := by have h := HRES.out; simp only [hall, Bool.false_and, Bool.false_eq_true, if_false] at h; exact ⟨congrArg (·.1) h, congrArg (·.2.1) h, congrArg (·.2.2) h⟩
        rw [e1, e2, e3]
        exact ⟨.slice none 0 0, rfl, Kd.R_nil _ _ _ _ _, below_alloc (((below_step (below_step HB.out rb.out) HB3.out).setCell (p := ⟨w.heap.size, 0, none⟩) (Nat.le_refl _) _).setCell (p := ⟨w.heap.size, 1, none⟩) (Nat.le_refl _) _) _⟩
      | true =>
        have hlen32 := Aside0.mk (show (ys.length + 1) * 32 ≤ 140737488355328 by have h2 := HL2.out; have h3 : ys.length ≤ tl.length := (by rw [HYS.out]; simp; omega); omega)
        have HQ1 := Aside0.mk (hg ▸ HQ.out)
        go_wp2_with (first
          | (go_at_call 57; refine (impl_readSight.calls k x _ _ _ _ true _ hTr.out HQ1.out).mono ?_; rintro e w3 ⟨rfl, hb3⟩; have HB3 := Aside0.mk hb3; have ho := blk_below ro.out hb3; have ho1 : w3.cell? ⟨w2.heap.size, 1, none⟩ = some (.slice Av ys.length cv) := (blk_cell ho 1).trans rfl; have hol : w2.heap.size < w3.heap.size := blk_lt ho; clear ho hb3)
          | ((with_reducible refine gate_dst (N := 42) rfl ?_); refine Kd.R_append k71 (w0 := w1) w1.heap.size (by rfl) (.tmp 39) (.tmp 41) 28 71 (.agg #[.int .i64 0, .int .i64 0, .int .i64 0, .int .i64 0]) 32 rfl Tryd.underlying28 info71 rfl (by decide) (by omega) (.slice Av ys.length cv) ys (q x) [.int .i64 (q x).f0, .int .i64 (q x).f1, .int .i64 (q x).f2, .int .i64 (q x).f3] (fun _ => True) (fun _ => False) rfl (by rw [World.size_alloc]; rfl) (k71_mkM _ _ _ (q x)) (fun _ hk => hk.elim) (fun _ _ => trivial) (Kd.R_alloc (Kd.R_below rt.out HB3.out) _) (below_alloc (below_step rb.out HB3.out) _) (below_size (below_alloc (below_step rb.out HB3.out) _)) hlen32.out ?_; intro v1 w4 h1 h2 h3 h4; obtain ⟨A1, c1, rfl⟩ := Kd.R_slice h1; have qo := blk_grown (blk_alloc (blk_below ro.out HB3.out) (.cells #[.int .i64 (q x).f0, .int .i64 (q x).f1, .int .i64 (q x).f2, .int .i64 (q x).f3] 71)) h3 (Kd.R_ne (Kd.R_alloc (Kd.R_below rt.out HB3.out) (.cells #[.int .i64 (q x).f0, .int .i64 (q x).f1, .int .i64 (q x).f2, .int .i64 (q x).f3] 71)) (blk_alloc (blk_below ro.out HB3.out) (.cells #[.int .i64 (q x).f0, .int .i64 (q x).f1, .int .i64 (q x).f2, .int .i64 (q x).f3] 71)) (by decide)); have QR := Aside0.mk (blk_grown (blk_alloc (blk_below rr.out HB3.out) (.cells #[.int .i64 (q x).f0, .int .i64 (q x).f1, .int .i64 (q x).f2, .int .i64 (q x).f3] 71)) h3 (Kd.R_ne (Kd.R_alloc (Kd.R_below rt.out HB3.out) (.cells #[.int .i64 (q x).f0, .int .i64 (q x).f1, .int .i64 (q x).f2, .int .i64 (q x).f3] 71)) (blk_alloc (blk_below rr.out HB3.out) (.cells #[.int .i64 (q x).f0, .int .i64 (q x).f1, .int .i64 (q x).f2, .int .i64 (q x).f3] 71)) (by decide))); have q1' : w4.cell? ⟨w2.heap.size, 1, none⟩ = some (.slice Av ys.length cv) := (blk_cell qo 1).trans rfl; have q2' := blk_frozen qo 1; have H1' := Aside0.mk h1; have H2' := Aside0.mk h2; have QO := Aside0.mk qo; clear h1 h2 h3 h4 qo))
        have hw : wrap64 ((j : Int) + 1) = ((j + 1 : Nat) : Int) := by have h1 := HJ.out; have h2 := HL2.out; unfold wrap64; omega
        go_roundw
        case rel =>
          refine ⟨j + 1, by have := HJ.out; omega, by rw [hw], ⟨take_good tl good j HJ.out hgd.out (by rw [← HXx.out]; exact hg)⟩, _, ⟨?_⟩, ⟨blk_put QO.out 1 _ rfl⟩, ⟨blk_far QR.out (show w.heap.size ≠ w2.heap.size by omega) _⟩, ⟨H2'.out.setCell (p := ⟨w2.heap.size, 1, none⟩) hbase2 _⟩⟩
          have h := Kd.R_set H1'.out QO.out (by decide) 1 (.slice A1 (ys ++ [q x]).length c1)
          rw [show (ys ++ [q x]).length = ys.length + 1 by simp] at h
          rw [take_map_succ tl q j HJ.out, ← HXx.out, ← HYS.out]
          exact h
        case measure => have := HJ.out; rw [hw]; simp only [intOf, Int.toNat_natCast]; omega
    · have c4 : decide ((j : Int) < (tl.length : Int)) = false := decide_eq_false (by omega)
      obtain rfl : j = tl.length := by omega
      rw [List.take_length] at hgd HYS
      have hall : tl.all good = true := hgd.out
      have ho0 : wr.cell? ⟨w2.heap.size, 0, none⟩ = some (.int .i64 n0) := (blk_cell ro.out 0).trans rfl
      have ho1 : wr.cell? ⟨w2.heap.size, 1, none⟩ = some (.slice Av ys.length cv) := (blk_cell ro.out 1).trans rfl
      clear hlt hj
      cases ok0 with
      | false =>
        have hr0 := blk_cell rr.out 0
        have hr1 := blk_cell rr.out 1
        have hf0 := blk_frozen rr.out 0
        have hf1 := blk_frozen rr.out 1
        go_wp2_with (fail)
        refine bodyPost_ret (results_ct rfl _ _ w.heap.size 30 #[.int .i64 0, .slice none 0 0] (0, 0) _ rfl (blk_put (blk_put (rr.out) 0 (.int .i64 0) rfl) 1 (.slice none 0 0) rfl) hu30 rfl (by kernel_rfl)) rfl ?_
        obtain ⟨e1, e2, e3⟩ : res = false ∧ R = 0 ∧ L = [] := by have h := HRES.out; simp only [Bool.and_false, Bool.false_and, Bool.false_eq_true, if_false] at h; exact ⟨congrArg (·.1) h, congrArg (·.2.1) h, congrArg (·.2.2) h⟩
        rw [e1, e2, e3]
        exact ⟨.slice none 0 0, rfl, Kd.R_nil _ _ _ _ _, ((below_step HB.out rb.out).setCell (p := ⟨w.heap.size, 0, none⟩) (Nat.le_refl _) _).setCell (p := ⟨w.heap.size, 1, none⟩) (Nat.le_refl _) _⟩
      | true =>
        have HVV := Aside0.mk (HV.out hall rfl)
        cases vb with
        | false =>
          go_wp2_with (go_at_call 40; refine (impl_ValidSurvey.calls k2 n0 Av cv ys false _ HCV.out HCv.out (by rw [HYS.out]; exact HVV.out)).mono ?_; rintro e w3 ⟨rfl, hb3⟩; have HB3 := Aside0.mk hb3; have hr := blk_below rr.out hb3; have HR3 := Aside0.mk hr; have hr0 := blk_cell hr 0; have hr1 := blk_cell hr 1; have hf0 := blk_frozen hr 0; have hf1 := blk_frozen hr 1; clear hr; clear hb3)
          refine bodyPost_ret (results_ct rfl _ _ w.heap.size 30 #[.int .i64 0, .slice none 0 0] (0, 0) _ rfl (blk_put (blk_put (HR3.out) 0 (.int .i64 0) rfl) 1 (.slice none 0 0) rfl) hu30 rfl (by kernel_rfl)) rfl ?_
          obtain ⟨e1, e2, e3⟩ : res = false ∧ R = 0 ∧ L = [] := by have h := HRES.out; simp only [Bool.and_false, Bool.false_eq_true, if_false] at h; exact ⟨congrArg (·.1) h, congrArg (·.2.1) h, congrArg (·.2.2) h⟩
          rw [e1, e2, e3]
          exact ⟨.slice none 0 0, rfl, Kd.R_nil _ _ _ _ _, ((below_step (below_step HB.out rb.out) HB3.out).setCell (p := ⟨w.heap.size, 0, none⟩) (Nat.le_refl _) _).setCell (p := ⟨w.heap.size, 1, none⟩) (Nat.le_refl _) _⟩
        | true =>
          go_wp2_with (go_at_call 40; refine (impl_ValidSurvey.calls k2 n0 Av cv ys true _ HCV.out HCv.out (by rw [HYS.out]; exact HVV.out)).mono ?_; rintro e w3 ⟨rfl, hb3⟩; have HB3 := Aside0.mk hb3; have hr := blk_below rr.out hb3; have HR3 := Aside0.mk hr; have hr0 := blk_cell hr 0; have hr1 := blk_cell hr 1; have hf0 := blk_frozen hr 0; have hf1 := blk_frozen hr 1; clear hr; have hv := blk_below ro.out hb3; have hv0 : w3.cell? ⟨w2.heap.size, 0, none⟩ = some (.int .i64 n0) := (blk_cell hv 0).trans rfl; have hv1 : w3.cell? ⟨w2.heap.size, 1, none⟩ = some (.slice Av ys.length cv) := (blk_cell hv 1).trans rfl; clear hv hb3)
          have RT := Kd.R_below rt.out HB3.out
          refine bodyPost_ret (results_ct rfl _ _ w.heap.size 30 #[.int .i64 n0, .slice Av ys.length cv] (0, 0) _ rfl (blk_put (blk_put HR3.out 0 (.int .i64 n0) rfl) 1 (.slice Av ys.length cv) rfl) hu30 rfl (by kernel_rfl)) rfl ?_
          obtain ⟨e1, e2, e3⟩ : res = true ∧ R = n0 ∧ L = tl.map q := by have h := HRES.out; simp only [hall, Bool.and_true, if_true] at h; exact ⟨congrArg (·.1) h, congrArg (·.2.1) h, congrArg (·.2.2) h⟩
          rw [e1, e2, e3, ← HYS.out]
          refine ⟨_, rfl, ?_, ((below_step (below_step HB.out rb.out) HB3.out).setCell (p := ⟨w.heap.size, 0, none⟩) (Nat.le_refl _) _).setCell (p := ⟨w.heap.size, 1, none⟩) (Nat.le_refl _) _⟩
          exact Kd.R_lower (Kd.R_set (Kd.R_set RT HR3.out (by decide) 0 (.int .i64 n0)) (blk_put HR3.out 0 (.int .i64 n0) rfl) (by decide) 1 (.slice Av ys.length cv)) hbase
end Go.Proofs.YtkbklocfdoofeaaDoor.Rw

/- The law on ReadSurvey, walked where both sides hand back the same survey. -/
namespace Go.Proofs.YtkbklocfdoofeaaDoor.RsW
open Go.RowKit Go.Proofs.YtkbklocfdoofeaaDoorW.PrintWords Go.Proofs.YtkbklocfdoofeaaDoorW.PrintLast Go.Proofs.YtkbklocfdoofeaaDoorW.PrintMore Go.Proofs.YtkbklocfdoofeaaDoor.Q Go.Proofs.YtkbklocfdoofeaaDoor.Rv
set_option linter.unusedVariables false
set_option linter.unusedSimpArgs false
/-- What a reading of a survey hands back. -/
def Hands (f : FuncId) (a0 : ByteArray) (R : Int) (L : List Sg) (res : Bool) (w : World) : Prop :=
  Calls Tryd.prog f #[.string a0] w fun e w' => ∃ v, e = .returned (.tuple #[.agg #[.int .i64 R, v], .bool res]) ∧ TS w.heap.size w' v L ∧ Below w.heap.size w w'
set_option maxRecDepth 100000 in
set_option maxHeartbeats 2000000 in
theorem walk (a0 : ByteArray) (R : Int) (L : List Sg) (res : Bool) (w : World) (hT : Tb.TC w) (h1 : Hands 23 a0 R L res w) (h2 : ∀ W, Tb.TC W → Hands 24 a0 R L res W) (h60 : L.length ≤ 60) (hs : ¬ (a0.size : Int) > 1048576) :
    Calls Tryd.prog 6 #[.string a0] w fun e w' => e = .returned (.bool true) ∧ Below w.heap.size w w' := by
  have hu := Tryd.underlying30
  have HT := Aside0.mk hT
  have H1 := Aside0.mk h1
  have H2 := Aside0.mk h2
  have H3 := Aside0.mk (PuS.eqSurvey_eq R L (by omega) 100 (by omega))
  have H4 := Aside0.mk (PuMS.mark_eq R L h60)
  have H5 := Aside0.mk (PuMS.held_eq R L.length h60)
  have H60 := Aside0.mk h60
  have hb0 : (res != res) = false := bne_self_eq_false res
  have c2b0 : decide (1048576 < (a0.size : Int)) = false := decide_eq_false hs
  have c2b1 : decide (1048576 < a0.size) = false := decide_eq_false (by omega)
  have c3 : decide (4 * (L.length : Int) + 1 < 0) = false := decide_eq_false (by omega)
  obtain ⟨ML, hML⟩ : ∃ m, m = (List.range L.length).map PuMS.markG := ⟨_, rfl⟩
  rw [← hML] at H4 H5
  have hMl : ML.length = L.length := by rw [hML]; simp
  have HML := Aside0.mk hMl
  clear hs hT h1 h2 h60 hML hMl
  have F1 : True := trivial
  have F2 : True := trivial
  have F3 : True := trivial
  go_enter Tryd.func6, Tryd.ntmps6
  go_wp2_with (first
    | (go_at_call 23; refine (H1.out).mono ?_; rintro e w1 ⟨v, rfl, hR, hb⟩; obtain ⟨A, cA, rfl, hcA, hC⟩ := Kd.R_reads hR; have HC := Aside0.mk hC; have HcA := Aside0.mk hcA; have HB := Aside0.mk hb; clear hb hR hC hcA)
    | (go_at_call 24; clear F1; refine (H2.out _ (Tb.TC.below HT.out (below_alloc HB.out (.cells #[.int .i64 R, .slice A L.length cA] 30)))).mono ?_; rintro e w2 ⟨v, rfl, hR, hb⟩; have HR5 := Aside0.mk (Kd.R_alloc (Kd.R_elderB hR w2.heap.size (Nat.le_refl _)) (.cells #[.int .i64 R, v] 30)); obtain ⟨B, cB, rfl, hcB, hCB⟩ := Kd.R_reads hR; have HCB := Aside0.mk hCB; have HcB := Aside0.mk hcB; have HB1 := Aside0.mk hb; have b3 := blk_below (blk_new w1 (.cells #[.int .i64 R, .slice A L.length cA] 30)) hb; have B3 := Aside0.mk b3; have hl3 : w1.heap.size < w2.heap.size := blk_lt b3; have hc30 : w2.cell? ⟨w1.heap.size, 0, none⟩ = some (.int .i64 R) := (blk_cell b3 0).trans rfl; have hc31 : w2.cell? ⟨w1.heap.size, 1, none⟩ = some (.slice A L.length cA) := (blk_cell b3 1).trans rfl; clear hb hR hCB hcB b3)
    | (go_at_call 14; clear F2; refine (laws_eqSurvey.calls 100 R B cB L R A cA L true _ (Kd.C_below HCB.out (below_alloc (Below.refl _ _) (.cells #[.int .i64 R, .slice B L.length cB] 30))) HcB.out (Kd.C_below HC.out (below_alloc (below_step (below_alloc (Below.refl _ _) (.cells #[.int .i64 R, .slice A L.length cA] 30)) HB1.out) (.cells #[.int .i64 R, .slice B L.length cB] 30))) HcA.out H3.out).mono ?_; rintro e w3 ⟨rfl, hb⟩; have HR3 := Aside0.mk (Kd.R_below HR5.out hb); have HB3 := Aside0.mk (below_step (below_alloc HB1.out (.cells #[.int .i64 R, .slice B L.length cB] 30)) hb); have b5 := blk_below (blk_new w2 (.cells #[.int .i64 R, .slice B L.length cB] 30)) hb; have B5 := Aside0.mk b5; have hc50 : w3.cell? ⟨w2.heap.size, 0, none⟩ = some (.int .i64 R) := (blk_cell b5 0).trans rfl; have hc51 : w3.cell? ⟨w2.heap.size, 1, none⟩ = some (.slice B L.length cB) := (blk_cell b5 1).trans rfl; clear hb b5 hc30 hc31 hl3)
    | (go_at_call 25; refine (laws_markSurvey.calls 100 R _ _ L 1 _ ML (w1.alloc (.cells #[.int .i64 R, .slice A L.length cA] 30)) _ HB3.out HR3.out H4.out).mono ?_; rintro e w4 ⟨rfl, hR4, hb, hk⟩; obtain ⟨B', cB', eB, hcB', hCM⟩ := Kd.R_reads hR4; obtain ⟨rfl, rfl⟩ : B = B' ∧ cB = cB' := by injection eB with x1 x2 x3; exact ⟨x1, x3⟩
       have HCM := Aside0.mk hCM; have HcM := Aside0.mk hcB'; have HB4 := Aside0.mk hb; clear hc50 hc51; have b5 := blk_kept B5.out hk (fun h => h.2 rfl); have B54 := Aside0.mk b5; rw [← HML.out] at b5; have hc50 : w4.cell? ⟨w2.heap.size, 0, none⟩ = some (.int .i64 R) := (blk_cell b5 0).trans rfl; have hc51 : w4.cell? ⟨w2.heap.size, 1, none⟩ = some (.slice B ML.length cB) := (blk_cell b5 1).trans rfl; clear hb hk hR4 eB hcB' hCM b5)
    | (go_at_call 26; clear F3; refine (laws_heldSurvey.calls 100 R B cB ML 1 _ _ HCM.out HcM.out H5.out).mono ?_; rintro e w5 ⟨rfl, hb⟩; have HB5 := Aside0.mk (below_step HB4.out hb); have HCM5 := Aside0.mk (Kd.C_below HCM.out hb); have B55 := Aside0.mk (blk_below B54.out hb); clear hb hc50 hc51)
    | (go_at_call 24; refine (H2.out _ (Tb.TC.below HT.out (below_step (below_alloc HB.out (.cells #[.int .i64 R, .slice A L.length cA] 30)) HB5.out))).mono ?_; rintro e w6 ⟨v, rfl, hR, hb⟩; obtain ⟨D, cD, rfl, hcD, hCD⟩ := Kd.R_reads hR
       have HCD := Aside0.mk hCD; have HcD := Aside0.mk hcD; have HB6 := Aside0.mk (below_step HB5.out hb); have HCM6 := Aside0.mk (Kd.C_below HCM5.out hb); have B56 := Aside0.mk (blk_below B55.out hb); have b3 := blk_below (blk_new w1 (.cells #[.int .i64 R, .slice A L.length cA] 30)) (below_step HB5.out hb); have hl3 : w1.heap.size < w6.heap.size := blk_lt b3; have hc30 : w6.cell? ⟨w1.heap.size, 0, none⟩ = some (.int .i64 R) := (blk_cell b3 0).trans rfl; have hc31 : w6.cell? ⟨w1.heap.size, 1, none⟩ = some (.slice A L.length cA) := (blk_cell b3 1).trans rfl; clear hb hR hCD hcD b3)
    | (go_at_call 14; refine (laws_eqSurvey.calls 100 R D cD L R A cA L true _ (Kd.C_below HCD.out (below_alloc (Below.refl _ _) (.cells #[.int .i64 R, .slice D L.length cD] 30))) HcD.out (Kd.C_below HC.out (below_alloc (below_step (below_alloc (Below.refl _ _) (.cells #[.int .i64 R, .slice A L.length cA] 30)) HB6.out) (.cells #[.int .i64 R, .slice D L.length cD] 30))) HcA.out H3.out).mono ?_; rintro e w7 ⟨rfl, hb⟩; have HB7 := Aside0.mk (below_step (below_alloc HB6.out (.cells #[.int .i64 R, .slice D L.length cD] 30)) hb); have HCM7 := Aside0.mk (Kd.C_below HCM6.out (below_step (below_alloc (Below.refl _ _) (.cells #[.int .i64 R, .slice D L.length cD] 30)) hb)); have b5 := blk_below B56.out (below_step (below_alloc (Below.refl _ _) (.cells #[.int .i64 R, .slice D L.length cD] 30)) hb); rw [← HML.out] at b5; have hc50 : w7.cell? ⟨w2.heap.size, 0, none⟩ = some (.int .i64 R) := (blk_cell b5 0).trans rfl; have hc51 : w7.cell? ⟨w2.heap.size, 1, none⟩ = some (.slice B ML.length cB) := (blk_cell b5 1).trans rfl; clear hb b5)
    | (go_at_call 26; refine (laws_heldSurvey.calls 100 R B cB ML 1 _ _ HCM7.out HcM.out H5.out).mono ?_; rintro e w8 ⟨rfl, hb⟩; have HB8 := Aside0.mk (below_step HB7.out hb); clear hb))
  go_ret
  exact ⟨rfl, below_step (below_alloc HB.out (.cells #[.int .i64 R, .slice A L.length cA] 30)) HB8.out⟩
set_option maxRecDepth 100000 in
theorem calls_big (a0 : ByteArray) (hs : (a0.size : Int) > 1048576) (w : World) : Calls Tryd.prog 6 #[.string a0] w fun e w' => e = .returned (.bool true) ∧ Below w.heap.size w w' := by
  have c2b0 : decide (1048576 < (a0.size : Int)) = true := decide_eq_true hs
  have c2b1 : decide (1048576 < a0.size) = true := decide_eq_true (by omega)
  clear hs
  go_enter Tryd.func6, Tryd.ntmps6
  go_wp2
  go_ret
  exact ⟨rfl, Below.refl _ _⟩
end Go.Proofs.YtkbklocfdoofeaaDoor.RsW

/- Both readings of a survey hand back the same, at every text. -/
namespace Go.Proofs.YtkbklocfdoofeaaDoor.PuRh
open Go.RowKit Go.Proofs.YtkbklocfdoofeaaDoorW.PrintWords Go.Proofs.YtkbklocfdoofeaaDoor.Q Go.Proofs.YtkbklocfdoofeaaDoor.Sp Go.Proofs.YtkbklocfdoofeaaDoor.PuD Go.Proofs.YtkbklocfdoofeaaDoor.PuV Go.Proofs.YtkbklocfdoofeaaDoor.PuW Go.Proofs.YtkbklocfdoofeaaDoor.PuST Go.Proofs.YtkbklocfdoofeaaDoor.PuRs Go.Proofs.YtkbklocfdoofeaaDoor.PuN Go.Proofs.YtkbklocfdoofeaaDoor.Rv
theorem cutB_eq (c : UInt8) (l : List UInt8) (hl : l.length ≤ 1048576) : strings_Cut.f (txt l) (⟨#[c]⟩ : ByteArray) = some (txt (cut1 c l).1, txt (cut1 c l).2.1, (cut1 c l).2.2) := by
  show (if (txt l).size < 4294967281 then some (tx (cut1 c (txt l).data.toList).1, tx (cut1 c (txt l).data.toList).2.1, (cut1 c (txt l).data.toList).2.2) else none) = _
  rw [if_pos (by rw [txt_size]; omega)]; rfl
theorem cut1_len (c : UInt8) (l : List UInt8) : (cut1 c l).1.length ≤ l.length ∧ (cut1 c l).2.1.length ≤ l.length := by
  induction l with
  | nil => simp [cut1]
  | cons b l ih =>
    simp only [cut1]
    split
    · simp
    · simp; omega
theorem dec_eq (w : List UInt8) (hl : w.length ≤ 1048576) : impl_ReadDecimal.f (txt w) = some (dv w) := by
  simp only [impl_ReadDecimal.f, impl_readIn.f]
  rw [if_pos (by rw [txt_size]; omega)]; rfl
theorem split_eq (l : List UInt8) (hl : l.length ≤ 1048576) : strings_Split.f (txt l) (⟨#[32]⟩ : ByteArray) = some ((split1 32 l).map txt) := by
  show (if (txt l).size < 4294967281 then some ((split1 32 (txt l).data.toList).map tx) else none) = _
  rw [if_pos (by rw [txt_size]; omega)]; rfl
theorem sight_loop (b1 b2 b3 : Bool) (ws : List (List UInt8)) (hw : ∀ w ∈ ws, w.length ≤ 1048576) (hn : ws.length = 4) (i k : Nat) (hi : i < 4) (y : List UInt8) (hy : ws[i]? = some y) (out : List Int) (ho : out.length ≤ 100) :
    impl_readSight.l0 (k + 1) b1 b2 b3 out (ws.map txt) ((ws.map txt).length : Int) (i : Int) = (if (dv y).2 = true then impl_readSight.l0 k b1 b2 b3 (out ++ [(dv y).1]) (ws.map txt) ((ws.map txt).length : Int) ((i + 1 : Nat) : Int) else some (0, 0, 0, 0, false)) := by
  have hr : rdOf ByteArray.empty (ws.map txt) (i : Int) = txt y := by
    simp [rdOf, hy]
  have hlen : (ws.map txt).length = 4 := by rw [List.length_map]; exact hn
  simp only [impl_readSight.l0, hr, dec_eq y (hw y (List.mem_of_getElem? hy)), Option.bind_some, hlen]
  rw [if_pos (by omega), if_pos (by omega), if_pos (by omega)]
  split
  · rw [if_pos (by omega), show wrap64 ((i : Int) + 1) = ((i + 1 : Nat) : Int) by unfold wrap64; omega]
  · rfl
theorem read_sight (w : List UInt8) (hl : w.length ≤ 1048576) (k : Nat) : impl_readSight.f (k + 5) (txt w) = some ((sightV w).1.f0, (sightV w).1.f1, (sightV w).1.f2, (sightV w).1.f3, (sightV w).2) := by
  have l1 := cut1_len 62 w
  have l2 := cut1_len 61 (cut1 62 w).2.1
  have l3 := cut1_len 42 (cut1 61 (cut1 62 w).2.1).2.1
  simp only [impl_readSight.f]
  rw [cutB_eq 62 w hl]; simp only [Option.bind_some]
  rw [cutB_eq 61 _ (by omega)]; simp only [Option.bind_some]
  rw [cutB_eq 42 _ (by omega)]; simp only [Option.bind_some]
  unfold sightV
  obtain ⟨x1, hx1⟩ : ∃ x, x = (cut1 62 w).1 := ⟨_, rfl⟩
  obtain ⟨x2, hx2⟩ : ∃ x, x = (cut1 61 (cut1 62 w).2.1).1 := ⟨_, rfl⟩
  obtain ⟨x3, hx3⟩ : ∃ x, x = (cut1 42 (cut1 61 (cut1 62 w).2.1).2.1).1 := ⟨_, rfl⟩
  obtain ⟨x4, hx4⟩ : ∃ x, x = (cut1 42 (cut1 61 (cut1 62 w).2.1).2.1).2.1 := ⟨_, rfl⟩
  rw [← hx1, ← hx2, ← hx3, ← hx4]
  generalize (cut1 62 w).2.2 = b1
  generalize (cut1 61 (cut1 62 w).2.1).2.2 = b2
  generalize (cut1 42 (cut1 61 (cut1 62 w).2.1).2.1).2.2 = b3
  have hw : ∀ y ∈ [x1, x2, x3, x4], y.length ≤ 1048576 := by
    intro y hy
    simp only [List.mem_cons, List.not_mem_nil, or_false] at hy
    rcases hy with rfl | rfl | rfl | rfl
    · rw [hx1]; omega
    · rw [hx2]; omega
    · rw [hx3]; omega
    · rw [hx4]; omega
  have s0 := sight_loop b1 b2 b3 [x1, x2, x3, x4] hw rfl 0 (k + 4) (by omega) x1 rfl [] (by simp)
  have s1 := sight_loop b1 b2 b3 [x1, x2, x3, x4] hw rfl 1 (k + 3) (by omega) x2 rfl [(dv x1).1] (by simp)
  have s2 := sight_loop b1 b2 b3 [x1, x2, x3, x4] hw rfl 2 (k + 2) (by omega) x3 rfl [(dv x1).1, (dv x2).1] (by simp)
  have s3 := sight_loop b1 b2 b3 [x1, x2, x3, x4] hw rfl 3 (k + 1) (by omega) x4 rfl [(dv x1).1, (dv x2).1, (dv x3).1] (by simp)
  have s4 : impl_readSight.l0 (k + 1) b1 b2 b3 [(dv x1).1, (dv x2).1, (dv x3).1, (dv x4).1] ([x1, x2, x3, x4].map txt) (([x1, x2, x3, x4].map txt).length : Int) ((4 : Nat) : Int) = some ((dv x1).1, (dv x2).1, (dv x3).1, (dv x4).1, b1 && b2 && b3) := by
    cases b1 <;> cases b2 <;> simp [impl_readSight.l0, rd]
  show impl_readSight.l0 (k + 5) b1 b2 b3 [] ([x1, x2, x3, x4].map txt) (([x1, x2, x3, x4].map txt).length : Int) ((0 : Nat) : Int) = _
  rw [show k + 5 = k + 4 + 1 from rfl, s0]
  by_cases h1 : (dv x1).2 = true
  · rw [if_pos h1]
    show impl_readSight.l0 (k + 3 + 1) b1 b2 b3 [(dv x1).1] ([x1, x2, x3, x4].map txt) (([x1, x2, x3, x4].map txt).length : Int) ((1 : Nat) : Int) = _
    rw [s1]
    by_cases h2 : (dv x2).2 = true
    · rw [if_pos h2]
      show impl_readSight.l0 (k + 2 + 1) b1 b2 b3 [(dv x1).1, (dv x2).1] ([x1, x2, x3, x4].map txt) (([x1, x2, x3, x4].map txt).length : Int) ((2 : Nat) : Int) = _
      rw [s2]
      by_cases h3 : (dv x3).2 = true
      · rw [if_pos h3]
        show impl_readSight.l0 (k + 1 + 1) b1 b2 b3 [(dv x1).1, (dv x2).1, (dv x3).1] ([x1, x2, x3, x4].map txt) (([x1, x2, x3, x4].map txt).length : Int) ((3 : Nat) : Int) = _
        rw [s3]
        by_cases h4 : (dv x4).2 = true
        · rw [if_pos h4, if_pos ⟨h1, h2, h3, h4⟩]; exact s4
        · rw [if_neg h4, if_neg (fun h => h4 h.2.2.2)]
      · rw [if_neg h3, if_neg (fun h => h3 h.2.2.1)]
    · rw [if_neg h2, if_neg (fun h => h2 h.2.1)]
  · rw [if_neg h1, if_neg (fun h => h1 h.1)]
theorem impl_hands (l : List UInt8) (hl : l.length ≤ 1048576) (w : World) (hT : Tb.TC w) : RsW.Hands 24 (txt l) (ansI l).2.1 (ansI l).2.2 (ansI l).1 w := by
  have hlen := split1_len 32 l
  unfold ansI
  cases hs : split1 32 l with
  | nil => exact absurd hs (split1_ne 32 l)
  | cons w0 ws =>
    rw [hs] at hlen
    have hws : ws.length ≤ 1048576 := by have := hlen.1; rw [List.length_cons] at this; omega
    have hwl : ∀ x ∈ ws, x.length ≤ 1048576 := fun x hx => by have := hlen.2 x (by simp [hx]); omega
    have e1 : (ws.map txt).map (fun x => (sightV x.data.toList).1) = ws.map fun w => (sightV w).1 := by rw [List.map_map]; rfl
    have e2 : (ws.map txt).all (fun x => (sightV x.data.toList).2) = ws.all fun w => (sightV w).2 := by rw [List.all_map]; rfl
    show RsW.Hands _ _ (ansW w0 ws).2.1 (ansW w0 ws).2.2 (ansW w0 ws).1 w
    refine Rw.impl_rs 10 (ws.length + 1) (txt l) ((w0 :: ws).map txt) (ws.map txt) (dv w0).1 (dv w0).2 (Hb.surveyB (dv w0).1 (ws.map fun w => (sightV w).1)) (fun x => (sightV x.data.toList).1) (fun x => (sightV x.data.toList).2) w hT (by rw [split_eq l hl, hs]) ?_ (by simp) (by simp; omega) rfl ?_ ?_ (ansW w0 ws).1 (ansW w0 ws).2.1 (ansW w0 ws).2.2 ?_
    · show impl_ReadDecimal.f (txt w0) = _
      rw [dec_eq w0 (by have := hlen.2 w0 (by simp); omega)]
    · intro x hx
      obtain ⟨y, hy, rfl⟩ := List.mem_map.1 hx
      exact read_sight y (hwl y hy) 5
    · intro _ _
      rw [e1]
      exact PuS.implValid_eq _ _ (by rw [List.length_map]; exact hws) _ (by rw [List.length_map]; omega)
    · rw [e1, e2]
      unfold ansW
      split <;> rfl
/-- The numbers of the sights of a survey, one behind the other. -/
def flat : List Sg → List Int
  | [] => []
  | s :: l => s.f0 :: s.f1 :: s.f2 :: s.f3 :: flat l
theorem flat_len (l : List Sg) : (flat l).length = 4 * l.length := by
  induction l with
  | nil => rfl
  | cons s l ih => simp only [flat, List.length_cons, ih]; omega
theorem flat_at (p : Int) : ∀ (l : List Sg) (j : Nat) (h : j < l.length), (p :: flat l)[4 * j + 1]? = some l[j].f0 ∧ (p :: flat l)[4 * j + 2]? = some l[j].f1 ∧ (p :: flat l)[4 * j + 3]? = some l[j].f2 ∧ (p :: flat l)[4 * j + 4]? = some l[j].f3 := by
  intro l
  induction l generalizing p with
  | nil => intro j h; simp at h
  | cons s l ih =>
    intro j h
    cases j with
    | zero => exact ⟨rfl, rfl, rfl, rfl⟩
    | succ j =>
      have := ih s.f3 j (by simpa using h)
      rw [show 4 * (j + 1) + 1 = 4 * j + 1 + 1 + 1 + 1 + 1 by omega, show 4 * (j + 1) + 2 = 4 * j + 2 + 1 + 1 + 1 + 1 by omega, show 4 * (j + 1) + 3 = 4 * j + 3 + 1 + 1 + 1 + 1 by omega, show 4 * (j + 1) + 4 = 4 * j + 4 + 1 + 1 + 1 + 1 by omega]
      simp only [flat, List.getElem?_cons_succ, List.getElem_cons_succ]
      exact this
theorem rd_at (l : List Int) (i : Nat) (x : Int) (h : l[i]? = some x) (z : Int) (hz : z = (i : Int)) : rd l z = x := by
  subst hz
  unfold rd
  rw [Int.toNat_natCast, List.getD_eq_getElem?_getD, h]; rfl
theorem vS_flat (p : Int) (l : List Sg) (hl : l.length ≤ 1000) : vS (p :: flat l) = l := by
  unfold vS
  have e : ((p :: flat l).length - 1) / 4 = l.length := by rw [List.length_cons, flat_len]; omega
  rw [e]
  apply List.ext_getElem
  · rw [sgt_len]
  · intro j h1 h2
    simp only [sgt, List.getElem_map, List.getElem_range, sg1]
    obtain ⟨a0, a1, a2, a3⟩ := flat_at p l j h2
    rw [rd_at _ _ _ a0 _ (by omega), rd_at _ _ _ a1 _ (by unfold wrap64; omega), rd_at _ _ _ a2 _ (by unfold wrap64; omega), rd_at _ _ _ a3 _ (by unfold wrap64; omega)]
theorem stops_rest (vs : List Sg) : Stops (restT vs) := by
  cases vs with
  | nil => exact .inl rfl
  | cons s vs => exact .inr ⟨32, sightU s ++ restT vs, by simp [restT, sightT_eq], by decide⟩
theorem rest_loop {L : List UInt8} (hL : L.length ≤ 2000000) : ∀ (vs : List Sg) (i : Nat) (out : List Int), At L i (restT vs) → (∀ s ∈ vs, okT s) → out.length + 4 * vs.length ≤ 1000000 → ∃ k, spec_l02Numbers.l0 k (txt L) out (i : Int) = some (out ++ flat vs) := by
  intro vs
  induction vs with
  | nil =>
    intro i out h0 _ _
    have := h0.endOf
    refine ⟨1, ?_⟩
    simp only [spec_l02Numbers.l0, txt_size]
    rw [if_neg (by omega)]; simp [flat]
  | cons s vs ih =>
    intro i out h0 hs ho
    rw [List.length_cons] at ho
    obtain ⟨o0, o1, o2, o3⟩ := hs s (by simp)
    have e : restT (s :: vs) = 32 :: (Lib.itoa s.f0 ++ 62 :: (Lib.itoa s.f1 ++ 61 :: (Lib.itoa s.f2 ++ 42 :: (Lib.itoa s.f3 ++ restT vs)))) := by simp [restT, sightT]
    rw [e] at h0
    have a0 := (h0.cons).2.2
    have b0 := a0.app
    have a1 := (b0.cons).2.2
    have b1 := a1.app
    have a2 := (b1.cons).2.2
    have b2 := a2.app
    have a3 := (b2.cons).2.2
    have b3 := a3.app
    obtain ⟨k, hk⟩ := ih _ (out ++ [s.f0] ++ [s.f1] ++ [s.f2] ++ [s.f3]) b3 (fun x hx => hs x (by simp [hx])) (by simp; omega)
    have c3 := numI hL (stops_rest vs) (by simp; omega) s.f3 o3.1 o3.2 a3 hk
    have d3 := sep hL b2 (by decide) (by decide) c3
    have c2 := numI hL (.inr ⟨42, _, rfl, by decide⟩) (by simp; omega) s.f2 o2.1 o2.2 a2 d3
    have d2 := sep hL b1 (by decide) (by decide) c2
    have c1 := numI hL (.inr ⟨61, _, rfl, by decide⟩) (by simp; omega) s.f1 o1.1 o1.2 a1 d2
    have d1 := sep hL b0 (by decide) (by decide) c1
    have c0 := numI hL (.inr ⟨62, _, rfl, by decide⟩) (by omega) s.f0 o0.1 o0.2 a0 d1
    have d0 := sep hL h0 (by decide) (by decide) c0
    exact ⟨_, by rw [d0]; simp [flat]⟩
theorem nums_text (p : Int) (vs : List Sg) (h : Hb.surveyB p vs = true) (hL : (surveyT p vs).length ≤ 1048576) : ∃ k, spec_l02Numbers.f k (txt (surveyT p vs)) = some (p :: flat vs) := by
  obtain ⟨hp, hl, hs⟩ := ok_small p vs h
  have h0 : At (surveyT p vs) 0 (Lib.itoa p ++ restT vs) := ⟨Nat.zero_le _, rfl⟩
  obtain ⟨k, hk⟩ := rest_loop (by omega) vs _ ([] ++ [p]) h0.app hs (by simp; omega)
  exact ⟨_, numI (by omega) (stops_rest vs) (by simp) p hp.1 hp.2 h0 hk⟩
theorem text_eq (p : Int) (vs : List Sg) (h : Hb.surveyB p vs = true) : ∃ q, spec_l10Text.f 200 p vs = some (txt (surveyT p vs), q) := by
  obtain ⟨h1, h2, h3⟩ := ok_of p vs h
  have := spec_loop vs (by omega) p h3 vs.length 200 0 (Lib.itoa p) (by omega) (by omega) (by have := itoa_len p h1.1 h1.2; omega)
  simp only [spec_l10Text.f, l01Dec_any p h1.1 h1.2 200 (by omega), Option.bind_some]
  rw [show ((0 : Nat) : Int) = 0 from rfl] at this
  rw [this]; exact ⟨p, by simp [surveyT]⟩
theorem toList_txt (l : List UInt8) : (txt l).toList = l := by rw [ByteArray.toList_eq]; simp [txt]
theorem spec_hands (l : List UInt8) (hl : l.length ≤ 1048576) (w : World) : RsW.Hands 23 (txt l) (ansI l).2.1 (ansI l).2.2 (ansI l).1 w := by
  by_cases ha : (ansI l).1 = true
  · obtain ⟨hB, ht⟩ := ansI_text l ha
    obtain ⟨k, hk⟩ := nums_text _ _ hB (by rw [← ht]; exact hl)
    rw [← ht] at hk
    obtain ⟨q, hq⟩ := text_eq _ _ hB
    rw [← ht] at hq
    have hln := (ok_small _ _ hB).2.1
    have hv := vS_flat (ansI l).2.1 (ansI l).2.2 (by omega)
    have hr : rd ((ansI l).2.1 :: flat (ansI l).2.2) 0 = (ansI l).2.1 := rfl
    have := some_nums k 200 (txt l) _ (txt l) true true w hk (by simp) (by rw [List.length_cons, flat_len]; omega) (by rw [hr, hv]; exact hB) (fun _ => ⟨q, by rw [hr, hv]; exact hq⟩) (beq_self_eq_true _)
    rw [hr, hv] at this
    rw [ha]; exact this
  · have hno : ansI l = (false, 0, []) := by
      unfold ansI at ha ⊢
      cases hs : split1 32 l with
      | nil => rfl
      | cons w0 ws =>
        rw [hs] at ha
        simp only at ha ⊢
        unfold ansW at ha ⊢
        split at ha
        · exact absurd rfl ha
        · rename_i hc; rw [if_neg hc]
    obtain ⟨k, nums, hk, _⟩ := total (L := l) (by omega) l.length 0 [] (by omega) (by simp)
    rw [hno]
    by_cases hn : nums.length = 0 ∨ 33 < nums.length
    · refine (no_nums k (txt l) nums w hk hn).mono ?_
      rintro e w' ⟨rfl, hb⟩
      exact ⟨_, rfl, Kd.R_nil _ _ _ _ _, hb⟩
    · have hlo : 0 < nums.length := by omega
      have hhi : nums.length ≤ 33 := by omega
      cases hB : Hb.surveyB (rd nums 0) (vS nums) with
      | false =>
        exact some_nums k 200 (txt l) nums (txt l) false true w hk hlo hhi hB (fun h => absurd h (by decide)) (beq_self_eq_true _)
      | true =>
        obtain ⟨q, hq⟩ := text_eq _ _ hB
        have he : ((txt (surveyT (rd nums 0) (vS nums))).toList == (txt l).toList) = false := by
          rw [toList_txt, toList_txt, beq_eq_false_iff_ne]
          intro e
          have := ansI_yes _ _ hB
          rw [e, hno] at this
          cases this
        exact some_nums k 200 (txt l) nums _ true false w hk hlo hhi hB (fun _ => ⟨q, hq⟩) he
theorem calls (a0 : ByteArray) (w : World) (hT : Tb.TC w) : Calls Tryd.prog 6 #[.string a0] w fun e w' => e = .returned (.bool true) ∧ Below w.heap.size w w' := by
  by_cases hs : (a0.size : Int) > 1048576
  · exact RsW.calls_big a0 hs w
  · have hl : a0.data.toList.length ≤ 1048576 := by rw [Array.length_toList]; show a0.size ≤ _; omega
    exact RsW.walk a0 _ _ _ w hT (spec_hands a0.data.toList hl w) (fun W hW => impl_hands a0.data.toList hl W hW) (by have := ansI_len a0.data.toList; omega) hs
end Go.Proofs.YtkbklocfdoofeaaDoor.PuRh

