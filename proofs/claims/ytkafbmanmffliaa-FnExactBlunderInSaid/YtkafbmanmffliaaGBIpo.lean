/- Parts of the proof that the law of this seat holds: Vb3, PuAg, Bl2, LwBI. -/
import Derived.Test.YtkafbmanmffliaaGBIpa
import Derived.Test.YtkafbmanmffliaaGBIpb
import Derived.Test.YtkafbmanmffliaaGBIpn
set_option linter.unusedVariables false
set_option linter.unusedSimpArgs false
namespace Go.Proofs.Ytkafbmanmffliaa.Q
open Go.RowKit YtkafbmanmffliaaW.PrintWords YtkafbmanmffliaaW.PrintLast YtkafbmanmffliaaW.PrintMore
attribute [local go_sem] max2_int min2_int max_two min_two max_three min_three max_four min_four
def spec_l10Agrees.l0 : Nat → List Int → Int → Int → List (S32) → Option (Bool × Int)
 | 0, _, _, _, _ => none
 | k + 1, x4, x5, x1000, x1001 => if x5 < (x4.length : Int) then (if 0 ≤ x5 then (if (rd x4 x5) = 0 then (spec_l10Agrees.l0 k x4 (wrap64 (x5 + 1)) x1000 x1001) else (some (false, x1000))) else (none)) else (some (true, x1000))
def spec_l10Agrees.f (k : Nat) (s0_0 : Int) (s0_1 : List (S32)) : Option (Bool × Int) := (spec_l10Whole.f s0_0 s0_1).bind fun bt321 => (if bt321.1 = true then ((spec_l10Residuals.f k bt321.2 s0_1).bind fun bt323 => (spec_l10Agrees.l0 k bt323.2.1 0 bt323.2.2 s0_1)) else (some (false, bt321.2)))
theorem spec_l10Agrees.mono_l : ∀ k, (∀ y0 y1 y2 y3, LeO (spec_l10Agrees.l0 k y0 y1 y2 y3) (spec_l10Agrees.l0 (k + 1) y0 y1 y2 y3))
 | 0 => fun _ _ _ _ r h => by simp [spec_l10Agrees.l0] at h
 | k + 1 => by
  have ih0 := spec_l10Agrees.mono_l k
  ·intro y0 y1 y2 y3
   unfold spec_l10Agrees.l0
   repeat' first
   | (with_reducible exact ih0 _ _ _ _)
   | (with_reducible exact spec_l10Residuals.mono _ _ _)
   | (with_reducible exact LeO.refl _)
   | (with_reducible exact LeO.none _)
   | (with_reducible refine LeO.ite ?_ ?_)
   | (with_reducible refine LeO.bind ?_ (fun _ => ?_))
   | exact ih0 _ _ _ _
   | exact spec_l10Residuals.mono _ _ _
   | exact LeO.none _
   | refine LeO.ite ?_ ?_
   | refine LeO.bind ?_ (fun _ => ?_)
theorem spec_l10Agrees.mono : ∀ a0 a1 k, LeO (spec_l10Agrees.f k a0 a1) (spec_l10Agrees.f (k + 1) a0 a1) := by
 intro a0 a1 k
 have ih0 := spec_l10Agrees.mono_l k
 unfold spec_l10Agrees.f
 repeat' first
   | (with_reducible exact ih0 _ _ _ _)
   | (with_reducible exact spec_l10Residuals.mono _ _ _)
   | (with_reducible exact LeO.refl _)
   | (with_reducible exact LeO.none _)
   | (with_reducible refine LeO.ite ?_ ?_)
   | (with_reducible refine LeO.bind ?_ (fun _ => ?_))
   | exact ih0 _ _ _ _
   | exact spec_l10Residuals.mono _ _ _
   | exact LeO.none _
   | refine LeO.ite ?_ ?_
   | refine LeO.bind ?_ (fun _ => ?_)
set_option maxHeartbeats 8000000 in
set_option maxRecDepth 100000 in
theorem spec_l10Agrees.calls (k : Nat) (g : Nat) (s0_0 : Int) (s0_1 : List (S32)) (r1 : Bool) (r2 : Int) (w0 w : World) (hI : IsS26 w0 w g s0_0 s0_1) (hB : Below w0.heap.size w0 w) (h : spec_l10Agrees.f k s0_0 s0_1 = some (r1, r2)) :
  Calls Try.prog 86 #[.pointer (some ⟨g, 0, none⟩)] w fun e w' => e = .returned (.bool r1) ∧ IsS26 w0 w' g r2 s0_1 ∧ Below w0.heap.size w0 w' ∧ KeepBut w w' g none := by
 have HI0 := Aside0.mk hI
 have HK := Aside0.mk (KeepBut.refl w g none)
 have HL := Aside0.mk hB.size
 clear hI
 have HW0 := Aside0.mk hB.size
 have HB := Aside0.mk hB
 clear hB
 have H : ((spec_l10Whole.f s0_0 s0_1).bind fun bt321 => (if bt321.1 = true then ((spec_l10Residuals.f k bt321.2 s0_1).bind fun bt323 => (spec_l10Agrees.l0 k bt323.2.1 0 bt323.2.2 s0_1)) else (some (false, bt321.2)))) = some (r1, r2) := h
 clear h
 replace H := Option.bind_eq_some_iff.mp H
 obtain ⟨⟨t321, t322⟩, A20, H⟩ := H
 replace H : (if t321 = true then ((spec_l10Residuals.f k t322 s0_1).bind fun bt323 => (spec_l10Agrees.l0 k bt323.2.1 0 bt323.2.2 s0_1)) else (some (false, t322))) = some (r1, r2) := H
 have A2 := Aside0.mk A20
 clear A20
 by_cases c3 : t321 = true
 ·subst c3
  have H1 : ((spec_l10Residuals.f k t322 s0_1).bind fun bt323 => (spec_l10Agrees.l0 k bt323.2.1 0 bt323.2.2 s0_1)) = some (r1, r2) := by rw [if_pos rfl] at H; exact H
  clear H
  have H := H1
  clear H1
  replace H := Option.bind_eq_some_iff.mp H
  obtain ⟨⟨t323, t324, t327⟩, A40, H⟩ := H
  replace H : (spec_l10Agrees.l0 k t324 0 t327 s0_1) = some (r1, r2) := H
  have A4 := Aside0.mk A40
  clear A40
  have H' := Aside0.mk H
  clear H
  go_enter Try.func86, Try.ntmps86
  go_wp2_with (first | ((with_reducible refine gate_callee (f := 58) rfl ?_); refine goesL_ (some 7) rfl rfl Try.func58 (by kernel_rfl) rfl #[.pointer (some ⟨g, 0, none⟩)] rfl (by (try simp only [List.map_toArray, List.map_cons, List.map_nil]); first | done | rfl | (simp only [List.length_drop, List.length_take]; rfl)) ?_; (with_reducible refine (spec_l10Whole.calls g s0_0 s0_1 true t322 w0 _ ?side1 ?side2 A2.out).mono ?_); (case side1 => repeat (first | (with_reducible first | exact HI0.out | apply IsS26.alloc | apply IsS26.drewN | apply IsS26.drew | apply IsS26.set_0) | exact HI0.out)); (case side2 => repeat (first | (with_reducible first | exact HB.out | apply below_alloc | apply pw_below_drewN | apply below_drew1 | refine below_set ?_ (IsS26.ge HI0.out)) | exact HB.out)); rintro e w5 ⟨rfl, hi, hb, hk⟩; refine ⟨_, rfl, ?_⟩; have n0_ := Aside0.mk (KeepBut.trans (by repeat (first | (with_reducible first | exact HK.out | apply KeepBut.set_ | apply keep_drewN | apply keep_drew | apply keep_alloc) | exact HK.out)) hk (.inl rfl)); have n1_ := Aside0.mk (hb); have n2_ := Aside0.mk (hi); clear HK; clear HB; clear HI0; have HK := n0_; have HB := n1_; have HI0 := n2_; clear n0_ n1_ n2_; (try clear hb); (try clear hb2); (try clear hk); (try clear hi)) | ((with_reducible refine gate_callee (f := 83) rfl ?_); refine goesL_ (some 11) rfl rfl Try.func83 (by kernel_rfl) rfl #[.pointer (some ⟨g, 0, none⟩)] rfl (by (try simp only [List.map_toArray, List.map_cons, List.map_nil]); first | done | rfl | (simp only [List.length_drop, List.length_take]; rfl)) ?_; (with_reducible refine (spec_l10Residuals.calls k g t322 s0_1 t323 t324 t327 w0 _ ?side1 ?side2 A4.out).mono ?_); (case side1 => repeat (first | (with_reducible first | exact HI0.out | apply IsS26.alloc | apply IsS26.drewN | apply IsS26.drew | apply IsS26.set_0) | exact HI0.out)); (case side2 => repeat (first | (with_reducible first | exact HB.out | apply below_alloc | apply pw_below_drewN | apply below_drew1 | refine below_set ?_ (IsS26.ge HI0.out)) | exact HB.out)); rintro e w6 ⟨v325, rfl, ho0, hi, hb, hk⟩; refine ⟨_, rfl, ?_⟩; have n0_ := Aside0.mk (Kd.R_lower ho0 (keep_size (w := w) (g := g) (row := none) (by repeat (first | (with_reducible first | exact HK.out | apply KeepBut.set_ | apply keep_drewN | apply keep_drew | apply keep_alloc) | exact HK.out)))); have n1_ := Aside0.mk (KeepBut.trans (by repeat (first | (with_reducible first | exact HK.out | apply KeepBut.set_ | apply keep_drewN | apply keep_drew | apply keep_alloc) | exact HK.out)) hk (.inl rfl)); have n2_ := Aside0.mk (hb); have n3_ := Aside0.mk (hi); clear HK; clear HB; clear HI0; have HO326 := n0_; have HK := n1_; have HB := n2_; have HI0 := n3_; clear n0_ n1_ n2_ n3_; (try clear hb); (try clear hb2); (try clear hk); (try clear hi); (try clear ho0)))
  go_loopg [5] k (fun kq v5 w' => ∃ (x5_1 : Int), v5 = .int .i64 x5_1 ∧ Aside0 (spec_l10Agrees.l0 kq t324 x5_1 t327 s0_1 = some (r1, r2)) ∧ Aside0 (kq ≤ k) ∧ Aside0 (Kd.R (Kd.int .i64) 2 w' w.heap.size (fun _ => True) v325 t324) ∧ Aside0 (IsS26 w0 w' g t327 s0_1) ∧ Aside0 (KeepBut w w' g none) ∧ Aside0 (Below w0.heap.size w0 w'))
  case atStart => exact ⟨(0), (by first | rfl | (simp; done) | (simp [*]; done)), H', ⟨Nat.le_refl _⟩, ⟨by (with_reducible repeat (first | apply Kd.R_alloc | apply Kd.R_drewN | apply Kd.R_drew)); exact HO326.out⟩, ⟨by repeat (first | (with_reducible first | exact HI0.out | apply IsS26.alloc | apply IsS26.drewN | apply IsS26.drew | apply IsS26.set_0) | exact HI0.out)⟩, ⟨by repeat (first | (with_reducible first | exact HK.out | apply KeepBut.set_ | apply keep_drewN | apply keep_drew | apply keep_alloc) | exact HK.out)⟩, ⟨by repeat (first | (with_reducible first | exact HB.out | apply below_alloc | apply pw_below_drewN | apply below_drew1 | refine below_set ?_ (IsS26.ge HI0.out)) | exact HB.out)⟩⟩
  case round =>
   clear H'
   try clear p2
   try clear c3
   try clear c5
   obtain ⟨x5_1, rfl, HA, HK1, HO_4, HI0, HK, HB⟩ := hrel
   cases gk with
   | zero => exact absurd HA.out (by simp [spec_l10Agrees.l0])
   | succ k1 =>
    have H := HA.out
    clear HA
    simp only [spec_l10Agrees.l0] at H
    by_cases c7 : x5_1 < (t324.length : Int)
    ·rw [if_pos c7] at H
     have c7b0 : decide (x5_1 < (t324.length : Int)) = true := decide_eq_true c7
     clear c7
     by_cases c8 : 0 ≤ x5_1
     ·rw [if_pos c8] at H
      have c8b0 : decide (0 ≤ x5_1) = true := decide_eq_true c8
      clear c8
      by_cases c9 : (rd t324 x5_1) = 0
      ·rw [if_pos c9] at H
       have c9b0 : ((rd t324 x5_1) == 0) = true := beq_iff_eq.mpr c9
       have c9b1 : ((rd t324 x5_1) != 0) = false := bne_eq_false_iff_eq.mpr c9
       clear c9
       have H' := Aside0.mk H
       clear H
       obtain ⟨Ao10, co10, eo10⟩ := Kd.R_slice HO_4.out
       subst eo10
       have p328 : 0 ≤ (x5_1 : Int) := of_decide_eq_true (by first | (with_reducible assumption) | assumption)
       have q328 : x5_1 < (t324.length : Int) := of_decide_eq_true (by first | (with_reducible assumption) | assumption)
       obtain ⟨ad328, e328, hx328_0⟩ := Kd.at_int (Kd.R_reads' HO_4.out).2.2 x5_1 p328 q328
       cases e328
       replace p328 := eq_true p328
       replace q328 := eq_true q328
       go_wp2
       go_roundg k1
       case measure => have := HK1.out; omega
       case rel => exact ⟨(wrap64 (x5_1 + 1)), (by first | rfl | (simp; done) | (simp [*]; done)), H', ⟨by have := HK1.out; omega⟩, ⟨by (with_reducible repeat (first | apply Kd.R_alloc | apply Kd.R_drewN | apply Kd.R_drew)); exact HO_4.out⟩, ⟨by repeat (first | (with_reducible first | exact HI0.out | apply IsS26.alloc | apply IsS26.drewN | apply IsS26.drew | apply IsS26.set_0) | exact HI0.out)⟩, ⟨by repeat (first | (with_reducible first | exact HK.out | apply KeepBut.set_ | apply keep_drewN | apply keep_drew | apply keep_alloc) | exact HK.out)⟩, ⟨by repeat (first | (with_reducible first | exact HB.out | apply below_alloc | apply pw_below_drewN | apply below_drew1 | refine below_set ?_ (IsS26.ge HI0.out)) | exact HB.out)⟩⟩
      ·rw [if_neg c9] at H
       have c9b0 : ((rd t324 x5_1) == 0) = false := beq_eq_false_iff_ne.mpr c9
       have c9b1 : ((rd t324 x5_1) != 0) = true := bne_iff_ne.mpr c9
       simp only [Option.some.injEq, Prod.mk.injEq] at H
       obtain ⟨rfl, rfl⟩ := H
       obtain ⟨Ao11, co11, eo11⟩ := Kd.R_slice HO_4.out
       subst eo11
       have p328 : 0 ≤ (x5_1 : Int) := of_decide_eq_true (by first | (with_reducible assumption) | assumption)
       have q328 : x5_1 < (t324.length : Int) := of_decide_eq_true (by first | (with_reducible assumption) | assumption)
       obtain ⟨ad328, e328, hx328_0⟩ := Kd.at_int (Kd.R_reads' HO_4.out).2.2 x5_1 p328 q328
       cases e328
       replace p328 := eq_true p328
       replace q328 := eq_true q328
       go_wp2
       go_ret
       exact ⟨by first | rfl | (simp [errW_none, errW_some] <;> rfl) | (simp [*, errW_none, errW_some] <;> rfl), by repeat (first | (with_reducible first | exact HI0.out | apply IsS26.alloc | apply IsS26.drewN | apply IsS26.drew | apply IsS26.set_0) | exact HI0.out), by repeat (first | (with_reducible first | exact HB.out | apply below_alloc | apply pw_below_drewN | apply below_drew1 | refine below_set ?_ (IsS26.ge HI0.out)) | exact HB.out), by repeat (first | (with_reducible first | exact HK.out | apply KeepBut.set_ | apply keep_drewN | apply keep_drew | apply keep_alloc) | exact HK.out)⟩
     ·rw [if_neg c8] at H
      exact absurd H (by simp)
    ·rw [if_neg c7] at H
     have c7b0 : decide (x5_1 < (t324.length : Int)) = false := decide_eq_false c7
     clear c7
     simp only [Option.some.injEq, Prod.mk.injEq] at H
     obtain ⟨rfl, rfl⟩ := H
     obtain ⟨Ao12, co12, eo12⟩ := Kd.R_slice HO_4.out
     subst eo12
     go_wp2
     go_ret
     exact ⟨by first | rfl | (simp [errW_none, errW_some] <;> rfl) | (simp [*, errW_none, errW_some] <;> rfl), by repeat (first | (with_reducible first | exact HI0.out | apply IsS26.alloc | apply IsS26.drewN | apply IsS26.drew | apply IsS26.set_0) | exact HI0.out), by repeat (first | (with_reducible first | exact HB.out | apply below_alloc | apply pw_below_drewN | apply below_drew1 | refine below_set ?_ (IsS26.ge HI0.out)) | exact HB.out), by repeat (first | (with_reducible first | exact HK.out | apply KeepBut.set_ | apply keep_drewN | apply keep_drew | apply keep_alloc) | exact HK.out)⟩
 ·replace c3 := Bool.eq_false_iff.mpr c3
  subst c3
  have H1 : (some (false, t322)) = some (r1, r2) := by rw [if_neg (show ¬ (false = true) by decide)] at H; exact H
  clear H
  have H := H1
  clear H1
  simp only [Option.some.injEq, Prod.mk.injEq] at H
  obtain ⟨rfl, rfl⟩ := H
  go_enter Try.func86, Try.ntmps86
  go_wp2_with (first | ((with_reducible refine gate_callee (f := 58) rfl ?_); refine goesL_ (some 7) rfl rfl Try.func58 (by kernel_rfl) rfl #[.pointer (some ⟨g, 0, none⟩)] rfl (by (try simp only [List.map_toArray, List.map_cons, List.map_nil]); first | done | rfl | (simp only [List.length_drop, List.length_take]; rfl)) ?_; (with_reducible refine (spec_l10Whole.calls g s0_0 s0_1 false t322 w0 _ ?side1 ?side2 A2.out).mono ?_); (case side1 => repeat (first | (with_reducible first | exact HI0.out | apply IsS26.alloc | apply IsS26.drewN | apply IsS26.drew | apply IsS26.set_0) | exact HI0.out)); (case side2 => repeat (first | (with_reducible first | exact HB.out | apply below_alloc | apply pw_below_drewN | apply below_drew1 | refine below_set ?_ (IsS26.ge HI0.out)) | exact HB.out)); rintro e w13 ⟨rfl, hi, hb, hk⟩; refine ⟨_, rfl, ?_⟩; have n0_ := Aside0.mk (KeepBut.trans (by repeat (first | (with_reducible first | exact HK.out | apply KeepBut.set_ | apply keep_drewN | apply keep_drew | apply keep_alloc) | exact HK.out)) hk (.inl rfl)); have n1_ := Aside0.mk (hb); have n2_ := Aside0.mk (hi); clear HK; clear HB; clear HI0; have HK := n0_; have HB := n1_; have HI0 := n2_; clear n0_ n1_ n2_; (try clear hb); (try clear hb2); (try clear hk); (try clear hi)))
  go_ret
  exact ⟨by first | rfl | (simp [errW_none, errW_some] <;> rfl) | (simp [*, errW_none, errW_some] <;> rfl), by repeat (first | (with_reducible first | exact HI0.out | apply IsS26.alloc | apply IsS26.drewN | apply IsS26.drew | apply IsS26.set_0) | exact HI0.out), by repeat (first | (with_reducible first | exact HB.out | apply below_alloc | apply pw_below_drewN | apply below_drew1 | refine below_set ?_ (IsS26.ge HI0.out)) | exact HB.out), by repeat (first | (with_reducible first | exact HK.out | apply KeepBut.set_ | apply keep_drewN | apply keep_drew | apply keep_alloc) | exact HK.out)⟩
end Go.Proofs.Ytkafbmanmffliaa.Q

/- What the reference's l10Agrees returns. -/
namespace Go.Proofs.Ytkafbmanmffliaa.PuAg
open Go Go.RowKit YtkafbmanmffliaaW.PrintWords YtkafbmanmffliaaW.PrintLast YtkafbmanmffliaaW.PrintMore Q Bg Ra Kf Lo Lo2 Ex PuS PuEx Ix
theorem rd_low {n : Nat} {l : List S32} (hc : Gm.connB ((n : Int) + 1) l = true) (i : Nat) (hi : i < l.length) : rd (resL ((n : Int) + 1) l) i = 0 ↔ res n l l[i] = 0 := by
 have hL : resL ((n : Int) + 1) l = lowL (dn n l) (l.map (resN n l)) := by unfold resL; rw [if_pos hc, wp_eq]
 have h1 := dn_pos hc
 have h2 := gcd_dvd (l.map (resN n l)) (dn n l)
 have h3 : 0 < gcdAll (dn n l) (l.map (resN n l)) := Nat.pos_of_dvd_of_pos h2.1 h1.1
 have h4 : (gcdAll (dn n l) (l.map (resN n l)) : Int) ∣ resN n l l[i] := Int.natAbs_dvd_natAbs.1 (by rw [Int.natAbs_natCast]; exact h2.2 _ (List.mem_map.2 ⟨l[i], List.getElem_mem hi, rfl⟩))
 have h5 : rd (resL ((n : Int) + 1) l) i = resN n l l[i] / (gcdAll (dn n l) (l.map (resN n l)) : Int) := by
  rw [hL]
  simp [rd, lowL, List.getD_eq_getElem?_getD, hi]
 rw [h5, res_mk hc]
 obtain ⟨q, hq⟩ := h4
 rw [hq, Int.mul_ediv_cancel_left _ (by omega), Rat.mkRat_eq_zero (by omega)]
 constructor
 ·intro e; rw [e, Int.mul_zero]
 ·intro e
  rcases Int.mul_eq_zero.1 e with h | h
  ·omega
  ·exact h
theorem agr_l0 {n : Nat} {l : List S32} (hc : Gm.connB ((n : Int) + 1) l = true) : ∀ (d k i : Nat), i + d = l.length → d < k →
  spec_l10Agrees.l0 k (resL ((n : Int) + 1) l) i ((n : Int) + 1) l = some ((l.drop i).all (fun s => decide (res n l s = 0)), (n : Int) + 1) := by
 have hn := conn_n hc
 have hLl : (resL ((n : Int) + 1) l).length = l.length := by unfold resL; rw [if_pos hc, wp_eq]; simp [lowL]
 intro d
 induction d with
 | zero =>
  intro k i hi hk
  obtain ⟨k, rfl⟩ : ∃ m, k = m + 1 := ⟨k - 1, by omega⟩
  simp only [spec_l10Agrees.l0]
  rw [if_neg (by omega), List.drop_eq_nil_of_le (by omega)]
  rfl
 | succ d ih =>
  intro k i hi hk
  obtain ⟨k, rfl⟩ : ∃ m, k = m + 1 := ⟨k - 1, by omega⟩
  have hlt : i < l.length := by omega
  have h0 := ih k (i + 1) (by omega) (by omega)
  simp only [spec_l10Agrees.l0]
  rw [if_pos (by omega), if_pos (by omega), List.drop_eq_getElem_cons hlt, List.all_cons]
  by_cases hz : res n l l[i] = 0
  ·rw [if_pos ((rd_low hc i hlt).2 hz), wrap_id (by omega) (by omega)]
   simp only [hz, decide_true, Bool.true_and]
   exact_mod_cast h0
  ·rw [if_neg (fun e => hz ((rd_low hc i hlt).1 e))]
   simp [hz]
def agrP (p : Int) (l : List S32) : Bool := Gm.connB p l && exB (wp p) l
theorem specAgr (p : Int) (l : List S32) (k : Nat) (hk : KB + 9 ≤ k) : spec_l10Agrees.f k p l = some (agrP p l, p) := by
 simp only [spec_l10Agrees.f, PuEx.whole_eq, Option.bind_some, spec_l10Residuals.f, spec_l10Adjusted.f, agrP]
 by_cases h : Gm.connB p l = true
 ·obtain ⟨n, rfl⟩ := conn_nat h
  have hn := conn_n h
  obtain ⟨z, hz, rfl⟩ := res_l0 h l.length k 0 (by omega) (by omega)
  simp only [h, if_true, Option.bind_some, wp_eq]
  simp only [List.take_zero, List.map_nil] at hz
  rw [show ((0 : Nat) : Int) = 0 from rfl] at hz
  rw [hz]
  have h2 := agr_l0 h l.length k 0 (by omega) (by omega)
  rw [show ((0 : Nat) : Int) = 0 from rfl] at h2
  simp only [Option.bind_some, h2, List.drop_zero, Bool.true_and]
  rfl
 ·have h' : Gm.connB p l = false := by simpa using h
  simp [h']
end Go.Proofs.Ytkafbmanmffliaa.PuAg

/- The reference's BlunderIn: what it returns. -/
namespace Go.Proofs.Ytkafbmanmffliaa.Bl2
open Go Go.RowKit YtkafbmanmffliaaW.PrintWords YtkafbmanmffliaaW.PrintLast YtkafbmanmffliaaW.PrintMore Q Gd Gs Kf Ix Ex Bl1 PuEx PuAg
set_option maxHeartbeats 4000000 in
set_option maxRecDepth 100000 in
theorem specBlunder_any (p : Int) (l : List S32) (A : Option Addr) (c : Nat) (w : World) (hr : Kd.C k32 w A l.length l) (hl : l.length ≤ 1048576) :
  Calls Try.prog 48 #[.agg #[.int .i64 p, .slice A l.length c]] w (EndB w (blu p l)) := by
 unfold EndB
 have hu26 := Try.underlying26
 obtain ⟨K, hK⟩ : ∃ K, KB + 9 ≤ K := ⟨_, Nat.le_refl _⟩
 have HI := Aside0.mk (show IsS26 w (w.alloc (SX p A l.length c)) w.heap.size p l from ⟨A, c, heap_alloc_new w _, Nat.le_refl _, hr⟩)
 have HB := Aside0.mk (below_alloc (Below.refl w.heap.size w) (SX p A l.length c))
 have HWH := Aside0.mk (PuEx.whole_eq p l)
 have HAG := Aside0.mk (fun m : List S32 => specAgr p m K hK)
 have hcw := spec_l10Whole.calls w.heap.size p l (Gm.connB p l) p w (w.alloc (SX p A l.length c)) HI.out HB.out HWH.out
 clear hr hK
 by_cases h : Gm.connB p l = true
 ·obtain ⟨n, rfl⟩ := conn_nat h
  have hl8 := (conn_n h).2.2
  have HP := Aside0.mk (show agrP ((n : Int) + 1) l = exB n l by unfold agrP; rw [h, wp_eq, Bool.true_and])
  have HPE := Aside0.mk (show ∀ m : List S32, agrP ((n : Int) + 1) m = agr n m from fun m => by unfold agrP agr; rw [wp_eq])
  by_cases hq : exB n l = true
  ·have HU := Aside0.mk (show blu ((n : Int) + 1) l = (0, false) by unfold blu; rw [wp_eq, if_neg (by rw [hq]; simp)])
   have HA1 := Aside0.mk (show spec_l10Agrees.f K ((n : Int) + 1) l = some (true, (n : Int) + 1) by rw [HAG.out, HP.out, hq])
   rw [h] at hcw
   clear h hq
   go_enter Try.func48, Try.ntmps48
   go_wp2_with (fail)
   refine hcw.mono ?_
   rintro e w1 ⟨rfl, hI, hb, -⟩
   have hz := spec_l10Agrees.calls K w.heap.size _ l _ _ w w1 hI hb HA1.out
   clear hcw hI hb
   go_wp2_with (fail)
   refine hz.mono ?_
   rintro e w2 ⟨rfl, -, hb, -⟩
   have HB2 := Aside0.mk hb
   clear hz hb
   go_wp2_with (fail)
   go_ret2
   rw [HU.out]
   exact ⟨rfl, HB2.out⟩
  ·have hq' : exB n l = false := by simpa using hq
   have HU := Aside0.mk (show blu ((n : Int) + 1) l = bluF n l l.length 0 by unfold blu; rw [wp_eq, if_pos ⟨h, hq'⟩])
   have HA1 := Aside0.mk (show spec_l10Agrees.f K ((n : Int) + 1) l = some (false, (n : Int) + 1) by rw [HAG.out, HP.out, hq'])
   rw [h] at hcw
   clear h hq hq'
   go_enter Try.func48, Try.ntmps48
   go_wp2_with (fail)
   refine hcw.mono ?_
   rintro e w1 ⟨rfl, hI, hb, -⟩
   have hz := spec_l10Agrees.calls K w.heap.size _ l _ _ w w1 hI hb HA1.out
   clear hcw hI hb
   go_wp2_with (fail)
   refine hz.mono ?_
   rintro e w2 ⟨rfl, hI, hb, -⟩
   have t0 := Aside0.mk hI
   have t1 := Aside0.mk hb
   clear hz hI hb HI HB
   go_wp2_with (fail)
   go_loopw [4] (fun v4 wz => ∃ i : Nat, v4 = .int .i64 (i : Int) ∧ i ≤ l.length ∧ Aside0 (bluF n l l.length 0 = bluF n l (l.length - i) i) ∧ Aside0 (IsS26 w wz w.heap.size ((n : Int) + 1) l) ∧ Aside0 (Below w.heap.size w wz)) (fun v _ => l.length - (intOf v).toNat)
   case atStart => exact ⟨0, rfl, by omega, ⟨rfl⟩, t0, t1⟩
   case round =>
    clear t0 t1
    obtain ⟨i, rfl, hi, HF, HI, HB⟩ := hrel
    obtain ⟨A1, c1, hb1, hg1, hr1⟩ := HI.out
    have e1 : wr.cell? ⟨w.heap.size, 1, none⟩ = some (.slice A1 l.length c1) := (blk_cell hb1 1).trans rfl
    by_cases hlt : i < l.length
    ·have p1 : decide ((i : Int) < (l.length : Int)) = true := decide_eq_true (by omega)
     have HF2 := Aside0.mk (show bluF n l l.length 0 = if agr n (l.eraseIdx i) = true then ((i : Int), true) else bluF n l (l.length - (i + 1)) (i + 1) by rw [HF.out, show l.length - i = (l.length - (i + 1)) + 1 by omega]; rfl)
     have hw := Hf.l10Drop_any w.heap.size ((n : Int) + 1) A1 c1 l i hlt hl wr hb1 (Kd.C_below hr1 HB.out)
     clear HF hb1 hg1 hr1
     go_wp2_with (fail)
     refine hw.mono ?_
     rintro e w2 ⟨v, rfl, h3, hb⟩
     obtain ⟨Av, cv, rfl⟩ := Kd.R_slice h3
     have HI2 := Aside0.mk (IsS26.below HI.out hb)
     have HB2 := Aside0.mk (below_step HB.out hb)
     have hba := below_alloc (Below.refl w2.heap.size w2) (.cells #[.int .i64 ((n : Int) + 1), .slice Av (l.eraseIdx i).length cv] 26)
     have hI3 : IsS26 w2 (w2.alloc (.cells #[.int .i64 ((n : Int) + 1), .slice Av (l.eraseIdx i).length cv] 26)) w2.heap.size ((n : Int) + 1) (l.eraseIdx i) := ⟨Av, cv, heap_alloc_new w2 _, Nat.le_refl _, (Kd.R_reads' h3).2.2⟩
     have hz := spec_l10Agrees.calls K w2.heap.size _ (l.eraseIdx i) _ _ w2 _ hI3 hba (HAG.out (l.eraseIdx i))
     rw [HPE.out] at hz
     clear hw h3 hb hba hI3 e1 HI HB
     by_cases hag : agr n (l.eraseIdx i) = true
     ·have HG := Aside0.mk (show bluF n l l.length 0 = ((i : Int), true) by rw [HF2.out, if_pos hag])
      rw [hag] at hz
      clear hag
      go_wp2_with (fail)
      refine hz.mono ?_
      rintro e w3 ⟨rfl, -, hb, -⟩
      have HB3 := Aside0.mk (below_step HB2.out hb)
      clear hz hb
      go_wp2_with (fail)
      go_ret2
      rw [HU.out, HG.out]
      exact ⟨rfl, HB3.out⟩
     ·have hag' : agr n (l.eraseIdx i) = false := by simpa using hag
      have HG := Aside0.mk (show bluF n l l.length 0 = bluF n l (l.length - (i + 1)) (i + 1) by rw [HF2.out, if_neg hag])
      rw [hag'] at hz
      clear hag hag'
      go_wp2_with (fail)
      refine hz.mono ?_
      rintro e w3 ⟨rfl, -, hb, -⟩
      have HB3 := Aside0.mk (below_step HB2.out hb)
      have HI3 := Aside0.mk (IsS26.below HI2.out hb)
      clear hz hb
      go_wp2_with (fail)
      go_roundw
      case rel => exact ⟨i + 1, by go_num, by omega, HG, HI3, HB3⟩
      case measure => simp [intOf]; omega
    ·obtain rfl : l.length = i := by omega
     have p1 : decide ((l.length : Int) < (l.length : Int)) = false := decide_eq_false (by omega)
     go_wp2_with (fail)
     go_ret2
     rw [HU.out, HF.out, Nat.sub_self]
     exact ⟨rfl, HB.out⟩
 ·have h' : Gm.connB p l = false := by simpa using h
  have HU := Aside0.mk (show blu p l = (0, false) by unfold blu; rw [if_neg (fun hh => h hh.1)])
  rw [h'] at hcw
  clear h h'
  go_enter Try.func48, Try.ntmps48
  go_wp2_with (fail)
  refine hcw.mono ?_
  rintro e w1 ⟨rfl, -, hb, -⟩
  have HB1 := Aside0.mk hb
  clear hcw hb
  go_wp2_with (fail)
  go_ret2
  rw [HU.out]
  exact ⟨rfl, HB1.out⟩
end Go.Proofs.Ytkafbmanmffliaa.Bl2

/- The law on the program's BlunderIn, walked where both sides hand back the same. -/
namespace Go.Proofs.Ytkafbmanmffliaa.LwBI
open Go Go.RowKit YtkafbmanmffliaaW.PrintWords YtkafbmanmffliaaW.PrintLast YtkafbmanmffliaaW.PrintMore Q Hc PuS PuEx
def Hands (f : FuncId) (p : Int) (m : List S32) (d1 : Int) (b : Bool) : Prop :=
 ∀ (W : World) (A : Option Addr) (c : Nat), Kd.C k32 W A m.length m → m.length ≤ c → Calls Try.prog f #[.agg #[.int .i64 p, .slice A m.length c]] W fun e w' => e = .returned (.tuple #[.int .i64 d1, .bool b]) ∧ Below W.heap.size W w'
set_option maxHeartbeats 4000000 in
set_option maxRecDepth 100000 in
theorem walk (p : Int) (l : List S121) (A : Option Addr) (c : Nat) (m : List S32) (d1 : Int) (b : Bool) (hl : l.length ≤ 1048576) (hm : m = l.map conv)
  (h1 : Hands 48 p m d1 b) (h2 : Hands 49 p m d1 b) (w : World) (hr : Kd.C k121 w A l.length l) (hc : l.length ≤ c) :
  Calls Try.prog 12 #[.agg #[.int .i64 p, .slice A l.length c]] w fun e w' => e = .returned (.bool true) ∧ Below w.heap.size w w' := by
 have hu42 := Try.underlying42
 have hu26 := Try.underlying26
 have hml : m.length ≤ 1048576 := by rw [hm]; simpa using hl
 obtain ⟨K, hK⟩ : ∃ K, l.length + m.length + 5 ≤ K := ⟨_, Nat.le_refl _⟩
 have HSZ := Aside0.mk (szSurvey_eq p l (by omega))
 rw [if_pos hl] at HSZ
 have HT := Aside0.mk (show laws_toSurvey.f K p l = some (p, m) by rw [hm]; exact toSurvey_eq p l hl K (by omega))
 have HEY := Aside0.mk (eqSurvey_eq p m hml K (by omega))
 obtain ⟨t, ht⟩ : ∃ t : Int, t = 1048576 - (l.length : Int) := ⟨_, rfl⟩
 rw [← ht] at HSZ
 have hbx := below_alloc (Below.refl w.heap.size w) (.cells #[.int .i64 p, .slice A l.length c] 42)
 have HR := Aside0.mk hr
 have HC := Aside0.mk hc
 have H1 := Aside0.mk h1
 have H2 := Aside0.mk h2
 have HBX := Aside0.mk hbx
 have hb0 : (b != b) = false := bne_self_eq_false b
 have hdd1 : (d1 != d1) = false := bne_self_eq_false d1
 have c1 : decide (t < 0) = false := decide_eq_false (by omega)
 clear hr hc h1 h2 hbx hm hml hl ht hK
 go_enter Try.func12, Try.ntmps12
 go_wp2_with (fail)
 refine (laws_szSurvey.calls p A c l 1048576 t _ (Kd.C_below HR.out HBX.out) HC.out HSZ.out).mono ?_
 rintro e w1 ⟨rfl, hb⟩
 have HB := Aside0.mk (below_step HBX.out hb)
 have K1 := Aside0.mk (blk_below (blk_new w (.cells #[.int .i64 p, .slice A l.length c] 42)) hb)
 clear hb HBX
 have e0 : w1.cell? ⟨w.heap.size, 0, none⟩ = some (.int .i64 p) := (blk_cell K1.out 0).trans rfl
 have e1 : w1.cell? ⟨w.heap.size, 1, none⟩ = some (.slice A l.length c) := (blk_cell K1.out 1).trans rfl
 go_wp2_with (fail)
 refine (laws_toSurvey.calls K p A c l p m _ (Kd.C_below HR.out HB.out) HC.out HT.out).mono ?_
 rintro e w2 ⟨s2, rfl, hS, hb⟩
 clear e0 e1
 obtain ⟨A2, c2, rfl⟩ := Kd.R_slice hS
 have HB2 := Aside0.mk (below_step HB.out hb)
 have K2 := Aside0.mk (blk_below K1.out hb)
 have hz := H1.out w2 A2 c2 (Kd.R_reads' hS).2.2 (Kd.R_reads' hS).2.1
 clear hS hb HB K1
 go_wp2_with (fail)
 refine hz.mono ?_
 rintro e w3 ⟨rfl, hb⟩
 have HB3 := Aside0.mk (below_step HB2.out hb)
 have K3 := Aside0.mk (blk_below K2.out hb)
 clear hb hz HB2 K2
 have e0 : w3.cell? ⟨w.heap.size, 0, none⟩ = some (.int .i64 p) := (blk_cell K3.out 0).trans rfl
 have e1 : w3.cell? ⟨w.heap.size, 1, none⟩ = some (.slice A l.length c) := (blk_cell K3.out 1).trans rfl
 go_wp2_with (fail)
 refine (laws_toSurvey.calls K p A c l p m _ (Kd.C_below HR.out HB3.out) HC.out HT.out).mono ?_
 rintro e w4 ⟨s4, rfl, hS, hb⟩
 clear e0 e1
 obtain ⟨A4, c4', rfl⟩ := Kd.R_slice hS
 have hba := below_alloc (Below.refl w4.heap.size w4) (.cells #[.int .i64 p, .slice A4 m.length c4'] 26)
 have X4 := Aside0.mk (heap_alloc_new w4 (.cells #[.int .i64 p, .slice A4 m.length c4'] 26))
 have R4 := Aside0.mk (Kd.C_below (Kd.R_reads' hS).2.2 hba)
 have C4 := Aside0.mk (Kd.R_reads' hS).2.1
 have HB4 := Aside0.mk (below_step (below_step HB3.out hb) hba)
 have K4 := Aside0.mk (blk_below (blk_below K3.out hb) hba)
 have hz := H2.out (w4.alloc (.cells #[.int .i64 p, .slice A4 m.length c4'] 26)) A4 c4' R4.out C4.out
 clear hS hb hba HB3 K3
 go_wp2_with (fail)
 refine hz.mono ?_
 rintro e w5 ⟨rfl, hb⟩
 have HB5 := Aside0.mk (below_step HB4.out hb)
 have K5 := Aside0.mk (blk_below K4.out hb)
 have X5 := Aside0.mk (blk_below X4.out hb)
 have R5 := Aside0.mk (Kd.C_below R4.out hb)
 clear hb hz HB4 K4 X4 R4
 have e0 : w5.cell? ⟨w.heap.size, 0, none⟩ = some (.int .i64 p) := (blk_cell K5.out 0).trans rfl
 have e1 : w5.cell? ⟨w.heap.size, 1, none⟩ = some (.slice A l.length c) := (blk_cell K5.out 1).trans rfl
 have e2 : w5.cell? ⟨w4.heap.size, 0, none⟩ = some (.int .i64 p) := (blk_cell X5.out 0).trans rfl
 have e3 : w5.cell? ⟨w4.heap.size, 1, none⟩ = some (.slice A4 m.length c4') := (blk_cell X5.out 1).trans rfl
 go_wp2_with (fail)
 refine start_ (n:=5) (S := fun w' => w'.cell? ⟨w.heap.size, 0, none⟩ = some (.int .i64 p) ∧ w'.cell? ⟨w.heap.size, 1, none⟩ = some (.slice A l.length c) ∧ w'.cell? ⟨w4.heap.size, 0, none⟩ = some (.int .i64 p) ∧ w'.cell? ⟨w4.heap.size, 1, none⟩ = some (.slice A4 m.length c4')) (ds:=[]) #[false,false,false,false,false] (by kernel_rfl) rfl rfl ⟨e0, e1, e2, e3⟩ (fun hHeld => ?_)
 refine take_ (i:=0) (N:=some 35) (v:=?_) (a':=?_) #[true,false,false,false,false] rfl rfl (by kernel_rfl) (fun _ _ _ h => h) (Or.inl ⟨by rfl, ?_⟩) hHeld ?_ ?_
 rotate_left
 ·rintro w' ⟨s0, s1, s2, s3⟩
  go_simp
  with_reducible rfl
 rotate_left
 ·go_simp
  rfl
 refine take_ (i:=1) (N:=some 36) (v:=?_) (a':=?_) #[true,true,false,false,false] rfl rfl (by kernel_rfl) (fun _ _ _ h => h) (Or.inl ⟨by rfl, ?_⟩) hHeld ?_ ?_
 rotate_left
 ·rintro w' ⟨s0, s1, s2, s3⟩
  go_simp
  with_reducible rfl
 rotate_left
 ·go_simp
  rfl
 refine one_ (i:=2) (N:=some 37) #[true,true,true,false,false] rfl rfl (by kernel_rfl) (by decide) (fun K_ hK => ?_)
 refine goes_ Try.func30 (by kernel_rfl) rfl #[.agg #[.int .i64 p, .slice A l.length c]] (by rfl) rfl rfl (by (try simp only [List.map_toArray, List.map_cons, List.map_nil]); first | done | rfl) ?_
 refine (laws_toSurvey.calls K p A c l p m w5.drew (Kd.C_below HR.out (below_drew HB5.out)) HC.out HT.out).mono ?_
 rintro e w7 ⟨s7, rfl, hS, hb⟩
 obtain ⟨A7, c7, rfl⟩ := Kd.R_slice hS
 have HBd := Aside0.mk (below_step (below_drew (Below.refl w5.heap.size w5)) hb)
 have D7 := Aside0.mk (Kd.R_reads' hS)
 clear hS hb
 refine ⟨_, rfl, ?_⟩
 refine hK.out _ _ (⟨(HBd.out.cell (World.block_lt_of_cell? _ _ e0)).trans e0, (HBd.out.cell (World.block_lt_of_cell? _ _ e1)).trans e1, (HBd.out.cell (World.block_lt_of_cell? _ _ e2)).trans e2, (HBd.out.cell (World.block_lt_of_cell? _ _ e3)).trans e3⟩) (fun hHeld => ?_)
 clear hK K_
 refine norm_ (a':=?_) ?_ ?_
 rotate_left
 ·show Act.put _ (some 37) _ = _
  go_simp
  rfl
 refine one_ (i:=3) (N:=some 38) #[true,true,true,true,false] rfl rfl (by kernel_rfl) (by decide) (fun K_ hK => ?_)
 refine goes_ Try.func31 (by kernel_rfl) rfl #[.agg #[.int .i64 p, .slice A4 m.length c4'], .agg #[.int .i64 p, .slice A7 m.length c7]] (by rfl) rfl rfl (by (try simp only [List.map_toArray, List.map_cons, List.map_nil]); first | done | rfl) ?_
 refine (laws_eqSurvey.calls K p A4 c4' m p A7 c7 m true w7 (Kd.C_below R5.out HBd.out) C4.out D7.out.2.2 D7.out.2.1 HEY.out).mono ?_
 rintro e w8 ⟨rfl, hb⟩
 have HB8 := Aside0.mk (below_step HB5.out (below_step HBd.out hb))
 have HB8' := Aside0.mk (below_step HBd.out hb)
 clear hb
 refine ⟨_, rfl, ?_⟩
 refine hK.out _ _ (⟨(HB8'.out.cell (World.block_lt_of_cell? _ _ e0)).trans e0, (HB8'.out.cell (World.block_lt_of_cell? _ _ e1)).trans e1, (HB8'.out.cell (World.block_lt_of_cell? _ _ e2)).trans e2, (HB8'.out.cell (World.block_lt_of_cell? _ _ e3)).trans e3⟩) (fun hHeld => ?_)
 clear hK K_
 refine norm_ (a':=?_) ?_ ?_
 rotate_left
 ·show Act.put _ (some 38) _ = _
  go_simp
  rfl
 refine pure_ (i:=4) (N:=some 39) (v:=?_) (a':=?_) #[true,true,true,true,true] rfl rfl (by kernel_rfl) (fun _ _ _ h => h) (Or.inl ⟨by rfl, ?_⟩) ?_ ?_
 rotate_left
 ·intro w'
  go_simp
  with_reducible rfl
 rotate_left
 ·go_simp
  rfl
 refine done_ (by kernel_rfl) ?_
 go_wp2_with (fail)
 go_ret
 exact ⟨rfl, HB8.out⟩
set_option maxHeartbeats 4000000 in
theorem law_any (p : Int) (l : List S121) (A : Option Addr) (c : Nat) (w : World) (hr : Kd.C k121 w A l.length l) (hc : l.length ≤ c) (h : l.length ≤ 9223372036854775807) :
  Calls Try.prog 12 #[.agg #[.int .i64 p, .slice A l.length c]] w fun e w' => e = .returned (.bool true) ∧ Below w.heap.size w w' := by
 by_cases hl : l.length ≤ 1048576
 ·have hm : (l.map conv).length ≤ 1048576 := by simpa using hl
  obtain ⟨K, hK⟩ : ∃ K, KB + 9 ≤ K := ⟨_, Nat.le_refl _⟩
  exact walk p l A c (l.map conv) (Bl1.blu p (l.map conv)).1 (Bl1.blu p (l.map conv)).2 hl rfl
   (fun W A c hr hc => Bl2.specBlunder_any p (l.map conv) A c W hr hm)
   (fun W A c hr hc => Bl1.blunder_any p (l.map conv) A c W hr hc hm) w hr hc
 ·have hu42 := Try.underlying42
  have hsz := szSurvey_eq p l h
  rw [if_neg hl] at hsz
  have hbx := below_alloc (Below.refl w.heap.size w) (.cells #[.int .i64 p, .slice A l.length c] 42)
  have hz := laws_szSurvey.calls p A c l 1048576 (-1) _ (Kd.C_below hr hbx) hc hsz
  have HB := Aside0.mk hbx
  clear hr hc hbx hsz h hl
  go_enter Try.func12, Try.ntmps12
  go_wp2_with (fail)
  refine hz.mono ?_
  rintro e w1 ⟨rfl, hb⟩
  have HB1 := Aside0.mk (below_step HB.out hb)
  clear hb hz
  go_wp2_with (fail)
  go_ret
  exact ⟨rfl, HB1.out⟩
end Go.Proofs.Ytkafbmanmffliaa.LwBI

