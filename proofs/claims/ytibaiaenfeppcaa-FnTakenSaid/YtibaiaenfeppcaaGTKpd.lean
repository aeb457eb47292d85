/- Parts of the proof that the law of this seat holds: LTK. -/
import Derived.Test.YtibaiaenfeppcaaGTKpb
import Derived.Test.YtibaiaenfeppcaaGTKpc
set_option linter.unusedVariables false
set_option linter.unusedSimpArgs false
/- The law on taking lots, walked. -/
namespace Go.Proofs.Ytibaiaenfeppcaa.LTK
open Go Go.RowKit Go.Proofs.YtibaiaenfeppcaaW.PrintWords Go.Proofs.YtibaiaenfeppcaaW.PrintLast Go.Proofs.YtibaiaenfeppcaaW.PrintMore Go.Proofs.Ytibaiaenfeppcaa.Q Go.Proofs.Ytibaiaenfeppcaa.PuY Go.Proofs.Ytibaiaenfeppcaa.PuTO Go.Proofs.Ytibaiaenfeppcaa.PuTN Go.Proofs.Ytibaiaenfeppcaa.PuRM Go.Proofs.Ytibaiaenfeppcaa.PuTK Go.Proofs.Ytibaiaenfeppcaa.PuTL Go.Proofs.Ytibaiaenfeppcaa.Lw Go.Proofs.Ytibaiaenfeppcaa.Ow Go.Proofs.Ytibaiaenfeppcaa.Yo Go.Proofs.Ytibaiaenfeppcaa.Yk Go.Proofs.Ytibaiaenfeppcaa.Yq Go.Proofs.Ytibaiaenfeppcaa.Yr
set_option linter.unusedVariables false
set_option linter.unusedSimpArgs false
/-- What the law has found as gone behind the first stacks. -/
def goneAt (i0 i : Nat) (gg : Int) : Int := if i0 < i then gg else -1
theorem goneAt_ne {i0 i : Nat} (gg : Int) (h : i ≠ i0) : goneAt i0 (i + 1) gg = goneAt i0 i gg := by
  unfold goneAt
  by_cases c : i0 < i
  · rw [if_pos c, if_pos (by omega)]
  · rw [if_neg c, if_neg (by omega)]
theorem goneAt_eq (i : Nat) (gg : Int) : goneAt i (i + 1) gg = gg := by unfold goneAt; rw [if_pos (by omega)]
set_option maxRecDepth 100000 in
set_option maxHeartbeats 4000000 in
theorem walk (A : Option Addr) (c : Nat) (l : List Int) (A2 : Option Addr) (c2 : Nat) (l2 : List Int) (h : Int) (xs : List (List Int)) (hlong : laws_b10Long.f l l2 = some false) (hd : spec_B10Yard.f 2000000 l = some (h, xs)) (hv : Yv.valid h xs = true) (w : World) (hr : Kd.C (Kd.int .u8) w A l.length l) (hc : l.length ≤ c) (hr2 : Kd.C (Kd.int .u8) w A2 l2.length l2) (hc2 : l2.length ≤ c2) :
    Calls Try.prog 5 #[.slice A l.length c, .slice A2 l2.length c2] w fun e w' => e = .returned (.bool true) ∧ Below w.heap.size w w' := by
  have hu := Try.underlying27
  obtain ⟨p1, p2, p3, p4, p5, p6, p7, p8⟩ := valid_parts hv
  have HSZ := Aside0.mk (show xs.length ≤ 1000 ∧ ∀ r ∈ xs, r.length ≤ 1000 from ⟨by omega, fun r hr => by have := p5 r hr; omega⟩)
  have HR := Aside0.mk hr
  have HC := Aside0.mk hc
  have HR2 := Aside0.mk hr2
  have HC2 := Aside0.mk hc2
  have HLG := Aside0.mk hlong
  have HD := Aside0.mk hd
  have HV := Aside0.mk hv
  clear hr hc hr2 hc2 hlong hd hv p1 p2 p3 p4 p5 p6 p7 p8
  go_enter Try.func5, Try.ntmps5
  go_wp2_with (fail)
  refine (laws_b10Long.calls A c l A2 c2 l2 false _ HR.out HC.out HR2.out HC2.out HLG.out).mono ?_
  rintro e w1 ⟨rfl, hd⟩
  have HB := Aside0.mk (Drawn0.below hd)
  clear hd
  go_wp2_with (fail)
  refine (spec_B10Yard.calls 2000000 A c l h xs w1 (Kd.C_below HR.out HB.out) HC.out HD.out).mono ?_
  rintro e w2 ⟨v, rfl, hS, hb⟩
  have hz1 := HB.out.size
  have HB := Aside0.mk (below_step HB.out hb)
  obtain ⟨AY, cY, rfl⟩ := Kd.S_slice hS
  have hz2 := hb.size
  have HZ := Aside0.mk (show w.heap.size ≤ w2.heap.size by omega)
  have Y := Aside0.mk (Kd.S_mono (Kd.S_alloc (Kd.S_elderB (sW_of_sR (Kd.S_lower hS hz1)) w2.heap.size (Nat.le_refl _)) (.cells #[.int .i64 h, .slice AY xs.length cY] 27)) (fun k hk => (hk.2 : k ≠ w2.heap.size)))
  have KY := Aside0.mk (blk_new w2 (.cells #[.int .i64 h, .slice AY xs.length cY] 27))
  have HB := Aside0.mk (below_alloc HB.out (.cells #[.int .i64 h, .slice AY xs.length cY] 27))
  clear hS hb hz1 hz2
  have y0 : (w2.alloc (.cells #[.int .i64 h, .slice AY xs.length cY] 27)).cell? ⟨w2.heap.size, 0, none⟩ = some (.int .i64 h) := (blk_cell KY.out 0).trans rfl
  have y1 : (w2.alloc (.cells #[.int .i64 h, .slice AY xs.length cY] 27)).cell? ⟨w2.heap.size, 1, none⟩ = some (.slice AY xs.length cY) := (blk_cell KY.out 1).trans rfl
  go_wp2_with (fail)
  refine (impl_BlockersOf.calls 100000 h AY cY xs (blkR h xs) true _ (Kd.S_reads' (d := dW) Y.out).2.2 (Kd.S_reads' (d := dW) Y.out).2.1 (by rw [implBlk h xs 100000 (by decide), HV.out])).mono ?_
  rintro e w3 ⟨v, rfl, hS, hb⟩
  obtain ⟨AB, cB, rfl⟩ := Kd.R_slice hS
  have Y := Aside0.mk (Kd.S_below Y.out hb)
  have KY := Aside0.mk (blk_below KY.out hb)
  have HB := Aside0.mk (below_step HB.out hb)
  have HLYX := Aside0.mk (show w2.heap.size < w3.heap.size from blk_lt KY.out)
  clear hS hb y0 y1
  obtain ⟨nb, hnb⟩ : ∃ nb, nb = (blkR h xs).length := ⟨_, rfl⟩
  rw [← hnb]
  have HNB := Aside0.mk hnb
  clear hnb
  have y0 : w3.cell? ⟨w2.heap.size, 0, none⟩ = some (.int .i64 h) := (blk_cell KY.out 0).trans rfl
  have y1 : w3.cell? ⟨w2.heap.size, 1, none⟩ = some (.slice AY xs.length cY) := (blk_cell KY.out 1).trans rfl
  go_wp2_with (fail)
  have hcl := clear_valid _ xs rfl HV.out
  have HRUN := Aside0.mk (show runR h xs [] = some (clearR xs) by unfold runR; rw [if_pos ⟨HV.out, by decide⟩]; rfl)
  obtain ⟨us, hus⟩ : ∃ us, us = clearR xs := ⟨_, rfl⟩
  rw [← hus] at hcl HRUN
  have HUS := Aside0.mk hus
  have HVU := Aside0.mk hcl
  clear hus hcl
  have hb := below_alloc (Below.refl w3.heap.size w3) (.cells #[] 31)
  have Y := Aside0.mk (Kd.S_below Y.out hb)
  have KY := Aside0.mk (blk_below KY.out hb)
  have HB := Aside0.mk (below_step HB.out hb)
  clear hb
  have hrm := RM.impl_calls h xs [] AY cY (some ⟨w3.heap.size, 0, none⟩) 0 (w3.alloc (.cells #[] 31)) (Kd.S_reads' (d := dW) Y.out).2.2 (Kd.S_reads' (d := dW) Y.out).2.1 ⟨rfl, by decide, fun hn => absurd hn (by decide)⟩ (Nat.le_refl _)
  rw [HRUN.out] at hrm
  refine hrm.mono ?_
  clear hrm y0 y1
  rintro e w4 ⟨v, he, hX, hb⟩
  replace he : e = .returned (.tuple #[.agg #[.int .i64 h, v], .bool true]) := he
  subst he
  replace hX : Kd.S dW 31 w4 _ (fun _ => True) v us := hX
  obtain ⟨AX, cX, rfl⟩ := Kd.S_slice hX
  have Y := Aside0.mk (Kd.S_below Y.out hb)
  have KY := Aside0.mk (blk_below KY.out hb)
  have HB := Aside0.mk (below_step HB.out hb)
  have HLY := Aside0.mk (blk_lt KY.out)
  have HLYB := Aside0.mk (show w2.heap.size < (w3.alloc (.cells #[] 31)).heap.size by have := HLYX.out; rw [World.size_alloc]; omega)
  have X := Aside0.mk (Kd.S_mono (Kd.S_lower (Kd.S_bound hX) (show w.heap.size ≤ _ by have := HLYB.out; have := HZ.out; omega)) (fun k hk => (show k ≠ w2.heap.size ∧ k ≠ w4.heap.size by have := hk.2.1; have := hk.2.2.1; have := HLYB.out; constructor <;> omega)))
  clear hX hb
  have hb := below_alloc (Below.refl w4.heap.size w4) (.cells #[.int .i64 h, .slice AX us.length cX] 27)
  have Y := Aside0.mk (Kd.S_below Y.out hb)
  have X := Aside0.mk (Kd.S_below X.out hb)
  have KY := Aside0.mk (blk_below KY.out hb)
  have HB := Aside0.mk (below_step HB.out hb)
  clear hb
  have KX := Aside0.mk (blk_new w4 (.cells #[.int .i64 h, .slice AX us.length cX] 27))
  have y0 : (w4.alloc (.cells #[.int .i64 h, .slice AX us.length cX] 27)).cell? ⟨w2.heap.size, 0, none⟩ = some (.int .i64 h) := (blk_cell KY.out 0).trans rfl
  have y1 : (w4.alloc (.cells #[.int .i64 h, .slice AX us.length cX] 27)).cell? ⟨w2.heap.size, 1, none⟩ = some (.slice AY xs.length cY) := (blk_cell KY.out 1).trans rfl
  have x0 : (w4.alloc (.cells #[.int .i64 h, .slice AX us.length cX] 27)).cell? ⟨w4.heap.size, 0, none⟩ = some (.int .i64 h) := (blk_cell KX.out 0).trans rfl
  have x1 : (w4.alloc (.cells #[.int .i64 h, .slice AX us.length cX] 27)).cell? ⟨w4.heap.size, 1, none⟩ = some (.slice AX us.length cX) := (blk_cell KX.out 1).trans rfl
  have HSU := Aside0.mk (show us.length ≤ 1000 ∧ ∀ r ∈ us, r.length ≤ 1000 from by obtain ⟨q1, q2, q3, q4, q5, -⟩ := valid_parts HVU.out; exact ⟨by omega, fun r hr => by have := q5 r hr; omega⟩)
  have HE := Aside0.mk (show nb = 0 → us.flatten = [] from fun h0 => by rw [HUS.out]; refine nb_clear _ xs rfl (blkAll_nil ?_); have h1 := HNB.out; unfold blkR at h1; rw [if_pos HV.out, Sv.srt_len] at h1; exact List.eq_nil_of_length_eq_zero (by omega))
  obtain ⟨n, hn⟩ : ∃ n, n = xs.flatten.length := ⟨_, rfl⟩
  have HN := Aside0.mk hn
  have HN7 : n ≤ 7 := by rw [hn]; exact (valid_parts HV.out).2.2.2.2.2.2.1
  clear hn
  by_cases h0 : nb = 0
  · have e1 : ((nb : Int) == 0) = true := beq_iff_eq.2 (by omega)
    have e2 : (nb == 0) = true := beq_iff_eq.2 h0
    have HU0 := Aside0.mk (HE.out h0)
    go_wp2_with (fail)
    refine (laws_b10Lots.calls 2000000 h AX cX us 0 _ (Kd.S_reads' (d := dW) X.out).2.2 (Kd.S_reads' (d := dW) X.out).2.1 (by rw [lots_eq h us HSU.out.1 HSU.out.2, HU0.out]; rfl)).mono ?_
    rintro e w5 ⟨rfl, hb⟩
    have Y := Aside0.mk (Kd.S_below Y.out hb)
    have X := Aside0.mk (Kd.S_below X.out hb)
    have KY := Aside0.mk (blk_below KY.out hb)
    have KX := Aside0.mk (blk_below KX.out hb)
    have HB := Aside0.mk (below_step HB.out hb)
    clear hb y0 y1 x0 x1
    have y0 : w5.cell? ⟨w2.heap.size, 0, none⟩ = some (.int .i64 h) := (blk_cell KY.out 0).trans rfl
    have y1 : w5.cell? ⟨w2.heap.size, 1, none⟩ = some (.slice AY xs.length cY) := (blk_cell KY.out 1).trans rfl
    have x0 : w5.cell? ⟨w4.heap.size, 0, none⟩ = some (.int .i64 h) := (blk_cell KX.out 0).trans rfl
    have x1 : w5.cell? ⟨w4.heap.size, 1, none⟩ = some (.slice AX us.length cX) := (blk_cell KX.out 1).trans rfl
    go_wp2_with (fail)
    refine (laws_b10Lots.calls 2000000 h AY cY xs (n : Int) _ (Kd.S_reads' (d := dW) Y.out).2.2 (Kd.S_reads' (d := dW) Y.out).2.1 (by rw [HN.out]; exact lots_eq h xs HSZ.out.1 HSZ.out.2)).mono ?_
    rintro e w6 ⟨rfl, hb⟩
    have Y := Aside0.mk (Kd.S_below Y.out hb)
    have X := Aside0.mk (Kd.S_below X.out hb)
    have KY := Aside0.mk (blk_below KY.out hb)
    have KX := Aside0.mk (blk_below KX.out hb)
    have HB := Aside0.mk (below_step HB.out hb)
    clear hb y0 y1 x0 x1
    go_wp2_with (fail)
    go_loopw [10, 12] (fun v10 v12 wz => ∃ (j : Nat) (zs : List (List Int)) (last : Int) (AZ : Option Addr) (cZ : Nat), j ≤ n ∧ v12 = .int .i64 (j : Int) ∧ v10 = .int .i64 last ∧ Aside0 (Yv.valid h zs = true ∧ zs.flatten.length + j = n ∧ clearR zs = us ∧ ∀ x ∈ zs.flatten, last < x) ∧ Aside0 (Kd.S dW 31 wz w.heap.size (fun k => k ≠ w2.heap.size) (.slice AZ zs.length cZ) zs) ∧ Aside0 (Kd.S dW 31 wz w.heap.size (fun k => k ≠ w2.heap.size ∧ k ≠ w4.heap.size) (.slice AX us.length cX) us) ∧ Aside0 (wz.heap[w2.heap.size]? = some (.cells #[.int .i64 h, .slice AZ zs.length cZ] 27 (0, 0))) ∧ Aside0 (wz.heap[w4.heap.size]? = some (.cells #[.int .i64 h, .slice AX us.length cX] 27 (0, 0))) ∧ Aside0 (Below w.heap.size w wz)) (fun _ v _ => n - (intOf v).toNat)
    case atStart => exact ⟨0, xs, -1, AY, cY, Nat.zero_le _, rfl, rfl, ⟨HV.out, HN.out.symm, HUS.out.symm, fun x hx => by have := (valid_parts HV.out).2.2.2.2.2.2.2 x hx; omega⟩, Y, X, KY, KX, HB⟩
    case round =>
      clear Y X KY KX HB
      obtain ⟨j, zs, last, AZ, cZ, hj, rfl, rfl, Z, Y, X, KY, KX, HB⟩ := hrel
      by_cases hlt : j < n
      · have c0 : decide ((j : Int) < (n : Int)) = true := decide_eq_true (by omega)
        have HJ := Aside0.mk hlt
        have y0 : wr.cell? ⟨w2.heap.size, 0, none⟩ = some (.int .i64 h) := (blk_cell KY.out 0).trans rfl
        have y1 : wr.cell? ⟨w2.heap.size, 1, none⟩ = some (.slice AZ zs.length cZ) := (blk_cell KY.out 1).trans rfl
        have x0 : wr.cell? ⟨w4.heap.size, 0, none⟩ = some (.int .i64 h) := (blk_cell KX.out 0).trans rfl
        have x1 : wr.cell? ⟨w4.heap.size, 1, none⟩ = some (.slice AX us.length cX) := (blk_cell KX.out 1).trans rfl
        go_wp2_with (fail)
        have htn := TN.impl_calls h zs AZ cZ wr (Kd.S_reads' (d := dW) Y.out).2.2 (Kd.S_reads' (d := dW) Y.out).2.1
        rw [show TN.res h zs = takeR zs by unfold TN.res; rw [if_pos Z.out.1]] at htn
        refine htn.mono ?_
        have HLR := Aside0.mk (show w2.heap.size < wr.heap.size ∧ w.heap.size ≤ wr.heap.size from ⟨blk_lt KY.out, HB.out.size⟩)
        clear htn y0 y1 x0 x1
        rintro e w7 ⟨v, he, hS7, hb⟩
        have Y := Aside0.mk (Kd.S_below Y.out hb)
        have X := Aside0.mk (Kd.S_below X.out hb)
        have KY := Aside0.mk (blk_below KY.out hb)
        have KX := Aside0.mk (blk_below KX.out hb)
        have HB := Aside0.mk (below_step HB.out hb)
        clear hb
        cases ht : takeR zs with
        | none =>
          rw [ht] at he hS7
          replace he : e = .returned (.tuple #[.agg #[.int .i64 0, v], .bool false]) := he
          replace hS7 : Kd.S dW 31 w7 _ (fun _ => True) v [] := hS7
          subst he
          obtain ⟨AV, cV, rfl⟩ := Kd.S_slice hS7
          have HEQ := Aside0.mk (show us = zs by rw [← Z.out.2.2.1, clear_none ht])
          have hnb : 0 < nb := by
            rcases Nat.eq_zero_or_pos nb with h | h
            · have h1 := HE.out h
              rw [HEQ.out] at h1
              have h2 := Z.out.2.1
              rw [h1] at h2
              simp at h2; omega
            · exact h
          exact absurd h0 (by omega)
        | some ys =>
          rw [ht] at he hS7
          replace he : e = .returned (.tuple #[.agg #[.int .i64 h, v], .bool true]) := he
          replace hS7 : Kd.S dW 31 w7 _ (fun _ => True) v ys := hS7
          subst he
          obtain ⟨AV, cV, rfl⟩ := Kd.S_slice hS7
          obtain ⟨i0, hi0, hp0, hys, hgm, hlt2⟩ := take_gone Z.out.1 ht
          have HT := Aside0.mk (And.intro (take_valid Z.out.1 ht) (And.intro (take_less ht) (clear_some ht)))
          have hyl : ys.length = zs.length := by rw [hys, List.length_set]
          obtain ⟨m, hm⟩ : ∃ m, m = zs.length := ⟨_, rfl⟩
          obtain ⟨gg, hgg⟩ : ∃ gg, gg = rd zs[i0] ((zs[i0].length : Int) - 1) := ⟨_, rfl⟩
          rw [← hgg] at hgm hlt2
          have HG := Aside0.mk (And.intro hgg (And.intro hgm hlt2))
          have HYS := Aside0.mk hys
          have HP0 := Aside0.mk hp0
          have HYL := Aside0.mk hyl
          have HM := Aside0.mk hm
          have HLZ := Aside0.mk (show w2.heap.size < w7.heap.size ∧ w4.heap.size < w7.heap.size from ⟨blk_lt KY.out, blk_lt KX.out⟩)
          have ZS := Aside0.mk (Kd.S_alloc (Kd.S_mono (Kd.S_lower (Kd.S_bound hS7) HLR.out.2) (fun k hk => (show k ≠ w2.heap.size by have := hk.2.1; have := HLR.out.1; omega))) (.cells #[.int .i64 h, .slice AV ys.length cV] 27))
          have KZ := Aside0.mk (blk_new w7 (.cells #[.int .i64 h, .slice AV ys.length cV] 27))
          have hb := below_alloc (Below.refl w7.heap.size w7) (.cells #[.int .i64 h, .slice AV ys.length cV] 27)
          have Y := Aside0.mk (Kd.S_below Y.out hb)
          have X := Aside0.mk (Kd.S_below X.out hb)
          have KY := Aside0.mk (blk_below KY.out hb)
          have KX := Aside0.mk (blk_below KX.out hb)
          have HB := Aside0.mk (below_step HB.out hb)
          clear hb hS7 ht hys hyl hm hgm hlt2 hgg hp0
          have y0 : (w7.alloc (.cells #[.int .i64 h, .slice AV ys.length cV] 27)).cell? ⟨w2.heap.size, 0, none⟩ = some (.int .i64 h) := (blk_cell KY.out 0).trans rfl
          have y1 : (w7.alloc (.cells #[.int .i64 h, .slice AV ys.length cV] 27)).cell? ⟨w2.heap.size, 1, none⟩ = some (.slice AZ zs.length cZ) := (blk_cell KY.out 1).trans rfl
          have x0 : (w7.alloc (.cells #[.int .i64 h, .slice AV ys.length cV] 27)).cell? ⟨w4.heap.size, 0, none⟩ = some (.int .i64 h) := (blk_cell KX.out 0).trans rfl
          have x1 : (w7.alloc (.cells #[.int .i64 h, .slice AV ys.length cV] 27)).cell? ⟨w4.heap.size, 1, none⟩ = some (.slice AX us.length cX) := (blk_cell KX.out 1).trans rfl
          have z0 : (w7.alloc (.cells #[.int .i64 h, .slice AV ys.length cV] 27)).cell? ⟨w7.heap.size, 0, none⟩ = some (.int .i64 h) := (blk_cell KZ.out 0).trans rfl
          have z1 : (w7.alloc (.cells #[.int .i64 h, .slice AV ys.length cV] 27)).cell? ⟨w7.heap.size, 1, none⟩ = some (.slice AV ys.length cV) := (blk_cell KZ.out 1).trans rfl
          go_wp2_with (fail)
          go_loopw [15, 16] (fun v15 v16 wz => ∃ i : Nat, i ≤ zs.length ∧ v16 = .int .i64 (i : Int) ∧ v15 = .int .i64 (goneAt i0 i gg) ∧ Aside0 (Below (w7.alloc (.cells #[.int .i64 h, .slice AV ys.length cV] 27)).heap.size (w7.alloc (.cells #[.int .i64 h, .slice AV ys.length cV] 27)) wz)) (fun _ v _ => zs.length - (intOf v).toNat)
          case atStart => exact ⟨0, Nat.zero_le _, rfl, by unfold goneAt; rw [if_neg (by omega)], ⟨Below.refl _ _⟩⟩
          case round =>
            obtain ⟨i, hi, rfl, rfl, hbl⟩ := hrel
            have u1 := pw_cell_below hbl.out y1
            have t1 := pw_cell_below hbl.out z1
            by_cases hil : i < zs.length
            · have d0 : decide ((i : Int) < (zs.length : Int)) = true := decide_eq_true (by omega)
              have hiy : i < ys.length := by rw [HYL.out]; exact hil
              have d1 : decide ((i : Int) < (ys.length : Int)) = true := decide_eq_true (by omega)
              obtain ⟨ad, Ar, cr, rfl, hx, hcr, hCr⟩ := Yn.C_rows (Kd.C_below (Kd.S_reads' (d := dW) Y.out).2.2 hbl.out) i hil
              obtain ⟨ad2, Ar2, cr2, rfl, hx2, hcr2, -⟩ := Yn.C_rows (Kd.C_below (Kd.S_reads' (d := dW) ZS.out).2.2 hbl.out) i hiy
              have f1 : (0 ≤ (i : Int)) = True := eq_true (by omega)
              have f2 : ((i : Int) < (zs.length : Int)) = True := eq_true (by omega)
              have f3 : ((i : Int) < (ys.length : Int)) = True := eq_true (by omega)
              obtain ⟨a, ha⟩ : ∃ a, a = zs[i].length := ⟨_, rfl⟩
              obtain ⟨b, hb⟩ : ∃ b, b = ys[i].length := ⟨_, rfl⟩
              rw [← ha] at hx hcr
              rw [← hb] at hx2 hcr2
              have HAB := Aside0.mk (And.intro ha hb)
              have HIL := Aside0.mk hil
              have ha4 : a ≤ 4 := by rw [ha]; exact (take_parts Z.out.1).2.2.1 _ (List.getElem_mem hil)
              obtain ⟨q, hq⟩ : ∃ q, wrap64 ((a : Int) - 1) = q := ⟨_, rfl⟩
              have hqv : q = (a : Int) - 1 := by rw [← hq]; unfold wrap64; omega
              have hqw : IntKind.i64.wrap ((a : Int) - 1) = q := by rw [i64_w]; exact hq
              have hz4 := (take_parts Z.out.1).1
              have HMS := Aside0.mk (show zs.length - ((i : Int) + 1).toNat < zs.length - (i : Int).toNat by omega)
              have HNX := Aside0.mk (show (Value.int .i64 ((i : Int) + 1)) = .int .i64 ((i + 1 : Nat) : Int) by congr 1)
              have HW := Aside0.mk (show wrap64 ((i : Int) + 1) = ((i + 1 : Nat) : Int) by unfold wrap64; omega)
              by_cases hii : i = i0
              · have hba : (b : Int) = q := by
                  have h1 := HYS.out
                  rw [hb, hqv, ha]
                  subst hii
                  have h2 : ys[i] = zs[i].take (zs[i].length - 1) := by
                    have h3 : ys[i]? = some (zs[i].take (zs[i].length - 1)) := by rw [h1, List.getElem?_set_self hil]
                    rw [List.getElem?_eq_getElem hiy] at h3
                    injection h3
                  rw [h2, List.length_take]
                  have := HP0.out
                  omega
                have e3 : ((b : Int) == q) = true := beq_iff_eq.2 hba
                have hp : 0 < a := by rw [ha]; have := HP0.out; subst hii; exact this
                have hgv : rd zs[i] q = gg := by rw [hqv, ha]; have := HG.out.1; subst hii; exact this.symm
                have HII := Aside0.mk (show goneAt i0 (i + 1) gg = gg by rw [← hii, goneAt_eq])
                obtain ⟨gm, rfl, hgc⟩ := Kd.at_int hCr q (by omega) (by omega)
                rw [hgv] at hgc
                have g1 : (0 ≤ q) = True := eq_true (by omega)
                have g2 : (q < (a : Int)) = True := eq_true (by omega)
                clear hba ha hb hcr hcr2 hqv ha4 hii hp hgv hCr
                go_wp2_with (fail)
                go_quiet (fail)
                go_wp2_with (fail)
                go_quiet (fail)
                go_wp2_with (fail)
                go_roundw
                case rel => exact ⟨i + 1, by have := HIL.out; omega, HNX.out, by rw [HII.out], ⟨pw_below_drewN hbl.out _⟩⟩
                case measure => exact HMS.out
              · have hba : b = a := by
                  have h1 := HYS.out
                  rw [hb, ha]
                  have h3 : ys[i]? = some zs[i] := by rw [h1, List.getElem?_set_ne (fun h => hii h.symm), List.getElem?_eq_getElem hil]
                  rw [List.getElem?_eq_getElem hiy] at h3
                  injection h3 with h3
                  rw [h3]
                have e3 : ((b : Int) == q) = false := beq_eq_false_iff_ne.2 (by omega)
                have HII := Aside0.mk hii
                clear hba ha hb hcr hcr2 hqv ha4 hii
                go_wp2_with (fail)
                go_quiet (fail)
                go_wp2_with (fail)
                go_roundw
                case rel => exact ⟨i + 1, by have := HIL.out; omega, HNX.out, by rw [goneAt_ne gg HII.out], ⟨pw_below_drewN hbl.out nq⟩⟩
                case measure => exact HMS.out
            · have d0 : decide ((i : Int) < (zs.length : Int)) = false := decide_eq_false (by omega)
              have hgo : goneAt i0 i gg = gg := by unfold goneAt; rw [if_pos (by omega)]
              rw [hgo]
              clear hgo
              have Y := Aside0.mk (Kd.S_below Y.out hbl.out)
              have X := Aside0.mk (Kd.S_below X.out hbl.out)
              have ZS := Aside0.mk (Kd.S_below ZS.out hbl.out)
              have KY := Aside0.mk (blk_below KY.out hbl.out)
              have KX := Aside0.mk (blk_below KX.out hbl.out)
              have KZ := Aside0.mk (blk_below KZ.out hbl.out)
              have HB := Aside0.mk (below_step HB.out hbl.out)
              have hlt3 := Z.out.2.2.2 gg HG.out.2.1
              have c3 : decide (gg ≤ last) = false := decide_eq_false (by omega)
              clear hlt3 hbl
              obtain ⟨my, hmy⟩ : ∃ my, my = ys.flatten.length := ⟨_, rfl⟩
              obtain ⟨mz, hmz⟩ : ∃ mz, mz = zs.flatten.length := ⟨_, rfl⟩
              have hyz : my + 1 = mz := by rw [hmy, hmz]; exact HT.out.2.1
              have HL2 := Aside0.mk (show laws_b10Lots.f 2000000 h ys = some (my : Int) by rw [hmy]; obtain ⟨q1, q2, q3, q4, q5, -⟩ := valid_parts HT.out.1; exact lots_eq h ys (by omega) (fun r hr => by have := q5 r hr; omega))
              have HL1 := Aside0.mk (show laws_b10Lots.f 2000000 h zs = some (mz : Int) by rw [hmz]; obtain ⟨q1, q2, q3, q4, q5, -⟩ := valid_parts Z.out.1; exact lots_eq h zs (by omega) (fun r hr => by have := q5 r hr; omega))
              have hmn : mz + j = n := by rw [hmz]; exact Z.out.2.1
              obtain ⟨mq, hmq⟩ : ∃ mq, wrap64 ((mz : Int) - 1) = mq := ⟨_, rfl⟩
              have hmqv : mq = (my : Int) := by rw [← hmq]; unfold wrap64; omega
              have hmqw : IntKind.i64.wrap ((mz : Int) - 1) = mq := by rw [i64_w]; exact hmq
              have e5 : ((my : Int) == mq) = true := beq_iff_eq.2 hmqv.symm
              have e6 : ((my : Int) != mq) = false := by unfold bne; rw [e5]; rfl
              have HNJ := Aside0.mk (show (Value.int .i64 ((j : Int) + 1)) = .int .i64 ((j + 1 : Nat) : Int) by congr 1)
              have HMO := Aside0.mk (show n - ((j : Int) + 1).toNat < n - (j : Int).toNat by have := HJ.out; omega)
              have HZJ := Aside0.mk (show ys.flatten.length + (j + 1) = n by omega)
              clear hmy hmz hmqv
              go_wp2_with (fail)
              clear u1 t1
              refine start_ (n := 11) (S := fun w' => w'.cell? ⟨w7.heap.size, 0, none⟩ = some (.int .i64 h) ∧ w'.cell? ⟨w7.heap.size, 1, none⟩ = some (.slice AV ys.length cV) ∧ w'.cell? ⟨w2.heap.size, 0, none⟩ = some (.int .i64 h) ∧ w'.cell? ⟨w2.heap.size, 1, none⟩ = some (.slice AZ zs.length cZ)) (ds := []) #[false, false, false, false, false, false, false, false, false, false, false] (by kernel_rfl) rfl rfl ⟨(blk_cell KZ.out 0).trans rfl, (blk_cell KZ.out 1).trans rfl, (blk_cell KY.out 0).trans rfl, (blk_cell KY.out 1).trans rfl⟩ (fun hHeld => ?_)
              have hV : Below wr.heap.size wr wr.drew := below_drew (Below.refl _ _)
              generalize hw : wr.drew = V at hV hHeld ⊢
              clear hw
              have Y := Aside0.mk (Kd.S_below Y.out hV)
              have X := Aside0.mk (Kd.S_below X.out hV)
              have ZS := Aside0.mk (Kd.S_below ZS.out hV)
              have KY := Aside0.mk (blk_below KY.out hV)
              have KX := Aside0.mk (blk_below KX.out hV)
              have KZ := Aside0.mk (blk_below KZ.out hV)
              have HB := Aside0.mk (below_step HB.out hV)
              clear hV
              refine pure_ (i := 0) (N := some 111) (v := ?_) (a' := ?_) #[true, false, false, false, false, false, false, false, false, false, false] rfl rfl (by kernel_rfl) (fun _ _ _ h => h) (Or.inl ⟨by rfl, ?_⟩) ?_ ?_
              rotate_left
              · intro w'
                go_simp
                with_reducible rfl
              rotate_left
              · simp only [Act.put, List.setIfInBounds_toArray, List.set_cons_zero, List.set_cons_succ, i64_w, i32_w]
                rfl
              refine pure_ (i := 1) (N := some 112) (v := ?_) (a' := ?_) #[true, true, false, false, false, false, false, false, false, false, false] rfl rfl (by kernel_rfl) (fun _ _ _ h => h) (Or.inl ⟨by rfl, ?_⟩) ?_ ?_
              rotate_left
              · intro w'
                go_simp
                with_reducible rfl
              rotate_left
              · simp only [Act.put, List.setIfInBounds_toArray, List.set_cons_zero, List.set_cons_succ, i64_w, i32_w]
                rfl
              refine pure_ (i := 2) (N := some 113) (v := ?_) (a' := ?_) #[true, true, true, false, false, false, false, false, false, false, false] rfl rfl (by kernel_rfl) (fun _ _ _ h => h) (Or.inl ⟨by rfl, ?_⟩) ?_ ?_
              rotate_left
              · intro w'
                go_simp
                with_reducible rfl
              rotate_left
              · simp only [Act.put, List.setIfInBounds_toArray, List.set_cons_zero, List.set_cons_succ, i64_w, i32_w]
                rfl
              refine pure_ (i := 3) (N := some 114) (v := ?_) (a' := ?_) #[true, true, true, true, false, false, false, false, false, false, false] rfl rfl (by kernel_rfl) (fun _ _ _ h => h) (Or.inl ⟨by rfl, ?_⟩) ?_ ?_
              rotate_left
              · intro w'
                go_simp
                with_reducible rfl
              rotate_left
              · simp only [Act.put, List.setIfInBounds_toArray, List.set_cons_zero, List.set_cons_succ, i64_w, i32_w]
                rfl
              refine take_ (i := 4) (N := some 115) (v := ?_) (a' := ?_) #[true, true, true, true, true, false, false, false, false, false, false] rfl rfl (by kernel_rfl) (fun _ _ _ h => h) (Or.inl ⟨by rfl, ?_⟩) hHeld ?_ ?_
              rotate_left
              · rintro w' ⟨s0, s1, s2, s3⟩
                go_simp
                with_reducible rfl
              rotate_left
              · simp only [Act.put, List.setIfInBounds_toArray, List.set_cons_zero, List.set_cons_succ, i64_w, i32_w]
                rfl
              refine take_ (i := 6) (N := some 117) (v := ?_) (a' := ?_) #[true, true, true, true, true, false, true, false, false, false, false] rfl rfl (by kernel_rfl) (fun _ _ _ h => h) (Or.inl ⟨by rfl, ?_⟩) hHeld ?_ ?_
              rotate_left
              · rintro w' ⟨s0, s1, s2, s3⟩
                go_simp
                with_reducible rfl
              rotate_left
              · simp only [Act.put, List.setIfInBounds_toArray, List.set_cons_zero, List.set_cons_succ, i64_w, i32_w]
                rfl
              refine one_ (i := 5) (N := some 116) #[true, true, true, true, true, true, true, false, false, false, false] rfl rfl (by kernel_rfl) (by decide) (fun K_ hK => ?_)
              refine goes_ Try.func25 (by kernel_rfl) rfl #[.agg #[.int .i64 h, .slice AV ys.length cV]] (by rfl) rfl rfl (by (try simp only [List.map_toArray, List.map_cons, List.map_nil]); first | done | rfl) ?_
              refine (laws_b10Lots.calls 2000000 h AV cV ys (my : Int) V (Kd.S_reads' (d := dW) ZS.out).2.2 (Kd.S_reads' (d := dW) ZS.out).2.1 HL2.out).mono ?_
              rintro e w8 ⟨rfl, hb⟩
              refine ⟨_, rfl, ?_⟩
              have Y := Aside0.mk (Kd.S_below Y.out hb)
              have X := Aside0.mk (Kd.S_below X.out hb)
              have ZS := Aside0.mk (Kd.S_below ZS.out hb)
              have KY := Aside0.mk (blk_below KY.out hb)
              have KX := Aside0.mk (blk_below KX.out hb)
              have KZ := Aside0.mk (blk_below KZ.out hb)
              have HB := Aside0.mk (below_step HB.out hb)
              obtain ⟨t0, t1, t2, t3⟩ := hHeld
              refine hK.out _ _ ⟨pw_cell_below hb t0, pw_cell_below hb t1, pw_cell_below hb t2, pw_cell_below hb t3⟩ (fun hHeld => ?_)
              clear hK K_ t0 t1 t2 t3 hb
              refine norm_ (a' := ?_) ?_ ?_
              rotate_left
              · show Act.put _ (some 116) _ = _
                simp only [Act.put, List.setIfInBounds_toArray, List.set_cons_zero, List.set_cons_succ, i64_w, i32_w]
                rfl
              refine one_ (i := 7) (N := some 118) #[true, true, true, true, true, true, true, true, false, false, false] rfl rfl (by kernel_rfl) (by decide) (fun K_ hK => ?_)
              refine goes_ Try.func25 (by kernel_rfl) rfl #[.agg #[.int .i64 h, .slice AZ zs.length cZ]] (by rfl) rfl rfl (by (try simp only [List.map_toArray, List.map_cons, List.map_nil]); first | done | rfl) ?_
              refine (laws_b10Lots.calls 2000000 h AZ cZ zs (mz : Int) w8 (Kd.S_reads' (d := dW) Y.out).2.2 (Kd.S_reads' (d := dW) Y.out).2.1 HL1.out).mono ?_
              rintro e w9 ⟨rfl, hb⟩
              refine ⟨_, rfl, ?_⟩
              have Y := Aside0.mk (Kd.S_below Y.out hb)
              have X := Aside0.mk (Kd.S_below X.out hb)
              have ZS := Aside0.mk (Kd.S_below ZS.out hb)
              have KY := Aside0.mk (blk_below KY.out hb)
              have KX := Aside0.mk (blk_below KX.out hb)
              have KZ := Aside0.mk (blk_below KZ.out hb)
              have HB := Aside0.mk (below_step HB.out hb)
              obtain ⟨t0, t1, t2, t3⟩ := hHeld
              refine hK.out _ _ ⟨pw_cell_below hb t0, pw_cell_below hb t1, pw_cell_below hb t2, pw_cell_below hb t3⟩ (fun hHeld => ?_)
              clear hK K_ t0 t1 t2 t3 hb
              refine norm_ (a' := ?_) ?_ ?_
              rotate_left
              · show Act.put _ (some 118) _ = _
                simp only [Act.put, List.setIfInBounds_toArray, List.set_cons_zero, List.set_cons_succ, i64_w, i32_w]
                rfl
              refine pure_ (i := 8) (N := some 119) (v := ?_) (a' := ?_) #[true, true, true, true, true, true, true, true, true, false, false] rfl rfl (by kernel_rfl) (fun _ _ _ h => h) (Or.inl ⟨by rfl, ?_⟩) ?_ ?_
              rotate_left
              · intro w'
                go_simp
                with_reducible rfl
              rotate_left
              · simp only [Act.put, List.setIfInBounds_toArray, List.set_cons_zero, List.set_cons_succ, i64_w, i32_w]
                rfl
              refine pure_ (i := 9) (N := some 120) (v := ?_) (a' := ?_) #[true, true, true, true, true, true, true, true, true, true, false] rfl rfl (by kernel_rfl) (fun _ _ _ h => h) (Or.inl ⟨by rfl, ?_⟩) ?_ ?_
              rotate_left
              · intro w'
                go_simp
                with_reducible rfl
              rotate_left
              · simp only [Act.put, List.setIfInBounds_toArray, List.set_cons_zero, List.set_cons_succ, i64_w, i32_w]
                rfl
              refine pure_ (i := 10) (N := some 121) (v := ?_) (a' := ?_) #[true, true, true, true, true, true, true, true, true, true, true] rfl rfl (by kernel_rfl) (fun _ _ _ h => h) (Or.inl ⟨by rfl, ?_⟩) ?_ ?_
              rotate_left
              · intro w'
                go_simp
                with_reducible rfl
              rotate_left
              · simp only [Act.put, List.setIfInBounds_toArray, List.set_cons_zero, List.set_cons_succ, i64_w, i32_w]
                rfl
              refine done_ (by kernel_rfl) ?_
              have y0 : w9.cell? ⟨w2.heap.size, 0, none⟩ = some (.int .i64 h) := (blk_cell KY.out 0).trans rfl
              have y1 : w9.cell? ⟨w2.heap.size, 1, none⟩ = some (.slice AZ zs.length cZ) := (blk_cell KY.out 1).trans rfl
              have z0 : w9.cell? ⟨w7.heap.size, 0, none⟩ = some (.int .i64 h) := (blk_cell KZ.out 0).trans rfl
              have z1 : w9.cell? ⟨w7.heap.size, 1, none⟩ = some (.slice AV ys.length cV) := (blk_cell KZ.out 1).trans rfl
              have g2 := blk_frozen KY.out 0
              have g3 := blk_frozen KY.out 1
              go_wp2_with (fail)
              go_roundw
              case rel =>
                refine ⟨j + 1, ys, gg, AV, cV, by have := HJ.out; omega, HNJ.out, rfl, ⟨HT.out.1, HZJ.out, by rw [← HT.out.2.2]; exact Z.out.2.2.1, HG.out.2.2⟩, ⟨?_⟩, ⟨?_⟩, ⟨blk_put (blk_put KY.out 0 (.int .i64 h) rfl) 1 (.slice AV ys.length cV) rfl⟩, ⟨?_⟩, ⟨?_⟩⟩
                · exact Kd.S_far (p := ⟨w2.heap.size, 1, none⟩) (Kd.S_far (p := ⟨w2.heap.size, 0, none⟩) ZS.out (fun k hk => hk) _) (fun k hk => hk) _
                · exact Kd.S_far (p := ⟨w2.heap.size, 1, none⟩) (Kd.S_far (p := ⟨w2.heap.size, 0, none⟩) X.out (fun k hk => hk.1) _) (fun k hk => hk.1) _
                · rw [Below.heap_setCell _ _ _ _ (show w4.heap.size ≠ w2.heap.size by have := HLY.out; omega), Below.heap_setCell _ _ _ _ (show w4.heap.size ≠ w2.heap.size by have := HLY.out; omega)]; exact KX.out
                · exact (HB.out.setCell (p := ⟨w2.heap.size, 0, none⟩) HZ.out _).setCell (p := ⟨w2.heap.size, 1, none⟩) HZ.out _
              case measure => exact HMO.out
      · have c0 : decide ((j : Int) < (n : Int)) = false := decide_eq_false (by omega)
        have HEQ := Aside0.mk (show us = zs by rw [← Z.out.2.2.1, clear_none (take_empty (by have := Z.out.2.1; omega))])
        have y0 : wr.cell? ⟨w2.heap.size, 0, none⟩ = some (.int .i64 h) := (blk_cell KY.out 0).trans rfl
        have y1 : wr.cell? ⟨w2.heap.size, 1, none⟩ = some (.slice AZ zs.length cZ) := (blk_cell KY.out 1).trans rfl
        have x0 : wr.cell? ⟨w4.heap.size, 0, none⟩ = some (.int .i64 h) := (blk_cell KX.out 0).trans rfl
        have x1 : wr.cell? ⟨w4.heap.size, 1, none⟩ = some (.slice AX us.length cX) := (blk_cell KX.out 1).trans rfl
        go_wp2_with (fail)
        refine (laws_b10Yards.calls 2000000 h AX cX us h AZ cZ zs true _ (Kd.S_reads' (d := dW) X.out).2.2 (Kd.S_reads' (d := dW) X.out).2.1 (Kd.S_reads' (d := dW) Y.out).2.2 (Kd.S_reads' (d := dW) Y.out).2.1 (by rw [← HEQ.out]; exact yards_eq h us HSU.out.1 HSU.out.2)).mono ?_
        rintro e w8 ⟨rfl, hb⟩
        have HB := Aside0.mk (below_step HB.out hb)
        clear hb y0 y1 x0 x1
        go_wp2_with (fail)
        go_ret
        exact ⟨rfl, HB.out⟩
  · have e1 : ((nb : Int) == 0) = false := beq_eq_false_iff_ne.2 (by omega)
    have e2 : (nb == 0) = false := beq_eq_false_iff_ne.2 h0
    go_wp2_with (fail)
    refine (laws_b10Lots.calls 2000000 h AY cY xs (n : Int) _ (Kd.S_reads' (d := dW) Y.out).2.2 (Kd.S_reads' (d := dW) Y.out).2.1 (by rw [HN.out]; exact lots_eq h xs HSZ.out.1 HSZ.out.2)).mono ?_
    rintro e w6 ⟨rfl, hb⟩
    have Y := Aside0.mk (Kd.S_below Y.out hb)
    have X := Aside0.mk (Kd.S_below X.out hb)
    have KY := Aside0.mk (blk_below KY.out hb)
    have KX := Aside0.mk (blk_below KX.out hb)
    have HB := Aside0.mk (below_step HB.out hb)
    clear hb y0 y1 x0 x1
    go_wp2_with (fail)
    go_loopw [10, 12] (fun v10 v12 wz => ∃ (j : Nat) (zs : List (List Int)) (last : Int) (AZ : Option Addr) (cZ : Nat), j ≤ n ∧ v12 = .int .i64 (j : Int) ∧ v10 = .int .i64 last ∧ Aside0 (Yv.valid h zs = true ∧ zs.flatten.length + j = n ∧ clearR zs = us ∧ ∀ x ∈ zs.flatten, last < x) ∧ Aside0 (Kd.S dW 31 wz w.heap.size (fun k => k ≠ w2.heap.size) (.slice AZ zs.length cZ) zs) ∧ Aside0 (Kd.S dW 31 wz w.heap.size (fun k => k ≠ w2.heap.size ∧ k ≠ w4.heap.size) (.slice AX us.length cX) us) ∧ Aside0 (wz.heap[w2.heap.size]? = some (.cells #[.int .i64 h, .slice AZ zs.length cZ] 27 (0, 0))) ∧ Aside0 (wz.heap[w4.heap.size]? = some (.cells #[.int .i64 h, .slice AX us.length cX] 27 (0, 0))) ∧ Aside0 (Below w.heap.size w wz)) (fun _ v _ => n - (intOf v).toNat)
    case atStart => exact ⟨0, xs, -1, AY, cY, Nat.zero_le _, rfl, rfl, ⟨HV.out, HN.out.symm, HUS.out.symm, fun x hx => by have := (valid_parts HV.out).2.2.2.2.2.2.2 x hx; omega⟩, Y, X, KY, KX, HB⟩
    case round =>
      clear Y X KY KX HB
      obtain ⟨j, zs, last, AZ, cZ, hj, rfl, rfl, Z, Y, X, KY, KX, HB⟩ := hrel
      by_cases hlt : j < n
      · have c0 : decide ((j : Int) < (n : Int)) = true := decide_eq_true (by omega)
        have HJ := Aside0.mk hlt
        have y0 : wr.cell? ⟨w2.heap.size, 0, none⟩ = some (.int .i64 h) := (blk_cell KY.out 0).trans rfl
        have y1 : wr.cell? ⟨w2.heap.size, 1, none⟩ = some (.slice AZ zs.length cZ) := (blk_cell KY.out 1).trans rfl
        have x0 : wr.cell? ⟨w4.heap.size, 0, none⟩ = some (.int .i64 h) := (blk_cell KX.out 0).trans rfl
        have x1 : wr.cell? ⟨w4.heap.size, 1, none⟩ = some (.slice AX us.length cX) := (blk_cell KX.out 1).trans rfl
        go_wp2_with (fail)
        have htn := TN.impl_calls h zs AZ cZ wr (Kd.S_reads' (d := dW) Y.out).2.2 (Kd.S_reads' (d := dW) Y.out).2.1
        rw [show TN.res h zs = takeR zs by unfold TN.res; rw [if_pos Z.out.1]] at htn
        refine htn.mono ?_
        have HLR := Aside0.mk (show w2.heap.size < wr.heap.size ∧ w.heap.size ≤ wr.heap.size from ⟨blk_lt KY.out, HB.out.size⟩)
        clear htn y0 y1 x0 x1
        rintro e w7 ⟨v, he, hS7, hb⟩
        have Y := Aside0.mk (Kd.S_below Y.out hb)
        have X := Aside0.mk (Kd.S_below X.out hb)
        have KY := Aside0.mk (blk_below KY.out hb)
        have KX := Aside0.mk (blk_below KX.out hb)
        have HB := Aside0.mk (below_step HB.out hb)
        clear hb
        cases ht : takeR zs with
        | none =>
          rw [ht] at he hS7
          replace he : e = .returned (.tuple #[.agg #[.int .i64 0, v], .bool false]) := he
          replace hS7 : Kd.S dW 31 w7 _ (fun _ => True) v [] := hS7
          subst he
          obtain ⟨AV, cV, rfl⟩ := Kd.S_slice hS7
          have HEQ := Aside0.mk (show us = zs by rw [← Z.out.2.2.1, clear_none ht])
          have hnb : 0 < nb := by
            rcases Nat.eq_zero_or_pos nb with h | h
            · have h1 := HE.out h
              rw [HEQ.out] at h1
              have h2 := Z.out.2.1
              rw [h1] at h2
              simp at h2; omega
            · exact h
          have d1 : decide (0 < nb) = true := decide_eq_true hnb
          have d2 : decide ((0 : Int) < (nb : Int)) = true := decide_eq_true (by omega)
          have hb := below_alloc (Below.refl w7.heap.size w7) (.cells #[.int .i64 0, .slice AV 0 cV] 27)
          have Y := Aside0.mk (Kd.S_below Y.out hb)
          have X := Aside0.mk (Kd.S_below X.out hb)
          have KY := Aside0.mk (blk_below KY.out hb)
          have KX := Aside0.mk (blk_below KX.out hb)
          have HB := Aside0.mk (below_step HB.out hb)
          clear hb hS7 ht hnb
          have y0 : (w7.alloc (.cells #[.int .i64 0, .slice AV 0 cV] 27)).cell? ⟨w2.heap.size, 0, none⟩ = some (.int .i64 h) := (blk_cell KY.out 0).trans rfl
          have y1 : (w7.alloc (.cells #[.int .i64 0, .slice AV 0 cV] 27)).cell? ⟨w2.heap.size, 1, none⟩ = some (.slice AZ zs.length cZ) := (blk_cell KY.out 1).trans rfl
          have x0 : (w7.alloc (.cells #[.int .i64 0, .slice AV 0 cV] 27)).cell? ⟨w4.heap.size, 0, none⟩ = some (.int .i64 h) := (blk_cell KX.out 0).trans rfl
          have x1 : (w7.alloc (.cells #[.int .i64 0, .slice AV 0 cV] 27)).cell? ⟨w4.heap.size, 1, none⟩ = some (.slice AX us.length cX) := (blk_cell KX.out 1).trans rfl
          go_wp2_with (fail)
          refine (laws_b10Yards.calls 2000000 h AX cX us h AZ cZ zs true _ (Kd.S_reads' (d := dW) X.out).2.2 (Kd.S_reads' (d := dW) X.out).2.1 (Kd.S_reads' (d := dW) Y.out).2.2 (Kd.S_reads' (d := dW) Y.out).2.1 (by rw [← HEQ.out]; exact yards_eq h us HSU.out.1 HSU.out.2)).mono ?_
          rintro e w8 ⟨rfl, hb⟩
          have HB := Aside0.mk (below_step HB.out hb)
          clear hb y0 y1 x0 x1
          go_wp2_with (fail)
          go_ret
          exact ⟨rfl, HB.out⟩
        | some ys =>
          rw [ht] at he hS7
          replace he : e = .returned (.tuple #[.agg #[.int .i64 h, v], .bool true]) := he
          replace hS7 : Kd.S dW 31 w7 _ (fun _ => True) v ys := hS7
          subst he
          obtain ⟨AV, cV, rfl⟩ := Kd.S_slice hS7
          obtain ⟨i0, hi0, hp0, hys, hgm, hlt2⟩ := take_gone Z.out.1 ht
          have HT := Aside0.mk (And.intro (take_valid Z.out.1 ht) (And.intro (take_less ht) (clear_some ht)))
          have hyl : ys.length = zs.length := by rw [hys, List.length_set]
          obtain ⟨m, hm⟩ : ∃ m, m = zs.length := ⟨_, rfl⟩
          obtain ⟨gg, hgg⟩ : ∃ gg, gg = rd zs[i0] ((zs[i0].length : Int) - 1) := ⟨_, rfl⟩
          rw [← hgg] at hgm hlt2
          have HG := Aside0.mk (And.intro hgg (And.intro hgm hlt2))
          have HYS := Aside0.mk hys
          have HP0 := Aside0.mk hp0
          have HYL := Aside0.mk hyl
          have HM := Aside0.mk hm
          have HLZ := Aside0.mk (show w2.heap.size < w7.heap.size ∧ w4.heap.size < w7.heap.size from ⟨blk_lt KY.out, blk_lt KX.out⟩)
          have ZS := Aside0.mk (Kd.S_alloc (Kd.S_mono (Kd.S_lower (Kd.S_bound hS7) HLR.out.2) (fun k hk => (show k ≠ w2.heap.size by have := hk.2.1; have := HLR.out.1; omega))) (.cells #[.int .i64 h, .slice AV ys.length cV] 27))
          have KZ := Aside0.mk (blk_new w7 (.cells #[.int .i64 h, .slice AV ys.length cV] 27))
          have hb := below_alloc (Below.refl w7.heap.size w7) (.cells #[.int .i64 h, .slice AV ys.length cV] 27)
          have Y := Aside0.mk (Kd.S_below Y.out hb)
          have X := Aside0.mk (Kd.S_below X.out hb)
          have KY := Aside0.mk (blk_below KY.out hb)
          have KX := Aside0.mk (blk_below KX.out hb)
          have HB := Aside0.mk (below_step HB.out hb)
          clear hb hS7 ht hys hyl hm hgm hlt2 hgg hp0
          have y0 : (w7.alloc (.cells #[.int .i64 h, .slice AV ys.length cV] 27)).cell? ⟨w2.heap.size, 0, none⟩ = some (.int .i64 h) := (blk_cell KY.out 0).trans rfl
          have y1 : (w7.alloc (.cells #[.int .i64 h, .slice AV ys.length cV] 27)).cell? ⟨w2.heap.size, 1, none⟩ = some (.slice AZ zs.length cZ) := (blk_cell KY.out 1).trans rfl
          have x0 : (w7.alloc (.cells #[.int .i64 h, .slice AV ys.length cV] 27)).cell? ⟨w4.heap.size, 0, none⟩ = some (.int .i64 h) := (blk_cell KX.out 0).trans rfl
          have x1 : (w7.alloc (.cells #[.int .i64 h, .slice AV ys.length cV] 27)).cell? ⟨w4.heap.size, 1, none⟩ = some (.slice AX us.length cX) := (blk_cell KX.out 1).trans rfl
          have z0 : (w7.alloc (.cells #[.int .i64 h, .slice AV ys.length cV] 27)).cell? ⟨w7.heap.size, 0, none⟩ = some (.int .i64 h) := (blk_cell KZ.out 0).trans rfl
          have z1 : (w7.alloc (.cells #[.int .i64 h, .slice AV ys.length cV] 27)).cell? ⟨w7.heap.size, 1, none⟩ = some (.slice AV ys.length cV) := (blk_cell KZ.out 1).trans rfl
          go_wp2_with (fail)
          go_loopw [15, 16] (fun v15 v16 wz => ∃ i : Nat, i ≤ zs.length ∧ v16 = .int .i64 (i : Int) ∧ v15 = .int .i64 (goneAt i0 i gg) ∧ Aside0 (Below (w7.alloc (.cells #[.int .i64 h, .slice AV ys.length cV] 27)).heap.size (w7.alloc (.cells #[.int .i64 h, .slice AV ys.length cV] 27)) wz)) (fun _ v _ => zs.length - (intOf v).toNat)
          case atStart => exact ⟨0, Nat.zero_le _, rfl, by unfold goneAt; rw [if_neg (by omega)], ⟨Below.refl _ _⟩⟩
          case round =>
            obtain ⟨i, hi, rfl, rfl, hbl⟩ := hrel
            have u1 := pw_cell_below hbl.out y1
            have t1 := pw_cell_below hbl.out z1
            by_cases hil : i < zs.length
            · have d0 : decide ((i : Int) < (zs.length : Int)) = true := decide_eq_true (by omega)
              have hiy : i < ys.length := by rw [HYL.out]; exact hil
              have d1 : decide ((i : Int) < (ys.length : Int)) = true := decide_eq_true (by omega)
              obtain ⟨ad, Ar, cr, rfl, hx, hcr, hCr⟩ := Yn.C_rows (Kd.C_below (Kd.S_reads' (d := dW) Y.out).2.2 hbl.out) i hil
              obtain ⟨ad2, Ar2, cr2, rfl, hx2, hcr2, -⟩ := Yn.C_rows (Kd.C_below (Kd.S_reads' (d := dW) ZS.out).2.2 hbl.out) i hiy
              have f1 : (0 ≤ (i : Int)) = True := eq_true (by omega)
              have f2 : ((i : Int) < (zs.length : Int)) = True := eq_true (by omega)
              have f3 : ((i : Int) < (ys.length : Int)) = True := eq_true (by omega)
              obtain ⟨a, ha⟩ : ∃ a, a = zs[i].length := ⟨_, rfl⟩
              obtain ⟨b, hb⟩ : ∃ b, b = ys[i].length := ⟨_, rfl⟩
              rw [← ha] at hx hcr
              rw [← hb] at hx2 hcr2
              have HAB := Aside0.mk (And.intro ha hb)
              have HIL := Aside0.mk hil
              have ha4 : a ≤ 4 := by rw [ha]; exact (take_parts Z.out.1).2.2.1 _ (List.getElem_mem hil)
              obtain ⟨q, hq⟩ : ∃ q, wrap64 ((a : Int) - 1) = q := ⟨_, rfl⟩
              have hqv : q = (a : Int) - 1 := by rw [← hq]; unfold wrap64; omega
              have hqw : IntKind.i64.wrap ((a : Int) - 1) = q := by rw [i64_w]; exact hq
              have hz4 := (take_parts Z.out.1).1
              have HMS := Aside0.mk (show zs.length - ((i : Int) + 1).toNat < zs.length - (i : Int).toNat by omega)
              have HNX := Aside0.mk (show (Value.int .i64 ((i : Int) + 1)) = .int .i64 ((i + 1 : Nat) : Int) by congr 1)
              have HW := Aside0.mk (show wrap64 ((i : Int) + 1) = ((i + 1 : Nat) : Int) by unfold wrap64; omega)
              by_cases hii : i = i0
              · have hba : (b : Int) = q := by
                  have h1 := HYS.out
                  rw [hb, hqv, ha]
                  subst hii
                  have h2 : ys[i] = zs[i].take (zs[i].length - 1) := by
                    have h3 : ys[i]? = some (zs[i].take (zs[i].length - 1)) := by rw [h1, List.getElem?_set_self hil]
                    rw [List.getElem?_eq_getElem hiy] at h3
                    injection h3
                  rw [h2, List.length_take]
                  have := HP0.out
                  omega
                have e3 : ((b : Int) == q) = true := beq_iff_eq.2 hba
                have hp : 0 < a := by rw [ha]; have := HP0.out; subst hii; exact this
                have hgv : rd zs[i] q = gg := by rw [hqv, ha]; have := HG.out.1; subst hii; exact this.symm
                have HII := Aside0.mk (show goneAt i0 (i + 1) gg = gg by rw [← hii, goneAt_eq])
                obtain ⟨gm, rfl, hgc⟩ := Kd.at_int hCr q (by omega) (by omega)
                rw [hgv] at hgc
                have g1 : (0 ≤ q) = True := eq_true (by omega)
                have g2 : (q < (a : Int)) = True := eq_true (by omega)
                clear hba ha hb hcr hcr2 hqv ha4 hii hp hgv hCr
                go_wp2_with (fail)
                go_quiet (fail)
                go_wp2_with (fail)
                go_quiet (fail)
                go_wp2_with (fail)
                go_roundw
                case rel => exact ⟨i + 1, by have := HIL.out; omega, HNX.out, by rw [HII.out], ⟨pw_below_drewN hbl.out _⟩⟩
                case measure => exact HMS.out
              · have hba : b = a := by
                  have h1 := HYS.out
                  rw [hb, ha]
                  have h3 : ys[i]? = some zs[i] := by rw [h1, List.getElem?_set_ne (fun h => hii h.symm), List.getElem?_eq_getElem hil]
                  rw [List.getElem?_eq_getElem hiy] at h3
                  injection h3 with h3
                  rw [h3]
                have e3 : ((b : Int) == q) = false := beq_eq_false_iff_ne.2 (by omega)
                have HII := Aside0.mk hii
                clear hba ha hb hcr hcr2 hqv ha4 hii
                go_wp2_with (fail)
                go_quiet (fail)
                go_wp2_with (fail)
                go_roundw
                case rel => exact ⟨i + 1, by have := HIL.out; omega, HNX.out, by rw [goneAt_ne gg HII.out], ⟨pw_below_drewN hbl.out nq⟩⟩
                case measure => exact HMS.out
            · have d0 : decide ((i : Int) < (zs.length : Int)) = false := decide_eq_false (by omega)
              have hgo : goneAt i0 i gg = gg := by unfold goneAt; rw [if_pos (by omega)]
              rw [hgo]
              clear hgo
              have Y := Aside0.mk (Kd.S_below Y.out hbl.out)
              have X := Aside0.mk (Kd.S_below X.out hbl.out)
              have ZS := Aside0.mk (Kd.S_below ZS.out hbl.out)
              have KY := Aside0.mk (blk_below KY.out hbl.out)
              have KX := Aside0.mk (blk_below KX.out hbl.out)
              have KZ := Aside0.mk (blk_below KZ.out hbl.out)
              have HB := Aside0.mk (below_step HB.out hbl.out)
              have hlt3 := Z.out.2.2.2 gg HG.out.2.1
              have c3 : decide (gg ≤ last) = false := decide_eq_false (by omega)
              clear hlt3 hbl
              obtain ⟨my, hmy⟩ : ∃ my, my = ys.flatten.length := ⟨_, rfl⟩
              obtain ⟨mz, hmz⟩ : ∃ mz, mz = zs.flatten.length := ⟨_, rfl⟩
              have hyz : my + 1 = mz := by rw [hmy, hmz]; exact HT.out.2.1
              have HL2 := Aside0.mk (show laws_b10Lots.f 2000000 h ys = some (my : Int) by rw [hmy]; obtain ⟨q1, q2, q3, q4, q5, -⟩ := valid_parts HT.out.1; exact lots_eq h ys (by omega) (fun r hr => by have := q5 r hr; omega))
              have HL1 := Aside0.mk (show laws_b10Lots.f 2000000 h zs = some (mz : Int) by rw [hmz]; obtain ⟨q1, q2, q3, q4, q5, -⟩ := valid_parts Z.out.1; exact lots_eq h zs (by omega) (fun r hr => by have := q5 r hr; omega))
              have hmn : mz + j = n := by rw [hmz]; exact Z.out.2.1
              obtain ⟨mq, hmq⟩ : ∃ mq, wrap64 ((mz : Int) - 1) = mq := ⟨_, rfl⟩
              have hmqv : mq = (my : Int) := by rw [← hmq]; unfold wrap64; omega
              have hmqw : IntKind.i64.wrap ((mz : Int) - 1) = mq := by rw [i64_w]; exact hmq
              have e5 : ((my : Int) == mq) = true := beq_iff_eq.2 hmqv.symm
              have e6 : ((my : Int) != mq) = false := by unfold bne; rw [e5]; rfl
              have HNJ := Aside0.mk (show (Value.int .i64 ((j : Int) + 1)) = .int .i64 ((j + 1 : Nat) : Int) by congr 1)
              have HMO := Aside0.mk (show n - ((j : Int) + 1).toNat < n - (j : Int).toNat by have := HJ.out; omega)
              have HZJ := Aside0.mk (show ys.flatten.length + (j + 1) = n by omega)
              clear hmy hmz hmqv
              go_wp2_with (fail)
              clear u1 t1
              refine start_ (n := 11) (S := fun w' => w'.cell? ⟨w7.heap.size, 0, none⟩ = some (.int .i64 h) ∧ w'.cell? ⟨w7.heap.size, 1, none⟩ = some (.slice AV ys.length cV) ∧ w'.cell? ⟨w2.heap.size, 0, none⟩ = some (.int .i64 h) ∧ w'.cell? ⟨w2.heap.size, 1, none⟩ = some (.slice AZ zs.length cZ)) (ds := []) #[false, false, false, false, false, false, false, false, false, false, false] (by kernel_rfl) rfl rfl ⟨(blk_cell KZ.out 0).trans rfl, (blk_cell KZ.out 1).trans rfl, (blk_cell KY.out 0).trans rfl, (blk_cell KY.out 1).trans rfl⟩ (fun hHeld => ?_)
              have hV : Below wr.heap.size wr wr.drew := below_drew (Below.refl _ _)
              generalize hw : wr.drew = V at hV hHeld ⊢
              clear hw
              have Y := Aside0.mk (Kd.S_below Y.out hV)
              have X := Aside0.mk (Kd.S_below X.out hV)
              have ZS := Aside0.mk (Kd.S_below ZS.out hV)
              have KY := Aside0.mk (blk_below KY.out hV)
              have KX := Aside0.mk (blk_below KX.out hV)
              have KZ := Aside0.mk (blk_below KZ.out hV)
              have HB := Aside0.mk (below_step HB.out hV)
              clear hV
              refine pure_ (i := 0) (N := some 111) (v := ?_) (a' := ?_) #[true, false, false, false, false, false, false, false, false, false, false] rfl rfl (by kernel_rfl) (fun _ _ _ h => h) (Or.inl ⟨by rfl, ?_⟩) ?_ ?_
              rotate_left
              · intro w'
                go_simp
                with_reducible rfl
              rotate_left
              · simp only [Act.put, List.setIfInBounds_toArray, List.set_cons_zero, List.set_cons_succ, i64_w, i32_w]
                rfl
              refine pure_ (i := 1) (N := some 112) (v := ?_) (a' := ?_) #[true, true, false, false, false, false, false, false, false, false, false] rfl rfl (by kernel_rfl) (fun _ _ _ h => h) (Or.inl ⟨by rfl, ?_⟩) ?_ ?_
              rotate_left
              · intro w'
                go_simp
                with_reducible rfl
              rotate_left
              · simp only [Act.put, List.setIfInBounds_toArray, List.set_cons_zero, List.set_cons_succ, i64_w, i32_w]
                rfl
              refine pure_ (i := 2) (N := some 113) (v := ?_) (a' := ?_) #[true, true, true, false, false, false, false, false, false, false, false] rfl rfl (by kernel_rfl) (fun _ _ _ h => h) (Or.inl ⟨by rfl, ?_⟩) ?_ ?_
              rotate_left
              · intro w'
                go_simp
                with_reducible rfl
              rotate_left
              · simp only [Act.put, List.setIfInBounds_toArray, List.set_cons_zero, List.set_cons_succ, i64_w, i32_w]
                rfl
              refine pure_ (i := 3) (N := some 114) (v := ?_) (a' := ?_) #[true, true, true, true, false, false, false, false, false, false, false] rfl rfl (by kernel_rfl) (fun _ _ _ h => h) (Or.inl ⟨by rfl, ?_⟩) ?_ ?_
              rotate_left
              · intro w'
                go_simp
                with_reducible rfl
              rotate_left
              · simp only [Act.put, List.setIfInBounds_toArray, List.set_cons_zero, List.set_cons_succ, i64_w, i32_w]
                rfl
              refine take_ (i := 4) (N := some 115) (v := ?_) (a' := ?_) #[true, true, true, true, true, false, false, false, false, false, false] rfl rfl (by kernel_rfl) (fun _ _ _ h => h) (Or.inl ⟨by rfl, ?_⟩) hHeld ?_ ?_
              rotate_left
              · rintro w' ⟨s0, s1, s2, s3⟩
                go_simp
                with_reducible rfl
              rotate_left
              · simp only [Act.put, List.setIfInBounds_toArray, List.set_cons_zero, List.set_cons_succ, i64_w, i32_w]
                rfl
              refine take_ (i := 6) (N := some 117) (v := ?_) (a' := ?_) #[true, true, true, true, true, false, true, false, false, false, false] rfl rfl (by kernel_rfl) (fun _ _ _ h => h) (Or.inl ⟨by rfl, ?_⟩) hHeld ?_ ?_
              rotate_left
              · rintro w' ⟨s0, s1, s2, s3⟩
                go_simp
                with_reducible rfl
              rotate_left
              · simp only [Act.put, List.setIfInBounds_toArray, List.set_cons_zero, List.set_cons_succ, i64_w, i32_w]
                rfl
              refine one_ (i := 5) (N := some 116) #[true, true, true, true, true, true, true, false, false, false, false] rfl rfl (by kernel_rfl) (by decide) (fun K_ hK => ?_)
              refine goes_ Try.func25 (by kernel_rfl) rfl #[.agg #[.int .i64 h, .slice AV ys.length cV]] (by rfl) rfl rfl (by (try simp only [List.map_toArray, List.map_cons, List.map_nil]); first | done | rfl) ?_
              refine (laws_b10Lots.calls 2000000 h AV cV ys (my : Int) V (Kd.S_reads' (d := dW) ZS.out).2.2 (Kd.S_reads' (d := dW) ZS.out).2.1 HL2.out).mono ?_
              rintro e w8 ⟨rfl, hb⟩
              refine ⟨_, rfl, ?_⟩
              have Y := Aside0.mk (Kd.S_below Y.out hb)
              have X := Aside0.mk (Kd.S_below X.out hb)
              have ZS := Aside0.mk (Kd.S_below ZS.out hb)
              have KY := Aside0.mk (blk_below KY.out hb)
              have KX := Aside0.mk (blk_below KX.out hb)
              have KZ := Aside0.mk (blk_below KZ.out hb)
              have HB := Aside0.mk (below_step HB.out hb)
              obtain ⟨t0, t1, t2, t3⟩ := hHeld
              refine hK.out _ _ ⟨pw_cell_below hb t0, pw_cell_below hb t1, pw_cell_below hb t2, pw_cell_below hb t3⟩ (fun hHeld => ?_)
              clear hK K_ t0 t1 t2 t3 hb
              refine norm_ (a' := ?_) ?_ ?_
              rotate_left
              · show Act.put _ (some 116) _ = _
                simp only [Act.put, List.setIfInBounds_toArray, List.set_cons_zero, List.set_cons_succ, i64_w, i32_w]
                rfl
              refine one_ (i := 7) (N := some 118) #[true, true, true, true, true, true, true, true, false, false, false] rfl rfl (by kernel_rfl) (by decide) (fun K_ hK => ?_)
              refine goes_ Try.func25 (by kernel_rfl) rfl #[.agg #[.int .i64 h, .slice AZ zs.length cZ]] (by rfl) rfl rfl (by (try simp only [List.map_toArray, List.map_cons, List.map_nil]); first | done | rfl) ?_
              refine (laws_b10Lots.calls 2000000 h AZ cZ zs (mz : Int) w8 (Kd.S_reads' (d := dW) Y.out).2.2 (Kd.S_reads' (d := dW) Y.out).2.1 HL1.out).mono ?_
              rintro e w9 ⟨rfl, hb⟩
              refine ⟨_, rfl, ?_⟩
              have Y := Aside0.mk (Kd.S_below Y.out hb)
              have X := Aside0.mk (Kd.S_below X.out hb)
              have ZS := Aside0.mk (Kd.S_below ZS.out hb)
              have KY := Aside0.mk (blk_below KY.out hb)
              have KX := Aside0.mk (blk_below KX.out hb)
              have KZ := Aside0.mk (blk_below KZ.out hb)
              have HB := Aside0.mk (below_step HB.out hb)
              obtain ⟨t0, t1, t2, t3⟩ := hHeld
              refine hK.out _ _ ⟨pw_cell_below hb t0, pw_cell_below hb t1, pw_cell_below hb t2, pw_cell_below hb t3⟩ (fun hHeld => ?_)
              clear hK K_ t0 t1 t2 t3 hb
              refine norm_ (a' := ?_) ?_ ?_
              rotate_left
              · show Act.put _ (some 118) _ = _
                simp only [Act.put, List.setIfInBounds_toArray, List.set_cons_zero, List.set_cons_succ, i64_w, i32_w]
                rfl
              refine pure_ (i := 8) (N := some 119) (v := ?_) (a' := ?_) #[true, true, true, true, true, true, true, true, true, false, false] rfl rfl (by kernel_rfl) (fun _ _ _ h => h) (Or.inl ⟨by rfl, ?_⟩) ?_ ?_
              rotate_left
              · intro w'
                go_simp
                with_reducible rfl
              rotate_left
              · simp only [Act.put, List.setIfInBounds_toArray, List.set_cons_zero, List.set_cons_succ, i64_w, i32_w]
                rfl
              refine pure_ (i := 9) (N := some 120) (v := ?_) (a' := ?_) #[true, true, true, true, true, true, true, true, true, true, false] rfl rfl (by kernel_rfl) (fun _ _ _ h => h) (Or.inl ⟨by rfl, ?_⟩) ?_ ?_
              rotate_left
              · intro w'
                go_simp
                with_reducible rfl
              rotate_left
              · simp only [Act.put, List.setIfInBounds_toArray, List.set_cons_zero, List.set_cons_succ, i64_w, i32_w]
                rfl
              refine pure_ (i := 10) (N := some 121) (v := ?_) (a' := ?_) #[true, true, true, true, true, true, true, true, true, true, true] rfl rfl (by kernel_rfl) (fun _ _ _ h => h) (Or.inl ⟨by rfl, ?_⟩) ?_ ?_
              rotate_left
              · intro w'
                go_simp
                with_reducible rfl
              rotate_left
              · simp only [Act.put, List.setIfInBounds_toArray, List.set_cons_zero, List.set_cons_succ, i64_w, i32_w]
                rfl
              refine done_ (by kernel_rfl) ?_
              have y0 : w9.cell? ⟨w2.heap.size, 0, none⟩ = some (.int .i64 h) := (blk_cell KY.out 0).trans rfl
              have y1 : w9.cell? ⟨w2.heap.size, 1, none⟩ = some (.slice AZ zs.length cZ) := (blk_cell KY.out 1).trans rfl
              have z0 : w9.cell? ⟨w7.heap.size, 0, none⟩ = some (.int .i64 h) := (blk_cell KZ.out 0).trans rfl
              have z1 : w9.cell? ⟨w7.heap.size, 1, none⟩ = some (.slice AV ys.length cV) := (blk_cell KZ.out 1).trans rfl
              have g2 := blk_frozen KY.out 0
              have g3 := blk_frozen KY.out 1
              go_wp2_with (fail)
              go_roundw
              case rel =>
                refine ⟨j + 1, ys, gg, AV, cV, by have := HJ.out; omega, HNJ.out, rfl, ⟨HT.out.1, HZJ.out, by rw [← HT.out.2.2]; exact Z.out.2.2.1, HG.out.2.2⟩, ⟨?_⟩, ⟨?_⟩, ⟨blk_put (blk_put KY.out 0 (.int .i64 h) rfl) 1 (.slice AV ys.length cV) rfl⟩, ⟨?_⟩, ⟨?_⟩⟩
                · exact Kd.S_far (p := ⟨w2.heap.size, 1, none⟩) (Kd.S_far (p := ⟨w2.heap.size, 0, none⟩) ZS.out (fun k hk => hk) _) (fun k hk => hk) _
                · exact Kd.S_far (p := ⟨w2.heap.size, 1, none⟩) (Kd.S_far (p := ⟨w2.heap.size, 0, none⟩) X.out (fun k hk => hk.1) _) (fun k hk => hk.1) _
                · rw [Below.heap_setCell _ _ _ _ (show w4.heap.size ≠ w2.heap.size by have := HLY.out; omega), Below.heap_setCell _ _ _ _ (show w4.heap.size ≠ w2.heap.size by have := HLY.out; omega)]; exact KX.out
                · exact (HB.out.setCell (p := ⟨w2.heap.size, 0, none⟩) HZ.out _).setCell (p := ⟨w2.heap.size, 1, none⟩) HZ.out _
              case measure => exact HMO.out
      · have c0 : decide ((j : Int) < (n : Int)) = false := decide_eq_false (by omega)
        have HEQ := Aside0.mk (show us = zs by rw [← Z.out.2.2.1, clear_none (take_empty (by have := Z.out.2.1; omega))])
        have y0 : wr.cell? ⟨w2.heap.size, 0, none⟩ = some (.int .i64 h) := (blk_cell KY.out 0).trans rfl
        have y1 : wr.cell? ⟨w2.heap.size, 1, none⟩ = some (.slice AZ zs.length cZ) := (blk_cell KY.out 1).trans rfl
        have x0 : wr.cell? ⟨w4.heap.size, 0, none⟩ = some (.int .i64 h) := (blk_cell KX.out 0).trans rfl
        have x1 : wr.cell? ⟨w4.heap.size, 1, none⟩ = some (.slice AX us.length cX) := (blk_cell KX.out 1).trans rfl
        go_wp2_with (fail)
        refine (laws_b10Yards.calls 2000000 h AX cX us h AZ cZ zs true _ (Kd.S_reads' (d := dW) X.out).2.2 (Kd.S_reads' (d := dW) X.out).2.1 (Kd.S_reads' (d := dW) Y.out).2.2 (Kd.S_reads' (d := dW) Y.out).2.1 (by rw [← HEQ.out]; exact yards_eq h us HSU.out.1 HSU.out.2)).mono ?_
        rintro e w8 ⟨rfl, hb⟩
        have HB := Aside0.mk (below_step HB.out hb)
        clear hb y0 y1 x0 x1
        go_wp2_with (fail)
        go_ret
        exact ⟨rfl, HB.out⟩
theorem long (A : Option Addr) (c : Nat) (l : List Int) (A2 : Option Addr) (c2 : Nat) (l2 : List Int) (hlong : laws_b10Long.f l l2 = some true) (w : World) (hr : Kd.C (Kd.int .u8) w A l.length l) (hc : l.length ≤ c) (hr2 : Kd.C (Kd.int .u8) w A2 l2.length l2) (hc2 : l2.length ≤ c2) :
    Calls Try.prog 5 #[.slice A l.length c, .slice A2 l2.length c2] w fun e w' => e = .returned (.bool true) ∧ Below w.heap.size w w' := by
  have HR := Aside0.mk hr
  have HC := Aside0.mk hc
  have HR2 := Aside0.mk hr2
  have HC2 := Aside0.mk hc2
  have HLG := Aside0.mk hlong
  clear hr hc hr2 hc2 hlong
  go_enter Try.func5, Try.ntmps5
  go_wp2_with (fail)
  refine (laws_b10Long.calls A c l A2 c2 l2 true _ HR.out HC.out HR2.out HC2.out HLG.out).mono ?_
  rintro e w1 ⟨rfl, hd⟩
  have HB := Aside0.mk (Drawn0.below hd)
  clear hd
  go_wp2_with (fail)
  go_ret
  exact ⟨rfl, HB.out⟩
theorem calls (A : Option Addr) (c : Nat) (l : List Int) (A2 : Option Addr) (c2 : Nat) (l2 : List Int) (hb : ∀ b ∈ l, 0 ≤ b ∧ b ≤ 255) (w : World) (hr : Kd.C (Kd.int .u8) w A l.length l) (hc : l.length ≤ c) (hr2 : Kd.C (Kd.int .u8) w A2 l2.length l2) (hc2 : l2.length ≤ c2) :
    Calls Try.prog 5 #[.slice A l.length c, .slice A2 l2.length c2] w fun e w' => e = .returned (.bool true) ∧ Below w.heap.size w w' := by
  cases hq : laws_b10Long.f l l2 with
  | none => exact absurd hq (by unfold laws_b10Long.f; split <;> simp)
  | some b =>
    cases b with
    | true => exact long A c l A2 c2 l2 hq w hr hc hr2 hc2
    | false =>
      obtain ⟨h, xs, hd, hv⟩ := PuB.draw_ok l hb
      exact walk A c l A2 c2 l2 h xs hq hd hv w hr hc hr2 hc2
end Go.Proofs.Ytibaiaenfeppcaa.LTK

