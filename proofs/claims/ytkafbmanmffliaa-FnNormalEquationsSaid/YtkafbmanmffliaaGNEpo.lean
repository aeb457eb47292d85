/- Parts of the proof that the law of this seat holds: Dr, Q1, LwNE. -/
import Derived.Test.YtkafbmanmffliaaGNEpn
import Derived.Test.YtkafbmanmffliaaGNEpk
import Derived.Test.YtkafbmanmffliaaGNEpa
import Derived.Test.YtkafbmanmffliaaGNEpm
set_option linter.unusedVariables false
set_option linter.unusedSimpArgs false
/- The laws' surveys: valid and connected. -/
namespace Go.Proofs.Ytkafbmanmffliaa.Dr
open Go Go.RowKit YtkafbmanmffliaaW.PrintWords YtkafbmanmffliaaW.PrintLast YtkafbmanmffliaaW.PrintMore Q Hc Hf Gd Ge Gi Dw Dg Ds
set_option maxHeartbeats 4000000 in
theorem whole_any (g : Nat) (pts : Int) (A : Option Addr) (c : Nat) (l : List S32) (w : World) (hb : w.heap[g]? = some (.cells #[.int .i64 pts, .slice A l.length c] 26 (0, 0))) (hr : Kd.C k32 w A l.length l) :
  Calls Try.prog 58 #[.pointer (some ⟨g, 0, none⟩)] w fun e w' => e = .returned (.bool (Gm.connB pts l)) ∧ Below w.heap.size w w' := by
 have hc0 := Hb.l10Is_any g pts A c l w hb hr
 have HR := Aside0.mk hr
 have HB := Aside0.mk hb
 clear hr hb
 by_cases hv : Hb.surveyB pts l = true
 ·have HC := Aside0.mk (show Gm.connB pts l = (Hd.treeS pts l).part.all (· == 0) by unfold Gm.connB; rw [hv, Bool.true_and])
  have HV := Aside0.mk hv
  rw [hv] at hc0
  rw [HC.out]
  clear hv
  go_enter Try.func58, Try.ntmps58
  go_wp2_with (fail)
  refine hc0.mono ?_
  rintro e w1 ⟨rfl, hb1⟩
  have hz := Hd.l10Tree_any g pts A c l w1 (blk_below HB.out hb1) (Kd.C_below HR.out hb1) HV.out
  have HB1 := Aside0.mk hb1
  clear hc0 hb1
  go_wp2_with (fail)
  refine hz.mono ?_
  rintro e w2 ⟨v0, v1, ok, rfl, hok, -, -, -, hb2⟩
  have HB2 := Aside0.mk (below_step HB1.out hb2)
  clear hz hb2
  go_wp2_with (fail)
  go_ret
  exact ⟨rfl, HB2.out⟩
 ·have hv' : Hb.surveyB pts l = false := by simpa using hv
  have HC := Aside0.mk (show Gm.connB pts l = false by unfold Gm.connB; rw [hv', Bool.false_and])
  rw [hv'] at hc0
  rw [HC.out]
  clear hv hv'
  go_enter Try.func58, Try.ntmps58
  go_wp2_with (fail)
  refine hc0.mono ?_
  rintro e w1 ⟨rfl, hb1⟩
  have HB1 := Aside0.mk hb1
  clear hc0 hb1
  go_wp2_with (fail)
  go_ret
  exact ⟨rfl, HB1.out⟩
def star (f : Nat → Int) (x : Int) (m : Nat) : List S32 := (List.range m).map fun j : Nat => ⟨0, (j : Int) + 1, f (j + 1), x⟩
theorem star_len (f : Nat → Int) (x : Int) (m : Nat) : (star f x m).length = m := by simp [star]
theorem star_succ (f : Nat → Int) (x : Int) (m : Nat) : star f x (m + 1) = star f x m ++ [⟨0, (m : Int) + 1, f (m + 1), x⟩] := by simp [star, List.range_succ]
theorem star_part (f : Nat → Int) (x : Int) (q : Nat) (h2 : 2 ≤ q) (h5 : q ≤ 5) : (Hd.treeS (q : Int) (star f x (q - 1))).part.all (· == 0) = true := by
 have hq : q = 2 ∨ q = 3 ∨ q = 4 ∨ q = 5 := by omega
 rcases hq with rfl | rfl | rfl | rfl <;> rfl
theorem star_conn (f : Nat → Int) (x : Int) (q : Nat) (h2 : 2 ≤ q) (h5 : q ≤ 5) (hf : ∀ j, -100 ≤ f j ∧ f j ≤ 100) (hx : 1 ≤ x) (hx3 : x ≤ 3) : Gm.connB (q : Int) (star f x (q - 1)) = true := by
 unfold Gm.connB
 rw [star_part f x q h2 h5, Bool.and_true]
 unfold Hb.surveyB
 rw [star_len]
 simp only [Bool.and_eq_true, decide_eq_true_eq, List.all_eq_true]
 refine ⟨⟨by unfold Ha.inB; simp; omega, by omega⟩, fun s hs => ?_⟩
 obtain ⟨j, hj, rfl⟩ := List.mem_map.1 hs
 have hj := List.mem_range.1 hj
 have hfj := hf (j + 1)
 have hw : wrap64 ((q : Int) - 1) = q - 1 := wrap_id (by omega) (by omega)
 unfold Hb.sightB
 rw [hw]
 simp [Ha.inB]
 omega
structure Sk (w wz : World) (bv : Nat) (p : Int) (v : Value) (l : List S32) : Prop where
 r0 : wz.heap[w.heap.size]? = some (.cells #[.int .i64 0, .slice none 0 0] 26 (0, 0))
 vb : wz.heap[bv]? = some (.cells #[.int .i64 p, v] 26 (0, 0))
 vg : w.heap.size < bv
 ts : TS w.heap.size wz v l
 be : Below w.heap.size w wz
section
variable {w wz w1 w2 : World} {bv cv q : Nat} {p : Int} {v v1 : Value} {l : List S32} {s : S32}
theorem Sk.below (h : Sk w wz bv p v l) (hb : Below wz.heap.size wz w1) : Sk w w1 bv p v l :=
 ⟨blk_below h.r0 hb, blk_below h.vb hb, h.vg, Kd.R_below h.ts hb, below_step h.be hb⟩
theorem Sk.push (h : Sk w wz bv p v l) (h1 : TS w.heap.size w2 v1 (l ++ [s])) (hg : wz.grownBy w2 v.ownBlock) : Sk w (w2.setCell ⟨bv, 1, none⟩ v1) bv p v1 (l ++ [s]) := by
 have g2 := h.vg
 have vb := blk_grown h.vb hg (Kd.R_ne h.ts h.vb (by decide))
 have hbe : Below w.heap.size w w2 := by
  cases hv : v.ownBlock with
  | none => rw [hv] at hg; exact below_step h.be ⟨hg.os, hg.tape, hg.output, hg.size, fun k hk => hg.block k hk (by simp)⟩
  | some b => rw [hv] at hg; exact below_grownB h.be (Nat.le_refl _) hg ((Kd.R_bound h.ts).1 b hv).2.1
 exact ⟨blk_far (blk_grown h.r0 hg (Kd.R_ne h.ts h.r0 (by decide))) (by show w.heap.size ≠ bv; omega) _, blk_put vb 1 v1 rfl, g2, Kd.R_set h1 vb (by decide) 1 v1, hbe.setCell (p := ⟨bv, 1, none⟩) (by show w.heap.size ≤ bv; omega) _⟩
theorem Sk.put (h : Sk w wz bv p v l) (l1 : List S32) (h1 : TS w.heap.size wz v1 l1) : Sk w (wz.setCell ⟨bv, 1, none⟩ v1) bv p v1 l1 := by
 have g2 := h.vg
 exact ⟨blk_far h.r0 (by show w.heap.size ≠ bv; omega) _, blk_put h.vb 1 v1 rfl, g2, Kd.R_set h1 h.vb (by decide) 1 v1, h.be.setCell (p := ⟨bv, 1, none⟩) (by show w.heap.size ≤ bv; omega) _⟩
theorem Sk.fin {A : Option Addr} (h : Sk w wz bv (q : Int) (.slice A l.length cv) l) :
  ((wz.setCell ⟨w.heap.size, 0, none⟩ (.int .i64 (q : Int))).setCell ⟨w.heap.size, 1, none⟩ (.slice A l.length cv)).heap[w.heap.size]? = some (.cells #[.int .i64 (q : Int), .slice A l.length cv] 26 (0, 0)) ∧
  TS w.heap.size ((wz.setCell ⟨w.heap.size, 0, none⟩ (.int .i64 (q : Int))).setCell ⟨w.heap.size, 1, none⟩ (.slice A l.length cv)) (.slice A l.length cv) l ∧
  Below w.heap.size w ((wz.setCell ⟨w.heap.size, 0, none⟩ (.int .i64 (q : Int))).setCell ⟨w.heap.size, 1, none⟩ (.slice A l.length cv)) :=
 ⟨blk_put (blk_put h.r0 0 (.int .i64 (q : Int)) rfl) 1 (.slice A l.length cv) rfl,
  Kd.R_set (Kd.R_set h.ts h.r0 (by decide) 0 (.int .i64 (q : Int))) (blk_put h.r0 0 (.int .i64 (q : Int)) rfl) (by decide) 1 (.slice A l.length cv),
  (h.be.setCell (p := ⟨w.heap.size, 0, none⟩) (Nat.le_refl _) (.int .i64 (q : Int))).setCell (p := ⟨w.heap.size, 1, none⟩) (Nat.le_refl _) (.slice A l.length cv)⟩
theorem ts_nil (hB : w.heap.size ≤ w1.heap.size) : TS w.heap.size (w1.alloc (.cells #[] 32)) (.slice (some ⟨w1.heap.size, 0, none⟩) 0 0) [] := Kd.R_mono (tg_nil (w0 := w) (W := w) w1 hB hB) (fun _ _ => trivial)
end
def SurveyEnd (w : World) (e : Ending) (w' : World) : Prop := ∃ (p : Int) (l : List S32) (v : Value), e = .returned (.agg #[.int .i64 p, v]) ∧ Gm.connB p l = true ∧ TS w.heap.size w' v l ∧ Below w.heap.size w w'
set_option maxHeartbeats 8000000 in
set_option maxRecDepth 100000 in
theorem survey_any (code : List Int) (hb : ∀ b ∈ code, 0 ≤ b ∧ b ≤ 255) (A : Option Addr) (c : Nat) (w : World) (hr : Kd.C (Kd.int .u8) w A code.length code) (hc : code.length ≤ c) :
  Calls Try.prog 18 #[.slice A code.length c] w (SurveyEnd w) := by
 unfold SurveyEnd
 have hu26 := Try.underlying26
 have hu32 := Try.underlying32
 have hc0 := spec_l00From.calls A c code code 0 0 w (w.alloc R0) (below_alloc (Below.refl _ _) R0) hr hc rfl
 have B0 := Aside0.mk (blk_new w R0)
 have HBY := Aside0.mk hb
 clear hr hc hb
 go_enter Try.func18, Try.ntmps18
 go_wp2_with (fail)
 refine hc0.mono ?_
 rintro e w1 ⟨g, rfl, hI, hb1, hb2⟩
 have hsr : Sr w w1 g 0 := ⟨code, 0, 0, hI, HBY.out, Int.le_refl _, Int.le_refl _⟩
 have B1 := Aside0.mk (blk_below B0.out hb2)
 have hne : g ≠ w.heap.size := hsr.ne_blk B1.out (by decide)
 have hz := ok_any (by decide) hsr hb1
 have HB1 := Aside0.mk hb1
 clear hc0 hI hb1 hb2 B0 hsr
 go_wp2_with (fail)
 refine hz.mono ?_
 rintro e w2 ⟨q, l, v, rfl, hq2, hq5, hl8, hts, -, hb2, hk2⟩
 have hts2 : TS w.heap.size w2 v l := Kd.R_mono hts (fun _ _ => trivial)
 have B2 := hk2.blk B1.out (fun e => hne e.symm) (by simp)
 have hlt := blk_lt B2
 obtain ⟨A0, c0, rfl⟩ := Kd.R_slice hts2
 have HD := Aside0.mk (show Sk w (w2.alloc (.cells #[.int .i64 (q : Int), .slice A0 l.length c0] 26)) w2.heap.size q (.slice A0 l.length c0) l by
  have hbb := below_alloc (Below.refl w2.heap.size w2) (.cells #[.int .i64 (q : Int), .slice A0 l.length c0] 26)
  exact ⟨blk_below B2 hbb, blk_new w2 _, hlt, Kd.R_below hts2 hbb, below_step hb2 hbb⟩)
 have hw := whole_any w2.heap.size (q : Int) A0 c0 l _ HD.out.vb (Kd.R_reads' HD.out.ts).2.2
 obtain ⟨bv, hbv⟩ : ∃ bv, bv = w2.heap.size := ⟨_, rfl⟩
 clear hz hts hts2 hb2 hk2 B1 B2 hne hlt HB1
 go_wp2_with (fail)
 refine hw.mono ?_
 rintro e w3 ⟨rfl, hb3⟩
 have HD1 := Aside0.mk (HD.out.below hb3)
 rw [← hbv] at HD1 ⊢
 clear hb3 HD hw hbv
 obtain ⟨cb, hcb⟩ : ∃ cb, cb = Gm.connB (q : Int) l := ⟨_, rfl⟩
 rw [← hcb]
 have HCB := Aside0.mk hcb
 clear hcb
 cases cb with
 | true =>
  have HF := Aside0.mk HD1.out.fin
  have e1 : w3.cell? ⟨bv, 1, none⟩ = some (.slice A0 l.length c0) := (blk_cell HD1.out.vb 1).trans rfl
  have e0 : w3.cell? ⟨bv, 0, none⟩ = some (.int .i64 (q : Int)) := (blk_cell HD1.out.vb 0).trans rfl
  have r0 : w3.cell? ⟨w.heap.size, 0, none⟩ = some (.int .i64 0) := (blk_cell HD1.out.r0 0).trans rfl
  have r1 : w3.cell? ⟨w.heap.size, 1, none⟩ = some (.slice none 0 0) := (blk_cell HD1.out.r0 1).trans rfl
  have f0 := blk_frozen HD1.out.r0 0
  have f1 := blk_frozen HD1.out.r0 1
  go_wp2_with (fail)
  refine bodyPost_ret (results_cell_row rfl _ _ w.heap.size 26 #[.int .i64 (q : Int), .slice A0 l.length c0] (0, 0) _ rfl HF.out.1 hu26 rfl (by kernel_rfl)) rfl ?_
  exact ⟨q, l, _, rfl, HCB.out.symm, HF.out.2.1, HF.out.2.2⟩
 | false =>
  have HD2 := Aside0.mk ((HD1.out.below (below_alloc (Below.refl _ _) (.cells #[] 32))).put [] (ts_nil HD1.out.be.size))
  have e1 : w3.cell? ⟨bv, 1, none⟩ = some (.slice A0 l.length c0) := (blk_cell HD1.out.vb 1).trans rfl
  have f1 := blk_frozen HD1.out.vb 1
  have hlt := blk_lt HD1.out.vb
  rw [World.setCell_alloc_past _ _ _ _ hlt] at HD2
  clear HD1
  go_wp2_with (fail)
  clear e1 f1
  go_loopw [5] (fun v5 wz => ∃ (k : Nat) (v : Value), v5 = .int .i64 ((k : Int) + 1) ∧ k + 1 ≤ q ∧ Aside0 (Sk w wz bv q v (star (fun j => (j : Int)) 1 k))) (fun v _ => q - (intOf v).toNat)
  case atStart => exact ⟨0, _, rfl, by omega, HD2⟩
  case round =>
   clear HD2 hlt
   obtain ⟨k, v, rfl, hkq, HD⟩ := hrel
   obtain ⟨Av, cv, rfl⟩ := Kd.R_slice HD.out.ts
   have e0 : wr.cell? ⟨bv, 0, none⟩ = some (.int .i64 (q : Int)) := (blk_cell HD.out.vb 0).trans rfl
   have e1 : wr.cell? ⟨bv, 1, none⟩ = some (.slice Av (star (fun j => (j : Int)) 1 k).length cv) := (blk_cell HD.out.vb 1).trans rfl
   have hlen := star_len (fun j => (j : Int)) 1 k
   obtain ⟨ls, hls⟩ : ∃ ls, ls = star (fun j => (j : Int)) 1 k := ⟨_, rfl⟩
   have HS := Aside0.mk (show star (fun j => (j : Int)) 1 (k + 1) = star (fun j => (j : Int)) 1 k ++ [⟨0, (k : Int) + 1, (k : Int) + 1, 1⟩] from star_succ (fun j => (j : Int)) 1 k)
   rw [← hls] at HD e1 hlen HS
   have HLS := Aside0.mk hls
   have HLN := Aside0.mk (show (ls.length + 1) * 32 ≤ 140737488355328 by omega)
   clear hls hlen
   by_cases hlt : k + 1 < q
   ·have p1 : decide ((k : Int) + 1 < (q : Int)) = true := decide_eq_true (by omega)
    go_wp2_with ((with_reducible refine gate_builtin (b := .append) (xs := #[.tmp 21, .tmp 25]) rfl ?_); at_builtin; refine Kd.R_append k32 (w0 := w) w.heap.size rfl (.tmp 21) (.tmp 25) 24 32 (.agg #[.int .i64 0, .int .i64 0, .int .i64 0, .int .i64 0]) 32 rfl Try.underlying24 info32 rfl (by decide) (by decide) (.slice Av ls.length cv) ls ⟨0, (k : Int) + 1, (k : Int) + 1, 1⟩ [.int .i64 0, .int .i64 ((k : Int) + 1), .int .i64 ((k : Int) + 1), .int .i64 1] (fun _ => True) (fun _ => False) rfl rfl (k32_mkM _ _ _ _) (fun _ hk => hk.elim) (fun _ hk => trivial) HD.out.ts HD.out.be HD.out.be.size HLN.out ?_; intro v1 w5 h1 h2 h3 h4; obtain ⟨A1, c1, rfl⟩ := Kd.R_slice h1; have HD7 := Aside0.mk (HD.out.push h1 h3); have VB7 := blk_grown HD.out.vb h3 (Kd.R_ne HD.out.ts HD.out.vb (by decide)); have q1 : w5.cell? ⟨bv, 1, none⟩ = some (.slice Av ls.length cv) := (blk_cell VB7 1).trans rfl; have q2 := blk_frozen VB7 1; clear h1 h2 h3 h4 VB7 e0 e1)
    go_roundw
    case rel => exact ⟨k + 1, _, by go_num, by omega, ⟨by have h := HD7.out; rw [List.length_append, List.length_singleton] at h; rw [HS.out]; exact h⟩⟩
    case measure => simp [intOf]; omega
   ·have p1 : decide ((k : Int) + 1 < (q : Int)) = false := decide_eq_false (by omega)
    have hkq2 : k = q - 1 := by omega
    have hcn := star_conn (fun j => if j ≤ 100 then (j : Int) else 0) 1 q hq2 hq5 (fun j => by show -100 ≤ (if j ≤ 100 then (j : Int) else 0) ∧ (if j ≤ 100 then (j : Int) else 0) ≤ 100; split <;> omega) (by decide) (by decide)
    have HCN := Aside0.mk (show Gm.connB (q : Int) ls = true by
     rw [HLS.out, hkq2]
     have e : star (fun j => (j : Int)) 1 (q - 1) = star (fun j => if j ≤ 100 then (j : Int) else 0) 1 (q - 1) := by
      unfold star
      refine List.map_congr_left (fun j hj => ?_)
      have := List.mem_range.1 hj
      show (⟨0, (j : Int) + 1, ((j + 1 : Nat) : Int), 1⟩ : S32) = ⟨0, (j : Int) + 1, if j + 1 ≤ 100 then ((j + 1 : Nat) : Int) else 0, 1⟩
      rw [if_pos (by omega)]
     rw [e]
     exact hcn)
    have HF := Aside0.mk HD.out.fin
    have r0 : wr.cell? ⟨w.heap.size, 0, none⟩ = some (.int .i64 0) := (blk_cell HD.out.r0 0).trans rfl
    have r1 : wr.cell? ⟨w.heap.size, 1, none⟩ = some (.slice none 0 0) := (blk_cell HD.out.r0 1).trans rfl
    have f0 := blk_frozen HD.out.r0 0
    have f1 := blk_frozen HD.out.r0 1
    clear hkq2 hcn
    go_wp2_with (fail)
    refine bodyPost_ret (results_cell_row rfl _ _ w.heap.size 26 #[.int .i64 (q : Int), .slice Av ls.length cv] (0, 0) _ rfl HF.out.1 hu26 rfl (by kernel_rfl)) rfl ?_
    exact ⟨q, ls, _, rfl, HCN.out, HF.out.2.1, HF.out.2.2⟩
end Go.Proofs.Ytkafbmanmffliaa.Dr

namespace Go.Proofs.Ytkafbmanmffliaa.Q
open Go.RowKit YtkafbmanmffliaaW.PrintWords YtkafbmanmffliaaW.PrintLast YtkafbmanmffliaaW.PrintMore
attribute [local go_sem] max2_int min2_int max_two min_two max_three min_three max_four min_four
def laws_r8Long.f (l0 : List Int) (l1 : List Int) : Option (Bool) := if (l0.length : Int) > 48 then (some true) else (some (decide ((l1.length : Int) > 48)))
set_option maxHeartbeats 8000000 in
set_option maxRecDepth 100000 in
theorem laws_r8Long.calls (A0 : Option Addr) (c0 : Nat) (l0 : List Int) (A1 : Option Addr) (c1 : Nat) (l1 : List Int) (r : Bool) (w : World) (hr0 : Kd.C (Kd.int .u8) w A0 l0.length l0) (hc0 : l0.length ≤ c0) (hr1 : Kd.C (Kd.int .u8) w A1 l1.length l1) (hc1 : l1.length ≤ c1) (h : laws_r8Long.f l0 l1 = some r) :
  Calls Try.prog 17 #[.slice A0 l0.length c0, .slice A1 l1.length c1] w fun e w' => e = .returned (.bool r) ∧ Drawn0 w w' := by
 have HR0 := Aside0.mk hr0
 have HC0 := Aside0.mk hc0
 clear hr0 hc0
 have HR1 := Aside0.mk hr1
 have HC1 := Aside0.mk hc1
 clear hr1 hc1
 have H : (if (l0.length : Int) > 48 then (some true) else (some (decide ((l1.length : Int) > 48)))) = some r := h
 clear h
 by_cases c3 : (l0.length : Int) > 48
 ·rw [if_pos c3] at H
  have c3b0 : decide (48 < (l0.length : Int)) = true := decide_eq_true c3
  have c3b1 : decide (48 < l0.length) = true := decide_eq_true (by omega)
  clear c3
  obtain rfl := Option.some.inj H
  go_enter Try.func17, Try.ntmps17
  go_wp2
  go_ret
  exact ⟨by first | rfl | (simp; done) | (simp [*]; done), by repeat (first | exact Drawn0.refl _ | apply Drawn0.step)⟩
 ·rw [if_neg c3] at H
  have c3b0 : decide (48 < (l0.length : Int)) = false := decide_eq_false c3
  have c3b1 : decide (48 < l0.length) = false := decide_eq_false (by omega)
  clear c3
  obtain rfl := Option.some.inj H
  go_enter Try.func17, Try.ntmps17
  go_wp2
  go_ret
  exact ⟨by first | rfl | (simp; done) | (simp [*]; done), by repeat (first | exact Drawn0.refl _ | apply Drawn0.step)⟩
end Go.Proofs.Ytkafbmanmffliaa.Q

/- The law on the normal equations, walked. -/
namespace Go.Proofs.Ytkafbmanmffliaa.LwNE
open Go Go.RowKit YtkafbmanmffliaaW.PrintWords YtkafbmanmffliaaW.PrintLast YtkafbmanmffliaaW.PrintMore Q Bg Dd Gd Ge Hc Gs Gn Kc Ke Kf Gt Gv Ex Dr Pa
theorem long_any (A : Option Addr) (c : Nat) (code : List Int) (A2 : Option Addr) (c2 : Nat) (more : List Int) (w : World) (hr : Kd.C (Kd.int .u8) w A code.length code) (hc : code.length ≤ c) (hr2 : Kd.C (Kd.int .u8) w A2 more.length more) (hc2 : more.length ≤ c2) :
  ∃ b : Bool, (b = false → code.length ≤ 48 ∧ more.length ≤ 48) ∧ Calls Try.prog 17 #[.slice A code.length c, .slice A2 more.length c2] w fun e w' => e = .returned (.bool b) ∧ Drawn0 w w' := by
 by_cases h : (code.length : Int) > 48
 ·exact ⟨true, (fun e => by cases e), laws_r8Long.calls A c code A2 c2 more true w hr hc hr2 hc2 (by unfold laws_r8Long.f; rw [if_pos h])⟩
 ·exact ⟨decide ((more.length : Int) > 48), (fun e => by have := of_decide_eq_false e; omega), laws_r8Long.calls A c code A2 c2 more _ w hr hc hr2 hc2 (by unfold laws_r8Long.f; rw [if_neg h])⟩
theorem T.formn {B : Nat} {W : World} {v : Value} {xs : List Int} {m : Nat} (h : T B W v xs) (hm : xs.length = m) (h0 : 0 < m) : ∃ g cap, v = .slice (some ⟨g, 0, none⟩) m cap := by
 obtain ⟨g, cap, he, -, -⟩ := T.form h (by omega)
 exact ⟨g, cap, by rw [he, hm]⟩
set_option maxHeartbeats 8000000 in
set_option maxRecDepth 100000 in
theorem law_any (A : Option Addr) (c : Nat) (code : List Int) (A2 : Option Addr) (c2 : Nat) (more : List Int) (w : World) (hr : Kd.C (Kd.int .u8) w A code.length code) (hc : code.length ≤ c) (hb : ∀ b ∈ code, 0 ≤ b ∧ b ≤ 255) (hr2 : Kd.C (Kd.int .u8) w A2 more.length more) (hc2 : more.length ≤ c2) :
  Calls Try.prog 3 #[.slice A code.length c, .slice A2 more.length c2] w fun e w' => e = .returned (.bool true) ∧ Below w.heap.size w w' := by
 have hu26 := Try.underlying26
 have hu32 := Try.underlying32
 obtain ⟨lb, hlb, hz⟩ := long_any A c code A2 c2 more w hr hc hr2 hc2
 have HR := Aside0.mk hr
 have HC := Aside0.mk hc
 have HBY := Aside0.mk hb
 clear hr hc hb hr2 hc2 hlb
 cases lb with
 | true =>
  go_enter Try.func3, Try.ntmps3
  go_wp2_with (fail)
  refine hz.mono ?_
  rintro e w1 ⟨rfl, hd⟩
  have HB1 := Aside0.mk (below_drawn0 hd)
  clear hz hd
  go_wp2_with (fail)
  go_ret
  exact ⟨rfl, HB1.out⟩
 | false =>
  go_enter Try.func3, Try.ntmps3
  go_wp2_with (fail)
  refine hz.mono ?_
  rintro e w1 ⟨rfl, hd⟩
  have HB1 := Aside0.mk (below_drawn0 hd)
  have hs := survey_any code HBY.out A c w1 (Kd.C_below HR.out HB1.out) HC.out
  clear hz hd
  go_wp2_with (fail)
  refine hs.mono ?_
  rintro e w2 ⟨p, l, v, rfl, hcn, hts, hb2⟩
  obtain ⟨n, rfl⟩ := conn_nat hcn
  obtain ⟨m, hm⟩ : ∃ m : Nat, m = n + 1 := ⟨_, rfl⟩
  rw [show ((n : Int) + 1) = (m : Int) by omega]
  obtain ⟨Av, cv, rfl⟩ := Kd.R_slice hts
  have hn := conn_n hcn
  have HCN := Aside0.mk hcn
  have HM := Aside0.mk hm
  have HB2 := Aside0.mk (below_step HB1.out hb2)
  have hbx := below_alloc (Below.refl w2.heap.size w2) (.cells #[.int .i64 (m : Int), .slice Av l.length cv] 26)
  have X3 := Aside0.mk (blk_new w2 (.cells #[.int .i64 (m : Int), .slice Av l.length cv] 26))
  have L3 := Aside0.mk (Kd.C_below (Kd.R_reads' hts).2.2 hbx)
  have CV := Aside0.mk (Kd.R_reads' hts).2.1
  have HB3 := Aside0.mk (below_step HB2.out hbx)
  have hl8 := hn.2.2
  have hz := adjust_any ((n : Int) + 1) l Av cv _ L3.out CV.out (by omega)
  rw [hcn, show ((n : Int) + 1) = (m : Int) by omega] at hz
  clear hs hts hb2 hbx hcn hm hn HR HC HBY
  go_wp2_with (fail)
  refine hz.mono ?_
  rintro e w4 ⟨vH, rfl, tH, hb4⟩
  have hH := adjL_eq HCN.out
  have hm1 : ((n : Int) + 1) = (m : Int) := by have := HM.out; omega
  rw [hm1] at hH
  rw [hH.1] at tH
  rw [hH.2]
  obtain ⟨gh, ch, rfl⟩ := T.formn tH (m := m) (by simp [HM.out]) (by have := HM.out; omega)
  have TH := Aside0.mk tH
  have HB4 := Aside0.mk (below_step HB3.out hb4)
  have X4 := Aside0.mk (blk_below X3.out hb4)
  have L4 := Aside0.mk (Kd.C_below L3.out hb4)
  have e0 : w4.cell? ⟨w2.heap.size, 0, none⟩ = some (.int .i64 (m : Int)) := (blk_cell X4.out 0).trans rfl
  have e1 : w4.cell? ⟨w2.heap.size, 1, none⟩ = some (.slice Av l.length cv) := (blk_cell X4.out 1).trans rfl
  have hz2 := resid_any ((n : Int) + 1) l Av cv _ L4.out CV.out (by omega)
  rw [HCN.out, hm1] at hz2
  clear hz tH hb4 hH X3 L3 hm1
  go_wp2_with (fail)
  refine hz2.mono ?_
  rintro e w5 ⟨vE, rfl, tE, hb5⟩
  have hE := resL_eq HCN.out
  have hm1 : ((n : Int) + 1) = (m : Int) := by have := HM.out; omega
  rw [hm1] at hE
  rw [hE.1] at tE
  rw [hE.2]
  have HEL := Aside0.mk (show (l.map (ev n l)).length = l.length by simp)
  obtain ⟨AE, cE, rfl⟩ := Kd.R_slice tE
  rw [HEL.out] at tE ⊢
  have TE := Aside0.mk tE
  have TH5 := Aside0.mk (TH.out.below hb5)
  have HB5 := Aside0.mk (below_step HB4.out hb5)
  have X5 := Aside0.mk (blk_below X4.out hb5)
  have L5 := Aside0.mk (Kd.C_below L4.out hb5)
  have hden := hD_pos HCN.out
  have hlow := eD_pos HCN.out
  have HDEN := Aside0.mk hden
  have HLOW := Aside0.mk hlow
  obtain ⟨den, hdd⟩ : ∃ d, d = hD n l := ⟨_, rfl⟩
  obtain ⟨low, hll⟩ : ∃ d, d = eD n l := ⟨_, rfl⟩
  rw [← hdd, ← hll]
  rw [← hdd] at hden
  rw [← hll] at hlow
  have HDD := Aside0.mk hdd
  have HLL := Aside0.mk hll
  have t1 : decide (den < 1) = false := decide_eq_false (by omega)
  have t2 : decide (low < 1) = false := decide_eq_false (by omega)
  have t3 : ((m : Int) != (m : Int)) = false := by simp
  have t4 : ((l.length : Int) != (l.length : Int)) = false := by simp
  have e0 : w5.cell? ⟨w2.heap.size, 0, none⟩ = some (.int .i64 (m : Int)) := (blk_cell X5.out 0).trans rfl
  have e1 : w5.cell? ⟨w2.heap.size, 1, none⟩ = some (.slice Av l.length cv) := (blk_cell X5.out 1).trans rfl
  have h0 : w5.cell? ⟨gh, 0, none⟩ = some (.int .i64 0) := by
   have h := (TH5.out.cell 0 (by have := HM.out; omega)).1
   rw [h]
   simp [rd, hv_zero]
  have mk := mk28 m (by have := HM.out; have := (conn_n HCN.out); omega)
  have i0 : (0 < (m : Int)) = True := eq_true (by have := HM.out; omega)
  have i1 : (0 < m) = True := eq_true (by have := HM.out; omega)
  clear hz2 tE hb5 hE hm1 hden hlow hdd hll TH X4 L4
  go_wp2_with (fail)
  clear e0 e1 h0 t1 t2 t3 t4 mk i0 i1
  have hm5 : m ≤ 5 := by have := HM.out; have := (conn_n HCN.out); omega
  have t0 := Aside0.mk (T.made w5 m hm5 (Nat.le_refl w5.heap.size))
  have tb := Aside0.mk (below_alloc (Below.refl w5.heap.size w5) (.cells (madeCells #[.int .i64 0] m) 2))
  have HLN := Aside0.mk (show (lpr n l).length = l.length by simp [lpr])
  obtain ⟨g, hg⟩ : ∃ g, g = w5.heap.size := ⟨_, rfl⟩
  rw [← hg] at t0
  rw [← hg]
  have HG := Aside0.mk hg
  clear hg
  go_loopw [13] (fun v13 wz => ∃ i : Nat, v13 = .int .i64 (i : Int) ∧ i ≤ l.length ∧ Aside0 (T g wz (.slice (some ⟨g, 0, none⟩) m m) (rgtAt n (lpr n l) i)) ∧ Aside0 (Below w5.heap.size w5 wz)) (fun v _ => l.length - (intOf v).toNat)
  case atStart => exact ⟨0, rfl, by omega, ⟨by rw [rgtAt_zero, ← HM.out]; exact t0.out⟩, tb⟩
  case round =>
   clear t0 tb
   obtain ⟨i, rfl, hi, HT, HB⟩ := hrel
   have e1 : wr.cell? ⟨w2.heap.size, 1, none⟩ = some (.slice Av l.length cv) := (blk_cell (blk_below X5.out HB.out) 1).trans rfl
   by_cases hlt : i < l.length
   ·have p1 : decide ((i : Int) < (l.length : Int)) = true := decide_eq_true (by omega)
    obtain ⟨ad, e, x0, x1, x2, x3⟩ := at_T32 (Kd.C_below L5.out HB.out) (i : Int) (by omega) (by omega)
    subst e
    rw [Int.toNat_natCast] at x0 x1 x2 x3
    have hmm : rd_T32 l i ∈ l := by rw [rd_mem hlt]; exact List.getElem_mem hlt
    have hva := mem_at (conn_v HCN.out) _ hmm
    have hpr : rd_T32 (lpr n l) i = pri n l (rd_T32 l i) := by simp [rd_T32, lpr, List.getD_eq_getElem?_getD, hlt]
    have HSU := Aside0.mk (rgtAt_succ n (lpr n l) i (by rw [HLN.out]; exact hlt))
    rw [hpr] at HSU
    have hEH := ev_hv HCN.out _ hmm
    have hes := ev_size HCN.out _ hmm
    obtain ⟨gE, hgE⟩ : ∃ gE, AE = some ⟨gE, 0, none⟩ := by
     obtain ⟨gE, kE, eqE, -, -⟩ := TE.out.form (by rw [HEL.out]; omega)
     injection eqE with e1' _ _
     exact ⟨gE, e1'⟩
    subst hgE
    obtain ⟨s, hs⟩ : ∃ s, s = rd_T32 l i := ⟨_, rfl⟩
    have hre : rd (l.map (ev n l)) (i : Int) = ev n l s := by rw [hs, rd_mem hlt]; simp [rd, List.getD_eq_getElem?_getD, hlt]
    rw [← hs] at x0 x1 x2 x3 hmm hva HSU hEH hes
    clear hs hpr
    obtain ⟨E, hE⟩ : ∃ E, E = ev n l s := ⟨_, rfl⟩
    rw [← hE] at hEH hes hre
    have HSU1 := Aside0.mk (show rgtAt n (lpr n l) (i + 1) = Ke.ad (rgtAt n (lpr n l) i) s.f1 s.f0 (s.f3 * E) by rw [HSU.out, hE]; rfl)
    clear hE HSU hmm
    have hhv : ∀ p : Int, 0 ≤ p → p ≤ n → rd ((List.range (n + 1)).map (fun p : Nat => hv n l p)) p = hv n l p := fun p h0 hp => by
     obtain ⟨q, rfl⟩ : ∃ q : Nat, p = q := ⟨p.toNat, by omega⟩
     simp [rd, List.getD_eq_getElem?_getD, show q < n + 1 by omega]
    obtain ⟨f, t, ri, wt⟩ := s
    dsimp only at x0 x1 x2 x3 hva hEH HSU1
    obtain ⟨y0, y1, y2, y3, y4, y5, y6, y7, y8⟩ := hva
    obtain ⟨f, rfl⟩ : ∃ q : Nat, f = q := ⟨f.toNat, by omega⟩
    obtain ⟨t, rfl⟩ : ∃ q : Nat, t = q := ⟨t.toNat, by omega⟩
    have hmn := HM.out
    have hbt := hhv t (by omega) y3
    have hbf := hhv f (by omega) y1
    have hst := hv_size HCN.out t (by omega) y3
    have hsf := hv_size HCN.out f (by omega) y1
    obtain ⟨Ht, hHt⟩ : ∃ x, x = hv n l (t : Int) := ⟨_, rfl⟩
    obtain ⟨Hf, hHf⟩ : ∃ x, x = hv n l (f : Int) := ⟨_, rfl⟩
    rw [← hHt] at hEH hbt hst
    rw [← hHf] at hEH hbf hsf
    rw [← HDD.out, ← HLL.out] at hEH
    have hden := HDEN.out
    have hlow := HLOW.out
    rw [← HDD.out] at hden
    rw [← HLL.out] at hlow
    have hprod : -2764800 ≤ ri * den ∧ ri * den ≤ 2764800 := by
     have h4 := mulb (X := 100) (Y := 27648) (a := ri) (b := den) (by decide) (by decide) (by unfold Bd; omega) (by unfold Bd; omega)
     unfold Bd at h4
     omega
    have hprod2 : -30400000000000000 ≤ E * den ∧ E * den ≤ 30400000000000000 := by
     have h4 := mulb (X := 1099511627776) (Y := 27648) (a := E) (b := den) (by decide) (by decide) (by unfold Bd; omega) (by unfold Bd; omega)
     unfold Bd at h4
     omega
    have hwe : -3298534883328 ≤ wt * E ∧ wt * E ≤ 3298534883328 := by
     have c3 : wt = 1 ∨ wt = 2 ∨ wt = 3 := by omega
     rcases c3 with e | e | e <;> rw [e] <;> omega
    obtain ⟨Y, hY⟩ : ∃ x, x = ri * den := ⟨_, rfl⟩
    obtain ⟨Z, hZ⟩ : ∃ x, x = E * den := ⟨_, rfl⟩
    obtain ⟨Y2, hY2⟩ : ∃ x, x = Y - Ht := ⟨_, rfl⟩
    obtain ⟨Y3, hY3⟩ : ∃ x, x = Y2 + Hf := ⟨_, rfl⟩
    rw [← hY] at hprod hEH
    rw [← hZ] at hprod2 hEH
    rw [← hY2, ← hY3] at hEH
    have u1 : wrap64 (ri * den) = Y := by rw [← hY]; exact Dw.wrap_id (by omega) (by omega)
    have u2 : wrap64 (E * den) = Z := by rw [← hZ]; exact Dw.wrap_id (by omega) (by omega)
    have u3 : wrap64 (Y - Ht) = Y2 := by rw [← hY2]; exact Dw.wrap_id (by omega) (by omega)
    have u4 : wrap64 (Y2 + Hf) = Y3 := by rw [← hY3]; exact Dw.wrap_id (by omega) (by omega)
    have u5 : wrap64 (low * Y3) = Z := by rw [← hEH]; exact Dw.wrap_id (by omega) (by omega)
    obtain ⟨r, hr⟩ : ∃ r, r = rgtAt n (lpr n l) i := ⟨_, rfl⟩
    have hrl : r.length = m := by rw [hr, rgtAt_len]; omega
    have hz : ∀ p : Int, -26388279066624 ≤ rd r p ∧ rd r p ≤ 26388279066624 := fun p => by rw [hr]; exact sums_size HCN.out i p
    have hz' : ∀ p : Int, -26388279066624 ≤ rd (rgtAt n (lpr n l) (i + 1)) p ∧ rd (rgtAt n (lpr n l) (i + 1)) p ≤ 26388279066624 := sums_size HCN.out (i + 1)
    rw [← hr] at HT HSU1
    obtain ⟨k, hk⟩ : ∃ k, k = wt * E := ⟨_, rfl⟩
    rw [← hk] at hwe HSU1
    have u6 : wrap64 (wt * E) = k := by rw [← hk]; exact Dw.wrap_id (by omega) (by omega)
    have HSU2 := Aside0.mk (show rgtAt n (lpr n l) (i + 1) = (r.set t (rd r (t : Int) + k)).set f (rd (r.set t (rd r (t : Int) + k)) (f : Int) - k) by rw [HSU1.out]; rfl)
    obtain ⟨v1, hv1⟩ : ∃ v1, v1 = rd r (t : Int) + k := ⟨_, rfl⟩
    have hzt := hz t
    have hw2 : wrap64 (rd r (t : Int) + k) = v1 := by rw [← hv1]; exact Dw.wrap_id (by omega) (by omega)
    obtain ⟨r1, hr1⟩ : ∃ r1, r1 = r.set t v1 := ⟨_, rfl⟩
    have hzf1 : -26388279066624 ≤ rd r1 (f : Int) ∧ rd r1 (f : Int) ≤ 26388279066624 := by
     have e := rd_set (r := r) (t := t) (p := f) (v := v1) (by omega) (by omega) (by omega)
     rw [Int.toNat_natCast, ← hr1, if_neg (by omega)] at e
     rw [e]
     exact hz f
    obtain ⟨v2, hv2⟩ : ∃ v2, v2 = rd r1 (f : Int) - k := ⟨_, rfl⟩
    have hw3 : wrap64 (rd r1 (f : Int) - k) = v2 := by rw [← hv2]; exact Dw.wrap_id (by omega) (by omega)
    have HSU3 := Aside0.mk (show rgtAt n (lpr n l) (i + 1) = r1.set f v2 by rw [HSU2.out, ← hv1, ← hr1, ← hv2])
    have HR1 := Aside0.mk hr1
    obtain ⟨vt, hvt⟩ : ∃ vt, vt = rd r (t : Int) := ⟨_, rfl⟩
    rw [← hvt] at hw2
    obtain ⟨vf, hvf⟩ : ∃ vf, vf = rd r1 (f : Int) := ⟨_, rfl⟩
    rw [← hvf] at hw3
    have HVT := Aside0.mk hvt
    have HVF := Aside0.mk hvf
    have HRL := Aside0.mk hrl
    have HBA := Aside0.mk (below_alloc (Below.refl wr.heap.size wr) (.cells #[.int .i64 (f : Int), .int .i64 (t : Int), .int .i64 ri, .int .i64 wt] 32))
    have HNA := Aside0.mk (heap_alloc_new wr (.cells #[.int .i64 (f : Int), .int .i64 (t : Int), .int .i64 ri, .int .i64 wt] 32))
    have HT1 := Aside0.mk (HT.out.below HBA.out)
    have ce := (((TE.out.below HB.out).below HBA.out).cell i hlt).1
    have ct := (((TH5.out.below HB.out).below HBA.out).cell t (by omega)).1
    have cf := (((TH5.out.below HB.out).below HBA.out).cell f (by omega)).1
    rw [hre] at ce
    rw [hbt] at ct
    rw [hbf] at cf
    have k0 : (wr.alloc (.cells #[.int .i64 (f : Int), .int .i64 (t : Int), .int .i64 ri, .int .i64 wt] 32)).cell? ⟨wr.heap.size, 0, none⟩ = some (.int .i64 (f : Int)) := (blk_cell HNA.out 0).trans rfl
    have k1 : (wr.alloc (.cells #[.int .i64 (f : Int), .int .i64 (t : Int), .int .i64 ri, .int .i64 wt] 32)).cell? ⟨wr.heap.size, 1, none⟩ = some (.int .i64 (t : Int)) := (blk_cell HNA.out 1).trans rfl
    have k2 : (wr.alloc (.cells #[.int .i64 (f : Int), .int .i64 (t : Int), .int .i64 ri, .int .i64 wt] 32)).cell? ⟨wr.heap.size, 2, none⟩ = some (.int .i64 ri) := (blk_cell HNA.out 2).trans rfl
    have i1 : (0 ≤ (t : Int)) = True := eq_true (by omega)
    have i2 : ((t : Int) < (m : Int)) = True := eq_true (by omega)
    have i3 : (0 ≤ (f : Int)) = True := eq_true (by omega)
    have i4 : ((f : Int) < (m : Int)) = True := eq_true (by omega)
    have i5 : (0 ≤ (i : Int)) = True := eq_true (by omega)
    have i6 : ((i : Int) < (l.length : Int)) = True := eq_true (by omega)
    have zz : (Z != Z) = false := bne_self_eq_false Z
    have HRE := Aside0.mk hre
    have HNE := Aside0.mk (And.intro y0 (And.intro y1 (And.intro y2 (And.intro y3 y4))))
    clear hEH hes hre hhv hbt hbf hst hsf hHt hHf hden hlow hprod hprod2 hwe hY hZ hY2 hY3 hr hz hz' hk hv1 hzt hr1 hzf1 hv2 hvt hvf hrl HSU1 HSU2 hmn y0 y1 y2 y3 y4 y5 y6 y7 y8
    go_wp2_with (fail)
    refine start_ (n:=25) (S := fun w' => w'.cell? ⟨gE, i, none⟩ = some (.int .i64 E) ∧ w'.cell? ⟨gh, t, none⟩ = some (.int .i64 Ht) ∧ w'.cell? ⟨gh, f, none⟩ = some (.int .i64 Hf) ∧ w'.cell? ⟨wr.heap.size, 0, none⟩ = some (.int .i64 (f : Int)) ∧ w'.cell? ⟨wr.heap.size, 1, none⟩ = some (.int .i64 (t : Int)) ∧ w'.cell? ⟨wr.heap.size, 2, none⟩ = some (.int .i64 ri)) (ds:=[]) #[false,false,false,false,false,false,false,false,false,false,false,false,false,false,false,false,false,false,false,false,false,false,false,false,false] (by kernel_rfl) rfl rfl ⟨ce, ct, cf, k0, k1, k2⟩ (fun hHeld => ?_)
    refine pure_ (i:=0) (N:=some 83) (v:=?_) (a':=?_) #[true,false,false,false,false,false,false,false,false,false,false,false,false,false,false,false,false,false,false,false,false,false,false,false,false] rfl rfl (by kernel_rfl) (fun _ _ _ h => h) (Or.inl ⟨by rfl, ?_⟩) ?_ ?_
    rotate_left
    ·intro w'
     go_simp
     with_reducible rfl
    rotate_left
    ·simp only [Act.put, List.setIfInBounds_toArray, List.set_cons_zero, List.set_cons_succ, i64_w, i32_w]
     rfl
    refine pure_ (i:=1) (N:=some 84) (v:=?_) (a':=?_) #[true,true,false,false,false,false,false,false,false,false,false,false,false,false,false,false,false,false,false,false,false,false,false,false,false] rfl rfl (by kernel_rfl) (fun _ _ _ h => h) (Or.inl ⟨by rfl, ?_⟩) ?_ ?_
    rotate_left
    ·intro w'
     go_simp
     with_reducible rfl
    rotate_left
    ·simp only [Act.put, List.setIfInBounds_toArray, List.set_cons_zero, List.set_cons_succ, i64_w, i32_w]
     rfl
    refine pure_ (i:=2) (N:=some 85) (v:=?_) (a':=?_) #[true,true,true,false,false,false,false,false,false,false,false,false,false,false,false,false,false,false,false,false,false,false,false,false,false] rfl rfl (by kernel_rfl) (fun _ _ _ h => h) (Or.inl ⟨by rfl, ?_⟩) ?_ ?_
    rotate_left
    ·intro w'
     go_simp
     with_reducible rfl
    rotate_left
    ·simp only [Act.put, List.setIfInBounds_toArray, List.set_cons_zero, List.set_cons_succ, i64_w, i32_w]
     rfl
    refine pure_ (i:=4) (N:=some 87) (v:=?_) (a':=?_) #[true,true,true,false,true,false,false,false,false,false,false,false,false,false,false,false,false,false,false,false,false,false,false,false,false] rfl rfl (by kernel_rfl) (fun _ _ _ h => h) (Or.inl ⟨by rfl, ?_⟩) ?_ ?_
    rotate_left
    ·intro w'
     go_simp
     with_reducible rfl
    rotate_left
    ·simp only [Act.put, List.setIfInBounds_toArray, List.set_cons_zero, List.set_cons_succ, i64_w, i32_w]
     rfl
    refine pure_ (i:=6) (N:=some 89) (v:=?_) (a':=?_) #[true,true,true,false,true,false,true,false,false,false,false,false,false,false,false,false,false,false,false,false,false,false,false,false,false] rfl rfl (by kernel_rfl) (fun _ _ _ h => h) (Or.inl ⟨by rfl, ?_⟩) ?_ ?_
    rotate_left
    ·intro w'
     go_simp
     with_reducible rfl
    rotate_left
    ·simp only [Act.put, List.setIfInBounds_toArray, List.set_cons_zero, List.set_cons_succ, i64_w, i32_w]
     rfl
    refine pure_ (i:=7) (N:=some 90) (v:=?_) (a':=?_) #[true,true,true,false,true,false,true,true,false,false,false,false,false,false,false,false,false,false,false,false,false,false,false,false,false] rfl rfl (by kernel_rfl) (fun _ _ _ h => h) (Or.inl ⟨by rfl, ?_⟩) ?_ ?_
    rotate_left
    ·intro w'
     go_simp
     with_reducible rfl
    rotate_left
    ·simp only [Act.put, List.setIfInBounds_toArray, List.set_cons_zero, List.set_cons_succ, i64_w, i32_w]
     rfl
    refine pure_ (i:=9) (N:=some 92) (v:=?_) (a':=?_) #[true,true,true,false,true,false,true,true,false,true,false,false,false,false,false,false,false,false,false,false,false,false,false,false,false] rfl rfl (by kernel_rfl) (fun _ _ _ h => h) (Or.inl ⟨by rfl, ?_⟩) ?_ ?_
    rotate_left
    ·intro w'
     go_simp
     with_reducible rfl
    rotate_left
    ·simp only [Act.put, List.setIfInBounds_toArray, List.set_cons_zero, List.set_cons_succ, i64_w, i32_w]
     rfl
    refine pure_ (i:=11) (N:=some 94) (v:=?_) (a':=?_) #[true,true,true,false,true,false,true,true,false,true,false,true,false,false,false,false,false,false,false,false,false,false,false,false,false] rfl rfl (by kernel_rfl) (fun _ _ _ h => h) (Or.inl ⟨by rfl, ?_⟩) ?_ ?_
    rotate_left
    ·intro w'
     go_simp
     with_reducible rfl
    rotate_left
    ·simp only [Act.put, List.setIfInBounds_toArray, List.set_cons_zero, List.set_cons_succ, i64_w, i32_w]
     rfl
    refine pure_ (i:=12) (N:=some 95) (v:=?_) (a':=?_) #[true,true,true,false,true,false,true,true,false,true,false,true,true,false,false,false,false,false,false,false,false,false,false,false,false] rfl rfl (by kernel_rfl) (fun _ _ _ h => h) (Or.inl ⟨by rfl, ?_⟩) ?_ ?_
    rotate_left
    ·intro w'
     go_simp
     with_reducible rfl
    rotate_left
    ·simp only [Act.put, List.setIfInBounds_toArray, List.set_cons_zero, List.set_cons_succ, i64_w, i32_w]
     rfl
    refine pure_ (i:=17) (N:=some 100) (v:=?_) (a':=?_) #[true,true,true,false,true,false,true,true,false,true,false,true,true,false,false,false,false,true,false,false,false,false,false,false,false] rfl rfl (by kernel_rfl) (fun _ _ _ h => h) (Or.inl ⟨by rfl, ?_⟩) ?_ ?_
    rotate_left
    ·intro w'
     go_simp
     with_reducible rfl
    rotate_left
    ·simp only [Act.put, List.setIfInBounds_toArray, List.set_cons_zero, List.set_cons_succ, i64_w, i32_w]
     rfl
    refine pure_ (i:=18) (N:=some 101) (v:=?_) (a':=?_) #[true,true,true,false,true,false,true,true,false,true,false,true,true,false,false,false,false,true,true,false,false,false,false,false,false] rfl rfl (by kernel_rfl) (fun _ _ _ h => h) (Or.inl ⟨by rfl, ?_⟩) ?_ ?_
    rotate_left
    ·intro w'
     go_simp
     with_reducible rfl
    rotate_left
    ·simp only [Act.put, List.setIfInBounds_toArray, List.set_cons_zero, List.set_cons_succ, i64_w, i32_w]
     rfl
    refine take_ (i:=3) (N:=some 86) (v:=?_) (a':=?_) #[true,true,true,true,true,false,true,true,false,true,false,true,true,false,false,false,false,true,true,false,false,false,false,false,false] rfl rfl (by kernel_rfl) (fun _ _ _ h => h) (Or.inl ⟨by rfl, ?_⟩) hHeld ?_ ?_
    rotate_left
    ·rintro w' ⟨s0, s1, s2, s3, s4, s5⟩
     go_simp
     with_reducible rfl
    rotate_left
    ·simp only [Act.put, List.setIfInBounds_toArray, List.set_cons_zero, List.set_cons_succ, i64_w, i32_w]
     rfl
    refine pure_ (i:=5) (N:=some 88) (v:=?_) (a':=?_) #[true,true,true,true,true,true,true,true,false,true,false,true,true,false,false,false,false,true,true,false,false,false,false,false,false] rfl rfl (by kernel_rfl) (fun _ _ _ h => h) (Or.inl ⟨by rfl, ?_⟩) ?_ ?_
    rotate_left
    ·intro w'
     go_simp
     with_reducible rfl
    rotate_left
    ·simp only [Act.put, List.setIfInBounds_toArray, List.set_cons_zero, List.set_cons_succ, i64_w, i32_w]
     rfl
    refine take_ (i:=8) (N:=some 91) (v:=?_) (a':=?_) #[true,true,true,true,true,true,true,true,true,true,false,true,true,false,false,false,false,true,true,false,false,false,false,false,false] rfl rfl (by kernel_rfl) (fun _ _ _ h => h) (Or.inl ⟨by rfl, ?_⟩) hHeld ?_ ?_
    rotate_left
    ·rintro w' ⟨s0, s1, s2, s3, s4, s5⟩
     go_simp
     with_reducible rfl
    rotate_left
    ·simp only [Act.put, List.setIfInBounds_toArray, List.set_cons_zero, List.set_cons_succ, i64_w, i32_w]
     rfl
    refine pure_ (i:=10) (N:=some 93) (v:=?_) (a':=?_) #[true,true,true,true,true,true,true,true,true,true,true,true,true,false,false,false,false,true,true,false,false,false,false,false,false] rfl rfl (by kernel_rfl) (fun _ _ _ h => h) (Or.inl ⟨by rfl, ?_⟩) ?_ ?_
    rotate_left
    ·intro w'
     go_simp
     with_reducible rfl
    rotate_left
    ·simp only [Act.put, List.setIfInBounds_toArray, List.set_cons_zero, List.set_cons_succ, i64_w, i32_w]
     rfl
    refine take_ (i:=13) (N:=some 96) (v:=?_) (a':=?_) #[true,true,true,true,true,true,true,true,true,true,true,true,true,true,false,false,false,true,true,false,false,false,false,false,false] rfl rfl (by kernel_rfl) (fun _ _ _ h => h) (Or.inl ⟨by rfl, ?_⟩) hHeld ?_ ?_
    rotate_left
    ·rintro w' ⟨s0, s1, s2, s3, s4, s5⟩
     go_simp
     with_reducible rfl
    rotate_left
    ·simp only [Act.put, List.setIfInBounds_toArray, List.set_cons_zero, List.set_cons_succ, i64_w, i32_w]
     rfl
    refine pure_ (i:=14) (N:=some 97) (v:=?_) (a':=?_) #[true,true,true,true,true,true,true,true,true,true,true,true,true,true,true,false,false,true,true,false,false,false,false,false,false] rfl rfl (by kernel_rfl) (fun _ _ _ h => h) (Or.inl ⟨by rfl, ?_⟩) ?_ ?_
    rotate_left
    ·intro w'
     go_simp
     with_reducible rfl
    rotate_left
    ·simp only [Act.put, List.setIfInBounds_toArray, List.set_cons_zero, List.set_cons_succ, i64_w, i32_w]
     rfl
    refine take_ (i:=15) (N:=some 98) (v:=?_) (a':=?_) #[true,true,true,true,true,true,true,true,true,true,true,true,true,true,true,true,false,true,true,false,false,false,false,false,false] rfl rfl (by kernel_rfl) (fun _ _ _ h => h) (Or.inl ⟨by rfl, ?_⟩) hHeld ?_ ?_
    rotate_left
    ·rintro w' ⟨s0, s1, s2, s3, s4, s5⟩
     go_simp
     with_reducible rfl
    rotate_left
    ·simp only [Act.put, List.setIfInBounds_toArray, List.set_cons_zero, List.set_cons_succ, i64_w, i32_w]
     rfl
    refine pure_ (i:=16) (N:=some 99) (v:=?_) (a':=?_) #[true,true,true,true,true,true,true,true,true,true,true,true,true,true,true,true,true,true,true,false,false,false,false,false,false] rfl rfl (by kernel_rfl) (fun _ _ _ h => h) (Or.inl ⟨by rfl, ?_⟩) ?_ ?_
    rotate_left
    ·intro w'
     go_simp
     with_reducible rfl
    rotate_left
    ·simp only [Act.put, List.setIfInBounds_toArray, List.set_cons_zero, List.set_cons_succ, i64_w, i32_w]
     rfl
    refine take_ (i:=19) (N:=some 102) (v:=?_) (a':=?_) #[true,true,true,true,true,true,true,true,true,true,true,true,true,true,true,true,true,true,true,true,false,false,false,false,false] rfl rfl (by kernel_rfl) (fun _ _ _ h => h) (Or.inl ⟨by rfl, ?_⟩) hHeld ?_ ?_
    rotate_left
    ·rintro w' ⟨s0, s1, s2, s3, s4, s5⟩
     go_simp
     with_reducible rfl
    rotate_left
    ·simp only [Act.put, List.setIfInBounds_toArray, List.set_cons_zero, List.set_cons_succ, i64_w, i32_w]
     rfl
    refine pure_ (i:=20) (N:=some 103) (v:=?_) (a':=?_) #[true,true,true,true,true,true,true,true,true,true,true,true,true,true,true,true,true,true,true,true,true,false,false,false,false] rfl rfl (by kernel_rfl) (fun _ _ _ h => h) (Or.inl ⟨by rfl, ?_⟩) ?_ ?_
    rotate_left
    ·intro w'
     go_simp
     with_reducible rfl
    rotate_left
    ·simp only [Act.put, List.setIfInBounds_toArray, List.set_cons_zero, List.set_cons_succ, i64_w, i32_w]
     rfl
    refine take_ (i:=21) (N:=some 104) (v:=?_) (a':=?_) #[true,true,true,true,true,true,true,true,true,true,true,true,true,true,true,true,true,true,true,true,true,true,false,false,false] rfl rfl (by kernel_rfl) (fun _ _ _ h => h) (Or.inl ⟨by rfl, ?_⟩) hHeld ?_ ?_
    rotate_left
    ·rintro w' ⟨s0, s1, s2, s3, s4, s5⟩
     go_simp
     with_reducible rfl
    rotate_left
    ·simp only [Act.put, List.setIfInBounds_toArray, List.set_cons_zero, List.set_cons_succ, i64_w, i32_w]
     rfl
    refine pure_ (i:=22) (N:=some 105) (v:=?_) (a':=?_) #[true,true,true,true,true,true,true,true,true,true,true,true,true,true,true,true,true,true,true,true,true,true,true,false,false] rfl rfl (by kernel_rfl) (fun _ _ _ h => h) (Or.inl ⟨by rfl, ?_⟩) ?_ ?_
    rotate_left
    ·intro w'
     go_simp
     with_reducible rfl
    rotate_left
    ·simp only [Act.put, List.setIfInBounds_toArray, List.set_cons_zero, List.set_cons_succ, i64_w, i32_w]
     rfl
    refine pure_ (i:=23) (N:=some 106) (v:=?_) (a':=?_) #[true,true,true,true,true,true,true,true,true,true,true,true,true,true,true,true,true,true,true,true,true,true,true,true,false] rfl rfl (by kernel_rfl) (fun _ _ _ h => h) (Or.inl ⟨by rfl, ?_⟩) ?_ ?_
    rotate_left
    ·intro w'
     go_simp
     with_reducible rfl
    rotate_left
    ·simp only [Act.put, List.setIfInBounds_toArray, List.set_cons_zero, List.set_cons_succ, i64_w, i32_w]
     rfl
    refine pure_ (i:=24) (N:=some 107) (v:=?_) (a':=?_) #[true,true,true,true,true,true,true,true,true,true,true,true,true,true,true,true,true,true,true,true,true,true,true,true,true] rfl rfl (by kernel_rfl) (fun _ _ _ h => h) (Or.inl ⟨by rfl, ?_⟩) ?_ ?_
    rotate_left
    ·intro w'
     go_simp
     with_reducible rfl
    rotate_left
    ·simp only [Act.put, List.setIfInBounds_toArray, List.set_cons_zero, List.set_cons_succ, i64_w, i32_w]
     rfl
    refine done_ (by kernel_rfl) ?_
    clear hHeld
    obtain ⟨wq, hwq⟩ : ∃ wq, wq = (wr.alloc (.cells #[.int .i64 (f : Int), .int .i64 (t : Int), .int .i64 ri, .int .i64 wt] 32)).drew := ⟨_, rfl⟩
    have HBQ := Aside0.mk (show Below wr.heap.size wr wq by rw [hwq]; exact below_drew HBA.out)
    have HNQ := Aside0.mk (show wq.heap[wr.heap.size]? = some (.cells #[.int .i64 (f : Int), .int .i64 (t : Int), .int .i64 ri, .int .i64 wt] 32) by rw [hwq]; exact blk_drew HNA.out)
    rw [← hwq]
    clear hwq HT1 HBA HNA ct cf ce k0 k1 k2
    have HT1 := Aside0.mk (HT.out.below HBQ.out)
    obtain ⟨z0, z1⟩ := HT1.out.cell t (by have := HNE.out; have := HM.out; omega)
    rw [← HVT.out] at z0
    have ce := (((TE.out.below HB.out).below HBQ.out).cell i hlt).1
    rw [HRE.out] at ce
    have k0 : wq.cell? ⟨wr.heap.size, 0, none⟩ = some (.int .i64 (f : Int)) := (blk_cell HNQ.out 0).trans rfl
    have k1 : wq.cell? ⟨wr.heap.size, 1, none⟩ = some (.int .i64 (t : Int)) := (blk_cell HNQ.out 1).trans rfl
    have k3 : wq.cell? ⟨wr.heap.size, 3, none⟩ = some (.int .i64 wt) := (blk_cell HNQ.out 3).trans rfl
    go_wp2_with (fail)
    refine start_ (n:=15) (S := fun w' => w'.cell? ⟨gE, i, none⟩ = some (.int .i64 E) ∧ w'.cell? ⟨g, t, none⟩ = some (.int .i64 vt) ∧ w'.cell? ⟨wr.heap.size, 1, none⟩ = some (.int .i64 (t : Int)) ∧ w'.cell? ⟨wr.heap.size, 3, none⟩ = some (.int .i64 wt)) (ds:=[14]) #[false,false,false,false,false,false,false,false,false,false,false,false,false,false,false] (by kernel_rfl) rfl rfl ⟨ce, z0, k1, k3⟩ (fun hHeld => ?_)
    refine pure_ (i:=0) (N:=some 108) (v:=?_) (a':=?_) #[true,false,false,false,false,false,false,false,false,false,false,false,false,false,false] rfl rfl (by kernel_rfl) (fun _ _ _ h => h) (Or.inl ⟨by rfl, ?_⟩) ?_ ?_
    rotate_left
    ·intro w'
     go_simp
     with_reducible rfl
    rotate_left
    ·simp only [Act.put, List.setIfInBounds_toArray, List.set_cons_zero, List.set_cons_succ, i64_w, i32_w]
     rfl
    refine pure_ (i:=1) (N:=some 109) (v:=?_) (a':=?_) #[true,true,false,false,false,false,false,false,false,false,false,false,false,false,false] rfl rfl (by kernel_rfl) (fun _ _ _ h => h) (Or.inl ⟨by rfl, ?_⟩) ?_ ?_
    rotate_left
    ·intro w'
     go_simp
     with_reducible rfl
    rotate_left
    ·simp only [Act.put, List.setIfInBounds_toArray, List.set_cons_zero, List.set_cons_succ, i64_w, i32_w]
     rfl
    refine pure_ (i:=5) (N:=some 113) (v:=?_) (a':=?_) #[true,true,false,false,false,true,false,false,false,false,false,false,false,false,false] rfl rfl (by kernel_rfl) (fun _ _ _ h => h) (Or.inl ⟨by rfl, ?_⟩) ?_ ?_
    rotate_left
    ·intro w'
     go_simp
     with_reducible rfl
    rotate_left
    ·simp only [Act.put, List.setIfInBounds_toArray, List.set_cons_zero, List.set_cons_succ, i64_w, i32_w]
     rfl
    refine pure_ (i:=7) (N:=some 115) (v:=?_) (a':=?_) #[true,true,false,false,false,true,false,true,false,false,false,false,false,false,false] rfl rfl (by kernel_rfl) (fun _ _ _ h => h) (Or.inl ⟨by rfl, ?_⟩) ?_ ?_
    rotate_left
    ·intro w'
     go_simp
     with_reducible rfl
    rotate_left
    ·simp only [Act.put, List.setIfInBounds_toArray, List.set_cons_zero, List.set_cons_succ, i64_w, i32_w]
     rfl
    refine pure_ (i:=8) (N:=some 116) (v:=?_) (a':=?_) #[true,true,false,false,false,true,false,true,true,false,false,false,false,false,false] rfl rfl (by kernel_rfl) (fun _ _ _ h => h) (Or.inl ⟨by rfl, ?_⟩) ?_ ?_
    rotate_left
    ·intro w'
     go_simp
     with_reducible rfl
    rotate_left
    ·simp only [Act.put, List.setIfInBounds_toArray, List.set_cons_zero, List.set_cons_succ, i64_w, i32_w]
     rfl
    refine pure_ (i:=9) (N:=some 117) (v:=?_) (a':=?_) #[true,true,false,false,false,true,false,true,true,true,false,false,false,false,false] rfl rfl (by kernel_rfl) (fun _ _ _ h => h) (Or.inl ⟨by rfl, ?_⟩) ?_ ?_
    rotate_left
    ·intro w'
     go_simp
     with_reducible rfl
    rotate_left
    ·simp only [Act.put, List.setIfInBounds_toArray, List.set_cons_zero, List.set_cons_succ, i64_w, i32_w]
     rfl
    refine take_ (i:=2) (N:=some 110) (v:=?_) (a':=?_) #[true,true,true,false,false,true,false,true,true,true,false,false,false,false,false] rfl rfl (by kernel_rfl) (fun _ _ _ h => h) (Or.inl ⟨by rfl, ?_⟩) hHeld ?_ ?_
    rotate_left
    ·rintro w' ⟨s0, s1, s2, s3⟩
     go_simp
     with_reducible rfl
    rotate_left
    ·simp only [Act.put, List.setIfInBounds_toArray, List.set_cons_zero, List.set_cons_succ, i64_w, i32_w]
     rfl
    refine pure_ (i:=3) (N:=some 111) (v:=?_) (a':=?_) #[true,true,true,true,false,true,false,true,true,true,false,false,false,false,false] rfl rfl (by kernel_rfl) (fun _ _ _ h => h) (Or.inl ⟨by rfl, ?_⟩) ?_ ?_
    rotate_left
    ·intro w'
     go_simp
     with_reducible rfl
    rotate_left
    ·simp only [Act.put, List.setIfInBounds_toArray, List.set_cons_zero, List.set_cons_succ, i64_w, i32_w]
     rfl
    refine take_ (i:=4) (N:=some 112) (v:=?_) (a':=?_) #[true,true,true,true,true,true,false,true,true,true,false,false,false,false,false] rfl rfl (by kernel_rfl) (fun _ _ _ h => h) (Or.inl ⟨by rfl, ?_⟩) hHeld ?_ ?_
    rotate_left
    ·rintro w' ⟨s0, s1, s2, s3⟩
     go_simp
     with_reducible rfl
    rotate_left
    ·simp only [Act.put, List.setIfInBounds_toArray, List.set_cons_zero, List.set_cons_succ, i64_w, i32_w]
     rfl
    refine take_ (i:=6) (N:=some 114) (v:=?_) (a':=?_) #[true,true,true,true,true,true,true,true,true,true,false,false,false,false,false] rfl rfl (by kernel_rfl) (fun _ _ _ h => h) (Or.inl ⟨by rfl, ?_⟩) hHeld ?_ ?_
    rotate_left
    ·rintro w' ⟨s0, s1, s2, s3⟩
     go_simp
     with_reducible rfl
    rotate_left
    ·simp only [Act.put, List.setIfInBounds_toArray, List.set_cons_zero, List.set_cons_succ, i64_w, i32_w]
     rfl
    refine take_ (i:=10) (N:=some 118) (v:=?_) (a':=?_) #[true,true,true,true,true,true,true,true,true,true,true,false,false,false,false] rfl rfl (by kernel_rfl) (fun _ _ _ h => h) (Or.inl ⟨by rfl, ?_⟩) hHeld ?_ ?_
    rotate_left
    ·rintro w' ⟨s0, s1, s2, s3⟩
     go_simp
     with_reducible rfl
    rotate_left
    ·simp only [Act.put, List.setIfInBounds_toArray, List.set_cons_zero, List.set_cons_succ, i64_w, i32_w]
     rfl
    refine pure_ (i:=11) (N:=some 119) (v:=?_) (a':=?_) #[true,true,true,true,true,true,true,true,true,true,true,true,false,false,false] rfl rfl (by kernel_rfl) (fun _ _ _ h => h) (Or.inl ⟨by rfl, ?_⟩) ?_ ?_
    rotate_left
    ·intro w'
     go_simp
     with_reducible rfl
    rotate_left
    ·simp only [Act.put, List.setIfInBounds_toArray, List.set_cons_zero, List.set_cons_succ, i64_w, i32_w]
     rfl
    refine pure_ (i:=12) (N:=some 120) (v:=?_) (a':=?_) #[true,true,true,true,true,true,true,true,true,true,true,true,true,false,false] rfl rfl (by kernel_rfl) (fun _ _ _ h => h) (Or.inl ⟨by rfl, ?_⟩) ?_ ?_
    rotate_left
    ·intro w'
     go_simp
     with_reducible rfl
    rotate_left
    ·simp only [Act.put, List.setIfInBounds_toArray, List.set_cons_zero, List.set_cons_succ, i64_w, i32_w]
     rfl
    refine pure_ (i:=13) (N:=some 121) (v:=?_) (a':=?_) #[true,true,true,true,true,true,true,true,true,true,true,true,true,true,false] rfl rfl (by kernel_rfl) (fun _ _ _ h => h) (Or.inl ⟨by rfl, ?_⟩) ?_ ?_
    rotate_left
    ·intro w'
     go_simp
     with_reducible rfl
    rotate_left
    ·simp only [Act.put, List.setIfInBounds_toArray, List.set_cons_zero, List.set_cons_succ, i64_w, i32_w]
     rfl
    refine last_ (i:=14) (N:=none) #[true,true,true,true,true,true,true,true,true,true,true,true,true,true,true] rfl rfl (by kernel_rfl) (by decide) (fun K_ hK => ?_)
    refine skip_ (w1 := ?_) (by rfl) rfl ?_ ?_
    rotate_left
    ·go_simp
     rfl
    refine hK.out _ _ ?_
    clear hK K_
    refine done_ (by kernel_rfl) ?_
    clear hHeld
    have hp1 := HT1.out.put t v1
    have hgw := HG.out
    have hb1 := (below_step HB.out HBQ.out).setCell (p := ⟨g, t, none⟩) (by show w5.heap.size ≤ g; omega) (.int .i64 v1)
    rw [← HR1.out] at hp1
    have HT2 := Aside0.mk (hp1.1.below (below_drew (Below.refl _ _)))
    have HB2' := Aside0.mk (below_drew hb1)
    have hgs := HT.out.lt (k := g) rfl
    have HN2 := Aside0.mk (blk_drew (blk_grown HNQ.out hp1.2 (by intro e; have := Option.some.inj e; omega)))
    clear hp1 hb1 hgs z0 z1 ce k0 k1 k3 hgw
    obtain ⟨wa, hwa⟩ : ∃ wa, wa = (wq.setCell ⟨g, t, none⟩ (.int .i64 v1)).drew := ⟨_, rfl⟩
    rw [← hwa] at HT2 HB2' HN2
    rw [← hwa]
    clear hwa
    obtain ⟨z0, z1⟩ := HT2.out.cell f (by have := HNE.out; have := HM.out; omega)
    rw [← HVF.out] at z0
    have ce := (((TE.out.below HB2'.out)).cell i hlt).1
    rw [HRE.out] at ce
    have k0 : wa.cell? ⟨wr.heap.size, 0, none⟩ = some (.int .i64 (f : Int)) := (blk_cell HN2.out 0).trans rfl
    have k3 : wa.cell? ⟨wr.heap.size, 3, none⟩ = some (.int .i64 wt) := (blk_cell HN2.out 3).trans rfl
    go_wp2_with (fail)
    refine start_ (n:=15) (S := fun w' => w'.cell? ⟨gE, i, none⟩ = some (.int .i64 E) ∧ w'.cell? ⟨g, f, none⟩ = some (.int .i64 vf) ∧ w'.cell? ⟨wr.heap.size, 0, none⟩ = some (.int .i64 (f : Int)) ∧ w'.cell? ⟨wr.heap.size, 3, none⟩ = some (.int .i64 wt)) (ds:=[14]) #[false,false,false,false,false,false,false,false,false,false,false,false,false,false,false] (by kernel_rfl) rfl rfl ⟨ce, z0, k0, k3⟩ (fun hHeld => ?_)
    refine pure_ (i:=0) (N:=some 122) (v:=?_) (a':=?_) #[true,false,false,false,false,false,false,false,false,false,false,false,false,false,false] rfl rfl (by kernel_rfl) (fun _ _ _ h => h) (Or.inl ⟨by rfl, ?_⟩) ?_ ?_
    rotate_left
    ·intro w'
     go_simp
     with_reducible rfl
    rotate_left
    ·simp only [Act.put, List.setIfInBounds_toArray, List.set_cons_zero, List.set_cons_succ, i64_w, i32_w]
     rfl
    refine pure_ (i:=1) (N:=some 123) (v:=?_) (a':=?_) #[true,true,false,false,false,false,false,false,false,false,false,false,false,false,false] rfl rfl (by kernel_rfl) (fun _ _ _ h => h) (Or.inl ⟨by rfl, ?_⟩) ?_ ?_
    rotate_left
    ·intro w'
     go_simp
     with_reducible rfl
    rotate_left
    ·simp only [Act.put, List.setIfInBounds_toArray, List.set_cons_zero, List.set_cons_succ, i64_w, i32_w]
     rfl
    refine pure_ (i:=5) (N:=some 127) (v:=?_) (a':=?_) #[true,true,false,false,false,true,false,false,false,false,false,false,false,false,false] rfl rfl (by kernel_rfl) (fun _ _ _ h => h) (Or.inl ⟨by rfl, ?_⟩) ?_ ?_
    rotate_left
    ·intro w'
     go_simp
     with_reducible rfl
    rotate_left
    ·simp only [Act.put, List.setIfInBounds_toArray, List.set_cons_zero, List.set_cons_succ, i64_w, i32_w]
     rfl
    refine pure_ (i:=7) (N:=some 129) (v:=?_) (a':=?_) #[true,true,false,false,false,true,false,true,false,false,false,false,false,false,false] rfl rfl (by kernel_rfl) (fun _ _ _ h => h) (Or.inl ⟨by rfl, ?_⟩) ?_ ?_
    rotate_left
    ·intro w'
     go_simp
     with_reducible rfl
    rotate_left
    ·simp only [Act.put, List.setIfInBounds_toArray, List.set_cons_zero, List.set_cons_succ, i64_w, i32_w]
     rfl
    refine pure_ (i:=8) (N:=some 130) (v:=?_) (a':=?_) #[true,true,false,false,false,true,false,true,true,false,false,false,false,false,false] rfl rfl (by kernel_rfl) (fun _ _ _ h => h) (Or.inl ⟨by rfl, ?_⟩) ?_ ?_
    rotate_left
    ·intro w'
     go_simp
     with_reducible rfl
    rotate_left
    ·simp only [Act.put, List.setIfInBounds_toArray, List.set_cons_zero, List.set_cons_succ, i64_w, i32_w]
     rfl
    refine pure_ (i:=9) (N:=some 131) (v:=?_) (a':=?_) #[true,true,false,false,false,true,false,true,true,true,false,false,false,false,false] rfl rfl (by kernel_rfl) (fun _ _ _ h => h) (Or.inl ⟨by rfl, ?_⟩) ?_ ?_
    rotate_left
    ·intro w'
     go_simp
     with_reducible rfl
    rotate_left
    ·simp only [Act.put, List.setIfInBounds_toArray, List.set_cons_zero, List.set_cons_succ, i64_w, i32_w]
     rfl
    refine take_ (i:=2) (N:=some 124) (v:=?_) (a':=?_) #[true,true,true,false,false,true,false,true,true,true,false,false,false,false,false] rfl rfl (by kernel_rfl) (fun _ _ _ h => h) (Or.inl ⟨by rfl, ?_⟩) hHeld ?_ ?_
    rotate_left
    ·rintro w' ⟨s0, s1, s2, s3⟩
     go_simp
     with_reducible rfl
    rotate_left
    ·simp only [Act.put, List.setIfInBounds_toArray, List.set_cons_zero, List.set_cons_succ, i64_w, i32_w]
     rfl
    refine pure_ (i:=3) (N:=some 125) (v:=?_) (a':=?_) #[true,true,true,true,false,true,false,true,true,true,false,false,false,false,false] rfl rfl (by kernel_rfl) (fun _ _ _ h => h) (Or.inl ⟨by rfl, ?_⟩) ?_ ?_
    rotate_left
    ·intro w'
     go_simp
     with_reducible rfl
    rotate_left
    ·simp only [Act.put, List.setIfInBounds_toArray, List.set_cons_zero, List.set_cons_succ, i64_w, i32_w]
     rfl
    refine take_ (i:=4) (N:=some 126) (v:=?_) (a':=?_) #[true,true,true,true,true,true,false,true,true,true,false,false,false,false,false] rfl rfl (by kernel_rfl) (fun _ _ _ h => h) (Or.inl ⟨by rfl, ?_⟩) hHeld ?_ ?_
    rotate_left
    ·rintro w' ⟨s0, s1, s2, s3⟩
     go_simp
     with_reducible rfl
    rotate_left
    ·simp only [Act.put, List.setIfInBounds_toArray, List.set_cons_zero, List.set_cons_succ, i64_w, i32_w]
     rfl
    refine take_ (i:=6) (N:=some 128) (v:=?_) (a':=?_) #[true,true,true,true,true,true,true,true,true,true,false,false,false,false,false] rfl rfl (by kernel_rfl) (fun _ _ _ h => h) (Or.inl ⟨by rfl, ?_⟩) hHeld ?_ ?_
    rotate_left
    ·rintro w' ⟨s0, s1, s2, s3⟩
     go_simp
     with_reducible rfl
    rotate_left
    ·simp only [Act.put, List.setIfInBounds_toArray, List.set_cons_zero, List.set_cons_succ, i64_w, i32_w]
     rfl
    refine take_ (i:=10) (N:=some 132) (v:=?_) (a':=?_) #[true,true,true,true,true,true,true,true,true,true,true,false,false,false,false] rfl rfl (by kernel_rfl) (fun _ _ _ h => h) (Or.inl ⟨by rfl, ?_⟩) hHeld ?_ ?_
    rotate_left
    ·rintro w' ⟨s0, s1, s2, s3⟩
     go_simp
     with_reducible rfl
    rotate_left
    ·simp only [Act.put, List.setIfInBounds_toArray, List.set_cons_zero, List.set_cons_succ, i64_w, i32_w]
     rfl
    refine pure_ (i:=11) (N:=some 133) (v:=?_) (a':=?_) #[true,true,true,true,true,true,true,true,true,true,true,true,false,false,false] rfl rfl (by kernel_rfl) (fun _ _ _ h => h) (Or.inl ⟨by rfl, ?_⟩) ?_ ?_
    rotate_left
    ·intro w'
     go_simp
     with_reducible rfl
    rotate_left
    ·simp only [Act.put, List.setIfInBounds_toArray, List.set_cons_zero, List.set_cons_succ, i64_w, i32_w]
     rfl
    refine pure_ (i:=12) (N:=some 134) (v:=?_) (a':=?_) #[true,true,true,true,true,true,true,true,true,true,true,true,true,false,false] rfl rfl (by kernel_rfl) (fun _ _ _ h => h) (Or.inl ⟨by rfl, ?_⟩) ?_ ?_
    rotate_left
    ·intro w'
     go_simp
     with_reducible rfl
    rotate_left
    ·simp only [Act.put, List.setIfInBounds_toArray, List.set_cons_zero, List.set_cons_succ, i64_w, i32_w]
     rfl
    refine pure_ (i:=13) (N:=some 135) (v:=?_) (a':=?_) #[true,true,true,true,true,true,true,true,true,true,true,true,true,true,false] rfl rfl (by kernel_rfl) (fun _ _ _ h => h) (Or.inl ⟨by rfl, ?_⟩) ?_ ?_
    rotate_left
    ·intro w'
     go_simp
     with_reducible rfl
    rotate_left
    ·simp only [Act.put, List.setIfInBounds_toArray, List.set_cons_zero, List.set_cons_succ, i64_w, i32_w]
     rfl
    refine last_ (i:=14) (N:=none) #[true,true,true,true,true,true,true,true,true,true,true,true,true,true,true] rfl rfl (by kernel_rfl) (by decide) (fun K_ hK => ?_)
    refine skip_ (w1 := ?_) (by rfl) rfl ?_ ?_
    rotate_left
    ·go_simp
     rfl
    refine hK.out _ _ ?_
    clear hK K_
    refine done_ (by kernel_rfl) ?_
    clear hHeld
    have hp2 := HT2.out.put f v2
    have hgw := HG.out
    have hb2 := HB2'.out.setCell (p := ⟨g, f, none⟩) (by show w5.heap.size ≤ g; omega) (.int .i64 v2)
    rw [← HSU3.out] at hp2
    have HT3 := Aside0.mk (hp2.1.below (below_drew (Below.refl _ _)))
    have HB3' := Aside0.mk (below_drew hb2)
    clear hp2 hb2 hgw
    go_wp2_with (fail)
    go_roundw
    case rel => exact ⟨i + 1, by go_num, by omega, HT3, HB3'⟩
    case measure => simp [intOf]; omega
   ·obtain rfl : l.length = i := by omega
    have p1 : decide ((l.length : Int) < (l.length : Int)) = false := decide_eq_false (by omega)
    have hall : rgtAt n (lpr n l) l.length = rgt n (lpr n l) := by rw [← HLN.out]; exact rgtAt_all n (lpr n l)
    rw [hall] at HT
    clear hall
    go_wp2_with (fail)
    clear e1
    obtain ⟨wo, rfl⟩ : ∃ wo : World, wo = wr := ⟨_, rfl⟩
    go_loopw [15] (fun v15 wz => ∃ k : Nat, v15 = .int .i64 (k : Int) ∧ 1 ≤ k ∧ k ≤ m ∧ Aside0 (Below wo.heap.size wo wz)) (fun v _ => m - (intOf v).toNat)
    case atStart => exact ⟨1, rfl, by omega, by have := HM.out; omega, ⟨Below.refl _ _⟩⟩
    case round =>
     obtain ⟨k, rfl, hk1, hkm, HBK⟩ := hrel
     have e0 : wr.cell? ⟨w2.heap.size, 0, none⟩ = some (.int .i64 (m : Int)) := (blk_cell (blk_below (blk_below X5.out HB.out) HBK.out) 0).trans rfl
     by_cases hlt2 : k < m
     ·have p2 : decide ((k : Int) < (m : Int)) = true := decide_eq_true (by omega)
      have z0 := ((HT.out.below HBK.out).cell k (by omega)).1
      rw [sums_zero HCN.out k hk1 (by have := HM.out; omega)] at z0
      go_wp2_with (fail)
      go_roundw
      case rel => exact ⟨k + 1, by go_num, by omega, by omega, HBK⟩
      case measure => simp [intOf]; omega
     ·have p2 : decide ((k : Int) < (m : Int)) = false := decide_eq_false (by omega)
      have HBZ := Aside0.mk (below_step (below_step HB5.out HB.out) HBK.out)
      go_wp2_with (fail)
      go_ret
      exact ⟨rfl, HBZ.out⟩
end Go.Proofs.Ytkafbmanmffliaa.LwNE

