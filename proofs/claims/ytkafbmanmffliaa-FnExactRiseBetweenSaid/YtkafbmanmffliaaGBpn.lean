/- Parts of the proof that the law of this seat holds: Hv, Hw, Q9, Op, OpS. -/
import Derived.Test.YtkafbmanmffliaaGBpb
import Derived.Test.YtkafbmanmffliaaGBpi
import Derived.Test.YtkafbmanmffliaaGBpj
import Derived.Test.YtkafbmanmffliaaGBpm
import Derived.Test.YtkafbmanmffliaaGBpa
import Derived.Test.YtkafbmanmffliaaGBwa
import Derived.WalkKit
import Derived.ProofKit
import Derived.OpenShut
import Derived.ShutString
import Derived.ChangeOld
import Derived.Below
import Derived.SizedLaws
set_option linter.unusedVariables false
set_option linter.unusedSimpArgs false
/- The program's ValidSurvey and IsConnected: what they return. -/
namespace Go.Proofs.Ytkafbmanmffliaa.Hv
open Go Go.RowKit YtkafbmanmffliaaW.PrintWords YtkafbmanmffliaaW.PrintLast YtkafbmanmffliaaW.PrintMore Q Gd Hb Ha
set_option linter.unusedVariables false
set_option linter.unusedSimpArgs false
theorem C_two (W : World) (g : Nat) (x y : Int) (h : W.heap[g]? = some (.cells #[.int .i64 x, .int .i64 y] 2 (0, 0))) : Kd.C (Kd.int .i64) W (some ⟨g, 0, none⟩) 2 [x, y] :=
 Kd.C_of_reads (d := (0 : Int)) ⟨rfl, by simp [maxLen], fun _ => ⟨⟨g, 0, none⟩, rfl, fun j hj => by
  obtain rfl | rfl : j = 0 ∨ j = 1 := by omega
  ·exact (blk_cell h 0).trans rfl
  ·exact (blk_cell h 1).trans rfl⟩⟩
abbrev BS (p : Int) (A : Option Addr) (n c : Nat) : Obj := .cells #[.int .i64 p, .slice A n c] 26
set_option maxHeartbeats 4000000 in
set_option maxRecDepth 100000 in
theorem valid_any (p : Int) (l : List S32) (A : Option Addr) (c : Nat) (w : World) (hr : Kd.C k32 w A l.length l) (hl : l.length ≤ 1048576) :
  Calls Try.prog 81 #[.agg #[.int .i64 p, .slice A l.length c]] w fun e w' => e = .returned (.bool (surveyB p l)) ∧ Below w.heap.size w w' := by
 have hu26 := Try.underlying26
 have hu32 := Try.underlying32
 have hu24 := Try.underlying24
 have hbx := below_alloc (Below.refl w.heap.size w) (BS p A l.length c)
 have HR := Aside0.mk (Kd.C_below hr hbx)
 have HX := Aside0.mk (heap_alloc_new w (BS p A l.length c))
 have HS := Aside0.mk (show surveyB p l = ((inB 2 5 p && decide ((l.length : Int) ≤ 8)) && l.all (sightB p)) from rfl)
 have t0 := Aside0.mk hbx
 clear hr hbx
 go_enter Try.func81, Try.ntmps81
 go_wp2_with (fail)
 go_loopw [8] (fun v8 wz => ∃ i : Nat, v8 = .int .i64 (i : Int) ∧ i ≤ l.length ∧ Aside0 (l.all (sightB p) = (l.drop i).all (sightB p)) ∧ Aside0 (Below w.heap.size w wz) ∧ Aside0 (Below (w.alloc (BS p A l.length c)).heap.size (w.alloc (BS p A l.length c)) wz)) (fun v _ => l.length - (intOf v).toNat)
 case atStart => exact ⟨0, rfl, by omega, ⟨rfl⟩, t0, ⟨Below.refl _ _⟩⟩
 case round =>
  clear t0
  obtain ⟨i, rfl, hi, HA, HB, HB0⟩ := hrel
  have K := Aside0.mk (blk_below HX.out HB0.out)
  have e0 : wr.cell? ⟨w.heap.size, 0, none⟩ = some (.int .i64 p) := (blk_cell K.out 0).trans rfl
  have e1 : wr.cell? ⟨w.heap.size, 1, none⟩ = some (.slice A l.length c) := (blk_cell K.out 1).trans rfl
  by_cases hlt : i < l.length
  ·have p1 : decide ((i : Int) < (l.length : Int)) = true := decide_eq_true (by omega)
   obtain ⟨ad, e, x0, x1, x2, x3⟩ := at_T32 (Kd.C_below HR.out HB0.out) (i : Int) (by omega) (by omega)
   subst e
   rw [Int.toNat_natCast] at x0 x1 x2 x3
   have hd : l.drop i = rd_T32 l i :: l.drop (i + 1) := by rw [List.drop_eq_getElem_cons hlt]; simp [rd_T32, hlt]
   have HD := Aside0.mk (show l.all (sightB p) = (sightB p (rd_T32 l i) && (l.drop (i + 1)).all (sightB p)) by rw [HA.out, hd]; rfl)
   clear hd HA
   obtain ⟨s, hs⟩ : ∃ s, s = rd_T32 l i := ⟨_, rfl⟩
   rw [← hs] at x0 x1 x2 x3 HD
   clear hs
   obtain ⟨f, t, ri, wt⟩ := s
   dsimp only at x0 x1 x2 x3
   have HQ := Aside0.mk (show sightB p ⟨f, t, ri, wt⟩ = ((((areIn [f, t] 0 (wrap64 (p - 1)) && !(f == t)) && inB (-100) 100 ri) && inB 1 3 wt)) by
    unfold sightB areIn
    simp only [List.all_cons, List.all_nil, Bool.and_true])
   have hba := below_alloc (below_alloc (Below.refl wr.heap.size wr) (.cells #[.int .i64 f, .int .i64 t, .int .i64 ri, .int .i64 wt] 32)) (.cells #[.int .i64 f, .int .i64 t] 2)
   have hna := blk_alloc (heap_alloc_new wr (.cells #[.int .i64 f, .int .i64 t, .int .i64 ri, .int .i64 wt] 32)) (.cells #[.int .i64 f, .int .i64 t] 2)
   have hnb := heap_alloc_new (wr.alloc (.cells #[.int .i64 f, .int .i64 t, .int .i64 ri, .int .i64 wt] 32)) (.cells #[.int .i64 f, .int .i64 t] 2)
   rw [World.size_alloc] at hnb
   have hcw := areWithin_any (some ⟨wr.heap.size + 1, 0, none⟩) 2 [f, t] 0 (wrap64 (p - 1)) _ (C_two _ _ f t hnb)
   have HNA := Aside0.mk hna
   have HBA := Aside0.mk hba
   have e0a : ((wr.alloc (.cells #[.int .i64 f, .int .i64 t, .int .i64 ri, .int .i64 wt] 32)).alloc (.cells #[.int .i64 f, .int .i64 t] 2)).cell? ⟨w.heap.size, 0, none⟩ = some (.int .i64 p) := (blk_cell (blk_alloc (blk_alloc K.out _) _) 0).trans rfl
   clear hna hnb hba
   have aft : ∀ {w1 : World}, Below ((wr.alloc (.cells #[.int .i64 f, .int .i64 t, .int .i64 ri, .int .i64 wt] 32)).alloc (.cells #[.int .i64 f, .int .i64 t] 2)).heap.size ((wr.alloc (.cells #[.int .i64 f, .int .i64 t, .int .i64 ri, .int .i64 wt] 32)).alloc (.cells #[.int .i64 f, .int .i64 t] 2)) w1 → (w1.heap[wr.heap.size]? = some (.cells #[.int .i64 f, .int .i64 t, .int .i64 ri, .int .i64 wt] 32 (0, 0))) ∧ Below w.heap.size w w1 ∧ Below (w.alloc (BS p (some ad) l.length c)).heap.size (w.alloc (BS p (some ad) l.length c)) w1 :=
    fun h => ⟨blk_below HNA.out h, below_step HB.out (below_step HBA.out h), below_step HB0.out (below_step HBA.out h)⟩
   have AFT := Aside0.mk @aft
   clear aft
   by_cases q1 : areIn [f, t] 0 (wrap64 (p - 1)) = true
   ·rw [q1] at hcw
    by_cases q2 : f = t
    ·have d2 : (f == t) = true := by simpa using q2
     have HF := Aside0.mk (show l.all (sightB p) = false by rw [HD.out, HQ.out, d2]; simp)
     clear q1 q2
     go_wp2_with (go_at_call 110; refine hcw.mono ?_; rintro e w1 ⟨rfl, hb⟩; obtain ⟨hk, hb1, hb2⟩ := AFT.out hb; have k0 : w1.cell? ⟨wr.heap.size, 0, none⟩ = some (.int .i64 f) := (blk_cell hk 0).trans rfl; have k1 : w1.cell? ⟨wr.heap.size, 1, none⟩ = some (.int .i64 t) := (blk_cell hk 1).trans rfl; have HB1 := Aside0.mk hb1; clear hb hb1 hb2 hk)
     go_ret
     exact ⟨ret_bool (by rw [HS.out, HF.out, Bool.and_false]), HB1.out⟩
    ·have d2 : (f == t) = false := by simpa using q2
     by_cases q3 : inB (-100) 100 ri = true
     ·by_cases q4 : inB 1 3 wt = true
      ·have HT := Aside0.mk (show l.all (sightB p) = (l.drop (i + 1)).all (sightB p) by rw [HD.out, HQ.out, q1, d2, q3, q4]; simp)
       clear q1 q2
       go_wp2_with (first
        | (go_at_call 110; refine hcw.mono ?_; rintro e w1 ⟨rfl, hb⟩; obtain ⟨hk, hb1, hb2⟩ := AFT.out hb; have k0 : w1.cell? ⟨wr.heap.size, 0, none⟩ = some (.int .i64 f) := (blk_cell hk 0).trans rfl; have k1 : w1.cell? ⟨wr.heap.size, 1, none⟩ = some (.int .i64 t) := (blk_cell hk 1).trans rfl; have k2 : w1.cell? ⟨wr.heap.size, 2, none⟩ = some (.int .i64 ri) := (blk_cell hk 2).trans rfl; have k3 : w1.cell? ⟨wr.heap.size, 3, none⟩ = some (.int .i64 wt) := (blk_cell hk 3).trans rfl; have HB1 := Aside0.mk hb1; have HB2 := Aside0.mk hb2; clear hb hb1 hb2 hk)
        | (go_at_call 82; refine (within_any _ _ _ _).mono ?_; rintro e w2 ⟨rfl, rfl⟩))
       go_roundw
       case rel => exact ⟨i + 1, by go_num, by omega, HT, HB1, HB2⟩
       case measure => simp [intOf]; omega
      ·have q4' : inB 1 3 wt = false := by simpa using q4
       have HF := Aside0.mk (show l.all (sightB p) = false by rw [HD.out, HQ.out, q4']; simp)
       clear q1 q2 q4
       go_wp2_with (first
        | (go_at_call 110; refine hcw.mono ?_; rintro e w1 ⟨rfl, hb⟩; obtain ⟨hk, hb1, hb2⟩ := AFT.out hb; have k0 : w1.cell? ⟨wr.heap.size, 0, none⟩ = some (.int .i64 f) := (blk_cell hk 0).trans rfl; have k1 : w1.cell? ⟨wr.heap.size, 1, none⟩ = some (.int .i64 t) := (blk_cell hk 1).trans rfl; have k2 : w1.cell? ⟨wr.heap.size, 2, none⟩ = some (.int .i64 ri) := (blk_cell hk 2).trans rfl; have k3 : w1.cell? ⟨wr.heap.size, 3, none⟩ = some (.int .i64 wt) := (blk_cell hk 3).trans rfl; have HB1 := Aside0.mk hb1; clear hb hb1 hb2 hk)
        | (go_at_call 82; refine (within_any _ _ _ _).mono ?_; rintro e w2 ⟨rfl, rfl⟩))
       go_ret
       exact ⟨ret_bool (by rw [HS.out, HF.out, Bool.and_false]), HB1.out⟩
     ·have q3' : inB (-100) 100 ri = false := by simpa using q3
      have HF := Aside0.mk (show l.all (sightB p) = false by rw [HD.out, HQ.out, q3']; simp)
      clear q1 q2 q3
      go_wp2_with (first
       | (go_at_call 110; refine hcw.mono ?_; rintro e w1 ⟨rfl, hb⟩; obtain ⟨hk, hb1, hb2⟩ := AFT.out hb; have k0 : w1.cell? ⟨wr.heap.size, 0, none⟩ = some (.int .i64 f) := (blk_cell hk 0).trans rfl; have k1 : w1.cell? ⟨wr.heap.size, 1, none⟩ = some (.int .i64 t) := (blk_cell hk 1).trans rfl; have k2 : w1.cell? ⟨wr.heap.size, 2, none⟩ = some (.int .i64 ri) := (blk_cell hk 2).trans rfl; have HB1 := Aside0.mk hb1; clear hb hb1 hb2 hk)
       | (go_at_call 82; refine (within_any _ _ _ _).mono ?_; rintro e w2 ⟨rfl, rfl⟩))
      go_ret
      exact ⟨ret_bool (by rw [HS.out, HF.out, Bool.and_false]), HB1.out⟩
   ·have q1' : areIn [f, t] 0 (wrap64 (p - 1)) = false := by simpa using q1
    rw [q1'] at hcw
    have HF := Aside0.mk (show l.all (sightB p) = false by rw [HD.out, HQ.out, q1']; simp)
    clear q1 q1'
    go_wp2_with (go_at_call 110; refine hcw.mono ?_; rintro e w1 ⟨rfl, hb⟩; obtain ⟨hk, hb1, hb2⟩ := AFT.out hb; have HB1 := Aside0.mk hb1; clear hb hb1 hb2 hk)
    go_ret
    exact ⟨ret_bool (by rw [HS.out, HF.out, Bool.and_false]), HB1.out⟩
  ·obtain rfl : l.length = i := by omega
   have p1 : decide ((l.length : Int) < (l.length : Int)) = false := decide_eq_false (by omega)
   have HT := Aside0.mk (show l.all (sightB p) = true by rw [HA.out]; simp)
   by_cases q1 : inB 2 5 p = true
   ·have HU := Aside0.mk (show surveyB p l = decide ((l.length : Int) ≤ 8) by rw [HS.out, HT.out, q1]; simp)
    go_wp2_with (go_at_call 82; refine (within_any _ _ _ _).mono ?_; rintro e w2 ⟨rfl, rfl⟩)
    go_ret
    exact ⟨ret_bool (by rw [HU.out]), HB.out⟩
   ·have q1' : inB 2 5 p = false := by simpa using q1
    have HU := Aside0.mk (show surveyB p l = false by rw [HS.out, q1']; simp)
    clear q1
    go_wp2_with (go_at_call 82; refine (within_any _ _ _ _).mono ?_; rintro e w2 ⟨rfl, rfl⟩)
    go_ret
    exact ⟨ret_bool (by rw [HU.out]), HB.out⟩
end Go.Proofs.Ytkafbmanmffliaa.Hv

/- The program's tree, connected, IsConnected and arePoints, walked by hand. -/
namespace Go.Proofs.Ytkafbmanmffliaa.Hw
open Go Go.RowKit YtkafbmanmffliaaW.PrintWords YtkafbmanmffliaaW.PrintLast YtkafbmanmffliaaW.PrintMore Q Gd Ge Gi Hb Ha Hc Hd Hv PuT
set_option linter.unusedVariables false
set_option linter.unusedSimpArgs false
structure Two (w0 wz : World) (bo co bg cg : Nat) (o g : List Int) : Prop where
 ob : w0.heap.size ≤ bo
 gb : w0.heap.size ≤ bg
 oc : Cb wz 2 bo co (o.map (Value.int .i64))
 gc : Cb wz 2 bg cg (g.map (Value.int .i64))
 ne : bo ≠ bg
 be : Below w0.heap.size w0 wz
section
variable {w0 wr w1 w2 : World} {bo co bg cg g1 cap1 : Nat} {o g : List Int} {x : Int}
theorem Two.below (h : Two w0 wr bo co bg cg o g) (hb : Below wr.heap.size wr w1) : Two w0 w1 bo co bg cg o g := ⟨h.ob, h.gb, h.oc.below hb, h.gc.below hb, h.ne, below_step h.be hb⟩
theorem Two.pushO (h : Two w0 wr bo co bg cg o g) (hc : Cb w2 2 g1 cap1 (o.map (Value.int .i64) ++ [.int .i64 x])) (hat : g1 = bo ∨ wr.heap.size ≤ g1) (hg : wr.grownBy w2 (some bo)) : Two w0 w2 g1 cap1 bg cg (o ++ [x]) g := by
 have hs := h.be.size
 have hl := h.gc.lt
 have h1 := h.ob
 have h2 := h.ne
 refine ⟨?_, h.gb, by rw [List.map_append]; exact hc, h.gc.kept (hg.block bg hl (fun e => h2 (Option.some.inj e).symm)), ?_, below_grownB h.be (Nat.le_refl _) hg h.ob⟩
 ·rcases hat with e | e <;> omega
 ·rcases hat with e | e <;> omega
theorem Two.pushG (h : Two w0 wr bo co bg cg o g) (hc : Cb w2 2 g1 cap1 (g.map (Value.int .i64) ++ [.int .i64 x])) (hat : g1 = bg ∨ wr.heap.size ≤ g1) (hg : wr.grownBy w2 (some bg)) : Two w0 w2 bo co g1 cap1 o (g ++ [x]) := by
 have hs := h.be.size
 have hl := h.oc.lt
 have h1 := h.gb
 have h2 := h.ne
 refine ⟨h.ob, ?_, h.oc.kept (hg.block bo hl (fun e => h2 (Option.some.inj e))), by rw [List.map_append]; exact hc, ?_, below_grownB h.be (Nat.le_refl _) hg h.gb⟩
 ·rcases hat with e | e <;> omega
 ·rcases hat with e | e <;> omega
theorem Two.setG (h : Two w0 wr bo co bg cg o g) (i : Nat) (x : Int) : Two w0 (wr.setCell ⟨bg, i, none⟩ (.int .i64 x)) bo co bg cg o (g.set i x) := by
 obtain ⟨h1, h2⟩ := h.gc.put i (.int .i64 x) (Pv.i64 x)
 refine ⟨h.ob, h.gb, h.oc.kept (h2.block bo h.oc.lt (fun e => h.ne (Option.some.inj e))), ?_, h.ne, h.be.setCell (p := ⟨bg, i, none⟩) h.gb _⟩
 rw [List.map_set]
 exact h1
theorem Two.cell (h : Two w0 wr bo co bg cg o g) (i : Nat) (hi : i < g.length) : wr.cell? ⟨bg, i, none⟩ = some (.int .i64 (rd g i)) ∧ wr.frozen? ⟨bg, i, none⟩ = false :=
 h.gc.at_ i _ (by rw [List.getElem?_map, List.getElem?_eq_getElem hi]; simp [rd, List.getD_eq_getElem?_getD, hi])
end
theorem nums (i : Nat) : (List.range (i + 1)).map (fun k : Nat => (k : Int)) = (List.range i).map (fun k : Nat => (k : Int)) ++ [(i : Int)] := by simp [List.range_succ]
set_option maxHeartbeats 8000000 in
set_option maxRecDepth 100000 in
theorem tree_any (n : Nat) (l : List S32) (hv : surveyB n l = true) (A : Option Addr) (c : Nat) (w : World) (hr : Kd.C k32 w A l.length l) :
  Calls Try.prog 75 #[.agg #[.int .i64 (n : Int), .slice A l.length c]] w fun e w' => ∃ (bo co : Nat) (v : Value), e = .returned (.tuple #[.slice (some ⟨bo, 0, none⟩) (treeG n l).out.length co, v]) ∧ Below w.heap.size w w' := by
 have hu26 := Try.underlying26
 have hu32 := Try.underlying32
 have hp5 := valid_pts hv
 have hbx := below_alloc (Below.refl w.heap.size w) (BS n A l.length c)
 have HR := Aside0.mk (Kd.C_below hr hbx)
 have HX := Aside0.mk (heap_alloc_new w (BS n A l.length c))
 have HV := Aside0.mk hv
 have HB0 := Aside0.mk hbx
 clear hr hbx hv
 go_enter Try.func75, Try.ntmps75
 have hbk := blk_alloc (blk_alloc HX.out (.cells #[] 2)) (.cells #[] 2)
 have e0 : (((w.alloc (BS n A l.length c)).alloc (.cells #[] 2)).alloc (.cells #[] 2)).cell? ⟨w.heap.size, 0, none⟩ = some (.int .i64 (n : Int)) := (blk_cell hbk 0).trans rfl
 go_wp2_with (fail)
 clear hbk e0
 obtain ⟨W0, hW0⟩ : ∃ W0, W0 = w.alloc (BS n A l.length c) := ⟨_, rfl⟩
 have hs0 : W0.heap.size = w.heap.size + 1 := by rw [hW0]; simp
 rw [← hW0] at HR HX HB0
 rw [← hW0]
 have t0 := Aside0.mk (show Two W0 ((W0.alloc (.cells #[] 2)).alloc (.cells #[] 2)) (w.heap.size + 1) 0 (w.heap.size + 1 + 1) 0 [] ((List.range 0).map (fun k : Nat => (k : Int))) from
  ⟨by omega, by omega, by rw [← hs0]; exact (Cb.nil_new W0 2).below (below_alloc (Below.refl _ _) _), by have h := Cb.nil_new (W0.alloc (.cells #[] 2)) 2; rw [World.size_alloc, hs0] at h; exact h, by omega, below_alloc (below_alloc (Below.refl _ _) _) _⟩)
 clear hW0 hs0
 go_loopw [5, 16] (fun v5 v16 wz => ∃ (i bo co bg cg : Nat), v5 = .slice (some ⟨bg, 0, none⟩) i cg ∧ v16 = .int .i64 (i : Int) ∧ i ≤ n ∧ bo = w.heap.size + 1 ∧ co = 0 ∧ Aside0 (Two W0 wz bo co bg cg [] ((List.range i).map (fun k : Nat => (k : Int))))) (fun _ v _ => n - (intOf v).toNat)
 case atStart => exact ⟨0, _, _, _, 0, rfl, rfl, by omega, rfl, rfl, t0⟩
 case round =>
  clear t0
  obtain ⟨i, bo, co, bg, cg, rfl, rfl, hi, hbo, hco, HT⟩ := hrel
  by_cases hlt : i < n
  ·have p1 : decide ((i : Int) < (n : Int)) = true := decide_eq_true (by omega)
   have hlen : ((List.range i).map (fun k : Nat => (k : Int))).length = i := by simp
   go_wp2_with ((with_reducible refine gate_builtin (b := .append) (xs := #[.tmp 19, .tmp 21]) rfl ?_); at_builtin; refine Cb.append rfl (.tmp 19) (.tmp 21) 28 2 (.int .i64 0) 8 rfl Try.underlying28 info2 rfl (Pv.i64 _) (by decide) bg cg i _ (.int .i64 (i : Int)) (by rw [List.length_map, hlen]) rfl rfl rfl (Pv.i64 _) HT.out.gc (by rw [List.length_map, hlen]; omega) ?_; intro g1 cap1 w2 h1 h2 h3; have HN := Aside0.mk (HT.out.pushG h1 h2 h3); clear h1 h2 h3)
   rw [← nums] at HN
   go_roundw
   case rel => exact ⟨i + 1, bo, co, g1, cap1, by go_num, by go_num, by omega, hbo, hco, HN⟩
   case measure => simp [intOf]; omega
  ·obtain rfl : n = i := by omega
   have p1 : decide ((n : Int) < (n : Int)) = false := decide_eq_false (by omega)
   have t1 := Aside0.mk (show Two W0 wr bo co bg cg (atG n l 0).out (atG n l 0).grp from HT.out)
   have hcy : wr.cell? ⟨w.heap.size, 1, none⟩ = some (.slice A l.length c) := (blk_cell (blk_below HX.out HT.out.be) 1).trans rfl
   subst hbo hco
   clear HT
   go_wp2_with (fail)
   clear hcy
   go_loopw [4, 27] (fun v4 v27 wz => ∃ (i bo co : Nat), v4 = .slice (some ⟨bo, 0, none⟩) (atG n l i).out.length co ∧ v27 = .int .i64 (i : Int) ∧ i ≤ l.length ∧ Aside0 (Two W0 wz bo co bg cg (atG n l i).out (atG n l i).grp)) (fun _ v _ => l.length - (intOf v).toNat)
   case atStart => exact ⟨0, _, _, rfl, rfl, by omega, t1⟩
   case round =>
    clear t1
    obtain ⟨i, bo, co, rfl, rfl, hi, HT⟩ := hrel
    by_cases hlt2 : i < l.length
    ·have p2 : decide ((i : Int) < (l.length : Int)) = true := decide_eq_true (by omega)
     obtain ⟨ad, e, x0, x1, x2, x3⟩ := at_T32 (Kd.C_below HR.out HT.out.be) (i : Int) (by omega) (by omega)
     subst e
     rw [Int.toNat_natCast] at x0 x1 x2 x3
     have hva := valid_at HV.out i hlt2
     have HSU := Aside0.mk (atG_succ n l i hlt2)
     have hgl := atG_len n l i
     have hol := atG_out n l i
     rw [Int.toNat_natCast] at hgl
     obtain ⟨s, hs⟩ : ∃ s, s = rd_T32 l i := ⟨_, rfl⟩
     rw [← hs] at x0 x1 x2 x3 hva HSU
     clear hs
     obtain ⟨f, t, ri, wt⟩ := s
     dsimp only at x0 x1 x2 x3 hva
     obtain ⟨y0, y1, y2, y3⟩ := hva
     obtain ⟨f, rfl⟩ : ∃ q : Nat, f = q := ⟨f.toNat, by omega⟩
     obtain ⟨t, rfl⟩ : ∃ q : Nat, t = q := ⟨t.toNat, by omega⟩
     obtain ⟨G, hG⟩ : ∃ G, G = (atG n l i).grp := ⟨_, rfl⟩
     obtain ⟨O, hO⟩ : ∃ O, O = (atG n l i).out := ⟨_, rfl⟩
     rw [← hG] at hgl HT
     rw [← hO] at hol HT
     have HST := Aside0.mk (show atG n l (i + 1) = if rd G (f : Int) = rd G (t : Int) then ⟨O, G⟩ else ⟨O ++ [(i : Int)], G.map fun v => if v = rd G (t : Int) then rd G (f : Int) else v⟩ by rw [HSU.out, hG, hO]; rfl)
     have hba := below_alloc (Below.refl wr.heap.size wr) (.cells #[.int .i64 (f : Int), .int .i64 (t : Int), .int .i64 ri, .int .i64 wt] 32)
     have hna := heap_alloc_new wr (.cells #[.int .i64 (f : Int), .int .i64 (t : Int), .int .i64 ri, .int .i64 wt] 32)
     have HT1 := Aside0.mk (HT.out.below hba)
     have z0 := (HT1.out.cell f (by omega)).1
     have z1 := (HT1.out.cell t (by omega)).1
     obtain ⟨va, hva⟩ : ∃ va, va = rd G (f : Int) := ⟨_, rfl⟩
     obtain ⟨vb, hvb⟩ : ∃ vb, vb = rd G (t : Int) := ⟨_, rfl⟩
     rw [← hva] at z0 HST
     rw [← hvb] at z1 HST
     have i1 : (0 ≤ (f : Int)) = True := eq_true (by omega)
     have i2 : ((f : Int) < (n : Int)) = True := eq_true (by omega)
     have i3 : (0 ≤ (t : Int)) = True := eq_true (by omega)
     have i4 : ((t : Int) < (n : Int)) = True := eq_true (by omega)
     clear hva hvb HSU HT hna
     rw [← hO]
     by_cases hab : va = vb
     ·have d1 : (va == vb) = true := by simpa using hab
      have HS2 := Aside0.mk (show (atG n l (i + 1)).out = O ∧ (atG n l (i + 1)).grp = G by rw [HST.out, if_pos hab]; exact ⟨rfl, rfl⟩)
      clear hab
      go_wp2_with (fail)
      go_quiet (fail)
      go_wp2_with (fail)
      have HT2 := Aside0.mk (HT1.out.below (pw_below_drewN (Below.refl _ _) nq))
      go_roundw
      case rel => exact ⟨i + 1, bo, co, by rw [HS2.out.1], by go_num, by omega, ⟨by rw [HS2.out.1, HS2.out.2]; exact HT2.out⟩⟩
      case measure => simp [intOf]; omega
     ·have d1 : (va == vb) = false := by simpa using hab
      have HS2 := Aside0.mk (show (atG n l (i + 1)).out = O ++ [(i : Int)] ∧ (atG n l (i + 1)).grp = G.map fun v => if v = vb then va else v by rw [HST.out, if_neg hab]; exact ⟨rfl, rfl⟩)
      clear hab
      go_wp2_with (fail)
      go_quiet (fail)
      have HT2 := Aside0.mk (HT1.out.below (pw_below_drewN (Below.refl _ _) nq))
      obtain ⟨wb, hwb⟩ : ∃ wb, wb = (wr.alloc (.cells #[.int .i64 (f : Int), .int .i64 (t : Int), .int .i64 ri, .int .i64 wt] 32)).drewN nq := ⟨_, rfl⟩
      rw [← hwb] at HT2
      rw [← hwb]
      clear hwb
      go_wp2_with ((with_reducible refine gate_builtin (b := .append) (xs := #[.tmp 45, .tmp 47]) rfl ?_); at_builtin; refine Cb.append rfl (.tmp 45) (.tmp 47) 28 2 (.int .i64 0) 8 rfl Try.underlying28 info2 rfl (Pv.i64 _) (by decide) bo co O.length _ (.int .i64 (i : Int)) (by rw [List.length_map]) rfl rfl rfl (Pv.i64 _) HT2.out.oc (by rw [List.length_map]; omega) ?_; intro g1 cap1 w2 h1 h2 h3; have HT3 := Aside0.mk (HT2.out.pushO h1 h2 h3); clear h1 h2 h3)
      obtain ⟨G2, hG2⟩ : ∃ G2, G2 = G.map fun v => if v = vb then va else v := ⟨_, rfl⟩
      have hl2 : G2.length = G.length := by rw [hG2]; simp
      have HNX := Aside0.mk (show ∀ (j : Nat) (h : j < G.length), G2[j]'(by rw [hl2]; exact h) = if rd G j = vb then va else rd G j from fun j h => by
       simp only [hG2, List.getElem_map]
       rw [show rd G (j : Int) = G[j] by simp [rd, List.getD_eq_getElem?_getD, h]])
      have t2 := Aside0.mk (show Two W0 w2 g1 cap1 bg cg (O ++ [(i : Int)]) (Hc.upd G2 G 0) by rw [upd_zero]; exact HT3.out)
      have HG2 := Aside0.mk hG2
      clear hG2 HT1 HT2 HT3
      go_loopw [51] (fun v51 wz => ∃ j : Nat, v51 = .int .i64 (j : Int) ∧ j ≤ n ∧ Aside0 (Two W0 wz g1 cap1 bg cg (O ++ [(i : Int)]) (Hc.upd G2 G j))) (fun v _ => n - (intOf v).toNat)
      case atStart => exact ⟨0, rfl, by omega, t2⟩
      case round =>
       clear t2
       obtain ⟨j, rfl, hj, HT⟩ := hrel
       by_cases hjt : j < n
       ·have p3 : decide ((j : Int) < (n : Int)) = true := decide_eq_true (by omega)
        have hul := upd_len hl2 (k := j) (by omega)
        obtain ⟨z2, z3⟩ := HT.out.cell j (by omega)
        rw [rd_upd hl2 (by omega)] at z2
        have hnx := HNX.out j (by omega)
        have i5 : (0 ≤ (j : Int)) = True := eq_true (by omega)
        have i6 : ((j : Int) < (n : Int)) = True := eq_true (by omega)
        obtain ⟨vj, hvj⟩ : ∃ vj, vj = rd G (j : Int) := ⟨_, rfl⟩
        rw [← hvj] at z2 hnx
        by_cases hh : vj = vb
        ·have d2 : (vj == vb) = true := by simpa using hh
         rw [if_pos hh] at hnx
         have hst := HT.out.setG j va
         rw [← hnx, upd_set hl2 (by omega), hnx] at hst
         have HN := Aside0.mk hst
         clear hh hst hnx hvj hul
         go_wp2_with (fail)
         go_roundw
         case rel => exact ⟨j + 1, by go_num, by omega, HN⟩
         case measure => simp [intOf]; omega
        ·have d2 : (vj == vb) = false := by simpa using hh
         rw [if_neg hh, hvj, show rd G (j : Int) = G[j]'(by omega) by simp [rd, List.getD_eq_getElem?_getD, show j < G.length by omega]] at hnx
         have HN := Aside0.mk (show Two W0 wr g1 cap1 bg cg (O ++ [(i : Int)]) (Hc.upd G2 G (j + 1)) by rw [upd_same hl2 (by omega) hnx]; exact HT.out)
         clear hh hnx hvj hul z3
         go_wp2_with (fail)
         go_roundw
         case rel => exact ⟨j + 1, by go_num, by omega, HN⟩
         case measure => simp [intOf]; omega
       ·obtain rfl : n = j := by omega
        have p3 : decide ((n : Int) < (n : Int)) = false := decide_eq_false (by omega)
        have hall := HT.out
        rw [← hgl, upd_all hl2, HG2.out] at hall
        have HN := Aside0.mk hall
        clear hall
        go_wp2_with (fail)
        go_roundw
        case rel => exact ⟨i + 1, g1, cap1, by rw [HS2.out.1]; simp [hO], by go_num, by omega, ⟨by rw [HS2.out.1, HS2.out.2]; exact HN.out⟩⟩
        case measure => simp [intOf]; omega
    ·obtain rfl : l.length = i := by omega
     have p2 : decide ((l.length : Int) < (l.length : Int)) = false := decide_eq_false (by omega)
     go_wp2_with (fail)
     go_ret2
     exact ⟨bo, co, _, rfl, HB0.out.trans (HT.out.be.mono HB0.out.size)⟩
set_option maxHeartbeats 4000000 in
theorem connected_any (n : Nat) (l : List S32) (hv : surveyB n l = true) (A : Option Addr) (c : Nat) (w : World) (hr : Kd.C k32 w A l.length l) :
  Calls Try.prog 80 #[.agg #[.int .i64 (n : Int), .slice A l.length c]] w fun e w' => e = .returned (.bool (Gm.connB n l)) ∧ Below w.heap.size w w' := by
 have hu26 := Try.underlying26
 have hp5 := valid_pts hv
 have hbx := below_alloc (Below.refl w.heap.size w) (BS n A l.length c)
 have HX := Aside0.mk (heap_alloc_new w (BS n A l.length c))
 have hct := tree_any n l hv A c (w.alloc (BS n A l.length c)) (Kd.C_below hr hbx)
 have HB0 := Aside0.mk hbx
 have hw : wrap64 ((n : Int) - 1) = (n : Int) - 1 := by unfold wrap64; omega
 have HQ := Aside0.mk (show ((((treeG n l).out.length : Nat) : Int) == (n : Int) - 1) = Gm.connB n l by
  have h := conn_eq hv
  rw [Bool.eq_iff_iff, beq_iff_eq, ← h]
  unfold Gm.connB
  rw [hv, Bool.true_and])
 clear hr hbx hv
 go_enter Try.func80, Try.ntmps80
 go_wp2_with (fail)
 refine hct.mono ?_
 rintro e w1 ⟨bo, co, v, rfl, hb⟩
 have e0 : w1.cell? ⟨w.heap.size, 0, none⟩ = some (.int .i64 (n : Int)) := (blk_cell (blk_below HX.out hb) 0).trans rfl
 have HB1 := Aside0.mk (below_step HB0.out hb)
 clear hct hb
 go_wp2_with (fail)
 go_ret
 exact ⟨ret_bool HQ.out, HB1.out⟩
set_option maxHeartbeats 4000000 in
theorem isConn_any (p : Int) (l : List S32) (A : Option Addr) (c : Nat) (w : World) (hr : Kd.C k32 w A l.length l) (hl : l.length ≤ 1048576) :
  Calls Try.prog 40 #[.agg #[.int .i64 p, .slice A l.length c]] w fun e w' => e = .returned (.bool (Gm.connB p l)) ∧ Below w.heap.size w w' := by
 have hu26 := Try.underlying26
 have hbx := below_alloc (Below.refl w.heap.size w) (BS p A l.length c)
 have HX := Aside0.mk (heap_alloc_new w (BS p A l.length c))
 have HR := Aside0.mk (Kd.C_below hr hbx)
 have hcv := valid_any p l A c (w.alloc (BS p A l.length c)) HR.out hl
 have HB0 := Aside0.mk hbx
 clear hr hbx
 by_cases hv : surveyB p l = true
 ·obtain ⟨n, rfl⟩ := nat_pts hv
  have hcc := fun (W : World) (h : Kd.C k32 W A l.length l) => connected_any n l hv A c W h
  rw [hv] at hcv
  clear hv
  go_enter Try.func40, Try.ntmps40
  go_wp2_with (fail)
  refine hcv.mono ?_
  rintro e w1 ⟨rfl, hb⟩
  have hz := hcc w1 (Kd.C_below HR.out hb)
  have e0 : w1.cell? ⟨w.heap.size, 0, none⟩ = some (.int .i64 (n : Int)) := (blk_cell (blk_below HX.out hb) 0).trans rfl
  have e1 : w1.cell? ⟨w.heap.size, 1, none⟩ = some (.slice A l.length c) := (blk_cell (blk_below HX.out hb) 1).trans rfl
  have HB1 := Aside0.mk (below_step HB0.out hb)
  clear hcv hcc hb
  go_wp2_with (fail)
  refine hz.mono ?_
  rintro e w2 ⟨rfl, hb⟩
  have HB2 := Aside0.mk (below_step HB1.out hb)
  clear hz hb e0 e1
  go_wp2_with (fail)
  go_ret
  exact ⟨rfl, HB2.out⟩
 ·have hv' : surveyB p l = false := by simpa using hv
  have HF := Aside0.mk (show false = Gm.connB p l by unfold Gm.connB; rw [hv', Bool.false_and])
  rw [hv'] at hcv
  clear hv hv'
  go_enter Try.func40, Try.ntmps40
  go_wp2_with (fail)
  refine hcv.mono ?_
  rintro e w1 ⟨rfl, hb⟩
  have HB1 := Aside0.mk (below_step HB0.out hb)
  clear hcv hb
  go_wp2_with (fail)
  go_ret
  exact ⟨ret_bool HF.out, HB1.out⟩
def ptsB (p : Int) (l : List S32) (a b : Int) : Bool := Gm.connB p l && (inB 0 (p - 1) a && inB 0 (p - 1) b)
set_option maxHeartbeats 4000000 in
theorem pts_any (p : Int) (l : List S32) (a b : Int) (A : Option Addr) (c : Nat) (w : World) (hr : Kd.C k32 w A l.length l) (hl : l.length ≤ 1048576) :
  Calls Try.prog 62 #[.agg #[.int .i64 p, .slice A l.length c], .int .i64 a, .int .i64 b] w fun e w' => e = .returned (.bool (ptsB p l a b)) ∧ Below w.heap.size w w' := by
 have hu26 := Try.underlying26
 have hbx := below_alloc (Below.refl w.heap.size w) (BS p A l.length c)
 have HX := Aside0.mk (heap_alloc_new w (BS p A l.length c))
 have hcv := isConn_any p l A c (w.alloc (BS p A l.length c)) (Kd.C_below hr hbx) hl
 have HB0 := Aside0.mk hbx
 clear hr hbx
 by_cases h : Gm.connB p l = true
 ·have hp : wrap64 (p - 1) = p - 1 := by
   have h2 := h
   unfold Gm.connB surveyB inB at h2
   simp only [Bool.and_eq_true, decide_eq_true_eq] at h2
   unfold wrap64
   omega
  have HQ := Aside0.mk (show areIn [a, b] 0 (p - 1) = ptsB p l a b by unfold ptsB areIn; rw [h]; simp only [List.all_cons, List.all_nil, Bool.and_true, Bool.true_and])
  rw [h] at hcv
  clear h
  go_enter Try.func62, Try.ntmps62
  go_wp2_with (fail)
  refine hcv.mono ?_
  rintro e w1 ⟨rfl, hb⟩
  have e0 : (w1.alloc (.cells #[.int .i64 a, .int .i64 b] 2)).cell? ⟨w.heap.size, 0, none⟩ = some (.int .i64 p) := (blk_cell (blk_alloc (blk_below HX.out hb) _) 0).trans rfl
  have HB1 := Aside0.mk (below_step (below_step HB0.out hb) (below_alloc (Below.refl w1.heap.size w1) (.cells #[.int .i64 a, .int .i64 b] 2)))
  have hca := areWithin_any (some ⟨w1.heap.size, 0, none⟩) 2 [a, b] 0 (p - 1) _ (C_two _ _ a b (heap_alloc_new w1 (.cells #[.int .i64 a, .int .i64 b] 2)))
  clear hcv hb
  go_wp2_with (fail)
  refine hca.mono ?_
  rintro e w2 ⟨rfl, hb⟩
  have HB2 := Aside0.mk (below_step HB1.out hb)
  clear hca hb e0
  go_wp2_with (fail)
  go_ret
  exact ⟨ret_bool HQ.out, HB2.out⟩
 ·have h' : Gm.connB p l = false := by simpa using h
  have HF := Aside0.mk (show false = ptsB p l a b by unfold ptsB; rw [h', Bool.false_and])
  rw [h'] at hcv
  clear h h'
  go_enter Try.func62, Try.ntmps62
  go_wp2_with (fail)
  refine hcv.mono ?_
  rintro e w1 ⟨rfl, hb⟩
  have HB1 := Aside0.mk (below_step HB0.out hb)
  clear hcv hb
  go_wp2_with (fail)
  go_ret
  exact ⟨ret_bool HF.out, HB1.out⟩
end Go.Proofs.Ytkafbmanmffliaa.Hw

namespace Go.Proofs.Ytkafbmanmffliaa.Q
open Go.RowKit YtkafbmanmffliaaW.PrintWords YtkafbmanmffliaaW.PrintLast YtkafbmanmffliaaW.PrintMore
attribute [local go_sem] max2_int min2_int max_two min_two max_three min_three max_four min_four
set_option linter.unusedVariables false
set_option linter.unusedSimpArgs false
def spec_l00In.f (a0 : Int) (a1 : Int) (a2 : Int) : Option (Bool) := if a0 ≥ a1 then (some (decide (a0 ≤ a2))) else (some false)
set_option maxHeartbeats 8000000 in
set_option maxRecDepth 100000 in
theorem spec_l00In.calls (a0 : Int) (a1 : Int) (a2 : Int) (r : Bool) (w : World) (h : spec_l00In.f a0 a1 a2 = some r) :
  Calls Try.prog 114 #[.int .i64 a0, .int .i64 a1, .int .i64 a2] w fun e w' => e = .returned (.bool r) ∧ Drawn0 w w' := by
 have H : (if a0 ≥ a1 then (some (decide (a0 ≤ a2))) else (some false)) = some r := h
 clear h
 by_cases c4 : a0 ≥ a1
 ·rw [if_pos c4] at H
  have c4b0 : decide (a1 ≤ a0) = true := decide_eq_true c4
  clear c4
  obtain rfl := Option.some.inj H
  go_enter Try.func114, Try.ntmps114
  go_wp2
  go_ret
  exact ⟨by first | rfl | (simp; done) | (simp [*]; done), by repeat (first | exact Drawn0.refl _ | apply Drawn0.step)⟩
 ·rw [if_neg c4] at H
  have c4b0 : decide (a1 ≤ a0) = false := decide_eq_false c4
  clear c4
  obtain rfl := Option.some.inj H
  go_enter Try.func114, Try.ntmps114
  go_wp2
  go_ret
  exact ⟨by first | rfl | (simp; done) | (simp [*]; done), by repeat (first | exact Drawn0.refl _ | apply Drawn0.step)⟩
end Go.Proofs.Ytkafbmanmffliaa.Q

/- How a value that came in is told by the kinds (Kd): what its reading as data says of its cells. -/
namespace Go.Proofs.Ytkafbmanmffliaa.Op
open Go.RowKit Go.ChangeShapes Go.WideShapes Go.ChangeAt YtkafbmanmffliaaW.PrintWords
def Opens {α : Type} (P : Program) (w : World) (t : TypeId) (d : Kd α) (Ok : α → Prop) : Prop :=
 ∀ (H : Type) (enc : TypeId × Value → H) (fuel : Nat) (cs : List Value) (x : DataW H × List MemPlace), DataW.trod enc P w 0 (fun _ => true) true fuel t cs = some x → ∃ a, d.K w a cs ∧ Ok a
def In64 (n : Int) : Prop := -9223372036854775808 ≤ n ∧ n ≤ 9223372036854775807
variable {P : Program} {w : World} {t e : TypeId} {α β : Type} {d : Kd α} {d2 : Kd β} {Ok : α → Prop} {Ok2 : β → Prop}
theorem opens_i64 (ht : P.underlying t = some (.int .i64)) : Opens P w t (Kd.int .i64) In64 := by
 intro H enc fuel cs x h
 obtain ⟨n, rfl, _, hw⟩ := DataW.trod_int ht h
 refine ⟨n, rfl, ?_⟩
 have h2 := hw
 simp [Lit.wf, IntKind.min, IntKind.max, IntKind.signed, IntKind.bits] at h2
 exact h2
theorem mapM_cells {w : World} {a : Addr} : ∀ (n k : Nat) (cs : List Value), ((List.range' k n).mapM fun i => w.cell? (a.add i)) = some cs → cs.length = n ∧ ∀ i u, cs[i]? = some u → w.cell? (a.add (k + i)) = some u := by
 intro n
 induction n with
 | zero => intro k cs h; simp at h; subst h; simp
 | succ n ih =>
  intro k cs h
  rw [List.range'_succ, List.mapM_cons] at h
  simp only [bind, Option.bind_eq_some_iff, pure, Option.some.injEq] at h
  obtain ⟨u, hu, us, hus, rfl⟩ := h
  obtain ⟨h1, h2⟩ := ih (k + 1) us hus
  refine ⟨by simp [h1], ?_⟩
  intro i v hv
  cases i with
  | zero => simp at hv; subst hv; simpa using hu
  | succ i => rw [show k + (i + 1) = k + 1 + i by omega]; exact h2 i v (by simpa using hv)
theorem cells_get {w : World} {b n : Nat} {a : Addr} {cs : List Value} (h : w.cells? b a n = some cs) : cs.length = n ∧ ∀ i u, cs[i]? = some u → w.cell? (a.add i) = some u := by
 unfold World.cells? at h
 split at h
 ·rw [List.range_eq_range'] at h
  obtain ⟨h1, h2⟩ := mapM_cells n 0 cs h
  exact ⟨h1, fun i u hu => by have := h2 i u hu; rwa [Nat.zero_add] at this⟩
 ·simp at h
theorem choose_list {α : Type} {R : Nat → α → Prop} : ∀ n : Nat, (∀ j, j < n → ∃ a, R j a) → ∃ l : List α, l.length = n ∧ ∀ j a, l[j]? = some a → R j a := by
 intro n
 induction n with
 | zero => intro _; exact ⟨[], rfl, by simp⟩
 | succ n ih =>
  intro h
  obtain ⟨l, hl, hR⟩ := ih fun j hj => h j (by omega)
  obtain ⟨a, ha⟩ := h n (by omega)
  refine ⟨l ++ [a], by simp [hl], ?_⟩
  intro j b hb
  by_cases hj : j < n
  ·rw [List.getElem?_append_left (by omega)] at hb; exact hR j b hb
  ·rw [List.getElem?_append_right (by omega)] at hb
   have : j = n := by
    have := (List.getElem?_eq_some_iff.1 hb).1
    simp at this; omega
   subst this
   rw [hl, Nat.sub_self] at hb
   simp at hb; subst hb; exact ha
theorem add_add' (a : Addr) (i j : Nat) : (a.add i).add j = a.add (i + j) := by
 simp only [Addr.add]
 split <;> split <;> simp_all [Nat.add_assoc]
theorem opens_slice (ht : P.underlying t = some (.slice e)) (he : Opens P w e d Ok) (hs : d.sz = P.cellsOf e) : Opens P w t (Kd.slice e d) (fun xs => (∀ a ∈ xs, Ok a) ∧ xs.length ≤ maxLen) := by
 intro H enc fuel cs x h
 rcases DataW.trod_slice ht h with ⟨rfl, _⟩ | ⟨a, len, cap, elems, rest, n, _, rfl, _, _, hl, hm, hlen, hel, _, _⟩
 ·exact ⟨[], ⟨none, 0, rfl, Nat.le_refl _, Kd.C_nil _ _⟩, by simp, by simp⟩
 ·have each : ∀ j, j < len → ∃ b, (∃ c : List Value, c.length = d.sz ∧ d.K w b c ∧ ∀ i u, c[i]? = some u → w.cell? (a.add (j * d.sz + i)) = some u) ∧ Ok b := by
   intro j hj
   have h1 := hel j hj
   rw [List.getElem?_eq_getElem (by omega), Option.bind_eq_some_iff] at h1
   obtain ⟨c, hc, hx⟩ := h1
   obtain ⟨hcl, hcell⟩ := cells_get hc
   obtain ⟨b, hb, hok⟩ := he H enc n c _ hx
   refine ⟨b, ⟨c, by rw [hs, hcl], hb, fun i u hu => ?_⟩, hok⟩
   have := hcell i u hu
   rwa [add_add', ← hs] at this
  obtain ⟨l, hll, hR⟩ := choose_list len each
  have hm' : cap ≤ 9223372036854775807 := by unfold maxLen at hm; exact hm
  refine ⟨l, ⟨some a, cap, by rw [hll], by omega, by omega, by omega, fun _ => ⟨a, rfl, fun j p hp => (hR j p hp).1⟩⟩, fun b hb => ?_, by omega⟩
  obtain ⟨j, hj, rfl⟩ := List.getElem_of_mem hb
  exact (hR j _ (List.getElem?_eq_getElem hj)).2
def OpensL {α : Type} (P : Program) (w : World) (fs : List Field) (off : Nat) (d : Kd α) (Ok : α → Prop) : Prop :=
 ∀ (H : Type) (enc : TypeId × Value → H) (fuel : Nat) (cs : List Value), cs.length = off + d.sz → (∀ f ∈ fs, ∃ x, DataW.trod enc P w 0 (fun _ => true) true fuel f.type ((cs.drop f.offset).take (P.cellsOf f.type)) = some x) → ∃ a, d.K w a (cs.drop off) ∧ Ok a
theorem opensL_one {f : Field} {off : Nat} (hf : Opens P w f.type d Ok) (ho : f.offset = off) (hs : d.sz = P.cellsOf f.type) : OpensL P w [f] off d Ok := by
 intro H enc fuel cs hl h
 obtain ⟨x, hx⟩ := h f (by simp)
 rw [ho, List.take_of_length_le (by simp; omega)] at hx
 exact hf H enc fuel _ x hx
theorem opensL_cons {f : Field} {fs : List Field} {off : Nat} (hf : Opens P w f.type d Ok) (ho : f.offset = off) (hs : d.sz = P.cellsOf f.type) (hr : OpensL P w fs (off + d.sz) d2 Ok2) :
  OpensL P w (f :: fs) off (Kd.pair d d2) (fun x => Ok x.1 ∧ Ok2 x.2) := by
 intro H enc fuel cs hl h
 have hl' : cs.length = off + (d.sz + d2.sz) := hl
 obtain ⟨x, hx⟩ := h f (by simp)
 rw [ho, ← hs] at hx
 obtain ⟨a, ha, hoka⟩ := hf H enc fuel _ x hx
 obtain ⟨b, hb, hokb⟩ := hr H enc fuel cs (by omega) (fun g hg => h g (by simp [hg]))
 exact ⟨(a, b), ⟨(cs.drop off).take d.sz, cs.drop (off + d.sz), by rw [← List.drop_drop, List.take_append_drop], ha, hb⟩, hoka, hokb⟩
theorem opens_struct {fs : Array Field} (ht : P.underlying t = some (.struct fs)) (hs : d.sz = P.cellsOf t) (h : OpensL P w fs.toList 0 d Ok) : Opens P w t d Ok := by
 intro H enc fuel cs x hx
 obtain ⟨xs, n, _, _, hl, hxl, hf⟩ := DataW.trod_struct ht hx
 have := h H enc n cs (by omega) (fun f hfm => by
  obtain ⟨i, hi, rfl⟩ := List.getElem_of_mem hfm
  have hi' : i < fs.size := by simpa using hi
  have h1 := hf i fs[i] (Array.getElem?_eq_getElem hi')
  rw [List.getElem?_eq_getElem (by omega)] at h1
  exact ⟨_, by simpa using h1⟩)
 simpa using this
theorem opens_iso {f : β → α} (g : α → β) (hg : ∀ a, f (g a) = a) (h : Opens P w t d Ok) : Opens P w t (Kd.iso d f) (fun b => Ok (f b)) := by
 intro H enc fuel cs x hx
 obtain ⟨a, ha, hok⟩ := h H enc fuel cs x hx
 exact ⟨g a, by show d.K w (f (g a)) cs; rw [hg]; exact ha, by show Ok (f (g a)); rw [hg]; exact hok⟩
theorem opens_imp {Ok' : α → Prop} (h : Opens P w t d Ok) (hi : ∀ a, Ok a → Ok' a) : Opens P w t d Ok' := by
 intro H enc fuel cs x hx
 obtain ⟨a, ha, hok⟩ := h H enc fuel cs x hx
 exact ⟨a, ha, hi a hok⟩
theorem open_struct_arg {H : Type} {enc : TypeId × Value → H} {fs : Array Field} {r : Reach} {base : Nat} {v : Value} {y : DataW H} {p : List MemPlace} (ht : P.underlying t = some (.struct fs)) (ho : Opens P w t d Ok) (hv : Value.okWide P w r base t v)
  (h : DataW.Trod enc P w 0 (fun _ => true) true t v y p) : ∃ a cs, v = .agg cs.toArray ∧ d.K w a cs ∧ Ok a := by
 obtain ⟨cs, rfl, _⟩ := okWide_struct ht hv
 obtain ⟨fuel, hf⟩ := h
 obtain ⟨a, ha, hok⟩ := ho H enc fuel _ _ hf
 exact ⟨a, cs.toList, by simp, by simpa [Value.cells] using ha, hok⟩
end Go.Proofs.Ytkafbmanmffliaa.Op

/- A survey that came in as an argument: its value and what its sights' cells hold. -/
namespace Go.Proofs.Ytkafbmanmffliaa.Op
open Go.RowKit Go.ChangeShapes Go.WideShapes Go.ChangeAt YtkafbmanmffliaaW.PrintWords Q
abbrev kSurvey : Kd (Int × List S121) := Kd.pair (Kd.int .i64) (Kd.slice 121 k121)
theorem opens_survey (w : World) : Opens Try.prog w 42 kSurvey (fun x => x.2.length ≤ maxLen) := by
 have i := opens_imp (opens_i64 (w := w) Try.underlying2) (Ok' := fun _ => True) (fun _ _ => trivial)
 have s := opens_iso (d := Kd.pair (Kd.int .i64) (Kd.pair (Kd.int .i64) (Kd.pair (Kd.int .i64) (Kd.int .i64)))) (f := fun x : S121 => (x.f0, x.f1, x.f2, x.f3)) (fun a => ⟨a.1, a.2.1, a.2.2.1, a.2.2.2⟩) (fun _ => rfl)
  (opens_struct (w := w) Try.underlying121 (by kernel_rfl) (opensL_cons i rfl (by kernel_rfl) (opensL_cons i rfl (by kernel_rfl) (opensL_cons i rfl (by kernel_rfl) (opensL_one i rfl (by kernel_rfl))))))
 have l := opens_slice (d := k121) (w := w) Try.underlying40 s (by kernel_rfl)
 exact opens_imp (opens_struct (w := w) Try.underlying42 (by kernel_rfl) (opensL_cons i rfl (by kernel_rfl) (opensL_one l rfl (by kernel_rfl)))) (fun _ h => h.2.2)
theorem survey_open {w : World} {x : Int × List S121} {cs : List Value} (h : kSurvey.K w x cs) : ∃ A c, cs = [.int .i64 x.1, .slice A x.2.length c] ∧ x.2.length ≤ c ∧ Kd.C k121 w A x.2.length x.2 := by
 obtain ⟨_, _, rfl, rfl, A, c, rfl, hl, hr⟩ := h
 exact ⟨A, c, rfl, hl, hr⟩
end Go.Proofs.Ytkafbmanmffliaa.Op

