/- Parts of the proof that the law of this seat holds: Hv, Hw, Ex, Gz, Sb, Pa, Q2, Q3, Q4, Q5. -/
import Derived.Test.YtkafbmanmffliaaGNEph
import Derived.Test.YtkafbmanmffliaaGNEpg
import Derived.Test.YtkafbmanmffliaaGNEpk
import Derived.Test.YtkafbmanmffliaaGNEpl
import Derived.Test.YtkafbmanmffliaaGNEpa
set_option linter.unusedVariables false
set_option linter.unusedSimpArgs false
/- The program's ValidSurvey and IsConnected: what they return. -/
namespace Go.Proofs.Ytkafbmanmffliaa.Hv
open Go Go.RowKit YtkafbmanmffliaaW.PrintWords YtkafbmanmffliaaW.PrintLast YtkafbmanmffliaaW.PrintMore Q Gd Hb Ha
theorem C_two (W : World) (g : Nat) (x y : Int) (h : W.heap[g]? = some (.cells #[.int .i64 x, .int .i64 y] 2 (0, 0))) : Kd.C (Kd.int .i64) W (some ⟨g, 0, none⟩) 2 [x, y] :=
 Kd.C_of_reads (d := (0 : Int)) ⟨rfl, by simp [maxLen], fun _ => ⟨⟨g, 0, none⟩, rfl, fun j hj => by
  obtain rfl | rfl : j = 0 ∨ j = 1 := by omega
  ·exact (blk_cell h 0).trans rfl
  ·exact (blk_cell h 1).trans rfl⟩⟩
abbrev BS (p : Int) (A : Option Addr) (n c : Nat) : Obj := .cells #[.int .i64 p, .slice A n c] 26
set_option maxHeartbeats 4000000 in
set_option maxRecDepth 100000 in
theorem valid_any (p : Int) (l : List S32) (A : Option Addr) (c : Nat) (w : World) (hr : Kd.C k32 w A l.length l) (hl : l.length ≤ 1048576) :
  Calls Try.prog 81 #[.agg #[.int .i64 p, .slice A l.length c]] w fun e w' => e = .returned (.bool (surveyB p l)) ∧ Below w.heap.size w w' := by
 have hu26 := Try.underlying26
 have hu32 := Try.underlying32
 have hu24 := Try.underlying24
 have hbx := below_alloc (Below.refl w.heap.size w) (BS p A l.length c)
 have HR := Aside0.mk (Kd.C_below hr hbx)
 have HX := Aside0.mk (heap_alloc_new w (BS p A l.length c))
 have HS := Aside0.mk (show surveyB p l = ((inB 2 5 p && decide ((l.length : Int) ≤ 8)) && l.all (sightB p)) from rfl)
 have t0 := Aside0.mk hbx
 clear hr hbx
 go_enter Try.func81, Try.ntmps81
 go_wp2_with (fail)
 go_loopw [8] (fun v8 wz => ∃ i : Nat, v8 = .int .i64 (i : Int) ∧ i ≤ l.length ∧ Aside0 (l.all (sightB p) = (l.drop i).all (sightB p)) ∧ Aside0 (Below w.heap.size w wz) ∧ Aside0 (Below (w.alloc (BS p A l.length c)).heap.size (w.alloc (BS p A l.length c)) wz)) (fun v _ => l.length - (intOf v).toNat)
 case atStart => exact ⟨0, rfl, by omega, ⟨rfl⟩, t0, ⟨Below.refl _ _⟩⟩
 case round =>
  clear t0
  obtain ⟨i, rfl, hi, HA, HB, HB0⟩ := hrel
  have K := Aside0.mk (blk_below HX.out HB0.out)
  have e0 : wr.cell? ⟨w.heap.size, 0, none⟩ = some (.int .i64 p) := (blk_cell K.out 0).trans rfl
  have e1 : wr.cell? ⟨w.heap.size, 1, none⟩ = some (.slice A l.length c) := (blk_cell K.out 1).trans rfl
  by_cases hlt : i < l.length
  ·have p1 : decide ((i : Int) < (l.length : Int)) = true := decide_eq_true (by omega)
   obtain ⟨ad, e, x0, x1, x2, x3⟩ := at_T32 (Kd.C_below HR.out HB0.out) (i : Int) (by omega) (by omega)
   subst e
   rw [Int.toNat_natCast] at x0 x1 x2 x3
   have hd : l.drop i = rd_T32 l i :: l.drop (i + 1) := by rw [List.drop_eq_getElem_cons hlt]; simp [rd_T32, hlt]
   have HD := Aside0.mk (show l.all (sightB p) = (sightB p (rd_T32 l i) && (l.drop (i + 1)).all (sightB p)) by rw [HA.out, hd]; rfl)
   clear hd HA
   obtain ⟨s, hs⟩ : ∃ s, s = rd_T32 l i := ⟨_, rfl⟩
   rw [← hs] at x0 x1 x2 x3 HD
   clear hs
   obtain ⟨f, t, ri, wt⟩ := s
   dsimp only at x0 x1 x2 x3
   have HQ := Aside0.mk (show sightB p ⟨f, t, ri, wt⟩ = ((((areIn [f, t] 0 (wrap64 (p - 1)) && !(f == t)) && inB (-100) 100 ri) && inB 1 3 wt)) by
    unfold sightB areIn
    simp only [List.all_cons, List.all_nil, Bool.and_true])
   have hba := below_alloc (below_alloc (Below.refl wr.heap.size wr) (.cells #[.int .i64 f, .int .i64 t, .int .i64 ri, .int .i64 wt] 32)) (.cells #[.int .i64 f, .int .i64 t] 2)
   have hna := blk_alloc (heap_alloc_new wr (.cells #[.int .i64 f, .int .i64 t, .int .i64 ri, .int .i64 wt] 32)) (.cells #[.int .i64 f, .int .i64 t] 2)
   have hnb := heap_alloc_new (wr.alloc (.cells #[.int .i64 f, .int .i64 t, .int .i64 ri, .int .i64 wt] 32)) (.cells #[.int .i64 f, .int .i64 t] 2)
   rw [World.size_alloc] at hnb
   have hcw := areWithin_any (some ⟨wr.heap.size + 1, 0, none⟩) 2 [f, t] 0 (wrap64 (p - 1)) _ (C_two _ _ f t hnb)
   have HNA := Aside0.mk hna
   have HBA := Aside0.mk hba
   have e0a : ((wr.alloc (.cells #[.int .i64 f, .int .i64 t, .int .i64 ri, .int .i64 wt] 32)).alloc (.cells #[.int .i64 f, .int .i64 t] 2)).cell? ⟨w.heap.size, 0, none⟩ = some (.int .i64 p) := (blk_cell (blk_alloc (blk_alloc K.out _) _) 0).trans rfl
   clear hna hnb hba
   have aft : ∀ {w1 : World}, Below ((wr.alloc (.cells #[.int .i64 f, .int .i64 t, .int .i64 ri, .int .i64 wt] 32)).alloc (.cells #[.int .i64 f, .int .i64 t] 2)).heap.size ((wr.alloc (.cells #[.int .i64 f, .int .i64 t, .int .i64 ri, .int .i64 wt] 32)).alloc (.cells #[.int .i64 f, .int .i64 t] 2)) w1 → (w1.heap[wr.heap.size]? = some (.cells #[.int .i64 f, .int .i64 t, .int .i64 ri, .int .i64 wt] 32 (0, 0))) ∧ Below w.heap.size w w1 ∧ Below (w.alloc (BS p (some ad) l.length c)).heap.size (w.alloc (BS p (some ad) l.length c)) w1 :=
    fun h => ⟨blk_below HNA.out h, below_step HB.out (below_step HBA.out h), below_step HB0.out (below_step HBA.out h)⟩
   have AFT := Aside0.mk @aft
   clear aft
   by_cases q1 : areIn [f, t] 0 (wrap64 (p - 1)) = true
   ·rw [q1] at hcw
    by_cases q2 : f = t
    ·have d2 : (f == t) = true := by simpa using q2
     have HF := Aside0.mk (show l.all (sightB p) = false by rw [HD.out, HQ.out, d2]; simp)
     clear q1 q2
     go_wp2_with (go_at_call 110; refine hcw.mono ?_; rintro e w1 ⟨rfl, hb⟩; obtain ⟨hk, hb1, hb2⟩ := AFT.out hb; have k0 : w1.cell? ⟨wr.heap.size, 0, none⟩ = some (.int .i64 f) := (blk_cell hk 0).trans rfl; have k1 : w1.cell? ⟨wr.heap.size, 1, none⟩ = some (.int .i64 t) := (blk_cell hk 1).trans rfl; have HB1 := Aside0.mk hb1; clear hb hb1 hb2 hk)
     go_ret
     exact ⟨ret_bool (by rw [HS.out, HF.out, Bool.and_false]), HB1.out⟩
    ·have d2 : (f == t) = false := by simpa using q2
     by_cases q3 : inB (-100) 100 ri = true
     ·by_cases q4 : inB 1 3 wt = true
      ·have HT := Aside0.mk (show l.all (sightB p) = (l.drop (i + 1)).all (sightB p) by rw [HD.out, HQ.out, q1, d2, q3, q4]; simp)
       clear q1 q2
       go_wp2_with (first
        | (go_at_call 110; refine hcw.mono ?_; rintro e w1 ⟨rfl, hb⟩; obtain ⟨hk, hb1, hb2⟩ := AFT.out hb; have k0 : w1.cell? ⟨wr.heap.size, 0, none⟩ = some (.int .i64 f) := (blk_cell hk 0).trans rfl; have k1 : w1.cell? ⟨wr.heap.size, 1, none⟩ = some (.int .i64 t) := (blk_cell hk 1).trans rfl; have k2 : w1.cell? ⟨wr.heap.size, 2, none⟩ = some (.int .i64 ri) := (blk_cell hk 2).trans rfl; have k3 : w1.cell? ⟨wr.heap.size, 3, none⟩ = some (.int .i64 wt) := (blk_cell hk 3).trans rfl; have HB1 := Aside0.mk hb1; have HB2 := Aside0.mk hb2; clear hb hb1 hb2 hk)
        | (go_at_call 82; refine (within_any _ _ _ _).mono ?_; rintro e w2 ⟨rfl, rfl⟩))
       go_roundw
       case rel => exact ⟨i + 1, by go_num, by omega, HT, HB1, HB2⟩
       case measure => simp [intOf]; omega
      ·have q4' : inB 1 3 wt = false := by simpa using q4
       have HF := Aside0.mk (show l.all (sightB p) = false by rw [HD.out, HQ.out, q4']; simp)
       clear q1 q2 q4
       go_wp2_with (first
        | (go_at_call 110; refine hcw.mono ?_; rintro e w1 ⟨rfl, hb⟩; obtain ⟨hk, hb1, hb2⟩ := AFT.out hb; have k0 : w1.cell? ⟨wr.heap.size, 0, none⟩ = some (.int .i64 f) := (blk_cell hk 0).trans rfl; have k1 : w1.cell? ⟨wr.heap.size, 1, none⟩ = some (.int .i64 t) := (blk_cell hk 1).trans rfl; have k2 : w1.cell? ⟨wr.heap.size, 2, none⟩ = some (.int .i64 ri) := (blk_cell hk 2).trans rfl; have k3 : w1.cell? ⟨wr.heap.size, 3, none⟩ = some (.int .i64 wt) := (blk_cell hk 3).trans rfl; have HB1 := Aside0.mk hb1; clear hb hb1 hb2 hk)
        | (go_at_call 82; refine (within_any _ _ _ _).mono ?_; rintro e w2 ⟨rfl, rfl⟩))
       go_ret
       exact ⟨ret_bool (by rw [HS.out, HF.out, Bool.and_false]), HB1.out⟩
     ·have q3' : inB (-100) 100 ri = false := by simpa using q3
      have HF := Aside0.mk (show l.all (sightB p) = false by rw [HD.out, HQ.out, q3']; simp)
      clear q1 q2 q3
      go_wp2_with (first
       | (go_at_call 110; refine hcw.mono ?_; rintro e w1 ⟨rfl, hb⟩; obtain ⟨hk, hb1, hb2⟩ := AFT.out hb; have k0 : w1.cell? ⟨wr.heap.size, 0, none⟩ = some (.int .i64 f) := (blk_cell hk 0).trans rfl; have k1 : w1.cell? ⟨wr.heap.size, 1, none⟩ = some (.int .i64 t) := (blk_cell hk 1).trans rfl; have k2 : w1.cell? ⟨wr.heap.size, 2, none⟩ = some (.int .i64 ri) := (blk_cell hk 2).trans rfl; have HB1 := Aside0.mk hb1; clear hb hb1 hb2 hk)
       | (go_at_call 82; refine (within_any _ _ _ _).mono ?_; rintro e w2 ⟨rfl, rfl⟩))
      go_ret
      exact ⟨ret_bool (by rw [HS.out, HF.out, Bool.and_false]), HB1.out⟩
   ·have q1' : areIn [f, t] 0 (wrap64 (p - 1)) = false := by simpa using q1
    rw [q1'] at hcw
    have HF := Aside0.mk (show l.all (sightB p) = false by rw [HD.out, HQ.out, q1']; simp)
    clear q1 q1'
    go_wp2_with (go_at_call 110; refine hcw.mono ?_; rintro e w1 ⟨rfl, hb⟩; obtain ⟨hk, hb1, hb2⟩ := AFT.out hb; have HB1 := Aside0.mk hb1; clear hb hb1 hb2 hk)
    go_ret
    exact ⟨ret_bool (by rw [HS.out, HF.out, Bool.and_false]), HB1.out⟩
  ·obtain rfl : l.length = i := by omega
   have p1 : decide ((l.length : Int) < (l.length : Int)) = false := decide_eq_false (by omega)
   have HT := Aside0.mk (show l.all (sightB p) = true by rw [HA.out]; simp)
   by_cases q1 : inB 2 5 p = true
   ·have HU := Aside0.mk (show surveyB p l = decide ((l.length : Int) ≤ 8) by rw [HS.out, HT.out, q1]; simp)
    go_wp2_with (go_at_call 82; refine (within_any _ _ _ _).mono ?_; rintro e w2 ⟨rfl, rfl⟩)
    go_ret
    exact ⟨ret_bool (by rw [HU.out]), HB.out⟩
   ·have q1' : inB 2 5 p = false := by simpa using q1
    have HU := Aside0.mk (show surveyB p l = false by rw [HS.out, q1']; simp)
    clear q1
    go_wp2_with (go_at_call 82; refine (within_any _ _ _ _).mono ?_; rintro e w2 ⟨rfl, rfl⟩)
    go_ret
    exact ⟨ret_bool (by rw [HU.out]), HB.out⟩
end Go.Proofs.Ytkafbmanmffliaa.Hv

/- The program's tree, connected, IsConnected and arePoints, walked by hand. -/
namespace Go.Proofs.Ytkafbmanmffliaa.Hw
open Go Go.RowKit YtkafbmanmffliaaW.PrintWords YtkafbmanmffliaaW.PrintLast YtkafbmanmffliaaW.PrintMore Q Gd Ge Gi Hb Ha Hc Hd Hv PuT
structure Two (w0 wz : World) (bo co bg cg : Nat) (o g : List Int) : Prop where
 ob : w0.heap.size ≤ bo
 gb : w0.heap.size ≤ bg
 oc : Cb wz 2 bo co (o.map (Value.int .i64))
 gc : Cb wz 2 bg cg (g.map (Value.int .i64))
 ne : bo ≠ bg
 be : Below w0.heap.size w0 wz
section
variable {w0 wr w1 w2 : World} {bo co bg cg g1 cap1 : Nat} {o g : List Int} {x : Int}
theorem Two.below (h : Two w0 wr bo co bg cg o g) (hb : Below wr.heap.size wr w1) : Two w0 w1 bo co bg cg o g := ⟨h.ob, h.gb, h.oc.below hb, h.gc.below hb, h.ne, below_step h.be hb⟩
theorem Two.pushO (h : Two w0 wr bo co bg cg o g) (hc : Cb w2 2 g1 cap1 (o.map (Value.int .i64) ++ [.int .i64 x])) (hat : g1 = bo ∨ wr.heap.size ≤ g1) (hg : wr.grownBy w2 (some bo)) : Two w0 w2 g1 cap1 bg cg (o ++ [x]) g := by
 have hs := h.be.size
 have hl := h.gc.lt
 have h1 := h.ob
 have h2 := h.ne
 refine ⟨?_, h.gb, by rw [List.map_append]; exact hc, h.gc.kept (hg.block bg hl (fun e => h2 (Option.some.inj e).symm)), ?_, below_grownB h.be (Nat.le_refl _) hg h.ob⟩
 ·rcases hat with e | e <;> omega
 ·rcases hat with e | e <;> omega
theorem Two.pushG (h : Two w0 wr bo co bg cg o g) (hc : Cb w2 2 g1 cap1 (g.map (Value.int .i64) ++ [.int .i64 x])) (hat : g1 = bg ∨ wr.heap.size ≤ g1) (hg : wr.grownBy w2 (some bg)) : Two w0 w2 bo co g1 cap1 o (g ++ [x]) := by
 have hs := h.be.size
 have hl := h.oc.lt
 have h1 := h.gb
 have h2 := h.ne
 refine ⟨h.ob, ?_, h.oc.kept (hg.block bo hl (fun e => h2 (Option.some.inj e))), by rw [List.map_append]; exact hc, ?_, below_grownB h.be (Nat.le_refl _) hg h.gb⟩
 ·rcases hat with e | e <;> omega
 ·rcases hat with e | e <;> omega
theorem Two.setG (h : Two w0 wr bo co bg cg o g) (i : Nat) (x : Int) : Two w0 (wr.setCell ⟨bg, i, none⟩ (.int .i64 x)) bo co bg cg o (g.set i x) := by
 obtain ⟨h1, h2⟩ := h.gc.put i (.int .i64 x) (Pv.i64 x)
 refine ⟨h.ob, h.gb, h.oc.kept (h2.block bo h.oc.lt (fun e => h.ne (Option.some.inj e))), ?_, h.ne, h.be.setCell (p := ⟨bg, i, none⟩) h.gb _⟩
 rw [List.map_set]
 exact h1
theorem Two.cell (h : Two w0 wr bo co bg cg o g) (i : Nat) (hi : i < g.length) : wr.cell? ⟨bg, i, none⟩ = some (.int .i64 (rd g i)) ∧ wr.frozen? ⟨bg, i, none⟩ = false :=
 h.gc.at_ i _ (by rw [List.getElem?_map, List.getElem?_eq_getElem hi]; simp [rd, List.getD_eq_getElem?_getD, hi])
end
theorem nums (i : Nat) : (List.range (i + 1)).map (fun k : Nat => (k : Int)) = (List.range i).map (fun k : Nat => (k : Int)) ++ [(i : Int)] := by simp [List.range_succ]
set_option maxHeartbeats 8000000 in
set_option maxRecDepth 100000 in
theorem tree_any (n : Nat) (l : List S32) (hv : surveyB n l = true) (A : Option Addr) (c : Nat) (w : World) (hr : Kd.C k32 w A l.length l) :
  Calls Try.prog 75 #[.agg #[.int .i64 (n : Int), .slice A l.length c]] w fun e w' => ∃ (bo co : Nat) (v : Value), e = .returned (.tuple #[.slice (some ⟨bo, 0, none⟩) (treeG n l).out.length co, v]) ∧ Below w.heap.size w w' := by
 have hu26 := Try.underlying26
 have hu32 := Try.underlying32
 have hp5 := valid_pts hv
 have hbx := below_alloc (Below.refl w.heap.size w) (BS n A l.length c)
 have HR := Aside0.mk (Kd.C_below hr hbx)
 have HX := Aside0.mk (heap_alloc_new w (BS n A l.length c))
 have HV := Aside0.mk hv
 have HB0 := Aside0.mk hbx
 clear hr hbx hv
 go_enter Try.func75, Try.ntmps75
 have hbk := blk_alloc (blk_alloc HX.out (.cells #[] 2)) (.cells #[] 2)
 have e0 : (((w.alloc (BS n A l.length c)).alloc (.cells #[] 2)).alloc (.cells #[] 2)).cell? ⟨w.heap.size, 0, none⟩ = some (.int .i64 (n : Int)) := (blk_cell hbk 0).trans rfl
 go_wp2_with (fail)
 clear hbk e0
 obtain ⟨W0, hW0⟩ : ∃ W0, W0 = w.alloc (BS n A l.length c) := ⟨_, rfl⟩
 have hs0 : W0.heap.size = w.heap.size + 1 := by rw [hW0]; simp
 rw [← hW0] at HR HX HB0
 rw [← hW0]
 have t0 := Aside0.mk (show Two W0 ((W0.alloc (.cells #[] 2)).alloc (.cells #[] 2)) (w.heap.size + 1) 0 (w.heap.size + 1 + 1) 0 [] ((List.range 0).map (fun k : Nat => (k : Int))) from
  ⟨by omega, by omega, by rw [← hs0]; exact (Cb.nil_new W0 2).below (below_alloc (Below.refl _ _) _), by have h := Cb.nil_new (W0.alloc (.cells #[] 2)) 2; rw [World.size_alloc, hs0] at h; exact h, by omega, below_alloc (below_alloc (Below.refl _ _) _) _⟩)
 clear hW0 hs0
 go_loopw [5, 16] (fun v5 v16 wz => ∃ (i bo co bg cg : Nat), v5 = .slice (some ⟨bg, 0, none⟩) i cg ∧ v16 = .int .i64 (i : Int) ∧ i ≤ n ∧ bo = w.heap.size + 1 ∧ co = 0 ∧ Aside0 (Two W0 wz bo co bg cg [] ((List.range i).map (fun k : Nat => (k : Int))))) (fun _ v _ => n - (intOf v).toNat)
 case atStart => exact ⟨0, _, _, _, 0, rfl, rfl, by omega, rfl, rfl, t0⟩
 case round =>
  clear t0
  obtain ⟨i, bo, co, bg, cg, rfl, rfl, hi, hbo, hco, HT⟩ := hrel
  by_cases hlt : i < n
  ·have p1 : decide ((i : Int) < (n : Int)) = true := decide_eq_true (by omega)
   have hlen : ((List.range i).map (fun k : Nat => (k : Int))).length = i := by simp
   go_wp2_with ((with_reducible refine gate_builtin (b := .append) (xs := #[.tmp 19, .tmp 21]) rfl ?_); at_builtin; refine Cb.append rfl (.tmp 19) (.tmp 21) 28 2 (.int .i64 0) 8 rfl Try.underlying28 info2 rfl (Pv.i64 _) (by decide) bg cg i _ (.int .i64 (i : Int)) (by rw [List.length_map, hlen]) rfl rfl rfl (Pv.i64 _) HT.out.gc (by rw [List.length_map, hlen]; omega) ?_; intro g1 cap1 w2 h1 h2 h3; have HN := Aside0.mk (HT.out.pushG h1 h2 h3); clear h1 h2 h3)
   rw [← nums] at HN
   go_roundw
   case rel => exact ⟨i + 1, bo, co, g1, cap1, by go_num, by go_num, by omega, hbo, hco, HN⟩
   case measure => simp [intOf]; omega
  ·obtain rfl : n = i := by omega
   have p1 : decide ((n : Int) < (n : Int)) = false := decide_eq_false (by omega)
   have t1 := Aside0.mk (show Two W0 wr bo co bg cg (atG n l 0).out (atG n l 0).grp from HT.out)
   have hcy : wr.cell? ⟨w.heap.size, 1, none⟩ = some (.slice A l.length c) := (blk_cell (blk_below HX.out HT.out.be) 1).trans rfl
   subst hbo hco
   clear HT
   go_wp2_with (fail)
   clear hcy
   go_loopw [4, 27] (fun v4 v27 wz => ∃ (i bo co : Nat), v4 = .slice (some ⟨bo, 0, none⟩) (atG n l i).out.length co ∧ v27 = .int .i64 (i : Int) ∧ i ≤ l.length ∧ Aside0 (Two W0 wz bo co bg cg (atG n l i).out (atG n l i).grp)) (fun _ v _ => l.length - (intOf v).toNat)
   case atStart => exact ⟨0, _, _, rfl, rfl, by omega, t1⟩
   case round =>
    clear t1
    obtain ⟨i, bo, co, rfl, rfl, hi, HT⟩ := hrel
    by_cases hlt2 : i < l.length
    ·have p2 : decide ((i : Int) < (l.length : Int)) = true := decide_eq_true (by omega)
     obtain ⟨ad, e, x0, x1, x2, x3⟩ := at_T32 (Kd.C_below HR.out HT.out.be) (i : Int) (by omega) (by omega)
     subst e
     rw [Int.toNat_natCast] at x0 x1 x2 x3
     have hva := valid_at HV.out i hlt2
     have HSU := Aside0.mk (atG_succ n l i hlt2)
     have hgl := atG_len n l i
     have hol := atG_out n l i
     rw [Int.toNat_natCast] at hgl
     obtain ⟨s, hs⟩ : ∃ s, s = rd_T32 l i := ⟨_, rfl⟩
     rw [← hs] at x0 x1 x2 x3 hva HSU
     clear hs
     obtain ⟨f, t, ri, wt⟩ := s
     dsimp only at x0 x1 x2 x3 hva
     obtain ⟨y0, y1, y2, y3⟩ := hva
     obtain ⟨f, rfl⟩ : ∃ q : Nat, f = q := ⟨f.toNat, by omega⟩
     obtain ⟨t, rfl⟩ : ∃ q : Nat, t = q := ⟨t.toNat, by omega⟩
     obtain ⟨G, hG⟩ : ∃ G, G = (atG n l i).grp := ⟨_, rfl⟩
     obtain ⟨O, hO⟩ : ∃ O, O = (atG n l i).out := ⟨_, rfl⟩
     rw [← hG] at hgl HT
     rw [← hO] at hol HT
     have HST := Aside0.mk (show atG n l (i + 1) = if rd G (f : Int) = rd G (t : Int) then ⟨O, G⟩ else ⟨O ++ [(i : Int)], G.map fun v => if v = rd G (t : Int) then rd G (f : Int) else v⟩ by rw [HSU.out, hG, hO]; rfl)
     have hba := below_alloc (Below.refl wr.heap.size wr) (.cells #[.int .i64 (f : Int), .int .i64 (t : Int), .int .i64 ri, .int .i64 wt] 32)
     have hna := heap_alloc_new wr (.cells #[.int .i64 (f : Int), .int .i64 (t : Int), .int .i64 ri, .int .i64 wt] 32)
     have HT1 := Aside0.mk (HT.out.below hba)
     have z0 := (HT1.out.cell f (by omega)).1
     have z1 := (HT1.out.cell t (by omega)).1
     obtain ⟨va, hva⟩ : ∃ va, va = rd G (f : Int) := ⟨_, rfl⟩
     obtain ⟨vb, hvb⟩ : ∃ vb, vb = rd G (t : Int) := ⟨_, rfl⟩
     rw [← hva] at z0 HST
     rw [← hvb] at z1 HST
     have i1 : (0 ≤ (f : Int)) = True := eq_true (by omega)
     have i2 : ((f : Int) < (n : Int)) = True := eq_true (by omega)
     have i3 : (0 ≤ (t : Int)) = True := eq_true (by omega)
     have i4 : ((t : Int) < (n : Int)) = True := eq_true (by omega)
     clear hva hvb HSU HT hna
     rw [← hO]
     by_cases hab : va = vb
     ·have d1 : (va == vb) = true := by simpa using hab
      have HS2 := Aside0.mk (show (atG n l (i + 1)).out = O ∧ (atG n l (i + 1)).grp = G by rw [HST.out, if_pos hab]; exact ⟨rfl, rfl⟩)
      clear hab
      go_wp2_with (fail)
      go_quiet (fail)
      go_wp2_with (fail)
      have HT2 := Aside0.mk (HT1.out.below (pw_below_drewN (Below.refl _ _) nq))
      go_roundw
      case rel => exact ⟨i + 1, bo, co, by rw [HS2.out.1], by go_num, by omega, ⟨by rw [HS2.out.1, HS2.out.2]; exact HT2.out⟩⟩
      case measure => simp [intOf]; omega
     ·have d1 : (va == vb) = false := by simpa using hab
      have HS2 := Aside0.mk (show (atG n l (i + 1)).out = O ++ [(i : Int)] ∧ (atG n l (i + 1)).grp = G.map fun v => if v = vb then va else v by rw [HST.out, if_neg hab]; exact ⟨rfl, rfl⟩)
      clear hab
      go_wp2_with (fail)
      go_quiet (fail)
      have HT2 := Aside0.mk (HT1.out.below (pw_below_drewN (Below.refl _ _) nq))
      obtain ⟨wb, hwb⟩ : ∃ wb, wb = (wr.alloc (.cells #[.int .i64 (f : Int), .int .i64 (t : Int), .int .i64 ri, .int .i64 wt] 32)).drewN nq := ⟨_, rfl⟩
      rw [← hwb] at HT2
      rw [← hwb]
      clear hwb
      go_wp2_with ((with_reducible refine gate_builtin (b := .append) (xs := #[.tmp 45, .tmp 47]) rfl ?_); at_builtin; refine Cb.append rfl (.tmp 45) (.tmp 47) 28 2 (.int .i64 0) 8 rfl Try.underlying28 info2 rfl (Pv.i64 _) (by decide) bo co O.length _ (.int .i64 (i : Int)) (by rw [List.length_map]) rfl rfl rfl (Pv.i64 _) HT2.out.oc (by rw [List.length_map]; omega) ?_; intro g1 cap1 w2 h1 h2 h3; have HT3 := Aside0.mk (HT2.out.pushO h1 h2 h3); clear h1 h2 h3)
      obtain ⟨G2, hG2⟩ : ∃ G2, G2 = G.map fun v => if v = vb then va else v := ⟨_, rfl⟩
      have hl2 : G2.length = G.length := by rw [hG2]; simp
      have HNX := Aside0.mk (show ∀ (j : Nat) (h : j < G.length), G2[j]'(by rw [hl2]; exact h) = if rd G j = vb then va else rd G j from fun j h => by
       simp only [hG2, List.getElem_map]
       rw [show rd G (j : Int) = G[j] by simp [rd, List.getD_eq_getElem?_getD, h]])
      have t2 := Aside0.mk (show Two W0 w2 g1 cap1 bg cg (O ++ [(i : Int)]) (Hc.upd G2 G 0) by rw [upd_zero]; exact HT3.out)
      have HG2 := Aside0.mk hG2
      clear hG2 HT1 HT2 HT3
      go_loopw [51] (fun v51 wz => ∃ j : Nat, v51 = .int .i64 (j : Int) ∧ j ≤ n ∧ Aside0 (Two W0 wz g1 cap1 bg cg (O ++ [(i : Int)]) (Hc.upd G2 G j))) (fun v _ => n - (intOf v).toNat)
      case atStart => exact ⟨0, rfl, by omega, t2⟩
      case round =>
       clear t2
       obtain ⟨j, rfl, hj, HT⟩ := hrel
       by_cases hjt : j < n
       ·have p3 : decide ((j : Int) < (n : Int)) = true := decide_eq_true (by omega)
        have hul := upd_len hl2 (k := j) (by omega)
        obtain ⟨z2, z3⟩ := HT.out.cell j (by omega)
        rw [rd_upd hl2 (by omega)] at z2
        have hnx := HNX.out j (by omega)
        have i5 : (0 ≤ (j : Int)) = True := eq_true (by omega)
        have i6 : ((j : Int) < (n : Int)) = True := eq_true (by omega)
        obtain ⟨vj, hvj⟩ : ∃ vj, vj = rd G (j : Int) := ⟨_, rfl⟩
        rw [← hvj] at z2 hnx
        by_cases hh : vj = vb
        ·have d2 : (vj == vb) = true := by simpa using hh
         rw [if_pos hh] at hnx
         have hst := HT.out.setG j va
         rw [← hnx, upd_set hl2 (by omega), hnx] at hst
         have HN := Aside0.mk hst
         clear hh hst hnx hvj hul
         go_wp2_with (fail)
         go_roundw
         case rel => exact ⟨j + 1, by go_num, by omega, HN⟩
         case measure => simp [intOf]; omega
        ·have d2 : (vj == vb) = false := by simpa using hh
         rw [if_neg hh, hvj, show rd G (j : Int) = G[j]'(by omega) by simp [rd, List.getD_eq_getElem?_getD, show j < G.length by omega]] at hnx
         have HN := Aside0.mk (show Two W0 wr g1 cap1 bg cg (O ++ [(i : Int)]) (Hc.upd G2 G (j + 1)) by rw [upd_same hl2 (by omega) hnx]; exact HT.out)
         clear hh hnx hvj hul z3
         go_wp2_with (fail)
         go_roundw
         case rel => exact ⟨j + 1, by go_num, by omega, HN⟩
         case measure => simp [intOf]; omega
       ·obtain rfl : n = j := by omega
        have p3 : decide ((n : Int) < (n : Int)) = false := decide_eq_false (by omega)
        have hall := HT.out
        rw [← hgl, upd_all hl2, HG2.out] at hall
        have HN := Aside0.mk hall
        clear hall
        go_wp2_with (fail)
        go_roundw
        case rel => exact ⟨i + 1, g1, cap1, by rw [HS2.out.1]; simp [hO], by go_num, by omega, ⟨by rw [HS2.out.1, HS2.out.2]; exact HN.out⟩⟩
        case measure => simp [intOf]; omega
    ·obtain rfl : l.length = i := by omega
     have p2 : decide ((l.length : Int) < (l.length : Int)) = false := decide_eq_false (by omega)
     go_wp2_with (fail)
     go_ret2
     exact ⟨bo, co, _, rfl, HB0.out.trans (HT.out.be.mono HB0.out.size)⟩
set_option maxHeartbeats 4000000 in
theorem connected_any (n : Nat) (l : List S32) (hv : surveyB n l = true) (A : Option Addr) (c : Nat) (w : World) (hr : Kd.C k32 w A l.length l) :
  Calls Try.prog 80 #[.agg #[.int .i64 (n : Int), .slice A l.length c]] w fun e w' => e = .returned (.bool (Gm.connB n l)) ∧ Below w.heap.size w w' := by
 have hu26 := Try.underlying26
 have hp5 := valid_pts hv
 have hbx := below_alloc (Below.refl w.heap.size w) (BS n A l.length c)
 have HX := Aside0.mk (heap_alloc_new w (BS n A l.length c))
 have hct := tree_any n l hv A c (w.alloc (BS n A l.length c)) (Kd.C_below hr hbx)
 have HB0 := Aside0.mk hbx
 have hw : wrap64 ((n : Int) - 1) = (n : Int) - 1 := by unfold wrap64; omega
 have HQ := Aside0.mk (show ((((treeG n l).out.length : Nat) : Int) == (n : Int) - 1) = Gm.connB n l by
  have h := conn_eq hv
  rw [Bool.eq_iff_iff, beq_iff_eq, ← h]
  unfold Gm.connB
  rw [hv, Bool.true_and])
 clear hr hbx hv
 go_enter Try.func80, Try.ntmps80
 go_wp2_with (fail)
 refine hct.mono ?_
 rintro e w1 ⟨bo, co, v, rfl, hb⟩
 have e0 : w1.cell? ⟨w.heap.size, 0, none⟩ = some (.int .i64 (n : Int)) := (blk_cell (blk_below HX.out hb) 0).trans rfl
 have HB1 := Aside0.mk (below_step HB0.out hb)
 clear hct hb
 go_wp2_with (fail)
 go_ret
 exact ⟨ret_bool HQ.out, HB1.out⟩
set_option maxHeartbeats 4000000 in
theorem isConn_any (p : Int) (l : List S32) (A : Option Addr) (c : Nat) (w : World) (hr : Kd.C k32 w A l.length l) (hl : l.length ≤ 1048576) :
  Calls Try.prog 40 #[.agg #[.int .i64 p, .slice A l.length c]] w fun e w' => e = .returned (.bool (Gm.connB p l)) ∧ Below w.heap.size w w' := by
 have hu26 := Try.underlying26
 have hbx := below_alloc (Below.refl w.heap.size w) (BS p A l.length c)
 have HX := Aside0.mk (heap_alloc_new w (BS p A l.length c))
 have HR := Aside0.mk (Kd.C_below hr hbx)
 have hcv := valid_any p l A c (w.alloc (BS p A l.length c)) HR.out hl
 have HB0 := Aside0.mk hbx
 clear hr hbx
 by_cases hv : surveyB p l = true
 ·obtain ⟨n, rfl⟩ := nat_pts hv
  have hcc := fun (W : World) (h : Kd.C k32 W A l.length l) => connected_any n l hv A c W h
  rw [hv] at hcv
  clear hv
  go_enter Try.func40, Try.ntmps40
  go_wp2_with (fail)
  refine hcv.mono ?_
  rintro e w1 ⟨rfl, hb⟩
  have hz := hcc w1 (Kd.C_below HR.out hb)
  have e0 : w1.cell? ⟨w.heap.size, 0, none⟩ = some (.int .i64 (n : Int)) := (blk_cell (blk_below HX.out hb) 0).trans rfl
  have e1 : w1.cell? ⟨w.heap.size, 1, none⟩ = some (.slice A l.length c) := (blk_cell (blk_below HX.out hb) 1).trans rfl
  have HB1 := Aside0.mk (below_step HB0.out hb)
  clear hcv hcc hb
  go_wp2_with (fail)
  refine hz.mono ?_
  rintro e w2 ⟨rfl, hb⟩
  have HB2 := Aside0.mk (below_step HB1.out hb)
  clear hz hb e0 e1
  go_wp2_with (fail)
  go_ret
  exact ⟨rfl, HB2.out⟩
 ·have hv' : surveyB p l = false := by simpa using hv
  have HF := Aside0.mk (show false = Gm.connB p l by unfold Gm.connB; rw [hv', Bool.false_and])
  rw [hv'] at hcv
  clear hv hv'
  go_enter Try.func40, Try.ntmps40
  go_wp2_with (fail)
  refine hcv.mono ?_
  rintro e w1 ⟨rfl, hb⟩
  have HB1 := Aside0.mk (below_step HB0.out hb)
  clear hcv hb
  go_wp2_with (fail)
  go_ret
  exact ⟨ret_bool HF.out, HB1.out⟩
def ptsB (p : Int) (l : List S32) (a b : Int) : Bool := Gm.connB p l && (inB 0 (p - 1) a && inB 0 (p - 1) b)
end Go.Proofs.Ytkafbmanmffliaa.Hw

/- The program's AdjustSurvey, ResidualsOf, RedundanciesOf, CofactorOf, RiseBetween: what they return. -/
namespace Go.Proofs.Ytkafbmanmffliaa.Ex
open Go Go.RowKit YtkafbmanmffliaaW.PrintWords YtkafbmanmffliaaW.PrintLast YtkafbmanmffliaaW.PrintMore Q Bg Dd Bi Ra Gd Ge Hb Ha Hc Gs Gn Kc Ke Kf Gt Gu Gv Lo Lo2
theorem conn_any (p : Int) (l : List S32) (A : Option Addr) (c : Nat) (w : World) (hr : Kd.C k32 w A l.length l) (hc : l.length ≤ c) (hl : l.length ≤ 1048576) :
  Calls Try.prog 40 #[.agg #[.int .i64 p, .slice A l.length c]] w fun e w' => e = .returned (.bool (Gm.connB p l)) ∧ Below w.heap.size w w' :=
 Hw.isConn_any p l A c w hr hl
def ptsB (p : Int) (l : List S32) (a b : Int) : Bool := Gm.connB p l && (inB 0 (p - 1) a && inB 0 (p - 1) b)
theorem conn_nat {p : Int} {l : List S32} (h : Gm.connB p l = true) : ∃ n : Nat, p = (n : Int) + 1 := by
 have hv := h
 unfold Gm.connB surveyB inB at hv
 simp only [Bool.and_eq_true, decide_eq_true_eq] at hv
 exact ⟨p.toNat - 1, by omega⟩
def dn (n : Nat) (l : List S32) : Nat := (den l n).toNat
theorem dn_pos {n : Nat} {l : List S32} (hc : Gm.connB ((n : Int) + 1) l = true) : 0 < dn n l ∧ dn n l ≤ 1073741824 ∧ ((dn n l : Nat) : Int) = den l n := by
 have h := ok_rgt hc
 have hd := h.pos n (Nat.le_refl _)
 rw [h.last] at hd
 have hn := conn_n hc
 have hd2 : den l n ≤ 1073741824 := by
  rw [← h.last]
  obtain ⟨m, rfl⟩ : ∃ m, n = m + 1 := ⟨n - 1, by omega⟩
  rw [LL_succ _ m (by omega)]
  exact (h.size m m m (by omega) (by omega) (by omega)).2
 unfold dn
 omega
theorem nu_size {n : Nat} {l : List S32} {right : List Int} (h : Ok n l right) (p : Int) (hp : p ≤ n) : -1073741824 ≤ nu l right n p ∧ nu l right n p ≤ 1073741824 := by
 unfold nu
 split
 ·omega
 ·exact h.size n (p.toNat - 1) n (Nat.le_refl _) (by omega) (Nat.le_refl _)
theorem mkq {a : Int} {d : Nat} : mkRat a d = (a : Rat) / ((d : Int) : Rat) := by rw [Rat.mkRat_eq_div, Rat.intCast_natCast]
theorem xs_mk {n : Nat} {l : List S32} (hc : Gm.connB ((n : Int) + 1) l = true) (right : List Int) (p : Int) : xs l right n p = mkRat (nu l right n p) (dn n l) := by
 rw [mkq, (dn_pos hc).2.2]
 rfl
def resN (n : Nat) (l : List S32) (s : S32) : Int := s.f2 * den l n - nu l (rgt n l) n s.f1 + nu l (rgt n l) n s.f0
def cofN (n : Nat) (l : List S32) (a b : Int) : Int := nu l (rco n a b) n b - nu l (rco n a b) n a
def redN (n : Nat) (l : List S32) (s : S32) : Int := den l n - s.f3 * cofN n l s.f0 s.f1
theorem den_rat {n : Nat} {l : List S32} (hc : Gm.connB ((n : Int) + 1) l = true) : (((dn n l : Nat) : Int) : Rat) = (den l n : Rat) ∧ (den l n : Rat) ≠ 0 := ⟨by rw [(dn_pos hc).2.2], den_ne (ok_rgt hc)⟩
theorem res_mk {n : Nat} {l : List S32} (hc : Gm.connB ((n : Int) + 1) l = true) (s : S32) : res n l s = mkRat (resN n l s) (dn n l) := by
 obtain ⟨h1, h2⟩ := den_rat hc
 rw [mkq, h1]
 unfold res dif hts xs resN
 push_cast
 grind
theorem resN_size {n : Nat} {l : List S32} (hc : Gm.connB ((n : Int) + 1) l = true) (s : S32) (hs : s ∈ l) : (resN n l s).natAbs < 1099511627776 := by
 have hv := mem_at (conn_v hc) s hs
 have h1 := nu_size (ok_rgt hc) s.f1 (by omega)
 have h2 := nu_size (ok_rgt hc) s.f0 (by omega)
 have h3 := dn_pos hc
 have h4 := mulb (X := 100) (Y := 1073741824) (a := s.f2) (b := den l n) (by decide) (by decide) (by unfold Bd; omega) (by unfold Bd; omega)
 unfold Bd at h4
 unfold resN
 omega
theorem sm_mk {a : Int} {d : Nat} {k : Nat} (hd : 0 < d) (h1 : a.natAbs < 2 ^ k) (h2 : d < 2 ^ k) : Sm k (mkRat a d) := by
 have := Sm.divInt (a := a) (b := (d : Int)) (by omega) h1 (by rw [Int.natAbs_natCast]; exact h2)
 rwa [Rat.divInt_ofNat] at this
theorem list_low (b cap : Nat) (us : List Value) (F : Nat → Rat) (w : World) (S : List Int) (D : Nat) (hC : Cb w 74 b cap us) (hF : RowF w us S.length F) (hl : S.length ≤ 8) (hD0 : 0 < D) (hD : D ≤ 1073741824) (hS : ∀ s, s ∈ S → s.natAbs < 1099511627776) (hFS : ∀ k (h : k < S.length), F k = mkRat S[k] D) :
  Calls Try.prog 59 #[.slice (some ⟨b, 0, none⟩) S.length cap] w fun e w' => ∃ v : Value, e = .returned (.tuple #[.int .i64 ((D / gcdAll D S : Nat) : Int), v]) ∧ T w.heap.size w' v (lowL D S) ∧ Below w.heap.size w w' := by
 have e62 : (2 : Nat) ^ 62 = 4611686018427387904 := by decide
 have e63 : (2 : Nat) ^ 63 = 9223372036854775808 := by decide
 have h := Gw.list_any b cap S.length us F D w hC hF hl hD0 (by omega) (den_low hD0 hFS) (fun k hk => by
  rw [hFS k hk]
  exact sm_mk hD0 (by have := hS _ (List.getElem_mem hk); omega) (by omega)) (fun k hk => by
  have h1 := num_low hD0 hFS k hk
  have h2 := hS _ (List.getElem_mem hk)
  omega)
 rw [numL_low hD0 hFS, lc_low hD0 hFS] at h
 exact h
theorem rd_mem {l : List S32} {k : Nat} (hk : k < l.length) : rd_T32 l (k : Int) = l[k] := by simp only [rd_T32, Int.toNat_natCast]; rw [List.getD_eq_getElem?_getD, List.getElem?_eq_getElem hk]; rfl
def wp (p : Int) : Nat := p.toNat - 1
theorem wp_eq (n : Nat) : wp ((n : Int) + 1) = n := by unfold wp; omega
def adjL (p : Int) (l : List S32) : List Int := if Gm.connB p l = true then lowL (dn (wp p) l) (nuL l (rgt (wp p) l) (wp p)) else []
def adjD (p : Int) (l : List S32) : Int := if Gm.connB p l = true then ((dn (wp p) l / gcdAll (dn (wp p) l) (nuL l (rgt (wp p) l) (wp p)) : Nat) : Int) else 0
def resL (p : Int) (l : List S32) : List Int := if Gm.connB p l = true then lowL (dn (wp p) l) (l.map (resN (wp p) l)) else []
def resD (p : Int) (l : List S32) : Int := if Gm.connB p l = true then ((dn (wp p) l / gcdAll (dn (wp p) l) (l.map (resN (wp p) l)) : Nat) : Int) else 0
def redL (p : Int) (l : List S32) : List Int := if Gm.connB p l = true then lowL (dn (wp p) l) (l.map (redN (wp p) l)) else []
def redD (p : Int) (l : List S32) : Int := if Gm.connB p l = true then ((dn (wp p) l / gcdAll (dn (wp p) l) (l.map (redN (wp p) l)) : Nat) : Int) else 0
def Post3 (w : World) (d : Int) (xs : List Int) (ok : Bool) (e : Ending) (w' : World) : Prop := ∃ v : Value, e = .returned (.tuple #[.int .i64 d, v, .bool ok]) ∧ T w.heap.size w' v xs ∧ Below w.heap.size w w'
set_option maxHeartbeats 4000000 in
set_option maxRecDepth 100000 in
theorem adjust_any (p : Int) (l : List S32) (A : Option Addr) (c : Nat) (w : World) (hr : Kd.C k32 w A l.length l) (hcl : l.length ≤ c) (hl : l.length ≤ 1048576) :
  Calls Try.prog 19 #[.agg #[.int .i64 p, .slice A l.length c]] w (Post3 w (adjD p l) (adjL p l) (Gm.connB p l)) := by
 have hu26 := Try.underlying26
 have hbx := below_alloc (Below.refl w.heap.size w) (SX p A l.length c)
 have HR := Aside0.mk (Kd.C_below hr hbx)
 have HX := Aside0.mk (heap_alloc_new w (SX p A l.length c))
 have hc0 := conn_any p l A c (w.alloc (SX p A l.length c)) HR.out hcl hl
 have HCL := Aside0.mk hcl
 have HB := Aside0.mk hbx
 clear hr hcl hl hbx
 by_cases h : Gm.connB p l = true
 ·obtain ⟨n, rfl⟩ := conn_nat h
  have HC := Aside0.mk h
  have HAD := Aside0.mk (show adjD ((n : Int) + 1) l = ((dn n l / gcdAll (dn n l) (nuL l (rgt n l) n) : Nat) : Int) by unfold adjD; rw [if_pos h, wp_eq])
  have HAL := Aside0.mk (show adjL ((n : Int) + 1) l = lowL (dn n l) (nuL l (rgt n l) n) by unfold adjL; rw [if_pos h, wp_eq])
  rw [h] at hc0
  rw [h]
  clear h
  go_enter Try.func19, Try.ntmps19
  go_wp2_with (fail)
  refine hc0.mono ?_
  rintro e w1 ⟨rfl, hb1⟩
  have HB1 := Aside0.mk (below_step HB.out hb1)
  have hbk := blk_below HX.out hb1
  have c0 : w1.cell? ⟨w.heap.size, 0, none⟩ = some (.int .i64 ((n : Int) + 1)) := (blk_cell hbk 0).trans rfl
  have c1 : w1.cell? ⟨w.heap.size, 1, none⟩ = some (.slice A l.length c) := (blk_cell hbk 1).trans rfl
  have hc1 := adjusted_any n l HC.out A c w1 (Kd.C_below HR.out hb1) HCL.out
  clear hb1 hc0 hbk
  go_wp2_with (fail)
  refine hc1.mono ?_
  rintro e w2 ⟨bH, capH, usH, rfl, hH⟩
  have hlen := nuL_len l (rgt n l) n
  have hc2 := list_low bH capH usH (fun k => hts n l k) w2 (nuL l (rgt n l) n) (dn n l) hH.2.1 (by rw [hlen]; exact hH.2.2.1) (by have := conn_n HC.out; omega) (dn_pos HC.out).1 (dn_pos HC.out).2.1 (fun s hs => by
   obtain ⟨k, hk, rfl⟩ := List.mem_map.1 hs
   have := nu_size (ok_rgt HC.out) (k : Int) (by have := List.mem_range.1 hk; omega)
   omega) (fun k hk => by
   show xs l (rgt n l) n (k : Int) = _
   rw [xs_mk HC.out]
   simp [nuL])
  rw [hlen] at hc2
  have HB2 := Aside0.mk (below_step HB1.out hH.2.2.2)
  clear hc1 hH hlen c0 c1
  go_wp2_with (fail)
  refine hc2.mono ?_
  rintro e w3 ⟨v, rfl, t3, hb3⟩
  have HT3 := Aside0.mk t3
  have HB3 := Aside0.mk (below_step HB2.out hb3)
  clear hc2 t3 hb3
  go_wp2_with (fail)
  go_ret3
  rw [HAD.out, HAL.out]
  exact ⟨v, rfl, Kd.R_lower HT3.out HB2.out.size, HB3.out⟩
 ·have h' : Gm.connB p l = false := by simpa using h
  have HAD := Aside0.mk (show adjD p l = 0 by unfold adjD; rw [if_neg h])
  have HAL := Aside0.mk (show adjL p l = [] by unfold adjL; rw [if_neg h])
  rw [h'] at hc0
  rw [h']
  clear h h'
  go_enter Try.func19, Try.ntmps19
  go_wp2_with (fail)
  refine hc0.mono ?_
  rintro e w1 ⟨rfl, hb1⟩
  have HB1 := Aside0.mk (below_step HB.out hb1)
  clear hb1 hc0
  go_wp2_with (fail)
  go_ret3
  rw [HAD.out, HAL.out]
  exact ⟨_, rfl, T.nil, HB1.out⟩
set_option maxHeartbeats 4000000 in
set_option maxRecDepth 100000 in
theorem resid_any (p : Int) (l : List S32) (A : Option Addr) (c : Nat) (w : World) (hr : Kd.C k32 w A l.length l) (hcl : l.length ≤ c) (hl : l.length ≤ 1048576) :
  Calls Try.prog 20 #[.agg #[.int .i64 p, .slice A l.length c]] w (Post3 w (resD p l) (resL p l) (Gm.connB p l)) := by
 have hu26 := Try.underlying26
 have hbx := below_alloc (Below.refl w.heap.size w) (SX p A l.length c)
 have HR := Aside0.mk (Kd.C_below hr hbx)
 have HX := Aside0.mk (heap_alloc_new w (SX p A l.length c))
 have hc0 := conn_any p l A c (w.alloc (SX p A l.length c)) HR.out hcl hl
 have HCL := Aside0.mk hcl
 have HB := Aside0.mk hbx
 clear hr hcl hl hbx
 by_cases h : Gm.connB p l = true
 ·obtain ⟨n, rfl⟩ := conn_nat h
  have HC := Aside0.mk h
  have HAD := Aside0.mk (show resD ((n : Int) + 1) l = ((dn n l / gcdAll (dn n l) (l.map (resN n l)) : Nat) : Int) by unfold resD; rw [if_pos h, wp_eq])
  have HAL := Aside0.mk (show resL ((n : Int) + 1) l = lowL (dn n l) (l.map (resN n l)) by unfold resL; rw [if_pos h, wp_eq])
  rw [h] at hc0
  rw [h]
  clear h
  go_enter Try.func20, Try.ntmps20
  go_wp2_with (fail)
  refine hc0.mono ?_
  rintro e w1 ⟨rfl, hb1⟩
  have HB1 := Aside0.mk (below_step HB.out hb1)
  have hbk := blk_below HX.out hb1
  have c0 : w1.cell? ⟨w.heap.size, 0, none⟩ = some (.int .i64 ((n : Int) + 1)) := (blk_cell hbk 0).trans rfl
  have c1 : w1.cell? ⟨w.heap.size, 1, none⟩ = some (.slice A l.length c) := (blk_cell hbk 1).trans rfl
  have hc1 := residuals_any n l HC.out A c w1 (Kd.C_below HR.out hb1) HCL.out
  clear hb1 hc0 hbk
  go_wp2_with (fail)
  refine hc1.mono ?_
  rintro e w2 ⟨bH, capH, usH, rfl, hH⟩
  have hlen : (l.map (resN n l)).length = l.length := by simp
  have hc2 := list_low bH capH usH (fun k => res n l (rd_T32 l k)) w2 (l.map (resN n l)) (dn n l) hH.2.1 (by rw [hlen]; exact hH.2.2.1) (by have := conn_n HC.out; omega) (dn_pos HC.out).1 (dn_pos HC.out).2.1 (fun s hs => by
   obtain ⟨k, hk, rfl⟩ := List.mem_map.1 hs
   exact resN_size HC.out k hk) (fun k hk => by
   have hk' : k < l.length := by simpa using hk
   rw [res_mk HC.out, rd_mem hk', List.getElem_map])
  rw [hlen] at hc2
  have HB2 := Aside0.mk (below_step HB1.out hH.2.2.2)
  clear hc1 hH hlen c0 c1
  go_wp2_with (fail)
  refine hc2.mono ?_
  rintro e w3 ⟨v, rfl, t3, hb3⟩
  have HT3 := Aside0.mk t3
  have HB3 := Aside0.mk (below_step HB2.out hb3)
  clear hc2 t3 hb3
  go_wp2_with (fail)
  go_ret3
  rw [HAD.out, HAL.out]
  exact ⟨v, rfl, Kd.R_lower HT3.out HB2.out.size, HB3.out⟩
 ·have h' : Gm.connB p l = false := by simpa using h
  have HAD := Aside0.mk (show resD p l = 0 by unfold resD; rw [if_neg h])
  have HAL := Aside0.mk (show resL p l = [] by unfold resL; rw [if_neg h])
  rw [h'] at hc0
  rw [h']
  clear h h'
  go_enter Try.func20, Try.ntmps20
  go_wp2_with (fail)
  refine hc0.mono ?_
  rintro e w1 ⟨rfl, hb1⟩
  have HB1 := Aside0.mk (below_step HB.out hb1)
  clear hb1 hc0
  go_wp2_with (fail)
  go_ret3
  rw [HAD.out, HAL.out]
  exact ⟨_, rfl, T.nil, HB1.out⟩
end Go.Proofs.Ytkafbmanmffliaa.Ex

/- The program's weighted squares of residuals. -/
namespace Go.Proofs.Ytkafbmanmffliaa.Gz
open Go Go.RowKit YtkafbmanmffliaaW.PrintWords YtkafbmanmffliaaW.PrintLast YtkafbmanmffliaaW.PrintMore Q Dd Bi Rt Gd Ge Gi Hc Gs Kf Gu
def sqr (n : Nat) (l : List S32) (s : S32) : Rat := (s.f3 : Rat) * (res n l s * res n l s)
def Oth (wz : World) (bH capH m b : Nat) (usH : List Value) (f : Nat → Rat) : Prop := Cb wz 74 bH capH usH ∧ RowF wz usH m f ∧ bH ≠ b
theorem Oth.below {wz w1 : World} {bH capH m b : Nat} {usH : List Value} {f : Nat → Rat} (h : Oth wz bH capH m b usH f) (hb : Below wz.heap.size wz w1) : Oth w1 bH capH m b usH f := ⟨h.1.below hb, h.2.1.par (Par.of_below hb), h.2.2⟩
theorem Oth.grow {wq wr w2 : World} {bH capH m b cap i g1 : Nat} {usH us : List Value} {f F : Nat → Rat} (h : Oth wr bH capH m b usH f) (hI : RowIn wq wr b cap i us F) (hat : g1 = b ∨ wr.heap.size ≤ g1) (hg : wr.grownBy w2 (some b)) : Oth w2 bH capH m g1 usH f := by
 refine ⟨h.1.kept (hg.block bH h.1.lt (fun e => h.2.2 (Option.some.inj e))), h.2.1.par (Par.grown hI.2.1 hg), ?_⟩
 have := h.1.lt
 have := h.2.2
 rcases hat with e | e <;> omega
end Go.Proofs.Ytkafbmanmffliaa.Gz

/- Plain: the common denominator is small, and so is the weighted sum of squares. -/
namespace Go.Proofs.Ytkafbmanmffliaa.Sb
open Go Go.RowKit YtkafbmanmffliaaW.PrintWords Q Ra La Qf Gm Gn Ka Kf Gz Ex
theorem diag (L : List Si) (h : ∀ s ∈ L, s.f ≠ s.t ∧ 1 ≤ s.w ∧ s.w ≤ 3) : 0 ≤ ent 1 1 L ∧ 0 ≤ ent 2 2 L ∧ 0 ≤ ent 3 3 L ∧ 0 ≤ ent 4 4 L ∧ ent 1 1 L + ent 2 2 L + ent 3 3 L + ent 4 4 L ≤ 6 * L.length := by
 induction L with
 | nil => simp [ent]
 | cons s r ih =>
  have h1 := h s (by simp)
  have h2 := ih (fun t ht => h t (by simp [ht]))
  simp only [ent, List.length_cons]
  unfold con
  rw [if_pos rfl, if_pos rfl, if_pos rfl, if_pos rfl]
  push_cast
  refine ⟨?_, ?_, ?_, ?_, ?_⟩
  ·split <;> omega
  ·split <;> omega
  ·split <;> omega
  ·split <;> omega
  ·have a : (if s.f = 1 ∨ s.t = 1 then s.w else 0) ≤ (if s.f = 1 then s.w else 0) + (if s.t = 1 then s.w else 0) := by split <;> split <;> split <;> omega
   have b : (if s.f = 2 ∨ s.t = 2 then s.w else 0) ≤ (if s.f = 2 then s.w else 0) + (if s.t = 2 then s.w else 0) := by split <;> split <;> split <;> omega
   have c : (if s.f = 3 ∨ s.t = 3 then s.w else 0) ≤ (if s.f = 3 then s.w else 0) + (if s.t = 3 then s.w else 0) := by split <;> split <;> split <;> omega
   have d : (if s.f = 4 ∨ s.t = 4 then s.w else 0) ≤ (if s.f = 4 then s.w else 0) + (if s.t = 4 then s.w else 0) := by split <;> split <;> split <;> omega
   have e : (if s.f = 1 then s.w else 0) + (if s.f = 2 then s.w else 0) + (if s.f = 3 then s.w else 0) + (if s.f = 4 then s.w else 0) ≤ s.w := by split <;> split <;> split <;> split <;> omega
   have f : (if s.t = 1 then s.w else 0) + (if s.t = 2 then s.w else 0) + (if s.t = 3 then s.w else 0) + (if s.t = 4 then s.w else 0) ≤ s.w := by split <;> split <;> split <;> split <;> omega
   omega
theorem mul3 {a b c : Int} (ha : 0 ≤ a) (hb : 0 ≤ b) (hc : 0 ≤ c) (h : a + b + c ≤ 48) : a * b * c ≤ 27648 := by
 have h1 := four_mul a b
 have h2 : (a + b) * (a + b) ≤ 48 * 48 := La.mul_le (by omega) (by omega) (by omega) (by omega)
 have h3 : a * b * c ≤ 576 * 48 := La.mul_le (Int.mul_nonneg ha hb) (by omega) (by omega) (by omega)
 omega
theorem den_small {n : Nat} {l : List S32} (hc : Gm.connB ((n : Int) + 1) l = true) : den l n ≤ 27648 := by
 have hn := conn_n hc
 have hm := sig_mem (conn_v hc)
 have hd := diag (sig l) (fun s hs => by have := hm s hs; omega)
 have hl : (sig l).length = l.length := by simp [sig]
 rw [hl] at hd
 have hp := fun c h => LL_E_pos hn.2.1 hc c h
 have s01 := E_symm l 1 0
 have s02 := E_symm l 2 0
 have s12 := E_symm l 2 1
 have s03 := E_symm l 3 0
 have s13 := E_symm l 3 1
 have s23 := E_symm l 3 2
 have e0 : E l 0 0 = ent 1 1 (sig l) := rfl
 have e1 : E l 1 1 = ent 2 2 (sig l) := rfl
 have e2 : E l 2 2 = ent 3 3 (sig l) := rfl
 have e3 : E l 3 3 = ent 4 4 (sig l) := rfl
 unfold den
 match n, hn, hp with
 | 1, _, _ => show E l 0 0 ≤ _; omega
 | 2, _, _ =>
  show d2 _ _ _ _ ≤ _
  rw [s01]
  have h1 := bound2 (E l 0 0) (E l 0 1) (E l 1 1)
  have h2 := four_mul (E l 0 0) (E l 1 1)
  have h3 : (E l 0 0 + E l 1 1) * (E l 0 0 + E l 1 1) ≤ 48 * 48 := La.mul_le (by omega) (by omega) (by omega) (by omega)
  omega
 | 3, _, hp =>
  have p1 : 0 < E l 0 0 := hp 1 (by decide)
  have p2 : 0 < d2 (E l 0 0) (E l 0 1) (E l 0 1) (E l 1 1) := by have := hp 2 (by decide); unfold LL at this; rwa [s01] at this
  show d3 _ _ _ _ _ _ _ _ _ ≤ _
  rw [s01, s02, s12]
  have h1 := bound3 (c := E l 0 2) (f := E l 1 2) (h := E l 2 2) p1 p2
  have h2 := bound2 (E l 0 0) (E l 0 1) (E l 1 1)
  have h3 : d2 (E l 0 0) (E l 0 1) (E l 0 1) (E l 1 1) * E l 2 2 ≤ E l 0 0 * E l 1 1 * E l 2 2 := Int.mul_le_mul_of_nonneg_right h2 (by omega)
  have h4 := mul3 (a := E l 0 0) (b := E l 1 1) (c := E l 2 2) (by omega) (by omega) (by omega) (by omega)
  omega
 | 4, _, hp =>
  have p1 : 0 < E l 0 0 := hp 1 (by decide)
  have p2 : 0 < d2 (E l 0 0) (E l 0 1) (E l 0 1) (E l 1 1) := by have := hp 2 (by decide); unfold LL at this; rwa [s01] at this
  have p3 : 0 < d3 (E l 0 0) (E l 0 1) (E l 0 2) (E l 0 1) (E l 1 1) (E l 1 2) (E l 0 2) (E l 1 2) (E l 2 2) := by have := hp 3 (by decide); unfold LL at this; rwa [s01, s02, s12] at this
  show d4 _ _ _ _ _ _ _ _ _ _ _ _ _ _ _ _ ≤ _
  rw [s01, s02, s12, s03, s13, s23]
  have h0 := bound4 (d := E l 0 3) (g := E l 1 3) (i := E l 2 3) (j := E l 3 3) p1 p2 p3
  have h1 := bound3 (c := E l 0 2) (f := E l 1 2) (h := E l 2 2) p1 p2
  have h2 := bound2 (E l 0 0) (E l 0 1) (E l 1 1)
  have h3 : d2 (E l 0 0) (E l 0 1) (E l 0 1) (E l 1 1) * E l 2 2 ≤ E l 0 0 * E l 1 1 * E l 2 2 := Int.mul_le_mul_of_nonneg_right h2 (by omega)
  have h5 : d3 (E l 0 0) (E l 0 1) (E l 0 2) (E l 0 1) (E l 1 1) (E l 1 2) (E l 0 2) (E l 1 2) (E l 2 2) * E l 3 3 ≤ E l 0 0 * E l 1 1 * E l 2 2 * E l 3 3 := Int.mul_le_mul_of_nonneg_right (by omega) (by omega)
  have h4 := diag_bound (a := E l 0 0) (e := E l 1 1) (h := E l 2 2) (j := E l 3 3) (by omega) (by omega) (by omega) (by omega) (by omega)
  omega
def sqN (n : Nat) (l : List S32) (s : S32) : Int := s.f3 * resN n l s * resN n l s
def smI {α : Type} (g : α → Int) : List α → Int
 | [] => 0
 | s :: r => g s + smI g r
def ssq (n : Nat) (l : List S32) : Rat := sm (sqr n l) l
end Go.Proofs.Ytkafbmanmffliaa.Sb

/- Plain: what a connected survey's told numbers are: heights, residuals, and the weighted residuals at a point. -/
namespace Go.Proofs.Ytkafbmanmffliaa.Pa
open Go Go.RowKit YtkafbmanmffliaaW.PrintWords Q Ge Ka Kc Ke Kf Gt Gv Lo Lo2 Ex Sb
def ge (n : Nat) (l : List S32) : Nat := gcdAll (dn n l) (l.map (resN n l))
def gh (n : Nat) (l : List S32) : Nat := gcdAll (dn n l) (nuL l (rgt n l) n)
def ev (n : Nat) (l : List S32) (s : S32) : Int := resN n l s / (ge n l : Int)
def hv (n : Nat) (l : List S32) (p : Int) : Int := nu l (rgt n l) n p / (gh n l : Int)
def eD (n : Nat) (l : List S32) : Int := ((dn n l / ge n l : Nat) : Int)
def hD (n : Nat) (l : List S32) : Int := ((dn n l / gh n l : Nat) : Int)
theorem hv_zero (n : Nat) (l : List S32) : hv n l 0 = 0 := by unfold hv; rw [nu_zero]; exact Int.zero_ediv _
theorem sm_map {α β : Type} (f : α → β) (g : β → Rat) (l : List α) : sm g (l.map f) = sm (fun s => g (f s)) l := by
 induction l with
 | nil => rfl
 | cons s r ih => simp only [List.map_cons, sm, ih]
section
variable {n : Nat} {l : List S32} (hc : Gm.connB ((n : Int) + 1) l = true)
include hc
theorem ge_facts : 0 < ge n l ∧ eD n l * (ge n l : Int) = dn n l ∧ ∀ s ∈ l, ev n l s * (ge n l : Int) = resN n l s := by
 have h1 := dn_pos hc
 have h2 := gcd_dvd (l.map (resN n l)) (dn n l)
 have h3 : 0 < ge n l := Nat.pos_of_dvd_of_pos h2.1 h1.1
 refine ⟨h3, by unfold eD; exact_mod_cast Nat.div_mul_cancel h2.1, fun s hs => ?_⟩
 unfold ev
 exact Int.ediv_mul_cancel (Int.natAbs_dvd_natAbs.1 (by rw [Int.natAbs_natCast]; exact h2.2 _ (List.mem_map.2 ⟨s, hs, rfl⟩)))
theorem gh_facts : 0 < gh n l ∧ hD n l * (gh n l : Int) = dn n l ∧ ∀ p : Int, 0 ≤ p → p ≤ n → hv n l p * (gh n l : Int) = nu l (rgt n l) n p := by
 have h1 := dn_pos hc
 have h2 := gcd_dvd (nuL l (rgt n l) n) (dn n l)
 have h3 : 0 < gh n l := Nat.pos_of_dvd_of_pos h2.1 h1.1
 refine ⟨h3, by unfold hD; exact_mod_cast Nat.div_mul_cancel h2.1, fun p h0 hp => ?_⟩
 have hmem : nu l (rgt n l) n p ∈ nuL l (rgt n l) n := by
  unfold nuL
  exact List.mem_map.2 ⟨p.toNat, List.mem_range.2 (by omega), by rw [Int.toNat_of_nonneg h0]⟩
 unfold hv
 exact Int.ediv_mul_cancel (Int.natAbs_dvd_natAbs.1 (by rw [Int.natAbs_natCast]; exact h2.2 _ hmem))
theorem eD_pos : 1 ≤ eD n l ∧ eD n l ≤ 27648 := by
 have h1 := ge_facts hc
 have h2 := dn_pos hc
 have h3 := den_small hc
 have h4 := Nat.div_le_self (dn n l) (ge n l)
 have h5 := h1.2.1
 unfold eD at h5 ⊢
 obtain ⟨q, hq⟩ : ∃ q, q = dn n l / ge n l := ⟨_, rfl⟩
 rw [← hq] at h4 h5 ⊢
 have h6 : q ≠ 0 := fun e => by rw [e] at h5; omega
 omega
theorem hD_pos : 1 ≤ hD n l ∧ hD n l ≤ 27648 := by
 have h1 := gh_facts hc
 have h2 := dn_pos hc
 have h3 := den_small hc
 have h4 := Nat.div_le_self (dn n l) (gh n l)
 have h5 := h1.2.1
 unfold hD at h5 ⊢
 obtain ⟨q, hq⟩ : ∃ q, q = dn n l / gh n l := ⟨_, rfl⟩
 rw [← hq] at h4 h5 ⊢
 have h6 : q ≠ 0 := fun e => by rw [e] at h5; omega
 omega
theorem resL_eq : resL ((n : Int) + 1) l = l.map (ev n l) ∧ resD ((n : Int) + 1) l = eD n l := by
 unfold resL resD
 rw [if_pos hc, if_pos hc, wp_eq]
 exact ⟨by unfold lowL; rw [List.map_map]; rfl, rfl⟩
theorem adjL_eq : adjL ((n : Int) + 1) l = (List.range (n + 1)).map (fun p : Nat => hv n l p) ∧ adjD ((n : Int) + 1) l = hD n l := by
 unfold adjL adjD
 rw [if_pos hc, if_pos hc, wp_eq]
 exact ⟨by unfold lowL nuL; rw [List.map_map]; rfl, rfl⟩
theorem res_ev (s : S32) (hs : s ∈ l) : res n l s = (ev n l s : Rat) / (eD n l : Rat) := by
 have h1 := ge_facts hc
 have h2 := dn_pos hc
 have h3 := eD_pos hc
 have e1 : resN n l s = ev n l s * (ge n l : Int) := (h1.2.2 s hs).symm
 have e2 : ((dn n l : Nat) : Int) = eD n l * (ge n l : Int) := h1.2.1.symm
 rw [res_mk hc, mkq, e1, e2, Rat.intCast_mul, Rat.intCast_mul]
 have n1 : ((ge n l : Int) : Rat) ≠ 0 := by exact_mod_cast (show (ge n l : Int) ≠ 0 by omega)
 have n2 : ((eD n l : Int) : Rat) ≠ 0 := by exact_mod_cast (show (eD n l : Int) ≠ 0 by omega)
 grind
theorem ev_hv (s : S32) (hs : s ∈ l) : ev n l s * hD n l = eD n l * (s.f2 * hD n l - hv n l s.f1 + hv n l s.f0) := by
 have hm := mem_at (conn_v hc) s hs
 have h1 := ge_facts hc
 have h2 := gh_facts hc
 have h3 := dn_pos hc
 have a1 := h1.2.2 s hs
 have a2 := h2.2.2 s.f1 (by omega) (by omega)
 have a3 := h2.2.2 s.f0 (by omega) (by omega)
 have a4 : resN n l s = s.f2 * (dn n l : Int) - nu l (rgt n l) n s.f1 + nu l (rgt n l) n s.f0 := by unfold resN; rw [h3.2.2]
 have g1 : ((ge n l : Int) * (gh n l : Int)) ≠ 0 := Int.mul_ne_zero (by omega) (by omega)
 refine Int.eq_of_mul_eq_mul_right g1 ?_
 rw [← a2, ← a3, ← a1] at a4
 have b1 := h1.2.1
 have b2 := h2.2.1
 obtain ⟨E, hE⟩ : ∃ E, E = ev n l s := ⟨_, rfl⟩
 obtain ⟨G, hG⟩ : ∃ G : Int, G = (ge n l : Int) := ⟨_, rfl⟩
 obtain ⟨H, hH⟩ : ∃ H : Int, H = (gh n l : Int) := ⟨_, rfl⟩
 obtain ⟨D, hD'⟩ : ∃ D : Int, D = (dn n l : Int) := ⟨_, rfl⟩
 rw [← hG, ← hD'] at b1
 rw [← hH, ← hD'] at b2
 rw [← hE, ← hG, ← hH, ← hD'] at a4
 rw [← hE, ← hG, ← hH]
 grind
theorem ev_size (s : S32) (hs : s ∈ l) : (ev n l s).natAbs < 1099511627776 := by
 have h1 := ge_facts hc
 have h2 := resN_size hc s hs
 have h3 := h1.2.2 s hs
 have h4 : (ev n l s).natAbs * (ge n l : Int).natAbs = (resN n l s).natAbs := by rw [← Int.natAbs_mul, h3]
 have h5 : (ev n l s).natAbs * 1 ≤ (ev n l s).natAbs * (ge n l : Int).natAbs := Nat.mul_le_mul_left _ (by omega)
 omega
theorem hv_size (p : Int) (h0 : 0 ≤ p) (hp : p ≤ n) : -1073741824 ≤ hv n l p ∧ hv n l p ≤ 1073741824 := by
 have h1 := gh_facts hc
 have h2 := nu_size (ok_rgt hc) p hp
 have h3 := h1.2.2 p h0 hp
 have h4 : (hv n l p).natAbs * (gh n l : Int).natAbs = (nu l (rgt n l) n p).natAbs := by rw [← Int.natAbs_mul, h3]
 have h5 : (hv n l p).natAbs * 1 ≤ (hv n l p).natAbs * (gh n l : Int).natAbs := Nat.mul_le_mul_left _ (by omega)
 omega
theorem normal_ev (y : Int → Rat) : sm (fun s => ((s.f3 * ev n l s : Int) : Rat) * dif y s) l = 0 := by
 have h3 := eD_pos hc
 have n2 : ((eD n l : Int) : Rat) ≠ 0 := by exact_mod_cast (show (eD n l : Int) ≠ 0 by omega)
 have h := normal hc y
 have e : sm (fun s => ((s.f3 * ev n l s : Int) : Rat) * dif y s) l = (eD n l : Rat) * sm (fun s => (s.f3 : Rat) * (res n l s * dif y s)) l := by
  rw [← sm_mul]
  refine sm_congr (fun s hs => ?_)
  rw [res_ev hc s hs, Rat.intCast_mul]
  grind
 rw [e, h]
 grind
end
def pri (n : Nat) (l : List S32) (s : S32) : S32 := ⟨s.f0, s.f1, ev n l s, s.f3⟩
def lpr (n : Nat) (l : List S32) : List S32 := l.map (pri n l)
theorem fold_size2 {n : Nat} (M : Int) (hM : 0 ≤ M) (l : List S32) (h : ∀ s ∈ l, 0 ≤ s.f0 ∧ s.f0 ≤ n ∧ 0 ≤ s.f1 ∧ s.f1 ≤ n ∧ s.f0 ≠ s.f1 ∧ -M ≤ s.f2 ∧ s.f2 ≤ M ∧ 1 ≤ s.f3 ∧ s.f3 ≤ 3) (r : List Int) (hl : r.length = n + 1) (m : Int) (hm : 0 ≤ m) (hr : ∀ p : Int, -m ≤ rd r p ∧ rd r p ≤ m) (p : Int) :
  -(m + 3 * M * l.length) ≤ rd (l.foldl stR r) p ∧ rd (l.foldl stR r) p ≤ m + 3 * M * l.length := by
 induction l generalizing r m with
 | nil => simpa using hr p
 | cons s t ih =>
  have hs := h s (by simp)
  have hw : -(3 * M) ≤ s.f3 * s.f2 ∧ s.f3 * s.f2 ≤ 3 * M := by
   have c3 : s.f3 = 1 ∨ s.f3 = 2 ∨ s.f3 = 3 := by omega
   rcases c3 with e | e | e <;> rw [e] <;> omega
  have := ih (fun u hu => h u (by simp [hu])) (stR r s) (by unfold stR; rw [ad_len]; exact hl) (m + 3 * M) (by omega) (fun q => ad_size (by omega) hw hm hr hs.2.2.1 (by rw [hl]; omega) hs.1 (by rw [hl]; omega) (fun e => hs.2.2.2.2.1 e.symm) q)
  rw [List.foldl_cons]
  simp only [List.length_cons]
  have e : 3 * M * ((t.length + 1 : Nat) : Int) = 3 * M * (t.length : Int) + 3 * M := by push_cast; grind
  rw [e]
  omega
section
variable {n : Nat} {l : List S32} (hc : Gm.connB ((n : Int) + 1) l = true)
include hc
theorem lpr_at : ∀ s ∈ lpr n l, 0 ≤ s.f0 ∧ s.f0 ≤ n ∧ 0 ≤ s.f1 ∧ s.f1 ≤ n ∧ s.f0 ≠ s.f1 ∧ -1099511627776 ≤ s.f2 ∧ s.f2 ≤ 1099511627776 ∧ 1 ≤ s.f3 ∧ s.f3 ≤ 3 := fun s hs => by
 obtain ⟨t, ht, rfl⟩ := List.mem_map.1 hs
 have h1 := mem_at (conn_v hc) t ht
 have h2 := ev_size hc t ht
 unfold pri
 dsimp only
 omega
theorem sums_size (i : Nat) (p : Int) : -26388279066624 ≤ rd (rgtAt n (lpr n l) i) p ∧ rd (rgtAt n (lpr n l) i) p ≤ 26388279066624 := by
 have hl8 : ((lpr n l).take i).length ≤ 8 := by
  have := (conn_n hc).2.2
  unfold lpr
  simp
  omega
 have := fold_size2 1099511627776 (by decide) ((lpr n l).take i) (fun s hs => lpr_at hc s (List.mem_of_mem_take hs)) (List.replicate (n + 1) 0) (by simp) 0 (by omega) (fun p => by rw [rd_zeros]; omega) p
 unfold rgtAt rgt
 omega
theorem sums_zero (k : Nat) (h1 : 1 ≤ k) (hk : k ≤ n) : rd (rgt n (lpr n l)) (k : Int) = 0 := by
 have h := rs_fold (n := n) (lpr n l) (fun s hs => by have := lpr_at hc s hs; omega) (List.replicate (n + 1) 0) (by simp) (fun q => if q = (k : Int) then 1 else 0)
 rw [rs_zeros] at h
 have e : sm (fun s => ((s.f3 * s.f2 : Int) : Rat) * dif (fun q => if q = (k : Int) then 1 else 0) s) (lpr n l) = sm (fun s => ((s.f3 * ev n l s : Int) : Rat) * dif (fun q => if q = (k : Int) then 1 else 0) s) l := by
  unfold lpr
  rw [sm_map]
  rfl
 rw [e, normal_ev hc] at h
 have e2 : rs ((lpr n l).foldl stR (List.replicate (n + 1) 0)) n (fun q => if q = (k : Int) then 1 else 0) = ((rd (rgt n (lpr n l)) (k : Int) : Int) : Rat) * ((fun q : Int => if q = 0 then (0 : Rat) else 1) (k : Int) - (fun q : Int => if q = 0 then (0 : Rat) else 1) 0) := by
  refine Eq.trans ?_ (pick n (k : Int) (by omega) (by omega) ((rd (rgt n (lpr n l)) (k : Int) : Int) : Rat) (fun q : Int => if q = 0 then (0 : Rat) else 1))
  unfold rs rgt
  refine sm_congr (fun p _ => ?_)
  have f1 : ¬ (0 : Int) = k := by omega
  have f2 : ¬ (k : Int) = 0 := by omega
  by_cases e : (p : Int) + 1 = k
  ·rw [if_pos e, e]
   dsimp only
   rw [if_pos (show (k : Int) = k from rfl), if_neg f1, if_neg f2, if_pos (show (0 : Int) = 0 from rfl)]
  ·rw [if_neg e]
   dsimp only
   rw [if_neg e, if_neg f1]
   grind
 rw [e2] at h
 have h0 : ((rd (rgt n (lpr n l)) (k : Int) : Int) : Rat) = 0 := by
  dsimp only at h
  rw [if_neg (show ¬ (k : Int) = 0 by omega), if_pos rfl] at h
  grind
 exact_mod_cast h0
end
end Go.Proofs.Ytkafbmanmffliaa.Pa

namespace Go.Proofs.Ytkafbmanmffliaa.Q
open Go.RowKit YtkafbmanmffliaaW.PrintWords YtkafbmanmffliaaW.PrintLast YtkafbmanmffliaaW.PrintMore
attribute [local go_sem] max2_int min2_int max_two min_two max_three min_three max_four min_four
def IsS102 (w0 W : World) (g : Nat) (f0 : List Int) (f1 : Int) (f2 : Int) : Prop := ∃ A0 c0, W.heap[g]? = some (.cells #[.slice A0 f0.length c0, .int .i64 f1, .int .u64 f2] 102 (0, 0)) ∧ w0.heap.size ≤ g ∧ Kd.C (Kd.int .u8) w0 A0 f0.length f0
theorem IsS102.grown {w0 W : World} {g : Nat} {f0 : List Int} {f1 : Int} {f2 : Int} {W1 : World} {row : Option Nat} (h : IsS102 w0 W g f0 f1 f2) (hw : W.grownBy W1 row) (hne : some g ≠ row) : IsS102 w0 W1 g f0 f1 f2 := by
 obtain ⟨A0, c0, hb, hg, hr0⟩ := h
 exact ⟨A0, c0, blk_grown hb hw hne, hg, hr0⟩
theorem IsS102.kept {w0 W : World} {g : Nat} {f0 : List Int} {f1 : Int} {f2 : Int} {W1 : World} {S : Nat → Prop} (h : IsS102 w0 W g f0 f1 f2) (hk : Kept W W1 S) (hne : ¬ S g) : IsS102 w0 W1 g f0 f1 f2 := by
 obtain ⟨A0, c0, hb, hg, hr0⟩ := h
 exact ⟨A0, c0, blk_kept hb hk hne, hg, hr0⟩
theorem IsS102.below {w0 W : World} {g : Nat} {f0 : List Int} {f1 : Int} {f2 : Int} {W1 : World} (h : IsS102 w0 W g f0 f1 f2) (hw : Below W.heap.size W W1) : IsS102 w0 W1 g f0 f1 f2 := h.grown (grown_of_below hw none) (by simp)
theorem IsS102.alloc {w0 W : World} {g : Nat} {f0 : List Int} {f1 : Int} {f2 : Int} (h : IsS102 w0 W g f0 f1 f2) (o : Obj) : IsS102 w0 (W.alloc o) g f0 f1 f2 := h.below (below_alloc (Below.refl _ _) o)
theorem IsS102.drewN {w0 W : World} {g : Nat} {f0 : List Int} {f1 : Int} {f2 : Int} (h : IsS102 w0 W g f0 f1 f2) (m : Nat) : IsS102 w0 (W.drewN m) g f0 f1 f2 := h
theorem IsS102.drew {w0 W : World} {g : Nat} {f0 : List Int} {f1 : Int} {f2 : Int} (h : IsS102 w0 W g f0 f1 f2) : IsS102 w0 W.drew g f0 f1 f2 := h
theorem IsS102.at_ {w0 W : World} {g : Nat} {f0 : List Int} {f1 : Int} {f2 : Int} {w' : World} {m : Nat} (hq : W.drewN m = w') (h : IsS102 w0 W g f0 f1 f2) : IsS102 w0 w' g f0 f1 f2 := by subst hq; exact IsS102.drewN h m
theorem IsS102.apart {w0 W : World} {g : Nat} {f0 : List Int} {f1 : Int} {f2 : Int} {α : Type} {d : Kd α} {e : Nat} {base : Nat} {ok : Nat → Prop} {v : Value} {xs : List α} (h : IsS102 w0 W g f0 f1 f2) (ho : d.R e W base ok v xs) (ht : ∀ q, q ∈ e :: d.E → q ≠ 102) : d.R e W base (fun k => ok k ∧ k ≠ g) v xs := by
 obtain ⟨A0, c0, hb, hg, hr0⟩ := h
 exact Kd.R_types ho hb ht
theorem IsS102.own_ne {w0 W : World} {g : Nat} {f0 : List Int} {f1 : Int} {f2 : Int} {α : Type} {d : Kd α} {e : Nat} {base : Nat} {ok : Nat → Prop} {v : Value} {xs : List α} (h : IsS102 w0 W g f0 f1 f2) (ho : d.R e W base ok v xs) (ht : e ≠ 102) : some g ≠ v.ownBlock := by
 obtain ⟨A0, c0, hb, hg, hr0⟩ := h
 exact Kd.R_ne ho hb ht
theorem IsS102.lt {w0 W : World} {g : Nat} {f0 : List Int} {f1 : Int} {f2 : Int} (h : IsS102 w0 W g f0 f1 f2) : g < W.heap.size := by
 obtain ⟨A0, c0, hb, hg, hr0⟩ := h
 exact blk_lt hb
theorem IsS102.ge {w0 W : World} {g : Nat} {f0 : List Int} {f1 : Int} {f2 : Int} (h : IsS102 w0 W g f0 f1 f2) : w0.heap.size ≤ g := by
 obtain ⟨A0, c0, hb, hg, hr0⟩ := h
 exact hg
theorem IsS102.ne_blk {w0 W : World} {g : Nat} {f0 : List Int} {f1 : Int} {f2 : Int} {a : Nat} {cs : Array Value} {t : TypeId} {fr : Nat × Nat} (h : IsS102 w0 W g f0 f1 f2) (hb2 : W.heap[a]? = some (.cells cs t fr)) (ht : t ≠ 102) : g ≠ a := by
 obtain ⟨A0, c0, hb, hg, hr0⟩ := h
 rintro rfl
 rw [hb] at hb2
 injection hb2 with hb2
 injection hb2 with _ ht2
 exact ht ht2.symm
theorem IsS102.far {w0 W : World} {g : Nat} {f0 : List Int} {f1 : Int} {f2 : Int} {p : Addr} (h : IsS102 w0 W g f0 f1 f2) (hne : g ≠ p.block) (u : Value) : IsS102 w0 (W.setCell p u) g f0 f1 f2 := by
 obtain ⟨A0, c0, hb, hg, hr0⟩ := h
 exact ⟨A0, c0, blk_far hb hne u, hg, hr0⟩
theorem cellS102_0 {W : World} {g : Nat} {A0 : Option Addr} {c0 : Nat} {f0 : List Int} {f1 : Int} {f2 : Int} (h : W.heap[g]? = some (.cells #[.slice A0 f0.length c0, .int .i64 f1, .int .u64 f2] 102 (0, 0))) : W.cell? ⟨g, 0, none⟩ = some (.slice A0 f0.length c0) := (blk_cell h 0).trans rfl
theorem cellS102_1 {W : World} {g : Nat} {A0 : Option Addr} {c0 : Nat} {f0 : List Int} {f1 : Int} {f2 : Int} (h : W.heap[g]? = some (.cells #[.slice A0 f0.length c0, .int .i64 f1, .int .u64 f2] 102 (0, 0))) : W.cell? ⟨g, 1, none⟩ = some (.int .i64 f1) := (blk_cell h 1).trans rfl
theorem IsS102.set_1 {w0 W : World} {g : Nat} {f0 : List Int} {f1 : Int} {f2 : Int} (h : IsS102 w0 W g f0 f1 f2) (x : Int) : IsS102 w0 (W.setCell ⟨g, 1, none⟩ (.int .i64 x)) g f0 x f2 := by
 obtain ⟨A0, c0, hb, hg, hr0⟩ := h
 exact ⟨A0, c0, by simpa using blk_set hb 1 (.int .i64 x), hg, hr0⟩
theorem cellS102_2 {W : World} {g : Nat} {A0 : Option Addr} {c0 : Nat} {f0 : List Int} {f1 : Int} {f2 : Int} (h : W.heap[g]? = some (.cells #[.slice A0 f0.length c0, .int .i64 f1, .int .u64 f2] 102 (0, 0))) : W.cell? ⟨g, 2, none⟩ = some (.int .u64 f2) := (blk_cell h 2).trans rfl
theorem IsS102.set_2 {w0 W : World} {g : Nat} {f0 : List Int} {f1 : Int} {f2 : Int} (h : IsS102 w0 W g f0 f1 f2) (x : Int) : IsS102 w0 (W.setCell ⟨g, 2, none⟩ (.int .u64 x)) g f0 f1 x := by
 obtain ⟨A0, c0, hb, hg, hr0⟩ := h
 exact ⟨A0, c0, by simpa using blk_set hb 2 (.int .u64 x), hg, hr0⟩
theorem IsS102.new (w0 W : World) (A0 : Option Addr) (c0 : Nat) (f0 : List Int) (f1 : Int) (f2 : Int) (hB : Below w0.heap.size w0 W) (hr0 : Kd.C (Kd.int .u8) w0 A0 f0.length f0) : IsS102 w0 (W.alloc (.cells #[.slice A0 f0.length c0, .int .i64 f1, .int .u64 f2] 102)) W.heap.size f0 f1 f2 := ⟨A0, c0, by simpa using heap_alloc_new W _, hB.size, hr0⟩
def spec_l00From.f (l0 : List Int) : Option (List Int × Int × Int) := some (l0, 0, 0)
set_option maxHeartbeats 8000000 in
set_option maxRecDepth 100000 in
theorem spec_l00From.calls (A0 : Option Addr) (c0 : Nat) (l0 : List Int) (r1 : List Int) (r2 : Int) (r3 : Int) (w0 w : World) (hB : Below w0.heap.size w0 w) (hr0 : Kd.C (Kd.int .u8) w0 A0 l0.length l0) (hc0 : l0.length ≤ c0) (h : spec_l00From.f l0 = some (r1, r2, r3)) :
  Calls Try.prog 56 #[.slice A0 l0.length c0] w fun e w' => ∃ g_ : Nat, e = .returned (.pointer (some ⟨g_, 0, none⟩)) ∧ IsS102 w0 w' g_ r1 r2 r3 ∧ Below w0.heap.size w0 w' ∧ Below w.heap.size w w' := by
 have hu102 := Try.underlying102
 have HR0 := Aside0.mk hr0
 have HC0 := Aside0.mk hc0
 clear hr0 hc0
 have HBW := Aside0.mk (Below.refl w.heap.size w)
 have HW0 := Aside0.mk hB.size
 have HB := Aside0.mk hB
 clear hB
 have H : (some (l0, 0, 0)) = some (r1, r2, r3) := h
 clear h
 simp only [Option.some.injEq, Prod.mk.injEq] at H
 obtain ⟨rfl, rfl, rfl⟩ := H
 go_enter Try.func56, Try.ntmps56
 go_wp2_with (first | ((with_reducible refine gate_dst (N := 5) rfl ?_); refine box_event ?hg (N := 5) ?hd (cs := #[.slice A0 l0.length c0, .int .i64 0, .int .u64 0]) (t := 102) ?hr ?_; (case hd => rfl); (case hg => rfl); (case hr => first | (go_simp; done) | (go_simp; rfl)); intro gb101 hg w2 hbox hb; have n0_ := Aside0.mk (below_step HBW.out hb); have n1_ := Aside0.mk (below_step (by repeat (first | (with_reducible first | exact HB.out | apply below_alloc | apply pw_below_drewN | apply below_drew1) | exact HB.out)) hb); have n2_ := Aside0.mk (hbox); have n3_ := Aside0.mk ((by rw [hg]; exact (below_size (by repeat (first | (with_reducible first | exact HBW.out | apply below_alloc | apply pw_below_drewN | apply below_drew1) | exact HBW.out))) : w.heap.size ≤ gb101)); have n4_ := Aside0.mk ((Nat.le_trans HW0.out (by rw [hg]; exact (below_size (by repeat (first | (with_reducible first | exact HBW.out | apply below_alloc | apply pw_below_drewN | apply below_drew1) | exact HBW.out))) : w.heap.size ≤ gb101) : w0.heap.size ≤ gb101)); clear HBW; clear HB; have HBW := n0_; have HB := n1_; have BK101 := n2_; have GW101 := n3_; have GE101 := n4_; clear n0_ n1_ n2_ n3_ n4_; clear hb hbox hg))
 go_ret
 exact ⟨_, rfl, (show IsS102 w0 _ gb101 l0 0 0 from ⟨_, _, by (with_reducible repeat (first | refine blk_drewN ?_ _ | refine blk_drew ?_ | refine blk_alloc ?_ _)); exact BK101.out, GE101.out, HR0.out⟩), by repeat (first | (with_reducible first | exact HB.out | apply below_alloc | apply pw_below_drewN | apply below_drew1 | refine below_set ?_ GE101.out) | exact HB.out), by repeat (first | (with_reducible first | exact HBW.out | apply below_alloc | apply pw_below_drewN | apply below_drew1 | refine below_set ?_ GW101.out) | exact HBW.out)⟩
end Go.Proofs.Ytkafbmanmffliaa.Q

namespace Go.Proofs.Ytkafbmanmffliaa.Q
open Go.RowKit YtkafbmanmffliaaW.PrintWords YtkafbmanmffliaaW.PrintLast YtkafbmanmffliaaW.PrintMore
attribute [local go_sem] max2_int min2_int max_two min_two max_three min_three max_four min_four
def spec_l00Src_next.f (s0_0 : List Int) (s0_1 : Int) (s0_2 : Int) : Option (Int × Int × Int) := if s0_1 < (s0_0.length : Int) then (if 0 ≤ s0_1 then (if (wrap64 (s0_1 + 1)) ≤ (s0_0.length : Int) then (some (wrap64 (rd s0_0 s0_1), wrap64 (s0_1 + 1), IntKind.u64.wrap ((IntKind.u64.wrap ((IntKind.u64.wrap (s0_2 * 6364136223846793005)) + (IntKind.u64.wrap (wrap64 (rd s0_0 s0_1))))) + 1442695040888963407))) else (some (wrap64 (Go.bits .and .u64 ((IntKind.u64.wrap ((IntKind.u64.wrap ((IntKind.u64.wrap (s0_2 * 6364136223846793005)) + (IntKind.u64.wrap (wrap64 (rd s0_0 s0_1))))) + 1442695040888963407)) / 1099511627776) 255), wrap64 (s0_1 + 1), IntKind.u64.wrap ((IntKind.u64.wrap ((IntKind.u64.wrap (s0_2 * 6364136223846793005)) + (IntKind.u64.wrap (wrap64 (rd s0_0 s0_1))))) + 1442695040888963407)))) else (none)) else (if (wrap64 (s0_1 + 1)) ≤ (s0_0.length : Int) then (some (0, wrap64 (s0_1 + 1), IntKind.u64.wrap ((IntKind.u64.wrap ((IntKind.u64.wrap (s0_2 * 6364136223846793005)))) + 1442695040888963407))) else (some (wrap64 (Go.bits .and .u64 ((IntKind.u64.wrap ((IntKind.u64.wrap ((IntKind.u64.wrap (s0_2 * 6364136223846793005)))) + 1442695040888963407)) / 1099511627776) 255), wrap64 (s0_1 + 1), IntKind.u64.wrap ((IntKind.u64.wrap ((IntKind.u64.wrap (s0_2 * 6364136223846793005)))) + 1442695040888963407))))
set_option maxHeartbeats 8000000 in
set_option maxRecDepth 100000 in
theorem spec_l00Src_next.calls (g : Nat) (s0_0 : List Int) (s0_1 : Int) (s0_2 : Int) (r1 : Int) (r2 : Int) (r3 : Int) (w0 w : World) (hI : IsS102 w0 w g s0_0 s0_1 s0_2) (hB : Below w0.heap.size w0 w) (h : spec_l00Src_next.f s0_0 s0_1 s0_2 = some (r1, r2, r3)) :
  Calls Try.prog 128 #[.pointer (some ⟨g, 0, none⟩)] w fun e w' => e = .returned (.int .i64 r1) ∧ IsS102 w0 w' g s0_0 r2 r3 ∧ Below w0.heap.size w0 w' ∧ KeepBut w w' g none := by
 have HI0 := Aside0.mk hI
 have HK := Aside0.mk (KeepBut.refl w g none)
 have HL := Aside0.mk hB.size
 clear hI
 have HW0 := Aside0.mk hB.size
 have HB := Aside0.mk hB
 clear hB
 have H : (if s0_1 < (s0_0.length : Int) then (if 0 ≤ s0_1 then (if (wrap64 (s0_1 + 1)) ≤ (s0_0.length : Int) then (some (wrap64 (rd s0_0 s0_1), wrap64 (s0_1 + 1), IntKind.u64.wrap ((IntKind.u64.wrap ((IntKind.u64.wrap (s0_2 * 6364136223846793005)) + (IntKind.u64.wrap (wrap64 (rd s0_0 s0_1))))) + 1442695040888963407))) else (some (wrap64 (Go.bits .and .u64 ((IntKind.u64.wrap ((IntKind.u64.wrap ((IntKind.u64.wrap (s0_2 * 6364136223846793005)) + (IntKind.u64.wrap (wrap64 (rd s0_0 s0_1))))) + 1442695040888963407)) / 1099511627776) 255), wrap64 (s0_1 + 1), IntKind.u64.wrap ((IntKind.u64.wrap ((IntKind.u64.wrap (s0_2 * 6364136223846793005)) + (IntKind.u64.wrap (wrap64 (rd s0_0 s0_1))))) + 1442695040888963407)))) else (none)) else (if (wrap64 (s0_1 + 1)) ≤ (s0_0.length : Int) then (some (0, wrap64 (s0_1 + 1), IntKind.u64.wrap ((IntKind.u64.wrap ((IntKind.u64.wrap (s0_2 * 6364136223846793005)))) + 1442695040888963407))) else (some (wrap64 (Go.bits .and .u64 ((IntKind.u64.wrap ((IntKind.u64.wrap ((IntKind.u64.wrap (s0_2 * 6364136223846793005)))) + 1442695040888963407)) / 1099511627776) 255), wrap64 (s0_1 + 1), IntKind.u64.wrap ((IntKind.u64.wrap ((IntKind.u64.wrap (s0_2 * 6364136223846793005)))) + 1442695040888963407))))) = some (r1, r2, r3) := h
 clear h
 by_cases c2 : s0_1 < (s0_0.length : Int)
 ·rw [if_pos c2] at H
  have c2b0 : decide (s0_1 < (s0_0.length : Int)) = true := decide_eq_true c2
  clear c2
  by_cases c3 : 0 ≤ s0_1
  ·rw [if_pos c3] at H
   have c3b0 : decide (0 ≤ s0_1) = true := decide_eq_true c3
   clear c3
   by_cases c4 : (wrap64 (s0_1 + 1)) ≤ (s0_0.length : Int)
   ·rw [if_pos c4] at H
    have c4b0 : decide ((wrap64 (s0_1 + 1)) ≤ (s0_0.length : Int)) = true := decide_eq_true c4
    clear c4
    simp only [Option.some.injEq, Prod.mk.injEq] at H
    obtain ⟨rfl, rfl, rfl⟩ := H
    obtain ⟨ASz5_0, cSz5_0, HGz5, hgz5, HSz5_0⟩ := HI0.out
    have hcz5_0 := cellS102_0 HGz5
    have hcz5_1 := cellS102_1 HGz5
    have hcz5_2 := cellS102_2 HGz5
    have hfz5_1 := blk_frozen HGz5 1
    have hfz5_2 := blk_frozen HGz5 2
    clear HGz5 hgz5
    have p102 : 0 ≤ (s0_1 : Int) := of_decide_eq_true (by first | (with_reducible assumption) | assumption)
    have q102 : s0_1 < (s0_0.length : Int) := of_decide_eq_true (by first | (with_reducible assumption) | assumption)
    obtain ⟨ad102, e102, hx102_0⟩ := Kd.at_int HSz5_0 s0_1 p102 q102
    cases e102
    replace hx102_0 := pw_cell_below HB.out hx102_0
    replace p102 := eq_true p102
    replace q102 := eq_true q102
    go_enter Try.func128, Try.ntmps128
    go_wp2
    repeat (go_quiet (fail); try go_wp2)
    go_ret
    exact ⟨by first | rfl | (simp [errW_none, errW_some] <;> rfl) | (simp [*, errW_none, errW_some] <;> rfl), by repeat (first | (with_reducible first | exact HI0.out | apply IsS102.alloc | apply IsS102.drewN | apply IsS102.drew | apply IsS102.set_1 | apply IsS102.set_2) | exact HI0.out), by repeat (first | (with_reducible first | exact HB.out | apply below_alloc | apply pw_below_drewN | apply below_drew1 | refine below_set ?_ (IsS102.ge HI0.out)) | exact HB.out), by repeat (first | (with_reducible first | exact HK.out | apply KeepBut.set_ | apply keep_drewN | apply keep_drew | apply keep_alloc) | exact HK.out)⟩
   ·rw [if_neg c4] at H
    have c4b0 : decide ((wrap64 (s0_1 + 1)) ≤ (s0_0.length : Int)) = false := decide_eq_false c4
    clear c4
    simp only [Option.some.injEq, Prod.mk.injEq] at H
    obtain ⟨rfl, rfl, rfl⟩ := H
    obtain ⟨ASz6_0, cSz6_0, HGz6, hgz6, HSz6_0⟩ := HI0.out
    have hcz6_0 := cellS102_0 HGz6
    have hcz6_1 := cellS102_1 HGz6
    have hcz6_2 := cellS102_2 HGz6
    have hfz6_1 := blk_frozen HGz6 1
    have hfz6_2 := blk_frozen HGz6 2
    clear HGz6 hgz6
    have p102 : 0 ≤ (s0_1 : Int) := of_decide_eq_true (by first | (with_reducible assumption) | assumption)
    have q102 : s0_1 < (s0_0.length : Int) := of_decide_eq_true (by first | (with_reducible assumption) | assumption)
    obtain ⟨ad102, e102, hx102_0⟩ := Kd.at_int HSz6_0 s0_1 p102 q102
    cases e102
    replace hx102_0 := pw_cell_below HB.out hx102_0
    replace p102 := eq_true p102
    replace q102 := eq_true q102
    go_enter Try.func128, Try.ntmps128
    go_wp2
    repeat (go_quiet (fail); try go_wp2)
    go_ret
    exact ⟨by first | rfl | (simp [errW_none, errW_some] <;> rfl) | (simp [*, errW_none, errW_some] <;> rfl), by repeat (first | (with_reducible first | exact HI0.out | apply IsS102.alloc | apply IsS102.drewN | apply IsS102.drew | apply IsS102.set_1 | apply IsS102.set_2) | exact HI0.out), by repeat (first | (with_reducible first | exact HB.out | apply below_alloc | apply pw_below_drewN | apply below_drew1 | refine below_set ?_ (IsS102.ge HI0.out)) | exact HB.out), by repeat (first | (with_reducible first | exact HK.out | apply KeepBut.set_ | apply keep_drewN | apply keep_drew | apply keep_alloc) | exact HK.out)⟩
  ·rw [if_neg c3] at H
   exact absurd H (by simp)
 ·rw [if_neg c2] at H
  have c2b0 : decide (s0_1 < (s0_0.length : Int)) = false := decide_eq_false c2
  clear c2
  by_cases c7 : (wrap64 (s0_1 + 1)) ≤ (s0_0.length : Int)
  ·rw [if_pos c7] at H
   have c7b0 : decide ((wrap64 (s0_1 + 1)) ≤ (s0_0.length : Int)) = true := decide_eq_true c7
   clear c7
   simp only [Option.some.injEq, Prod.mk.injEq] at H
   obtain ⟨rfl, rfl, rfl⟩ := H
   obtain ⟨ASz8_0, cSz8_0, HGz8, hgz8, HSz8_0⟩ := HI0.out
   have hcz8_0 := cellS102_0 HGz8
   have hcz8_1 := cellS102_1 HGz8
   have hcz8_2 := cellS102_2 HGz8
   have hfz8_1 := blk_frozen HGz8 1
   have hfz8_2 := blk_frozen HGz8 2
   clear HGz8 hgz8
   go_enter Try.func128, Try.ntmps128
   go_wp2
   repeat (go_quiet (fail); try go_wp2)
   go_ret
   exact ⟨by first | rfl | (simp [errW_none, errW_some] <;> rfl) | (simp [*, errW_none, errW_some] <;> rfl), by repeat (first | (with_reducible first | exact HI0.out | apply IsS102.alloc | apply IsS102.drewN | apply IsS102.drew | apply IsS102.set_1 | apply IsS102.set_2) | exact HI0.out), by repeat (first | (with_reducible first | exact HB.out | apply below_alloc | apply pw_below_drewN | apply below_drew1 | refine below_set ?_ (IsS102.ge HI0.out)) | exact HB.out), by repeat (first | (with_reducible first | exact HK.out | apply KeepBut.set_ | apply keep_drewN | apply keep_drew | apply keep_alloc) | exact HK.out)⟩
  ·rw [if_neg c7] at H
   have c7b0 : decide ((wrap64 (s0_1 + 1)) ≤ (s0_0.length : Int)) = false := decide_eq_false c7
   clear c7
   simp only [Option.some.injEq, Prod.mk.injEq] at H
   obtain ⟨rfl, rfl, rfl⟩ := H
   obtain ⟨ASz9_0, cSz9_0, HGz9, hgz9, HSz9_0⟩ := HI0.out
   have hcz9_0 := cellS102_0 HGz9
   have hcz9_1 := cellS102_1 HGz9
   have hcz9_2 := cellS102_2 HGz9
   have hfz9_1 := blk_frozen HGz9 1
   have hfz9_2 := blk_frozen HGz9 2
   clear HGz9 hgz9
   go_enter Try.func128, Try.ntmps128
   go_wp2
   repeat (go_quiet (fail); try go_wp2)
   go_ret
   exact ⟨by first | rfl | (simp [errW_none, errW_some] <;> rfl) | (simp [*, errW_none, errW_some] <;> rfl), by repeat (first | (with_reducible first | exact HI0.out | apply IsS102.alloc | apply IsS102.drewN | apply IsS102.drew | apply IsS102.set_1 | apply IsS102.set_2) | exact HI0.out), by repeat (first | (with_reducible first | exact HB.out | apply below_alloc | apply pw_below_drewN | apply below_drew1 | refine below_set ?_ (IsS102.ge HI0.out)) | exact HB.out), by repeat (first | (with_reducible first | exact HK.out | apply KeepBut.set_ | apply keep_drewN | apply keep_drew | apply keep_alloc) | exact HK.out)⟩
end Go.Proofs.Ytkafbmanmffliaa.Q

namespace Go.Proofs.Ytkafbmanmffliaa.Q
open Go.RowKit YtkafbmanmffliaaW.PrintWords YtkafbmanmffliaaW.PrintLast YtkafbmanmffliaaW.PrintMore
attribute [local go_sem] max2_int min2_int max_two min_two max_three min_three max_four min_four
def spec_l00Src_pick.f (s0_0 : List Int) (s0_1 : Int) (s0_2 : Int) (a1 : Int) : Option (Int × Int × Int) := if a1 ≤ 1 then (some (0, s0_1, s0_2)) else ((spec_l00Src_next.f s0_0 s0_1 s0_2).bind fun bt103 => (if a1 > 200 then ((spec_l00Src_next.f s0_0 bt103.2.1 bt103.2.2).bind fun bt106 => (if a1 = 0 then (none) else (some (Int.tmod (wrap64 ((wrap64 (bt103.1 * 256)) + bt106.1)) a1, bt106.2.1, bt106.2.2)))) else (if a1 = 0 then (none) else (some (Int.tmod bt103.1 a1, bt103.2.1, bt103.2.2)))))
set_option maxHeartbeats 8000000 in
set_option maxRecDepth 100000 in
theorem spec_l00Src_pick.calls (g : Nat) (s0_0 : List Int) (s0_1 : Int) (s0_2 : Int) (a1 : Int) (r1 : Int) (r2 : Int) (r3 : Int) (w0 w : World) (hI : IsS102 w0 w g s0_0 s0_1 s0_2) (hB : Below w0.heap.size w0 w) (h : spec_l00Src_pick.f s0_0 s0_1 s0_2 a1 = some (r1, r2, r3)) :
  Calls Try.prog 97 #[.pointer (some ⟨g, 0, none⟩), .int .i64 a1] w fun e w' => e = .returned (.int .i64 r1) ∧ IsS102 w0 w' g s0_0 r2 r3 ∧ Below w0.heap.size w0 w' ∧ KeepBut w w' g none := by
 have HI0 := Aside0.mk hI
 have HK := Aside0.mk (KeepBut.refl w g none)
 have HL := Aside0.mk hB.size
 clear hI
 have HW0 := Aside0.mk hB.size
 have HB := Aside0.mk hB
 clear hB
 have H : (if a1 ≤ 1 then (some (0, s0_1, s0_2)) else ((spec_l00Src_next.f s0_0 s0_1 s0_2).bind fun bt103 => (if a1 > 200 then ((spec_l00Src_next.f s0_0 bt103.2.1 bt103.2.2).bind fun bt106 => (if a1 = 0 then (none) else (some (Int.tmod (wrap64 ((wrap64 (bt103.1 * 256)) + bt106.1)) a1, bt106.2.1, bt106.2.2)))) else (if a1 = 0 then (none) else (some (Int.tmod bt103.1 a1, bt103.2.1, bt103.2.2)))))) = some (r1, r2, r3) := h
 clear h
 by_cases c3 : a1 ≤ 1
 ·rw [if_pos c3] at H
  have c3b0 : decide (a1 ≤ 1) = true := decide_eq_true c3
  clear c3
  simp only [Option.some.injEq, Prod.mk.injEq] at H
  obtain ⟨rfl, rfl, rfl⟩ := H
  go_enter Try.func97, Try.ntmps97
  go_wp2
  go_ret
  exact ⟨by first | rfl | (simp [errW_none, errW_some] <;> rfl) | (simp [*, errW_none, errW_some] <;> rfl), by repeat (first | (with_reducible first | exact HI0.out | apply IsS102.alloc | apply IsS102.drewN | apply IsS102.drew | apply IsS102.set_1 | apply IsS102.set_2) | exact HI0.out), by repeat (first | (with_reducible first | exact HB.out | apply below_alloc | apply pw_below_drewN | apply below_drew1 | refine below_set ?_ (IsS102.ge HI0.out)) | exact HB.out), by repeat (first | (with_reducible first | exact HK.out | apply KeepBut.set_ | apply keep_drewN | apply keep_drew | apply keep_alloc) | exact HK.out)⟩
 ·rw [if_neg c3] at H
  have c3b0 : decide (a1 ≤ 1) = false := decide_eq_false c3
  clear c3
  replace H := Option.bind_eq_some_iff.mp H
  obtain ⟨⟨t103, t104, t105⟩, A40, H⟩ := H
  replace H : (if a1 > 200 then ((spec_l00Src_next.f s0_0 t104 t105).bind fun bt106 => (if a1 = 0 then (none) else (some (Int.tmod (wrap64 ((wrap64 (t103 * 256)) + bt106.1)) a1, bt106.2.1, bt106.2.2)))) else (if a1 = 0 then (none) else (some (Int.tmod t103 a1, t104, t105)))) = some (r1, r2, r3) := H
  have A4 := Aside0.mk A40
  clear A40
  by_cases c5 : a1 > 200
  ·rw [if_pos c5] at H
   have c5b0 : decide (200 < a1) = true := decide_eq_true c5
   clear c5
   replace H := Option.bind_eq_some_iff.mp H
   obtain ⟨⟨t106, t107, t108⟩, A60, H⟩ := H
   replace H : (if a1 = 0 then (none) else (some (Int.tmod (wrap64 ((wrap64 (t103 * 256)) + t106)) a1, t107, t108))) = some (r1, r2, r3) := H
   have A6 := Aside0.mk A60
   clear A60
   by_cases c7 : a1 = 0
   ·rw [if_pos c7] at H
    exact absurd H (by simp)
   ·rw [if_neg c7] at H
    have c7b0 : (a1 == 0) = false := beq_eq_false_iff_ne.mpr c7
    have c7b1 : (a1 != 0) = true := bne_iff_ne.mpr c7
    simp only [Option.some.injEq, Prod.mk.injEq] at H
    obtain ⟨rfl, rfl, rfl⟩ := H
    go_enter Try.func97, Try.ntmps97
    go_wp2_with (first | ((with_reducible refine gate_callee (f := 128) rfl ?_); refine goesL_ (some 9) rfl rfl Try.func128 (by kernel_rfl) rfl #[.pointer (some ⟨g, 0, none⟩)] rfl (by (try simp only [List.map_toArray, List.map_cons, List.map_nil]); first | done | rfl | (simp only [List.length_drop, List.length_take]; rfl)) ?_; (with_reducible refine (spec_l00Src_next.calls g s0_0 s0_1 s0_2 t103 t104 t105 w0 _ ?side1 ?side2 A4.out).mono ?_); (case side1 => repeat (first | (with_reducible first | exact HI0.out | apply IsS102.alloc | apply IsS102.drewN | apply IsS102.drew | apply IsS102.set_1 | apply IsS102.set_2) | exact HI0.out)); (case side2 => repeat (first | (with_reducible first | exact HB.out | apply below_alloc | apply pw_below_drewN | apply below_drew1 | refine below_set ?_ (IsS102.ge HI0.out)) | exact HB.out)); rintro e w8 ⟨rfl, hi, hb, hk⟩; refine ⟨_, rfl, ?_⟩; have n0_ := Aside0.mk (KeepBut.trans (by repeat (first | (with_reducible first | exact HK.out | apply KeepBut.set_ | apply keep_drewN | apply keep_drew | apply keep_alloc) | exact HK.out)) hk (.inl rfl)); have n1_ := Aside0.mk (hb); have n2_ := Aside0.mk (hi); clear HK; clear HB; clear HI0; have HK := n0_; have HB := n1_; have HI0 := n2_; clear n0_ n1_ n2_; (try clear hb); (try clear hb2); (try clear hk); (try clear hi)) | ((with_reducible refine gate_callee (f := 128) rfl ?_); refine goesL_ (some 15) rfl rfl Try.func128 (by kernel_rfl) rfl #[.pointer (some ⟨g, 0, none⟩)] rfl (by (try simp only [List.map_toArray, List.map_cons, List.map_nil]); first | done | rfl | (simp only [List.length_drop, List.length_take]; rfl)) ?_; (with_reducible refine (spec_l00Src_next.calls g s0_0 t104 t105 t106 t107 t108 w0 _ ?side1 ?side2 A6.out).mono ?_); (case side1 => repeat (first | (with_reducible first | exact HI0.out | apply IsS102.alloc | apply IsS102.drewN | apply IsS102.drew | apply IsS102.set_1 | apply IsS102.set_2) | exact HI0.out)); (case side2 => repeat (first | (with_reducible first | exact HB.out | apply below_alloc | apply pw_below_drewN | apply below_drew1 | refine below_set ?_ (IsS102.ge HI0.out)) | exact HB.out)); rintro e w9 ⟨rfl, hi, hb, hk⟩; refine ⟨_, rfl, ?_⟩; have n0_ := Aside0.mk (KeepBut.trans (by repeat (first | (with_reducible first | exact HK.out | apply KeepBut.set_ | apply keep_drewN | apply keep_drew | apply keep_alloc) | exact HK.out)) hk (.inl rfl)); have n1_ := Aside0.mk (hb); have n2_ := Aside0.mk (hi); clear HK; clear HB; clear HI0; have HK := n0_; have HB := n1_; have HI0 := n2_; clear n0_ n1_ n2_; (try clear hb); (try clear hb2); (try clear hk); (try clear hi)))
    go_ret
    exact ⟨by first | rfl | (simp [errW_none, errW_some] <;> rfl) | (simp [*, errW_none, errW_some] <;> rfl), by repeat (first | (with_reducible first | exact HI0.out | apply IsS102.alloc | apply IsS102.drewN | apply IsS102.drew | apply IsS102.set_1 | apply IsS102.set_2) | exact HI0.out), by repeat (first | (with_reducible first | exact HB.out | apply below_alloc | apply pw_below_drewN | apply below_drew1 | refine below_set ?_ (IsS102.ge HI0.out)) | exact HB.out), by repeat (first | (with_reducible first | exact HK.out | apply KeepBut.set_ | apply keep_drewN | apply keep_drew | apply keep_alloc) | exact HK.out)⟩
  ·rw [if_neg c5] at H
   have c5b0 : decide (200 < a1) = false := decide_eq_false c5
   clear c5
   by_cases c10 : a1 = 0
   ·rw [if_pos c10] at H
    exact absurd H (by simp)
   ·rw [if_neg c10] at H
    have c10b0 : (a1 == 0) = false := beq_eq_false_iff_ne.mpr c10
    have c10b1 : (a1 != 0) = true := bne_iff_ne.mpr c10
    simp only [Option.some.injEq, Prod.mk.injEq] at H
    obtain ⟨rfl, rfl, rfl⟩ := H
    go_enter Try.func97, Try.ntmps97
    go_wp2_with (first | ((with_reducible refine gate_callee (f := 128) rfl ?_); refine goesL_ (some 9) rfl rfl Try.func128 (by kernel_rfl) rfl #[.pointer (some ⟨g, 0, none⟩)] rfl (by (try simp only [List.map_toArray, List.map_cons, List.map_nil]); first | done | rfl | (simp only [List.length_drop, List.length_take]; rfl)) ?_; (with_reducible refine (spec_l00Src_next.calls g s0_0 s0_1 s0_2 t103 t104 t105 w0 _ ?side1 ?side2 A4.out).mono ?_); (case side1 => repeat (first | (with_reducible first | exact HI0.out | apply IsS102.alloc | apply IsS102.drewN | apply IsS102.drew | apply IsS102.set_1 | apply IsS102.set_2) | exact HI0.out)); (case side2 => repeat (first | (with_reducible first | exact HB.out | apply below_alloc | apply pw_below_drewN | apply below_drew1 | refine below_set ?_ (IsS102.ge HI0.out)) | exact HB.out)); rintro e w11 ⟨rfl, hi, hb, hk⟩; refine ⟨_, rfl, ?_⟩; have n0_ := Aside0.mk (KeepBut.trans (by repeat (first | (with_reducible first | exact HK.out | apply KeepBut.set_ | apply keep_drewN | apply keep_drew | apply keep_alloc) | exact HK.out)) hk (.inl rfl)); have n1_ := Aside0.mk (hb); have n2_ := Aside0.mk (hi); clear HK; clear HB; clear HI0; have HK := n0_; have HB := n1_; have HI0 := n2_; clear n0_ n1_ n2_; (try clear hb); (try clear hb2); (try clear hk); (try clear hi)))
    go_ret
    exact ⟨by first | rfl | (simp [errW_none, errW_some] <;> rfl) | (simp [*, errW_none, errW_some] <;> rfl), by repeat (first | (with_reducible first | exact HI0.out | apply IsS102.alloc | apply IsS102.drewN | apply IsS102.drew | apply IsS102.set_1 | apply IsS102.set_2) | exact HI0.out), by repeat (first | (with_reducible first | exact HB.out | apply below_alloc | apply pw_below_drewN | apply below_drew1 | refine below_set ?_ (IsS102.ge HI0.out)) | exact HB.out), by repeat (first | (with_reducible first | exact HK.out | apply KeepBut.set_ | apply keep_drewN | apply keep_drew | apply keep_alloc) | exact HK.out)⟩
end Go.Proofs.Ytkafbmanmffliaa.Q

namespace Go.Proofs.Ytkafbmanmffliaa.Q
open Go.RowKit YtkafbmanmffliaaW.PrintWords YtkafbmanmffliaaW.PrintLast YtkafbmanmffliaaW.PrintMore
attribute [local go_sem] max2_int min2_int max_two min_two max_three min_three max_four min_four
def spec_l00Src_one.f (s0_0 : List Int) (s0_1 : Int) (s0_2 : Int) (a1 : Int) : Option (Bool × Int × Int) := (spec_l00Src_pick.f s0_0 s0_1 s0_2 a1).bind fun bt109 => (some ((bt109.1 == 0), bt109.2.1, bt109.2.2))
set_option maxHeartbeats 8000000 in
set_option maxRecDepth 100000 in
theorem spec_l00Src_one.calls (g : Nat) (s0_0 : List Int) (s0_1 : Int) (s0_2 : Int) (a1 : Int) (r1 : Bool) (r2 : Int) (r3 : Int) (w0 w : World) (hI : IsS102 w0 w g s0_0 s0_1 s0_2) (hB : Below w0.heap.size w0 w) (h : spec_l00Src_one.f s0_0 s0_1 s0_2 a1 = some (r1, r2, r3)) :
  Calls Try.prog 96 #[.pointer (some ⟨g, 0, none⟩), .int .i64 a1] w fun e w' => e = .returned (.bool r1) ∧ IsS102 w0 w' g s0_0 r2 r3 ∧ Below w0.heap.size w0 w' ∧ KeepBut w w' g none := by
 have HI0 := Aside0.mk hI
 have HK := Aside0.mk (KeepBut.refl w g none)
 have HL := Aside0.mk hB.size
 clear hI
 have HW0 := Aside0.mk hB.size
 have HB := Aside0.mk hB
 clear hB
 have H : ((spec_l00Src_pick.f s0_0 s0_1 s0_2 a1).bind fun bt109 => (some ((bt109.1 == 0), bt109.2.1, bt109.2.2))) = some (r1, r2, r3) := h
 clear h
 replace H := Option.bind_eq_some_iff.mp H
 obtain ⟨⟨t109, t110, t111⟩, A30, H⟩ := H
 replace H : (some ((t109 == 0), t110, t111)) = some (r1, r2, r3) := H
 have A3 := Aside0.mk A30
 clear A30
 simp only [Option.some.injEq, Prod.mk.injEq] at H
 obtain ⟨rfl, rfl, rfl⟩ := H
 go_enter Try.func96, Try.ntmps96
 go_wp2_with (first | ((with_reducible refine gate_callee (f := 97) rfl ?_); refine goesL_ (some 7) rfl rfl Try.func97 (by kernel_rfl) rfl #[.pointer (some ⟨g, 0, none⟩), .int .i64 a1] rfl (by (try simp only [List.map_toArray, List.map_cons, List.map_nil]); first | done | rfl | (simp only [List.length_drop, List.length_take]; rfl)) ?_; (with_reducible refine (spec_l00Src_pick.calls g s0_0 s0_1 s0_2 a1 t109 t110 t111 w0 _ ?side1 ?side2 A3.out).mono ?_); (case side1 => repeat (first | (with_reducible first | exact HI0.out | apply IsS102.alloc | apply IsS102.drewN | apply IsS102.drew | apply IsS102.set_1 | apply IsS102.set_2) | exact HI0.out)); (case side2 => repeat (first | (with_reducible first | exact HB.out | apply below_alloc | apply pw_below_drewN | apply below_drew1 | refine below_set ?_ (IsS102.ge HI0.out)) | exact HB.out)); rintro e w4 ⟨rfl, hi, hb, hk⟩; refine ⟨_, rfl, ?_⟩; have n0_ := Aside0.mk (KeepBut.trans (by repeat (first | (with_reducible first | exact HK.out | apply KeepBut.set_ | apply keep_drewN | apply keep_drew | apply keep_alloc) | exact HK.out)) hk (.inl rfl)); have n1_ := Aside0.mk (hb); have n2_ := Aside0.mk (hi); clear HK; clear HB; clear HI0; have HK := n0_; have HB := n1_; have HI0 := n2_; clear n0_ n1_ n2_; (try clear hb); (try clear hb2); (try clear hk); (try clear hi)))
 go_ret
 exact ⟨by first | rfl | (simp [errW_none, errW_some] <;> rfl) | (simp [*, errW_none, errW_some] <;> rfl), by repeat (first | (with_reducible first | exact HI0.out | apply IsS102.alloc | apply IsS102.drewN | apply IsS102.drew | apply IsS102.set_1 | apply IsS102.set_2) | exact HI0.out), by repeat (first | (with_reducible first | exact HB.out | apply below_alloc | apply pw_below_drewN | apply below_drew1 | refine below_set ?_ (IsS102.ge HI0.out)) | exact HB.out), by repeat (first | (with_reducible first | exact HK.out | apply KeepBut.set_ | apply keep_drewN | apply keep_drew | apply keep_alloc) | exact HK.out)⟩
end Go.Proofs.Ytkafbmanmffliaa.Q

