/- Parts of the proof that the law of this seat holds: Hv, Hw, Ex, Gz, Sb, Pa, Ht, He, PuH. -/
import Derived.Test.YtkafbmanmffliaaGLph
import Derived.Test.YtkafbmanmffliaaGLpg
import Derived.Test.YtkafbmanmffliaaGLpk
import Derived.Test.YtkafbmanmffliaaGLpl
set_option linter.unusedVariables false
set_option linter.unusedSimpArgs false
/- The program's ValidSurvey and IsConnected: what they return. -/
namespace Go.Proofs.Ytkafbmanmffliaa.Hv
open Go Go.RowKit YtkafbmanmffliaaW.PrintWords YtkafbmanmffliaaW.PrintLast YtkafbmanmffliaaW.PrintMore Q Gd Hb Ha
theorem C_two (W : World) (g : Nat) (x y : Int) (h : W.heap[g]? = some (.cells #[.int .i64 x, .int .i64 y] 2 (0, 0))) : Kd.C (Kd.int .i64) W (some ⟨g, 0, none⟩) 2 [x, y] :=
 Kd.C_of_reads (d := (0 : Int)) ⟨rfl, by simp [maxLen], fun _ => ⟨⟨g, 0, none⟩, rfl, fun j hj => by
  obtain rfl | rfl : j = 0 ∨ j = 1 := by omega
  ·exact (blk_cell h 0).trans rfl
  ·exact (blk_cell h 1).trans rfl⟩⟩
abbrev BS (p : Int) (A : Option Addr) (n c : Nat) : Obj := .cells #[.int .i64 p, .slice A n c] 26
set_option maxHeartbeats 4000000 in
set_option maxRecDepth 100000 in
theorem valid_any (p : Int) (l : List S32) (A : Option Addr) (c : Nat) (w : World) (hr : Kd.C k32 w A l.length l) (hl : l.length ≤ 1048576) :
  Calls Try.prog 81 #[.agg #[.int .i64 p, .slice A l.length c]] w fun e w' => e = .returned (.bool (surveyB p l)) ∧ Below w.heap.size w w' := by
 have hu26 := Try.underlying26
 have hu32 := Try.underlying32
 have hu24 := Try.underlying24
 have hbx := below_alloc (Below.refl w.heap.size w) (BS p A l.length c)
 have HR := Aside0.mk (Kd.C_below hr hbx)
 have HX := Aside0.mk (heap_alloc_new w (BS p A l.length c))
 have HS := Aside0.mk (show surveyB p l = ((inB 2 5 p && decide ((l.length : Int) ≤ 8)) && l.all (sightB p)) from rfl)
 have t0 := Aside0.mk hbx
 clear hr hbx
 go_enter Try.func81, Try.ntmps81
 go_wp2_with (fail)
 go_loopw [8] (fun v8 wz => ∃ i : Nat, v8 = .int .i64 (i : Int) ∧ i ≤ l.length ∧ Aside0 (l.all (sightB p) = (l.drop i).all (sightB p)) ∧ Aside0 (Below w.heap.size w wz) ∧ Aside0 (Below (w.alloc (BS p A l.length c)).heap.size (w.alloc (BS p A l.length c)) wz)) (fun v _ => l.length - (intOf v).toNat)
 case atStart => exact ⟨0, rfl, by omega, ⟨rfl⟩, t0, ⟨Below.refl _ _⟩⟩
 case round =>
  clear t0
  obtain ⟨i, rfl, hi, HA, HB, HB0⟩ := hrel
  have K := Aside0.mk (blk_below HX.out HB0.out)
  have e0 : wr.cell? ⟨w.heap.size, 0, none⟩ = some (.int .i64 p) := (blk_cell K.out 0).trans rfl
  have e1 : wr.cell? ⟨w.heap.size, 1, none⟩ = some (.slice A l.length c) := (blk_cell K.out 1).trans rfl
  by_cases hlt : i < l.length
  ·have p1 : decide ((i : Int) < (l.length : Int)) = true := decide_eq_true (by omega)
   obtain ⟨ad, e, x0, x1, x2, x3⟩ := at_T32 (Kd.C_below HR.out HB0.out) (i : Int) (by omega) (by omega)
   subst e
   rw [Int.toNat_natCast] at x0 x1 x2 x3
   have hd : l.drop i = rd_T32 l i :: l.drop (i + 1) := by rw [List.drop_eq_getElem_cons hlt]; simp [rd_T32, hlt]
   have HD := Aside0.mk (show l.all (sightB p) = (sightB p (rd_T32 l i) && (l.drop (i + 1)).all (sightB p)) by rw [HA.out, hd]; rfl)
   clear hd HA
   obtain ⟨s, hs⟩ : ∃ s, s = rd_T32 l i := ⟨_, rfl⟩
   rw [← hs] at x0 x1 x2 x3 HD
   clear hs
   obtain ⟨f, t, ri, wt⟩ := s
   dsimp only at x0 x1 x2 x3
   have HQ := Aside0.mk (show sightB p ⟨f, t, ri, wt⟩ = ((((areIn [f, t] 0 (wrap64 (p - 1)) && !(f == t)) && inB (-100) 100 ri) && inB 1 3 wt)) by
    unfold sightB areIn
    simp only [List.all_cons, List.all_nil, Bool.and_true])
   have hba := below_alloc (below_alloc (Below.refl wr.heap.size wr) (.cells #[.int .i64 f, .int .i64 t, .int .i64 ri, .int .i64 wt] 32)) (.cells #[.int .i64 f, .int .i64 t] 2)
   have hna := blk_alloc (heap_alloc_new wr (.cells #[.int .i64 f, .int .i64 t, .int .i64 ri, .int .i64 wt] 32)) (.cells #[.int .i64 f, .int .i64 t] 2)
   have hnb := heap_alloc_new (wr.alloc (.cells #[.int .i64 f, .int .i64 t, .int .i64 ri, .int .i64 wt] 32)) (.cells #[.int .i64 f, .int .i64 t] 2)
   rw [World.size_alloc] at hnb
   have hcw := areWithin_any (some ⟨wr.heap.size + 1, 0, none⟩) 2 [f, t] 0 (wrap64 (p - 1)) _ (C_two _ _ f t hnb)
   have HNA := Aside0.mk hna
   have HBA := Aside0.mk hba
   have e0a : ((wr.alloc (.cells #[.int .i64 f, .int .i64 t, .int .i64 ri, .int .i64 wt] 32)).alloc (.cells #[.int .i64 f, .int .i64 t] 2)).cell? ⟨w.heap.size, 0, none⟩ = some (.int .i64 p) := (blk_cell (blk_alloc (blk_alloc K.out _) _) 0).trans rfl
   clear hna hnb hba
   have aft : ∀ {w1 : World}, Below ((wr.alloc (.cells #[.int .i64 f, .int .i64 t, .int .i64 ri, .int .i64 wt] 32)).alloc (.cells #[.int .i64 f, .int .i64 t] 2)).heap.size ((wr.alloc (.cells #[.int .i64 f, .int .i64 t, .int .i64 ri, .int .i64 wt] 32)).alloc (.cells #[.int .i64 f, .int .i64 t] 2)) w1 → (w1.heap[wr.heap.size]? = some (.cells #[.int .i64 f, .int .i64 t, .int .i64 ri, .int .i64 wt] 32 (0, 0))) ∧ Below w.heap.size w w1 ∧ Below (w.alloc (BS p (some ad) l.length c)).heap.size (w.alloc (BS p (some ad) l.length c)) w1 :=
    fun h => ⟨blk_below HNA.out h, below_step HB.out (below_step HBA.out h), below_step HB0.out (below_step HBA.out h)⟩
   have AFT := Aside0.mk @aft
   clear aft
   by_cases q1 : areIn [f, t] 0 (wrap64 (p - 1)) = true
   ·rw [q1] at hcw
    by_cases q2 : f = t
    ·have d2 : (f == t) = true := by simpa using q2
     have HF := Aside0.mk (show l.all (sightB p) = false by rw [HD.out, HQ.out, d2]; simp)
     clear q1 q2
     go_wp2_with (go_at_call 110; refine hcw.mono ?_; rintro e w1 ⟨rfl, hb⟩; obtain ⟨hk, hb1, hb2⟩ := AFT.out hb; have k0 : w1.cell? ⟨wr.heap.size, 0, none⟩ = some (.int .i64 f) := (blk_cell hk 0).trans rfl; have k1 : w1.cell? ⟨wr.heap.size, 1, none⟩ = some (.int .i64 t) := (blk_cell hk 1).trans rfl; have HB1 := Aside0.mk hb1; clear hb hb1 hb2 hk)
     go_ret
     exact ⟨ret_bool (by rw [HS.out, HF.out, Bool.and_false]), HB1.out⟩
    ·have d2 : (f == t) = false := by simpa using q2
     by_cases q3 : inB (-100) 100 ri = true
     ·by_cases q4 : inB 1 3 wt = true
      ·have HT := Aside0.mk (show l.all (sightB p) = (l.drop (i + 1)).all (sightB p) by rw [HD.out, HQ.out, q1, d2, q3, q4]; simp)
       clear q1 q2
       go_wp2_with (first
        | (go_at_call 110; refine hcw.mono ?_; rintro e w1 ⟨rfl, hb⟩; obtain ⟨hk, hb1, hb2⟩ := AFT.out hb; have k0 : w1.cell? ⟨wr.heap.size, 0, none⟩ = some (.int .i64 f) := (blk_cell hk 0).trans rfl; have k1 : w1.cell? ⟨wr.heap.size, 1, none⟩ = some (.int .i64 t) := (blk_cell hk 1).trans rfl; have k2 : w1.cell? ⟨wr.heap.size, 2, none⟩ = some (.int .i64 ri) := (blk_cell hk 2).trans rfl; have k3 : w1.cell? ⟨wr.heap.size, 3, none⟩ = some (.int .i64 wt) := (blk_cell hk 3).trans rfl; have HB1 := Aside0.mk hb1; have HB2 := Aside0.mk hb2; clear hb hb1 hb2 hk)
        | (go_at_call 82; refine (within_any _ _ _ _).mono ?_; rintro e w2 ⟨rfl, rfl⟩))
       go_roundw
       case rel => exact ⟨i + 1, by go_num, by omega, HT, HB1, HB2⟩
       case measure => simp [intOf]; omega
      ·have q4' : inB 1 3 wt = false := by simpa using q4
       have HF := Aside0.mk (show l.all (sightB p) = false by rw [HD.out, HQ.out, q4']; simp)
       clear q1 q2 q4
       go_wp2_with (first
        | (go_at_call 110; refine hcw.mono ?_; rintro e w1 ⟨rfl, hb⟩; obtain ⟨hk, hb1, hb2⟩ := AFT.out hb; have k0 : w1.cell? ⟨wr.heap.size, 0, none⟩ = some (.int .i64 f) := (blk_cell hk 0).trans rfl; have k1 : w1.cell? ⟨wr.heap.size, 1, none⟩ = some (.int .i64 t) := (blk_cell hk 1).trans rfl; have k2 : w1.cell? ⟨wr.heap.size, 2, none⟩ = some (.int .i64 ri) := (blk_cell hk 2).trans rfl; have k3 : w1.cell? ⟨wr.heap.size, 3, none⟩ = some (.int .i64 wt) := (blk_cell hk 3).trans rfl; have HB1 := Aside0.mk hb1; clear hb hb1 hb2 hk)
        | (go_at_call 82; refine (within_any _ _ _ _).mono ?_; rintro e w2 ⟨rfl, rfl⟩))
       go_ret
       exact ⟨ret_bool (by rw [HS.out, HF.out, Bool.and_false]), HB1.out⟩
     ·have q3' : inB (-100) 100 ri = false := by simpa using q3
      have HF := Aside0.mk (show l.all (sightB p) = false by rw [HD.out, HQ.out, q3']; simp)
      clear q1 q2 q3
      go_wp2_with (first
       | (go_at_call 110; refine hcw.mono ?_; rintro e w1 ⟨rfl, hb⟩; obtain ⟨hk, hb1, hb2⟩ := AFT.out hb; have k0 : w1.cell? ⟨wr.heap.size, 0, none⟩ = some (.int .i64 f) := (blk_cell hk 0).trans rfl; have k1 : w1.cell? ⟨wr.heap.size, 1, none⟩ = some (.int .i64 t) := (blk_cell hk 1).trans rfl; have k2 : w1.cell? ⟨wr.heap.size, 2, none⟩ = some (.int .i64 ri) := (blk_cell hk 2).trans rfl; have HB1 := Aside0.mk hb1; clear hb hb1 hb2 hk)
       | (go_at_call 82; refine (within_any _ _ _ _).mono ?_; rintro e w2 ⟨rfl, rfl⟩))
      go_ret
      exact ⟨ret_bool (by rw [HS.out, HF.out, Bool.and_false]), HB1.out⟩
   ·have q1' : areIn [f, t] 0 (wrap64 (p - 1)) = false := by simpa using q1
    rw [q1'] at hcw
    have HF := Aside0.mk (show l.all (sightB p) = false by rw [HD.out, HQ.out, q1']; simp)
    clear q1 q1'
    go_wp2_with (go_at_call 110; refine hcw.mono ?_; rintro e w1 ⟨rfl, hb⟩; obtain ⟨hk, hb1, hb2⟩ := AFT.out hb; have HB1 := Aside0.mk hb1; clear hb hb1 hb2 hk)
    go_ret
    exact ⟨ret_bool (by rw [HS.out, HF.out, Bool.and_false]), HB1.out⟩
  ·obtain rfl : l.length = i := by omega
   have p1 : decide ((l.length : Int) < (l.length : Int)) = false := decide_eq_false (by omega)
   have HT := Aside0.mk (show l.all (sightB p) = true by rw [HA.out]; simp)
   by_cases q1 : inB 2 5 p = true
   ·have HU := Aside0.mk (show surveyB p l = decide ((l.length : Int) ≤ 8) by rw [HS.out, HT.out, q1]; simp)
    go_wp2_with (go_at_call 82; refine (within_any _ _ _ _).mono ?_; rintro e w2 ⟨rfl, rfl⟩)
    go_ret
    exact ⟨ret_bool (by rw [HU.out]), HB.out⟩
   ·have q1' : inB 2 5 p = false := by simpa using q1
    have HU := Aside0.mk (show surveyB p l = false by rw [HS.out, q1']; simp)
    clear q1
    go_wp2_with (go_at_call 82; refine (within_any _ _ _ _).mono ?_; rintro e w2 ⟨rfl, rfl⟩)
    go_ret
    exact ⟨ret_bool (by rw [HU.out]), HB.out⟩
end Go.Proofs.Ytkafbmanmffliaa.Hv

/- The program's tree, connected, IsConnected and arePoints, walked by hand. -/
namespace Go.Proofs.Ytkafbmanmffliaa.Hw
open Go Go.RowKit YtkafbmanmffliaaW.PrintWords YtkafbmanmffliaaW.PrintLast YtkafbmanmffliaaW.PrintMore Q Gd Ge Gi Hb Ha Hc Hd Hv PuT
structure Two (w0 wz : World) (bo co bg cg : Nat) (o g : List Int) : Prop where
 ob : w0.heap.size ≤ bo
 gb : w0.heap.size ≤ bg
 oc : Cb wz 2 bo co (o.map (Value.int .i64))
 gc : Cb wz 2 bg cg (g.map (Value.int .i64))
 ne : bo ≠ bg
 be : Below w0.heap.size w0 wz
section
variable {w0 wr w1 w2 : World} {bo co bg cg g1 cap1 : Nat} {o g : List Int} {x : Int}
theorem Two.below (h : Two w0 wr bo co bg cg o g) (hb : Below wr.heap.size wr w1) : Two w0 w1 bo co bg cg o g := ⟨h.ob, h.gb, h.oc.below hb, h.gc.below hb, h.ne, below_step h.be hb⟩
theorem Two.pushO (h : Two w0 wr bo co bg cg o g) (hc : Cb w2 2 g1 cap1 (o.map (Value.int .i64) ++ [.int .i64 x])) (hat : g1 = bo ∨ wr.heap.size ≤ g1) (hg : wr.grownBy w2 (some bo)) : Two w0 w2 g1 cap1 bg cg (o ++ [x]) g := by
 have hs := h.be.size
 have hl := h.gc.lt
 have h1 := h.ob
 have h2 := h.ne
 refine ⟨?_, h.gb, by rw [List.map_append]; exact hc, h.gc.kept (hg.block bg hl (fun e => h2 (Option.some.inj e).symm)), ?_, below_grownB h.be (Nat.le_refl _) hg h.ob⟩
 ·rcases hat with e | e <;> omega
 ·rcases hat with e | e <;> omega
theorem Two.pushG (h : Two w0 wr bo co bg cg o g) (hc : Cb w2 2 g1 cap1 (g.map (Value.int .i64) ++ [.int .i64 x])) (hat : g1 = bg ∨ wr.heap.size ≤ g1) (hg : wr.grownBy w2 (some bg)) : Two w0 w2 bo co g1 cap1 o (g ++ [x]) := by
 have hs := h.be.size
 have hl := h.oc.lt
 have h1 := h.gb
 have h2 := h.ne
 refine ⟨h.ob, ?_, h.oc.kept (hg.block bo hl (fun e => h2 (Option.some.inj e))), by rw [List.map_append]; exact hc, ?_, below_grownB h.be (Nat.le_refl _) hg h.gb⟩
 ·rcases hat with e | e <;> omega
 ·rcases hat with e | e <;> omega
theorem Two.setG (h : Two w0 wr bo co bg cg o g) (i : Nat) (x : Int) : Two w0 (wr.setCell ⟨bg, i, none⟩ (.int .i64 x)) bo co bg cg o (g.set i x) := by
 obtain ⟨h1, h2⟩ := h.gc.put i (.int .i64 x) (Pv.i64 x)
 refine ⟨h.ob, h.gb, h.oc.kept (h2.block bo h.oc.lt (fun e => h.ne (Option.some.inj e))), ?_, h.ne, h.be.setCell (p := ⟨bg, i, none⟩) h.gb _⟩
 rw [List.map_set]
 exact h1
theorem Two.cell (h : Two w0 wr bo co bg cg o g) (i : Nat) (hi : i < g.length) : wr.cell? ⟨bg, i, none⟩ = some (.int .i64 (rd g i)) ∧ wr.frozen? ⟨bg, i, none⟩ = false :=
 h.gc.at_ i _ (by rw [List.getElem?_map, List.getElem?_eq_getElem hi]; simp [rd, List.getD_eq_getElem?_getD, hi])
end
theorem nums (i : Nat) : (List.range (i + 1)).map (fun k : Nat => (k : Int)) = (List.range i).map (fun k : Nat => (k : Int)) ++ [(i : Int)] := by simp [List.range_succ]
set_option maxHeartbeats 8000000 in
set_option maxRecDepth 100000 in
theorem tree_any (n : Nat) (l : List S32) (hv : surveyB n l = true) (A : Option Addr) (c : Nat) (w : World) (hr : Kd.C k32 w A l.length l) :
  Calls Try.prog 75 #[.agg #[.int .i64 (n : Int), .slice A l.length c]] w fun e w' => ∃ (bo co : Nat) (v : Value), e = .returned (.tuple #[.slice (some ⟨bo, 0, none⟩) (treeG n l).out.length co, v]) ∧ Below w.heap.size w w' := by
 have hu26 := Try.underlying26
 have hu32 := Try.underlying32
 have hp5 := valid_pts hv
 have hbx := below_alloc (Below.refl w.heap.size w) (BS n A l.length c)
 have HR := Aside0.mk (Kd.C_below hr hbx)
 have HX := Aside0.mk (heap_alloc_new w (BS n A l.length c))
 have HV := Aside0.mk hv
 have HB0 := Aside0.mk hbx
 clear hr hbx hv
 go_enter Try.func75, Try.ntmps75
 have hbk := blk_alloc (blk_alloc HX.out (.cells #[] 2)) (.cells #[] 2)
 have e0 : (((w.alloc (BS n A l.length c)).alloc (.cells #[] 2)).alloc (.cells #[] 2)).cell? ⟨w.heap.size, 0, none⟩ = some (.int .i64 (n : Int)) := (blk_cell hbk 0).trans rfl
 go_wp2_with (fail)
 clear hbk e0
 obtain ⟨W0, hW0⟩ : ∃ W0, W0 = w.alloc (BS n A l.length c) := ⟨_, rfl⟩
 have hs0 : W0.heap.size = w.heap.size + 1 := by rw [hW0]; simp
 rw [← hW0] at HR HX HB0
 rw [← hW0]
 have t0 := Aside0.mk (show Two W0 ((W0.alloc (.cells #[] 2)).alloc (.cells #[] 2)) (w.heap.size + 1) 0 (w.heap.size + 1 + 1) 0 [] ((List.range 0).map (fun k : Nat => (k : Int))) from
  ⟨by omega, by omega, by rw [← hs0]; exact (Cb.nil_new W0 2).below (below_alloc (Below.refl _ _) _), by have h := Cb.nil_new (W0.alloc (.cells #[] 2)) 2; rw [World.size_alloc, hs0] at h; exact h, by omega, below_alloc (below_alloc (Below.refl _ _) _) _⟩)
 clear hW0 hs0
 go_loopw [5, 16] (fun v5 v16 wz => ∃ (i bo co bg cg : Nat), v5 = .slice (some ⟨bg, 0, none⟩) i cg ∧ v16 = .int .i64 (i : Int) ∧ i ≤ n ∧ bo = w.heap.size + 1 ∧ co = 0 ∧ Aside0 (Two W0 wz bo co bg cg [] ((List.range i).map (fun k : Nat => (k : Int))))) (fun _ v _ => n - (intOf v).toNat)
 case atStart => exact ⟨0, _, _, _, 0, rfl, rfl, by omega, rfl, rfl, t0⟩
 case round =>
  clear t0
  obtain ⟨i, bo, co, bg, cg, rfl, rfl, hi, hbo, hco, HT⟩ := hrel
  by_cases hlt : i < n
  ·have p1 : decide ((i : Int) < (n : Int)) = true := decide_eq_true (by omega)
   have hlen : ((List.range i).map (fun k : Nat => (k : Int))).length = i := by simp
   go_wp2_with ((with_reducible refine gate_builtin (b := .append) (xs := #[.tmp 19, .tmp 21]) rfl ?_); at_builtin; refine Cb.append rfl (.tmp 19) (.tmp 21) 28 2 (.int .i64 0) 8 rfl Try.underlying28 info2 rfl (Pv.i64 _) (by decide) bg cg i _ (.int .i64 (i : Int)) (by rw [List.length_map, hlen]) rfl rfl rfl (Pv.i64 _) HT.out.gc (by rw [List.length_map, hlen]; omega) ?_; intro g1 cap1 w2 h1 h2 h3; have HN := Aside0.mk (HT.out.pushG h1 h2 h3); clear h1 h2 h3)
   rw [← nums] at HN
   go_roundw
   case rel => exact ⟨i + 1, bo, co, g1, cap1, by go_num, by go_num, by omega, hbo, hco, HN⟩
   case measure => simp [intOf]; omega
  ·obtain rfl : n = i := by omega
   have p1 : decide ((n : Int) < (n : Int)) = false := decide_eq_false (by omega)
   have t1 := Aside0.mk (show Two W0 wr bo co bg cg (atG n l 0).out (atG n l 0).grp from HT.out)
   have hcy : wr.cell? ⟨w.heap.size, 1, none⟩ = some (.slice A l.length c) := (blk_cell (blk_below HX.out HT.out.be) 1).trans rfl
   subst hbo hco
   clear HT
   go_wp2_with (fail)
   clear hcy
   go_loopw [4, 27] (fun v4 v27 wz => ∃ (i bo co : Nat), v4 = .slice (some ⟨bo, 0, none⟩) (atG n l i).out.length co ∧ v27 = .int .i64 (i : Int) ∧ i ≤ l.length ∧ Aside0 (Two W0 wz bo co bg cg (atG n l i).out (atG n l i).grp)) (fun _ v _ => l.length - (intOf v).toNat)
   case atStart => exact ⟨0, _, _, rfl, rfl, by omega, t1⟩
   case round =>
    clear t1
    obtain ⟨i, bo, co, rfl, rfl, hi, HT⟩ := hrel
    by_cases hlt2 : i < l.length
    ·have p2 : decide ((i : Int) < (l.length : Int)) = true := decide_eq_true (by omega)
     obtain ⟨ad, e, x0, x1, x2, x3⟩ := at_T32 (Kd.C_below HR.out HT.out.be) (i : Int) (by omega) (by omega)
     subst e
     rw [Int.toNat_natCast] at x0 x1 x2 x3
     have hva := valid_at HV.out i hlt2
     have HSU := Aside0.mk (atG_succ n l i hlt2)
     have hgl := atG_len n l i
     have hol := atG_out n l i
     rw [Int.toNat_natCast] at hgl
     obtain ⟨s, hs⟩ : ∃ s, s = rd_T32 l i := ⟨_, rfl⟩
     rw [← hs] at x0 x1 x2 x3 hva HSU
     clear hs
     obtain ⟨f, t, ri, wt⟩ := s
     dsimp only at x0 x1 x2 x3 hva
     obtain ⟨y0, y1, y2, y3⟩ := hva
     obtain ⟨f, rfl⟩ : ∃ q : Nat, f = q := ⟨f.toNat, by omega⟩
     obtain ⟨t, rfl⟩ : ∃ q : Nat, t = q := ⟨t.toNat, by omega⟩
     obtain ⟨G, hG⟩ : ∃ G, G = (atG n l i).grp := ⟨_, rfl⟩
     obtain ⟨O, hO⟩ : ∃ O, O = (atG n l i).out := ⟨_, rfl⟩
     rw [← hG] at hgl HT
     rw [← hO] at hol HT
     have HST := Aside0.mk (show atG n l (i + 1) = if rd G (f : Int) = rd G (t : Int) then ⟨O, G⟩ else ⟨O ++ [(i : Int)], G.map fun v => if v = rd G (t : Int) then rd G (f : Int) else v⟩ by rw [HSU.out, hG, hO]; rfl)
     have hba := below_alloc (Below.refl wr.heap.size wr) (.cells #[.int .i64 (f : Int), .int .i64 (t : Int), .int .i64 ri, .int .i64 wt] 32)
     have hna := heap_alloc_new wr (.cells #[.int .i64 (f : Int), .int .i64 (t : Int), .int .i64 ri, .int .i64 wt] 32)
     have HT1 := Aside0.mk (HT.out.below hba)
     have z0 := (HT1.out.cell f (by omega)).1
     have z1 := (HT1.out.cell t (by omega)).1
     obtain ⟨va, hva⟩ : ∃ va, va = rd G (f : Int) := ⟨_, rfl⟩
     obtain ⟨vb, hvb⟩ : ∃ vb, vb = rd G (t : Int) := ⟨_, rfl⟩
     rw [← hva] at z0 HST
     rw [← hvb] at z1 HST
     have i1 : (0 ≤ (f : Int)) = True := eq_true (by omega)
     have i2 : ((f : Int) < (n : Int)) = True := eq_true (by omega)
     have i3 : (0 ≤ (t : Int)) = True := eq_true (by omega)
     have i4 : ((t : Int) < (n : Int)) = True := eq_true (by omega)
     clear hva hvb HSU HT hna
     rw [← hO]
     by_cases hab : va = vb
     ·have d1 : (va == vb) = true := by simpa using hab
      have HS2 := Aside0.mk (show (atG n l (i + 1)).out = O ∧ (atG n l (i + 1)).grp = G by rw [HST.out, if_pos hab]; exact ⟨rfl, rfl⟩)
      clear hab
      go_wp2_with (fail)
      go_quiet (fail)
      go_wp2_with (fail)
      have HT2 := Aside0.mk (HT1.out.below (pw_below_drewN (Below.refl _ _) nq))
      go_roundw
      case rel => exact ⟨i + 1, bo, co, by rw [HS2.out.1], by go_num, by omega, ⟨by rw [HS2.out.1, HS2.out.2]; exact HT2.out⟩⟩
      case measure => simp [intOf]; omega
     ·have d1 : (va == vb) = false := by simpa using hab
      have HS2 := Aside0.mk (show (atG n l (i + 1)).out = O ++ [(i : Int)] ∧ (atG n l (i + 1)).grp = G.map fun v => if v = vb then va else v by rw [HST.out, if_neg hab]; exact ⟨rfl, rfl⟩)
      clear hab
      go_wp2_with (fail)
      go_quiet (fail)
      have HT2 := Aside0.mk (HT1.out.below (pw_below_drewN (Below.refl _ _) nq))
      obtain ⟨wb, hwb⟩ : ∃ wb, wb = (wr.alloc (.cells #[.int .i64 (f : Int), .int .i64 (t : Int), .int .i64 ri, .int .i64 wt] 32)).drewN nq := ⟨_, rfl⟩
      rw [← hwb] at HT2
      rw [← hwb]
      clear hwb
      go_wp2_with ((with_reducible refine gate_builtin (b := .append) (xs := #[.tmp 45, .tmp 47]) rfl ?_); at_builtin; refine Cb.append rfl (.tmp 45) (.tmp 47) 28 2 (.int .i64 0) 8 rfl Try.underlying28 info2 rfl (Pv.i64 _) (by decide) bo co O.length _ (.int .i64 (i : Int)) (by rw [List.length_map]) rfl rfl rfl (Pv.i64 _) HT2.out.oc (by rw [List.length_map]; omega) ?_; intro g1 cap1 w2 h1 h2 h3; have HT3 := Aside0.mk (HT2.out.pushO h1 h2 h3); clear h1 h2 h3)
      obtain ⟨G2, hG2⟩ : ∃ G2, G2 = G.map fun v => if v = vb then va else v := ⟨_, rfl⟩
      have hl2 : G2.length = G.length := by rw [hG2]; simp
      have HNX := Aside0.mk (show ∀ (j : Nat) (h : j < G.length), G2[j]'(by rw [hl2]; exact h) = if rd G j = vb then va else rd G j from fun j h => by
       simp only [hG2, List.getElem_map]
       rw [show rd G (j : Int) = G[j] by simp [rd, List.getD_eq_getElem?_getD, h]])
      have t2 := Aside0.mk (show Two W0 w2 g1 cap1 bg cg (O ++ [(i : Int)]) (Hc.upd G2 G 0) by rw [upd_zero]; exact HT3.out)
      have HG2 := Aside0.mk hG2
      clear hG2 HT1 HT2 HT3
      go_loopw [51] (fun v51 wz => ∃ j : Nat, v51 = .int .i64 (j : Int) ∧ j ≤ n ∧ Aside0 (Two W0 wz g1 cap1 bg cg (O ++ [(i : Int)]) (Hc.upd G2 G j))) (fun v _ => n - (intOf v).toNat)
      case atStart => exact ⟨0, rfl, by omega, t2⟩
      case round =>
       clear t2
       obtain ⟨j, rfl, hj, HT⟩ := hrel
       by_cases hjt : j < n
       ·have p3 : decide ((j : Int) < (n : Int)) = true := decide_eq_true (by omega)
        have hul := upd_len hl2 (k := j) (by omega)
        obtain ⟨z2, z3⟩ := HT.out.cell j (by omega)
        rw [rd_upd hl2 (by omega)] at z2
        have hnx := HNX.out j (by omega)
        have i5 : (0 ≤ (j : Int)) = True := eq_true (by omega)
        have i6 : ((j : Int) < (n : Int)) = True := eq_true (by omega)
        obtain ⟨vj, hvj⟩ : ∃ vj, vj = rd G (j : Int) := ⟨_, rfl⟩
        rw [← hvj] at z2 hnx
        by_cases hh : vj = vb
        ·have d2 : (vj == vb) = true := by simpa using hh
         rw [if_pos hh] at hnx
         have hst := HT.out.setG j va
         rw [← hnx, upd_set hl2 (by omega), hnx] at hst
         have HN := Aside0.mk hst
         clear hh hst hnx hvj hul
         go_wp2_with (fail)
         go_roundw
         case rel => exact ⟨j + 1, by go_num, by omega, HN⟩
         case measure => simp [intOf]; omega
        ·have d2 : (vj == vb) = false := by simpa using hh
         rw [if_neg hh, hvj, show rd G (j : Int) = G[j]'(by omega) by simp [rd, List.getD_eq_getElem?_getD, show j < G.length by omega]] at hnx
         have HN := Aside0.mk (show Two W0 wr g1 cap1 bg cg (O ++ [(i : Int)]) (Hc.upd G2 G (j + 1)) by rw [upd_same hl2 (by omega) hnx]; exact HT.out)
         clear hh hnx hvj hul z3
         go_wp2_with (fail)
         go_roundw
         case rel => exact ⟨j + 1, by go_num, by omega, HN⟩
         case measure => simp [intOf]; omega
       ·obtain rfl : n = j := by omega
        have p3 : decide ((n : Int) < (n : Int)) = false := decide_eq_false (by omega)
        have hall := HT.out
        rw [← hgl, upd_all hl2, HG2.out] at hall
        have HN := Aside0.mk hall
        clear hall
        go_wp2_with (fail)
        go_roundw
        case rel => exact ⟨i + 1, g1, cap1, by rw [HS2.out.1]; simp [hO], by go_num, by omega, ⟨by rw [HS2.out.1, HS2.out.2]; exact HN.out⟩⟩
        case measure => simp [intOf]; omega
    ·obtain rfl : l.length = i := by omega
     have p2 : decide ((l.length : Int) < (l.length : Int)) = false := decide_eq_false (by omega)
     go_wp2_with (fail)
     go_ret2
     exact ⟨bo, co, _, rfl, HB0.out.trans (HT.out.be.mono HB0.out.size)⟩
set_option maxHeartbeats 4000000 in
theorem connected_any (n : Nat) (l : List S32) (hv : surveyB n l = true) (A : Option Addr) (c : Nat) (w : World) (hr : Kd.C k32 w A l.length l) :
  Calls Try.prog 80 #[.agg #[.int .i64 (n : Int), .slice A l.length c]] w fun e w' => e = .returned (.bool (Gm.connB n l)) ∧ Below w.heap.size w w' := by
 have hu26 := Try.underlying26
 have hp5 := valid_pts hv
 have hbx := below_alloc (Below.refl w.heap.size w) (BS n A l.length c)
 have HX := Aside0.mk (heap_alloc_new w (BS n A l.length c))
 have hct := tree_any n l hv A c (w.alloc (BS n A l.length c)) (Kd.C_below hr hbx)
 have HB0 := Aside0.mk hbx
 have hw : wrap64 ((n : Int) - 1) = (n : Int) - 1 := by unfold wrap64; omega
 have HQ := Aside0.mk (show ((((treeG n l).out.length : Nat) : Int) == (n : Int) - 1) = Gm.connB n l by
  have h := conn_eq hv
  rw [Bool.eq_iff_iff, beq_iff_eq, ← h]
  unfold Gm.connB
  rw [hv, Bool.true_and])
 clear hr hbx hv
 go_enter Try.func80, Try.ntmps80
 go_wp2_with (fail)
 refine hct.mono ?_
 rintro e w1 ⟨bo, co, v, rfl, hb⟩
 have e0 : w1.cell? ⟨w.heap.size, 0, none⟩ = some (.int .i64 (n : Int)) := (blk_cell (blk_below HX.out hb) 0).trans rfl
 have HB1 := Aside0.mk (below_step HB0.out hb)
 clear hct hb
 go_wp2_with (fail)
 go_ret
 exact ⟨ret_bool HQ.out, HB1.out⟩
set_option maxHeartbeats 4000000 in
theorem isConn_any (p : Int) (l : List S32) (A : Option Addr) (c : Nat) (w : World) (hr : Kd.C k32 w A l.length l) (hl : l.length ≤ 1048576) :
  Calls Try.prog 40 #[.agg #[.int .i64 p, .slice A l.length c]] w fun e w' => e = .returned (.bool (Gm.connB p l)) ∧ Below w.heap.size w w' := by
 have hu26 := Try.underlying26
 have hbx := below_alloc (Below.refl w.heap.size w) (BS p A l.length c)
 have HX := Aside0.mk (heap_alloc_new w (BS p A l.length c))
 have HR := Aside0.mk (Kd.C_below hr hbx)
 have hcv := valid_any p l A c (w.alloc (BS p A l.length c)) HR.out hl
 have HB0 := Aside0.mk hbx
 clear hr hbx
 by_cases hv : surveyB p l = true
 ·obtain ⟨n, rfl⟩ := nat_pts hv
  have hcc := fun (W : World) (h : Kd.C k32 W A l.length l) => connected_any n l hv A c W h
  rw [hv] at hcv
  clear hv
  go_enter Try.func40, Try.ntmps40
  go_wp2_with (fail)
  refine hcv.mono ?_
  rintro e w1 ⟨rfl, hb⟩
  have hz := hcc w1 (Kd.C_below HR.out hb)
  have e0 : w1.cell? ⟨w.heap.size, 0, none⟩ = some (.int .i64 (n : Int)) := (blk_cell (blk_below HX.out hb) 0).trans rfl
  have e1 : w1.cell? ⟨w.heap.size, 1, none⟩ = some (.slice A l.length c) := (blk_cell (blk_below HX.out hb) 1).trans rfl
  have HB1 := Aside0.mk (below_step HB0.out hb)
  clear hcv hcc hb
  go_wp2_with (fail)
  refine hz.mono ?_
  rintro e w2 ⟨rfl, hb⟩
  have HB2 := Aside0.mk (below_step HB1.out hb)
  clear hz hb e0 e1
  go_wp2_with (fail)
  go_ret
  exact ⟨rfl, HB2.out⟩
 ·have hv' : surveyB p l = false := by simpa using hv
  have HF := Aside0.mk (show false = Gm.connB p l by unfold Gm.connB; rw [hv', Bool.false_and])
  rw [hv'] at hcv
  clear hv hv'
  go_enter Try.func40, Try.ntmps40
  go_wp2_with (fail)
  refine hcv.mono ?_
  rintro e w1 ⟨rfl, hb⟩
  have HB1 := Aside0.mk (below_step HB0.out hb)
  clear hcv hb
  go_wp2_with (fail)
  go_ret
  exact ⟨ret_bool HF.out, HB1.out⟩
def ptsB (p : Int) (l : List S32) (a b : Int) : Bool := Gm.connB p l && (inB 0 (p - 1) a && inB 0 (p - 1) b)
end Go.Proofs.Ytkafbmanmffliaa.Hw

/- The program's AdjustSurvey, ResidualsOf, RedundanciesOf, CofactorOf, RiseBetween: what they return. -/
namespace Go.Proofs.Ytkafbmanmffliaa.Ex
open Go Go.RowKit YtkafbmanmffliaaW.PrintWords YtkafbmanmffliaaW.PrintLast YtkafbmanmffliaaW.PrintMore Q Bg Dd Bi Ra Gd Ge Hb Ha Hc Gs Gn Kc Ke Kf Gt Gu Gv Lo Lo2
theorem conn_any (p : Int) (l : List S32) (A : Option Addr) (c : Nat) (w : World) (hr : Kd.C k32 w A l.length l) (hc : l.length ≤ c) (hl : l.length ≤ 1048576) :
  Calls Try.prog 40 #[.agg #[.int .i64 p, .slice A l.length c]] w fun e w' => e = .returned (.bool (Gm.connB p l)) ∧ Below w.heap.size w w' :=
 Hw.isConn_any p l A c w hr hl
def ptsB (p : Int) (l : List S32) (a b : Int) : Bool := Gm.connB p l && (inB 0 (p - 1) a && inB 0 (p - 1) b)
theorem conn_nat {p : Int} {l : List S32} (h : Gm.connB p l = true) : ∃ n : Nat, p = (n : Int) + 1 := by
 have hv := h
 unfold Gm.connB surveyB inB at hv
 simp only [Bool.and_eq_true, decide_eq_true_eq] at hv
 exact ⟨p.toNat - 1, by omega⟩
def dn (n : Nat) (l : List S32) : Nat := (den l n).toNat
theorem dn_pos {n : Nat} {l : List S32} (hc : Gm.connB ((n : Int) + 1) l = true) : 0 < dn n l ∧ dn n l ≤ 1073741824 ∧ ((dn n l : Nat) : Int) = den l n := by
 have h := ok_rgt hc
 have hd := h.pos n (Nat.le_refl _)
 rw [h.last] at hd
 have hn := conn_n hc
 have hd2 : den l n ≤ 1073741824 := by
  rw [← h.last]
  obtain ⟨m, rfl⟩ : ∃ m, n = m + 1 := ⟨n - 1, by omega⟩
  rw [LL_succ _ m (by omega)]
  exact (h.size m m m (by omega) (by omega) (by omega)).2
 unfold dn
 omega
theorem nu_size {n : Nat} {l : List S32} {right : List Int} (h : Ok n l right) (p : Int) (hp : p ≤ n) : -1073741824 ≤ nu l right n p ∧ nu l right n p ≤ 1073741824 := by
 unfold nu
 split
 ·omega
 ·exact h.size n (p.toNat - 1) n (Nat.le_refl _) (by omega) (Nat.le_refl _)
theorem mkq {a : Int} {d : Nat} : mkRat a d = (a : Rat) / ((d : Int) : Rat) := by rw [Rat.mkRat_eq_div, Rat.intCast_natCast]
theorem xs_mk {n : Nat} {l : List S32} (hc : Gm.connB ((n : Int) + 1) l = true) (right : List Int) (p : Int) : xs l right n p = mkRat (nu l right n p) (dn n l) := by
 rw [mkq, (dn_pos hc).2.2]
 rfl
def resN (n : Nat) (l : List S32) (s : S32) : Int := s.f2 * den l n - nu l (rgt n l) n s.f1 + nu l (rgt n l) n s.f0
def cofN (n : Nat) (l : List S32) (a b : Int) : Int := nu l (rco n a b) n b - nu l (rco n a b) n a
def redN (n : Nat) (l : List S32) (s : S32) : Int := den l n - s.f3 * cofN n l s.f0 s.f1
theorem den_rat {n : Nat} {l : List S32} (hc : Gm.connB ((n : Int) + 1) l = true) : (((dn n l : Nat) : Int) : Rat) = (den l n : Rat) ∧ (den l n : Rat) ≠ 0 := ⟨by rw [(dn_pos hc).2.2], den_ne (ok_rgt hc)⟩
theorem res_mk {n : Nat} {l : List S32} (hc : Gm.connB ((n : Int) + 1) l = true) (s : S32) : res n l s = mkRat (resN n l s) (dn n l) := by
 obtain ⟨h1, h2⟩ := den_rat hc
 rw [mkq, h1]
 unfold res dif hts xs resN
 push_cast
 grind
theorem resN_size {n : Nat} {l : List S32} (hc : Gm.connB ((n : Int) + 1) l = true) (s : S32) (hs : s ∈ l) : (resN n l s).natAbs < 1099511627776 := by
 have hv := mem_at (conn_v hc) s hs
 have h1 := nu_size (ok_rgt hc) s.f1 (by omega)
 have h2 := nu_size (ok_rgt hc) s.f0 (by omega)
 have h3 := dn_pos hc
 have h4 := mulb (X := 100) (Y := 1073741824) (a := s.f2) (b := den l n) (by decide) (by decide) (by unfold Bd; omega) (by unfold Bd; omega)
 unfold Bd at h4
 unfold resN
 omega
theorem sm_mk {a : Int} {d : Nat} {k : Nat} (hd : 0 < d) (h1 : a.natAbs < 2 ^ k) (h2 : d < 2 ^ k) : Sm k (mkRat a d) := by
 have := Sm.divInt (a := a) (b := (d : Int)) (by omega) h1 (by rw [Int.natAbs_natCast]; exact h2)
 rwa [Rat.divInt_ofNat] at this
theorem list_low (b cap : Nat) (us : List Value) (F : Nat → Rat) (w : World) (S : List Int) (D : Nat) (hC : Cb w 74 b cap us) (hF : RowF w us S.length F) (hl : S.length ≤ 8) (hD0 : 0 < D) (hD : D ≤ 1073741824) (hS : ∀ s, s ∈ S → s.natAbs < 1099511627776) (hFS : ∀ k (h : k < S.length), F k = mkRat S[k] D) :
  Calls Try.prog 59 #[.slice (some ⟨b, 0, none⟩) S.length cap] w fun e w' => ∃ v : Value, e = .returned (.tuple #[.int .i64 ((D / gcdAll D S : Nat) : Int), v]) ∧ T w.heap.size w' v (lowL D S) ∧ Below w.heap.size w w' := by
 have e62 : (2 : Nat) ^ 62 = 4611686018427387904 := by decide
 have e63 : (2 : Nat) ^ 63 = 9223372036854775808 := by decide
 have h := Gw.list_any b cap S.length us F D w hC hF hl hD0 (by omega) (den_low hD0 hFS) (fun k hk => by
  rw [hFS k hk]
  exact sm_mk hD0 (by have := hS _ (List.getElem_mem hk); omega) (by omega)) (fun k hk => by
  have h1 := num_low hD0 hFS k hk
  have h2 := hS _ (List.getElem_mem hk)
  omega)
 rw [numL_low hD0 hFS, lc_low hD0 hFS] at h
 exact h
theorem rd_mem {l : List S32} {k : Nat} (hk : k < l.length) : rd_T32 l (k : Int) = l[k] := by simp only [rd_T32, Int.toNat_natCast]; rw [List.getD_eq_getElem?_getD, List.getElem?_eq_getElem hk]; rfl
def wp (p : Int) : Nat := p.toNat - 1
theorem wp_eq (n : Nat) : wp ((n : Int) + 1) = n := by unfold wp; omega
def adjL (p : Int) (l : List S32) : List Int := if Gm.connB p l = true then lowL (dn (wp p) l) (nuL l (rgt (wp p) l) (wp p)) else []
def adjD (p : Int) (l : List S32) : Int := if Gm.connB p l = true then ((dn (wp p) l / gcdAll (dn (wp p) l) (nuL l (rgt (wp p) l) (wp p)) : Nat) : Int) else 0
def resL (p : Int) (l : List S32) : List Int := if Gm.connB p l = true then lowL (dn (wp p) l) (l.map (resN (wp p) l)) else []
def resD (p : Int) (l : List S32) : Int := if Gm.connB p l = true then ((dn (wp p) l / gcdAll (dn (wp p) l) (l.map (resN (wp p) l)) : Nat) : Int) else 0
def redL (p : Int) (l : List S32) : List Int := if Gm.connB p l = true then lowL (dn (wp p) l) (l.map (redN (wp p) l)) else []
def redD (p : Int) (l : List S32) : Int := if Gm.connB p l = true then ((dn (wp p) l / gcdAll (dn (wp p) l) (l.map (redN (wp p) l)) : Nat) : Int) else 0
def Post3 (w : World) (d : Int) (xs : List Int) (ok : Bool) (e : Ending) (w' : World) : Prop := ∃ v : Value, e = .returned (.tuple #[.int .i64 d, v, .bool ok]) ∧ T w.heap.size w' v xs ∧ Below w.heap.size w w'
set_option maxHeartbeats 4000000 in
set_option maxRecDepth 100000 in
theorem adjust_any (p : Int) (l : List S32) (A : Option Addr) (c : Nat) (w : World) (hr : Kd.C k32 w A l.length l) (hcl : l.length ≤ c) (hl : l.length ≤ 1048576) :
  Calls Try.prog 19 #[.agg #[.int .i64 p, .slice A l.length c]] w (Post3 w (adjD p l) (adjL p l) (Gm.connB p l)) := by
 have hu26 := Try.underlying26
 have hbx := below_alloc (Below.refl w.heap.size w) (SX p A l.length c)
 have HR := Aside0.mk (Kd.C_below hr hbx)
 have HX := Aside0.mk (heap_alloc_new w (SX p A l.length c))
 have hc0 := conn_any p l A c (w.alloc (SX p A l.length c)) HR.out hcl hl
 have HCL := Aside0.mk hcl
 have HB := Aside0.mk hbx
 clear hr hcl hl hbx
 by_cases h : Gm.connB p l = true
 ·obtain ⟨n, rfl⟩ := conn_nat h
  have HC := Aside0.mk h
  have HAD := Aside0.mk (show adjD ((n : Int) + 1) l = ((dn n l / gcdAll (dn n l) (nuL l (rgt n l) n) : Nat) : Int) by unfold adjD; rw [if_pos h, wp_eq])
  have HAL := Aside0.mk (show adjL ((n : Int) + 1) l = lowL (dn n l) (nuL l (rgt n l) n) by unfold adjL; rw [if_pos h, wp_eq])
  rw [h] at hc0
  rw [h]
  clear h
  go_enter Try.func19, Try.ntmps19
  go_wp2_with (fail)
  refine hc0.mono ?_
  rintro e w1 ⟨rfl, hb1⟩
  have HB1 := Aside0.mk (below_step HB.out hb1)
  have hbk := blk_below HX.out hb1
  have c0 : w1.cell? ⟨w.heap.size, 0, none⟩ = some (.int .i64 ((n : Int) + 1)) := (blk_cell hbk 0).trans rfl
  have c1 : w1.cell? ⟨w.heap.size, 1, none⟩ = some (.slice A l.length c) := (blk_cell hbk 1).trans rfl
  have hc1 := adjusted_any n l HC.out A c w1 (Kd.C_below HR.out hb1) HCL.out
  clear hb1 hc0 hbk
  go_wp2_with (fail)
  refine hc1.mono ?_
  rintro e w2 ⟨bH, capH, usH, rfl, hH⟩
  have hlen := nuL_len l (rgt n l) n
  have hc2 := list_low bH capH usH (fun k => hts n l k) w2 (nuL l (rgt n l) n) (dn n l) hH.2.1 (by rw [hlen]; exact hH.2.2.1) (by have := conn_n HC.out; omega) (dn_pos HC.out).1 (dn_pos HC.out).2.1 (fun s hs => by
   obtain ⟨k, hk, rfl⟩ := List.mem_map.1 hs
   have := nu_size (ok_rgt HC.out) (k : Int) (by have := List.mem_range.1 hk; omega)
   omega) (fun k hk => by
   show xs l (rgt n l) n (k : Int) = _
   rw [xs_mk HC.out]
   simp [nuL])
  rw [hlen] at hc2
  have HB2 := Aside0.mk (below_step HB1.out hH.2.2.2)
  clear hc1 hH hlen c0 c1
  go_wp2_with (fail)
  refine hc2.mono ?_
  rintro e w3 ⟨v, rfl, t3, hb3⟩
  have HT3 := Aside0.mk t3
  have HB3 := Aside0.mk (below_step HB2.out hb3)
  clear hc2 t3 hb3
  go_wp2_with (fail)
  go_ret3
  rw [HAD.out, HAL.out]
  exact ⟨v, rfl, Kd.R_lower HT3.out HB2.out.size, HB3.out⟩
 ·have h' : Gm.connB p l = false := by simpa using h
  have HAD := Aside0.mk (show adjD p l = 0 by unfold adjD; rw [if_neg h])
  have HAL := Aside0.mk (show adjL p l = [] by unfold adjL; rw [if_neg h])
  rw [h'] at hc0
  rw [h']
  clear h h'
  go_enter Try.func19, Try.ntmps19
  go_wp2_with (fail)
  refine hc0.mono ?_
  rintro e w1 ⟨rfl, hb1⟩
  have HB1 := Aside0.mk (below_step HB.out hb1)
  clear hb1 hc0
  go_wp2_with (fail)
  go_ret3
  rw [HAD.out, HAL.out]
  exact ⟨_, rfl, T.nil, HB1.out⟩
set_option maxHeartbeats 4000000 in
set_option maxRecDepth 100000 in
theorem resid_any (p : Int) (l : List S32) (A : Option Addr) (c : Nat) (w : World) (hr : Kd.C k32 w A l.length l) (hcl : l.length ≤ c) (hl : l.length ≤ 1048576) :
  Calls Try.prog 20 #[.agg #[.int .i64 p, .slice A l.length c]] w (Post3 w (resD p l) (resL p l) (Gm.connB p l)) := by
 have hu26 := Try.underlying26
 have hbx := below_alloc (Below.refl w.heap.size w) (SX p A l.length c)
 have HR := Aside0.mk (Kd.C_below hr hbx)
 have HX := Aside0.mk (heap_alloc_new w (SX p A l.length c))
 have hc0 := conn_any p l A c (w.alloc (SX p A l.length c)) HR.out hcl hl
 have HCL := Aside0.mk hcl
 have HB := Aside0.mk hbx
 clear hr hcl hl hbx
 by_cases h : Gm.connB p l = true
 ·obtain ⟨n, rfl⟩ := conn_nat h
  have HC := Aside0.mk h
  have HAD := Aside0.mk (show resD ((n : Int) + 1) l = ((dn n l / gcdAll (dn n l) (l.map (resN n l)) : Nat) : Int) by unfold resD; rw [if_pos h, wp_eq])
  have HAL := Aside0.mk (show resL ((n : Int) + 1) l = lowL (dn n l) (l.map (resN n l)) by unfold resL; rw [if_pos h, wp_eq])
  rw [h] at hc0
  rw [h]
  clear h
  go_enter Try.func20, Try.ntmps20
  go_wp2_with (fail)
  refine hc0.mono ?_
  rintro e w1 ⟨rfl, hb1⟩
  have HB1 := Aside0.mk (below_step HB.out hb1)
  have hbk := blk_below HX.out hb1
  have c0 : w1.cell? ⟨w.heap.size, 0, none⟩ = some (.int .i64 ((n : Int) + 1)) := (blk_cell hbk 0).trans rfl
  have c1 : w1.cell? ⟨w.heap.size, 1, none⟩ = some (.slice A l.length c) := (blk_cell hbk 1).trans rfl
  have hc1 := residuals_any n l HC.out A c w1 (Kd.C_below HR.out hb1) HCL.out
  clear hb1 hc0 hbk
  go_wp2_with (fail)
  refine hc1.mono ?_
  rintro e w2 ⟨bH, capH, usH, rfl, hH⟩
  have hlen : (l.map (resN n l)).length = l.length := by simp
  have hc2 := list_low bH capH usH (fun k => res n l (rd_T32 l k)) w2 (l.map (resN n l)) (dn n l) hH.2.1 (by rw [hlen]; exact hH.2.2.1) (by have := conn_n HC.out; omega) (dn_pos HC.out).1 (dn_pos HC.out).2.1 (fun s hs => by
   obtain ⟨k, hk, rfl⟩ := List.mem_map.1 hs
   exact resN_size HC.out k hk) (fun k hk => by
   have hk' : k < l.length := by simpa using hk
   rw [res_mk HC.out, rd_mem hk', List.getElem_map])
  rw [hlen] at hc2
  have HB2 := Aside0.mk (below_step HB1.out hH.2.2.2)
  clear hc1 hH hlen c0 c1
  go_wp2_with (fail)
  refine hc2.mono ?_
  rintro e w3 ⟨v, rfl, t3, hb3⟩
  have HT3 := Aside0.mk t3
  have HB3 := Aside0.mk (below_step HB2.out hb3)
  clear hc2 t3 hb3
  go_wp2_with (fail)
  go_ret3
  rw [HAD.out, HAL.out]
  exact ⟨v, rfl, Kd.R_lower HT3.out HB2.out.size, HB3.out⟩
 ·have h' : Gm.connB p l = false := by simpa using h
  have HAD := Aside0.mk (show resD p l = 0 by unfold resD; rw [if_neg h])
  have HAL := Aside0.mk (show resL p l = [] by unfold resL; rw [if_neg h])
  rw [h'] at hc0
  rw [h']
  clear h h'
  go_enter Try.func20, Try.ntmps20
  go_wp2_with (fail)
  refine hc0.mono ?_
  rintro e w1 ⟨rfl, hb1⟩
  have HB1 := Aside0.mk (below_step HB.out hb1)
  clear hb1 hc0
  go_wp2_with (fail)
  go_ret3
  rw [HAD.out, HAL.out]
  exact ⟨_, rfl, T.nil, HB1.out⟩
end Go.Proofs.Ytkafbmanmffliaa.Ex

/- The program's weighted squares of residuals. -/
namespace Go.Proofs.Ytkafbmanmffliaa.Gz
open Go Go.RowKit YtkafbmanmffliaaW.PrintWords YtkafbmanmffliaaW.PrintLast YtkafbmanmffliaaW.PrintMore Q Dd Bi Rt Gd Ge Gi Hc Gs Kf Gu
def sqr (n : Nat) (l : List S32) (s : S32) : Rat := (s.f3 : Rat) * (res n l s * res n l s)
def Oth (wz : World) (bH capH m b : Nat) (usH : List Value) (f : Nat → Rat) : Prop := Cb wz 74 bH capH usH ∧ RowF wz usH m f ∧ bH ≠ b
theorem Oth.below {wz w1 : World} {bH capH m b : Nat} {usH : List Value} {f : Nat → Rat} (h : Oth wz bH capH m b usH f) (hb : Below wz.heap.size wz w1) : Oth w1 bH capH m b usH f := ⟨h.1.below hb, h.2.1.par (Par.of_below hb), h.2.2⟩
theorem Oth.grow {wq wr w2 : World} {bH capH m b cap i g1 : Nat} {usH us : List Value} {f F : Nat → Rat} (h : Oth wr bH capH m b usH f) (hI : RowIn wq wr b cap i us F) (hat : g1 = b ∨ wr.heap.size ≤ g1) (hg : wr.grownBy w2 (some b)) : Oth w2 bH capH m g1 usH f := by
 refine ⟨h.1.kept (hg.block bH h.1.lt (fun e => h.2.2 (Option.some.inj e))), h.2.1.par (Par.grown hI.2.1 hg), ?_⟩
 have := h.1.lt
 have := h.2.2
 rcases hat with e | e <;> omega
end Go.Proofs.Ytkafbmanmffliaa.Gz

/- Plain: the common denominator is small, and so is the weighted sum of squares. -/
namespace Go.Proofs.Ytkafbmanmffliaa.Sb
open Go Go.RowKit YtkafbmanmffliaaW.PrintWords Q Ra La Qf Gm Gn Ka Kc Ke Kf Gz Ex
theorem diag (L : List Si) (h : ∀ s ∈ L, s.f ≠ s.t ∧ 1 ≤ s.w ∧ s.w ≤ 3) : 0 ≤ ent 1 1 L ∧ 0 ≤ ent 2 2 L ∧ 0 ≤ ent 3 3 L ∧ 0 ≤ ent 4 4 L ∧ ent 1 1 L + ent 2 2 L + ent 3 3 L + ent 4 4 L ≤ 6 * L.length := by
 induction L with
 | nil => simp [ent]
 | cons s r ih =>
  have h1 := h s (by simp)
  have h2 := ih (fun t ht => h t (by simp [ht]))
  simp only [ent, List.length_cons]
  unfold con
  rw [if_pos rfl, if_pos rfl, if_pos rfl, if_pos rfl]
  push_cast
  refine ⟨?_, ?_, ?_, ?_, ?_⟩
  ·split <;> omega
  ·split <;> omega
  ·split <;> omega
  ·split <;> omega
  ·have a : (if s.f = 1 ∨ s.t = 1 then s.w else 0) ≤ (if s.f = 1 then s.w else 0) + (if s.t = 1 then s.w else 0) := by split <;> split <;> split <;> omega
   have b : (if s.f = 2 ∨ s.t = 2 then s.w else 0) ≤ (if s.f = 2 then s.w else 0) + (if s.t = 2 then s.w else 0) := by split <;> split <;> split <;> omega
   have c : (if s.f = 3 ∨ s.t = 3 then s.w else 0) ≤ (if s.f = 3 then s.w else 0) + (if s.t = 3 then s.w else 0) := by split <;> split <;> split <;> omega
   have d : (if s.f = 4 ∨ s.t = 4 then s.w else 0) ≤ (if s.f = 4 then s.w else 0) + (if s.t = 4 then s.w else 0) := by split <;> split <;> split <;> omega
   have e : (if s.f = 1 then s.w else 0) + (if s.f = 2 then s.w else 0) + (if s.f = 3 then s.w else 0) + (if s.f = 4 then s.w else 0) ≤ s.w := by split <;> split <;> split <;> split <;> omega
   have f : (if s.t = 1 then s.w else 0) + (if s.t = 2 then s.w else 0) + (if s.t = 3 then s.w else 0) + (if s.t = 4 then s.w else 0) ≤ s.w := by split <;> split <;> split <;> split <;> omega
   omega
theorem mul3 {a b c : Int} (ha : 0 ≤ a) (hb : 0 ≤ b) (hc : 0 ≤ c) (h : a + b + c ≤ 48) : a * b * c ≤ 27648 := by
 have h1 := four_mul a b
 have h2 : (a + b) * (a + b) ≤ 48 * 48 := La.mul_le (by omega) (by omega) (by omega) (by omega)
 have h3 : a * b * c ≤ 576 * 48 := La.mul_le (Int.mul_nonneg ha hb) (by omega) (by omega) (by omega)
 omega
theorem den_small {n : Nat} {l : List S32} (hc : Gm.connB ((n : Int) + 1) l = true) : den l n ≤ 27648 := by
 have hn := conn_n hc
 have hm := sig_mem (conn_v hc)
 have hd := diag (sig l) (fun s hs => by have := hm s hs; omega)
 have hl : (sig l).length = l.length := by simp [sig]
 rw [hl] at hd
 have hp := fun c h => LL_E_pos hn.2.1 hc c h
 have s01 := E_symm l 1 0
 have s02 := E_symm l 2 0
 have s12 := E_symm l 2 1
 have s03 := E_symm l 3 0
 have s13 := E_symm l 3 1
 have s23 := E_symm l 3 2
 have e0 : E l 0 0 = ent 1 1 (sig l) := rfl
 have e1 : E l 1 1 = ent 2 2 (sig l) := rfl
 have e2 : E l 2 2 = ent 3 3 (sig l) := rfl
 have e3 : E l 3 3 = ent 4 4 (sig l) := rfl
 unfold den
 match n, hn, hp with
 | 1, _, _ => show E l 0 0 ≤ _; omega
 | 2, _, _ =>
  show d2 _ _ _ _ ≤ _
  rw [s01]
  have h1 := bound2 (E l 0 0) (E l 0 1) (E l 1 1)
  have h2 := four_mul (E l 0 0) (E l 1 1)
  have h3 : (E l 0 0 + E l 1 1) * (E l 0 0 + E l 1 1) ≤ 48 * 48 := La.mul_le (by omega) (by omega) (by omega) (by omega)
  omega
 | 3, _, hp =>
  have p1 : 0 < E l 0 0 := hp 1 (by decide)
  have p2 : 0 < d2 (E l 0 0) (E l 0 1) (E l 0 1) (E l 1 1) := by have := hp 2 (by decide); unfold LL at this; rwa [s01] at this
  show d3 _ _ _ _ _ _ _ _ _ ≤ _
  rw [s01, s02, s12]
  have h1 := bound3 (c := E l 0 2) (f := E l 1 2) (h := E l 2 2) p1 p2
  have h2 := bound2 (E l 0 0) (E l 0 1) (E l 1 1)
  have h3 : d2 (E l 0 0) (E l 0 1) (E l 0 1) (E l 1 1) * E l 2 2 ≤ E l 0 0 * E l 1 1 * E l 2 2 := Int.mul_le_mul_of_nonneg_right h2 (by omega)
  have h4 := mul3 (a := E l 0 0) (b := E l 1 1) (c := E l 2 2) (by omega) (by omega) (by omega) (by omega)
  omega
 | 4, _, hp =>
  have p1 : 0 < E l 0 0 := hp 1 (by decide)
  have p2 : 0 < d2 (E l 0 0) (E l 0 1) (E l 0 1) (E l 1 1) := by have := hp 2 (by decide); unfold LL at this; rwa [s01] at this
  have p3 : 0 < d3 (E l 0 0) (E l 0 1) (E l 0 2) (E l 0 1) (E l 1 1) (E l 1 2) (E l 0 2) (E l 1 2) (E l 2 2) := by have := hp 3 (by decide); unfold LL at this; rwa [s01, s02, s12] at this
  show d4 _ _ _ _ _ _ _ _ _ _ _ _ _ _ _ _ ≤ _
  rw [s01, s02, s12, s03, s13, s23]
  have h0 := bound4 (d := E l 0 3) (g := E l 1 3) (i := E l 2 3) (j := E l 3 3) p1 p2 p3
  have h1 := bound3 (c := E l 0 2) (f := E l 1 2) (h := E l 2 2) p1 p2
  have h2 := bound2 (E l 0 0) (E l 0 1) (E l 1 1)
  have h3 : d2 (E l 0 0) (E l 0 1) (E l 0 1) (E l 1 1) * E l 2 2 ≤ E l 0 0 * E l 1 1 * E l 2 2 := Int.mul_le_mul_of_nonneg_right h2 (by omega)
  have h5 : d3 (E l 0 0) (E l 0 1) (E l 0 2) (E l 0 1) (E l 1 1) (E l 1 2) (E l 0 2) (E l 1 2) (E l 2 2) * E l 3 3 ≤ E l 0 0 * E l 1 1 * E l 2 2 * E l 3 3 := Int.mul_le_mul_of_nonneg_right (by omega) (by omega)
  have h4 := diag_bound (a := E l 0 0) (e := E l 1 1) (h := E l 2 2) (j := E l 3 3) (by omega) (by omega) (by omega) (by omega) (by omega)
  omega
def sqN (n : Nat) (l : List S32) (s : S32) : Int := s.f3 * resN n l s * resN n l s
def smI {α : Type} (g : α → Int) : List α → Int
 | [] => 0
 | s :: r => g s + smI g r
theorem smI_cast {α : Type} (g : α → Int) (l : List α) : ((smI g l : Int) : Rat) = sm (fun s => (g s : Rat)) l := by
 induction l with
 | nil => rfl
 | cons s r ih => simp only [smI, sm, Rat.intCast_add, ih]
def ssq (n : Nat) (l : List S32) : Rat := sm (sqr n l) l
theorem riN_le (m : List S32) (hm : ∀ s ∈ m, -100 ≤ s.f2 ∧ s.f2 ≤ 100 ∧ 1 ≤ s.f3 ∧ s.f3 ≤ 3) : smI (fun s : S32 => s.f3 * (s.f2 * s.f2)) m ≤ 30000 * m.length := by
 induction m with
 | nil => simp [smI]
 | cons s r ih =>
  have h1 := hm s (by simp)
  have h2 := ih (fun t ht => hm t (by simp [ht]))
  have h3 : s.f3 * (s.f2 * s.f2) ≤ 3 * 10000 := by
   have hb := mulb (X := 100) (Y := 100) (a := s.f2) (b := s.f2) (by decide) (by decide) (by unfold Bd; omega) (by unfold Bd; omega)
   have hnn := La.sq_nonneg' s.f2
   unfold Bd at hb
   exact La.mul_le (by omega) (by omega) (by omega) (by omega)
  simp only [smI, List.length_cons]
  omega
theorem rise_sq {n : Nat} {l : List S32} (hc : Gm.connB ((n : Int) + 1) l = true) : sm (fun s => (s.f3 : Rat) * (((s.f2 : Rat) - dif (fun _ => 0) s) * ((s.f2 : Rat) - dif (fun _ => 0) s))) l ≤ ((240000 : Int) : Rat) := by
 have hv := mem_at (conn_v hc)
 have hl := (conn_n hc).2.2
 have e : sm (fun s : S32 => (s.f3 : Rat) * (((s.f2 : Rat) - dif (fun _ => 0) s) * ((s.f2 : Rat) - dif (fun _ => 0) s))) l = ((smI (fun s : S32 => s.f3 * (s.f2 * s.f2)) l : Int) : Rat) := by
  rw [smI_cast]
  refine sm_congr (fun s _ => ?_)
  have hz : dif (fun _ => 0) s = 0 := by show (0 : Rat) - 0 = 0; grind
  rw [hz, Rat.intCast_mul, Rat.intCast_mul]
  have : (s.f2 : Rat) - 0 = (s.f2 : Rat) := by grind
  rw [this]
 rw [e]
 have h1 := riN_le l (fun s hs => by have := hv s hs; omega)
 exact Rat.intCast_le_intCast.2 (by omega)
end Go.Proofs.Ytkafbmanmffliaa.Sb

/- Plain: what a connected survey's told numbers are: heights, residuals, and the weighted residuals at a point. -/
namespace Go.Proofs.Ytkafbmanmffliaa.Pa
open Go Go.RowKit YtkafbmanmffliaaW.PrintWords Q Kc Ke Kf Gv Lo Lo2 Ex Sb
def ge (n : Nat) (l : List S32) : Nat := gcdAll (dn n l) (l.map (resN n l))
def gh (n : Nat) (l : List S32) : Nat := gcdAll (dn n l) (nuL l (rgt n l) n)
def ev (n : Nat) (l : List S32) (s : S32) : Int := resN n l s / (ge n l : Int)
def hv (n : Nat) (l : List S32) (p : Int) : Int := nu l (rgt n l) n p / (gh n l : Int)
def eD (n : Nat) (l : List S32) : Int := ((dn n l / ge n l : Nat) : Int)
def hD (n : Nat) (l : List S32) : Int := ((dn n l / gh n l : Nat) : Int)
theorem hv_zero (n : Nat) (l : List S32) : hv n l 0 = 0 := by unfold hv; rw [nu_zero]; exact Int.zero_ediv _
section
variable {n : Nat} {l : List S32} (hc : Gm.connB ((n : Int) + 1) l = true)
include hc
theorem ge_facts : 0 < ge n l ∧ eD n l * (ge n l : Int) = dn n l ∧ ∀ s ∈ l, ev n l s * (ge n l : Int) = resN n l s := by
 have h1 := dn_pos hc
 have h2 := gcd_dvd (l.map (resN n l)) (dn n l)
 have h3 : 0 < ge n l := Nat.pos_of_dvd_of_pos h2.1 h1.1
 refine ⟨h3, by unfold eD; exact_mod_cast Nat.div_mul_cancel h2.1, fun s hs => ?_⟩
 unfold ev
 exact Int.ediv_mul_cancel (Int.natAbs_dvd_natAbs.1 (by rw [Int.natAbs_natCast]; exact h2.2 _ (List.mem_map.2 ⟨s, hs, rfl⟩)))
theorem gh_facts : 0 < gh n l ∧ hD n l * (gh n l : Int) = dn n l ∧ ∀ p : Int, 0 ≤ p → p ≤ n → hv n l p * (gh n l : Int) = nu l (rgt n l) n p := by
 have h1 := dn_pos hc
 have h2 := gcd_dvd (nuL l (rgt n l) n) (dn n l)
 have h3 : 0 < gh n l := Nat.pos_of_dvd_of_pos h2.1 h1.1
 refine ⟨h3, by unfold hD; exact_mod_cast Nat.div_mul_cancel h2.1, fun p h0 hp => ?_⟩
 have hmem : nu l (rgt n l) n p ∈ nuL l (rgt n l) n := by
  unfold nuL
  exact List.mem_map.2 ⟨p.toNat, List.mem_range.2 (by omega), by rw [Int.toNat_of_nonneg h0]⟩
 unfold hv
 exact Int.ediv_mul_cancel (Int.natAbs_dvd_natAbs.1 (by rw [Int.natAbs_natCast]; exact h2.2 _ hmem))
theorem eD_pos : 1 ≤ eD n l ∧ eD n l ≤ 27648 := by
 have h1 := ge_facts hc
 have h2 := dn_pos hc
 have h3 := den_small hc
 have h4 := Nat.div_le_self (dn n l) (ge n l)
 have h5 := h1.2.1
 unfold eD at h5 ⊢
 obtain ⟨q, hq⟩ : ∃ q, q = dn n l / ge n l := ⟨_, rfl⟩
 rw [← hq] at h4 h5 ⊢
 have h6 : q ≠ 0 := fun e => by rw [e] at h5; omega
 omega
theorem hD_pos : 1 ≤ hD n l ∧ hD n l ≤ 27648 := by
 have h1 := gh_facts hc
 have h2 := dn_pos hc
 have h3 := den_small hc
 have h4 := Nat.div_le_self (dn n l) (gh n l)
 have h5 := h1.2.1
 unfold hD at h5 ⊢
 obtain ⟨q, hq⟩ : ∃ q, q = dn n l / gh n l := ⟨_, rfl⟩
 rw [← hq] at h4 h5 ⊢
 have h6 : q ≠ 0 := fun e => by rw [e] at h5; omega
 omega
theorem resL_eq : resL ((n : Int) + 1) l = l.map (ev n l) ∧ resD ((n : Int) + 1) l = eD n l := by
 unfold resL resD
 rw [if_pos hc, if_pos hc, wp_eq]
 exact ⟨by unfold lowL; rw [List.map_map]; rfl, rfl⟩
theorem adjL_eq : adjL ((n : Int) + 1) l = (List.range (n + 1)).map (fun p : Nat => hv n l p) ∧ adjD ((n : Int) + 1) l = hD n l := by
 unfold adjL adjD
 rw [if_pos hc, if_pos hc, wp_eq]
 exact ⟨by unfold lowL nuL; rw [List.map_map]; rfl, rfl⟩
theorem res_ev (s : S32) (hs : s ∈ l) : res n l s = (ev n l s : Rat) / (eD n l : Rat) := by
 have h1 := ge_facts hc
 have h2 := dn_pos hc
 have h3 := eD_pos hc
 have e1 : resN n l s = ev n l s * (ge n l : Int) := (h1.2.2 s hs).symm
 have e2 : ((dn n l : Nat) : Int) = eD n l * (ge n l : Int) := h1.2.1.symm
 rw [res_mk hc, mkq, e1, e2, Rat.intCast_mul, Rat.intCast_mul]
 have n1 : ((ge n l : Int) : Rat) ≠ 0 := by exact_mod_cast (show (ge n l : Int) ≠ 0 by omega)
 have n2 : ((eD n l : Int) : Rat) ≠ 0 := by exact_mod_cast (show (eD n l : Int) ≠ 0 by omega)
 grind
theorem hts_hv (p : Int) (h0 : 0 ≤ p) (hp : p ≤ n) : hts n l p = (hv n l p : Rat) / (hD n l : Rat) := by
 have h1 := gh_facts hc
 have h2 := dn_pos hc
 have h3 := hD_pos hc
 have e1 : nu l (rgt n l) n p = hv n l p * (gh n l : Int) := (h1.2.2 p h0 hp).symm
 have e2 : ((dn n l : Nat) : Int) = hD n l * (gh n l : Int) := h1.2.1.symm
 unfold hts
 rw [xs_mk hc, mkq, e1, e2, Rat.intCast_mul, Rat.intCast_mul]
 have n1 : ((gh n l : Int) : Rat) ≠ 0 := by exact_mod_cast (show (gh n l : Int) ≠ 0 by omega)
 have n2 : ((hD n l : Int) : Rat) ≠ 0 := by exact_mod_cast (show (hD n l : Int) ≠ 0 by omega)
 grind
end
def pri (n : Nat) (l : List S32) (s : S32) : S32 := ⟨s.f0, s.f1, ev n l s, s.f3⟩
def lpr (n : Nat) (l : List S32) : List S32 := l.map (pri n l)
section
variable {n : Nat} {l : List S32} (hc : Gm.connB ((n : Int) + 1) l = true)
include hc
end
end Go.Proofs.Ytkafbmanmffliaa.Pa

/- The program's tree with the row of its sights. -/
namespace Go.Proofs.Ytkafbmanmffliaa.Ht
open Go Go.RowKit YtkafbmanmffliaaW.PrintWords YtkafbmanmffliaaW.PrintLast YtkafbmanmffliaaW.PrintMore Q Gd Ge Gi Hb Hd Hv PuT Hw Hc
set_option maxHeartbeats 8000000 in
set_option maxRecDepth 100000 in
theorem tree_all (n : Nat) (l : List S32) (hv : surveyB n l = true) (A : Option Addr) (c : Nat) (w : World) (hr : Kd.C k32 w A l.length l) :
  Calls Try.prog 75 #[.agg #[.int .i64 (n : Int), .slice A l.length c]] w fun e w' => ∃ (bo co : Nat) (v : Value), e = .returned (.tuple #[.slice (some ⟨bo, 0, none⟩) (treeG n l).out.length co, v]) ∧ T w.heap.size w' (.slice (some ⟨bo, 0, none⟩) (treeG n l).out.length co) (treeG n l).out ∧ Below w.heap.size w w' := by
 have hu26 := Try.underlying26
 have hu32 := Try.underlying32
 have hp5 := valid_pts hv
 have hbx := below_alloc (Below.refl w.heap.size w) (BS n A l.length c)
 have HR := Aside0.mk (Kd.C_below hr hbx)
 have HX := Aside0.mk (heap_alloc_new w (BS n A l.length c))
 have HV := Aside0.mk hv
 have HB0 := Aside0.mk hbx
 clear hr hbx hv
 go_enter Try.func75, Try.ntmps75
 have hbk := blk_alloc (blk_alloc HX.out (.cells #[] 2)) (.cells #[] 2)
 have e0 : (((w.alloc (BS n A l.length c)).alloc (.cells #[] 2)).alloc (.cells #[] 2)).cell? ⟨w.heap.size, 0, none⟩ = some (.int .i64 (n : Int)) := (blk_cell hbk 0).trans rfl
 go_wp2_with (fail)
 clear hbk e0
 obtain ⟨W0, hW0⟩ : ∃ W0, W0 = w.alloc (BS n A l.length c) := ⟨_, rfl⟩
 have hs0 : W0.heap.size = w.heap.size + 1 := by rw [hW0]; simp
 rw [← hW0] at HR HX HB0
 rw [← hW0]
 have t0 := Aside0.mk (show Two W0 ((W0.alloc (.cells #[] 2)).alloc (.cells #[] 2)) (w.heap.size + 1) 0 (w.heap.size + 1 + 1) 0 [] ((List.range 0).map (fun k : Nat => (k : Int))) from
  ⟨by omega, by omega, by rw [← hs0]; exact (Cb.nil_new W0 2).below (below_alloc (Below.refl _ _) _), by have h := Cb.nil_new (W0.alloc (.cells #[] 2)) 2; rw [World.size_alloc, hs0] at h; exact h, by omega, below_alloc (below_alloc (Below.refl _ _) _) _⟩)
 clear hW0 hs0
 go_loopw [5, 16] (fun v5 v16 wz => ∃ (i bo co bg cg : Nat), v5 = .slice (some ⟨bg, 0, none⟩) i cg ∧ v16 = .int .i64 (i : Int) ∧ i ≤ n ∧ bo = w.heap.size + 1 ∧ co = 0 ∧ Aside0 (Two W0 wz bo co bg cg [] ((List.range i).map (fun k : Nat => (k : Int))))) (fun _ v _ => n - (intOf v).toNat)
 case atStart => exact ⟨0, _, _, _, 0, rfl, rfl, by omega, rfl, rfl, t0⟩
 case round =>
  clear t0
  obtain ⟨i, bo, co, bg, cg, rfl, rfl, hi, hbo, hco, HT⟩ := hrel
  by_cases hlt : i < n
  ·have p1 : decide ((i : Int) < (n : Int)) = true := decide_eq_true (by omega)
   have hlen : ((List.range i).map (fun k : Nat => (k : Int))).length = i := by simp
   go_wp2_with ((with_reducible refine gate_builtin (b := .append) (xs := #[.tmp 19, .tmp 21]) rfl ?_); at_builtin; refine Cb.append rfl (.tmp 19) (.tmp 21) 28 2 (.int .i64 0) 8 rfl Try.underlying28 info2 rfl (Pv.i64 _) (by decide) bg cg i _ (.int .i64 (i : Int)) (by rw [List.length_map, hlen]) rfl rfl rfl (Pv.i64 _) HT.out.gc (by rw [List.length_map, hlen]; omega) ?_; intro g1 cap1 w2 h1 h2 h3; have HN := Aside0.mk (HT.out.pushG h1 h2 h3); clear h1 h2 h3)
   rw [← Hw.nums] at HN
   go_roundw
   case rel => exact ⟨i + 1, bo, co, g1, cap1, by go_num, by go_num, by omega, hbo, hco, HN⟩
   case measure => simp [intOf]; omega
  ·obtain rfl : n = i := by omega
   have p1 : decide ((n : Int) < (n : Int)) = false := decide_eq_false (by omega)
   have t1 := Aside0.mk (show Two W0 wr bo co bg cg (atG n l 0).out (atG n l 0).grp from HT.out)
   have hcy : wr.cell? ⟨w.heap.size, 1, none⟩ = some (.slice A l.length c) := (blk_cell (blk_below HX.out HT.out.be) 1).trans rfl
   subst hbo hco
   clear HT
   go_wp2_with (fail)
   clear hcy
   go_loopw [4, 27] (fun v4 v27 wz => ∃ (i bo co : Nat), v4 = .slice (some ⟨bo, 0, none⟩) (atG n l i).out.length co ∧ v27 = .int .i64 (i : Int) ∧ i ≤ l.length ∧ Aside0 (Two W0 wz bo co bg cg (atG n l i).out (atG n l i).grp)) (fun _ v _ => l.length - (intOf v).toNat)
   case atStart => exact ⟨0, _, _, rfl, rfl, by omega, t1⟩
   case round =>
    clear t1
    obtain ⟨i, bo, co, rfl, rfl, hi, HT⟩ := hrel
    by_cases hlt2 : i < l.length
    ·have p2 : decide ((i : Int) < (l.length : Int)) = true := decide_eq_true (by omega)
     obtain ⟨ad, e, x0, x1, x2, x3⟩ := at_T32 (Kd.C_below HR.out HT.out.be) (i : Int) (by omega) (by omega)
     subst e
     rw [Int.toNat_natCast] at x0 x1 x2 x3
     have hva := valid_at HV.out i hlt2
     have HSU := Aside0.mk (atG_succ n l i hlt2)
     have hgl := atG_len n l i
     have hol := atG_out n l i
     rw [Int.toNat_natCast] at hgl
     obtain ⟨s, hs⟩ : ∃ s, s = rd_T32 l i := ⟨_, rfl⟩
     rw [← hs] at x0 x1 x2 x3 hva HSU
     clear hs
     obtain ⟨f, t, ri, wt⟩ := s
     dsimp only at x0 x1 x2 x3 hva
     obtain ⟨y0, y1, y2, y3⟩ := hva
     obtain ⟨f, rfl⟩ : ∃ q : Nat, f = q := ⟨f.toNat, by omega⟩
     obtain ⟨t, rfl⟩ : ∃ q : Nat, t = q := ⟨t.toNat, by omega⟩
     obtain ⟨G, hG⟩ : ∃ G, G = (atG n l i).grp := ⟨_, rfl⟩
     obtain ⟨O, hO⟩ : ∃ O, O = (atG n l i).out := ⟨_, rfl⟩
     rw [← hG] at hgl HT
     rw [← hO] at hol HT
     have HST := Aside0.mk (show atG n l (i + 1) = if rd G (f : Int) = rd G (t : Int) then ⟨O, G⟩ else ⟨O ++ [(i : Int)], G.map fun v => if v = rd G (t : Int) then rd G (f : Int) else v⟩ by rw [HSU.out, hG, hO]; rfl)
     have hba := below_alloc (Below.refl wr.heap.size wr) (.cells #[.int .i64 (f : Int), .int .i64 (t : Int), .int .i64 ri, .int .i64 wt] 32)
     have hna := heap_alloc_new wr (.cells #[.int .i64 (f : Int), .int .i64 (t : Int), .int .i64 ri, .int .i64 wt] 32)
     have HT1 := Aside0.mk (HT.out.below hba)
     have z0 := (HT1.out.cell f (by omega)).1
     have z1 := (HT1.out.cell t (by omega)).1
     obtain ⟨va, hva⟩ : ∃ va, va = rd G (f : Int) := ⟨_, rfl⟩
     obtain ⟨vb, hvb⟩ : ∃ vb, vb = rd G (t : Int) := ⟨_, rfl⟩
     rw [← hva] at z0 HST
     rw [← hvb] at z1 HST
     have i1 : (0 ≤ (f : Int)) = True := eq_true (by omega)
     have i2 : ((f : Int) < (n : Int)) = True := eq_true (by omega)
     have i3 : (0 ≤ (t : Int)) = True := eq_true (by omega)
     have i4 : ((t : Int) < (n : Int)) = True := eq_true (by omega)
     clear hva hvb HSU HT hna
     rw [← hO]
     by_cases hab : va = vb
     ·have d1 : (va == vb) = true := by simpa using hab
      have HS2 := Aside0.mk (show (atG n l (i + 1)).out = O ∧ (atG n l (i + 1)).grp = G by rw [HST.out, if_pos hab]; exact ⟨rfl, rfl⟩)
      clear hab
      go_wp2_with (fail)
      go_quiet (fail)
      go_wp2_with (fail)
      have HT2 := Aside0.mk (HT1.out.below (pw_below_drewN (Below.refl _ _) nq))
      go_roundw
      case rel => exact ⟨i + 1, bo, co, by rw [HS2.out.1], by go_num, by omega, ⟨by rw [HS2.out.1, HS2.out.2]; exact HT2.out⟩⟩
      case measure => simp [intOf]; omega
     ·have d1 : (va == vb) = false := by simpa using hab
      have HS2 := Aside0.mk (show (atG n l (i + 1)).out = O ++ [(i : Int)] ∧ (atG n l (i + 1)).grp = G.map fun v => if v = vb then va else v by rw [HST.out, if_neg hab]; exact ⟨rfl, rfl⟩)
      clear hab
      go_wp2_with (fail)
      go_quiet (fail)
      have HT2 := Aside0.mk (HT1.out.below (pw_below_drewN (Below.refl _ _) nq))
      obtain ⟨wb, hwb⟩ : ∃ wb, wb = (wr.alloc (.cells #[.int .i64 (f : Int), .int .i64 (t : Int), .int .i64 ri, .int .i64 wt] 32)).drewN nq := ⟨_, rfl⟩
      rw [← hwb] at HT2
      rw [← hwb]
      clear hwb
      go_wp2_with ((with_reducible refine gate_builtin (b := .append) (xs := #[.tmp 45, .tmp 47]) rfl ?_); at_builtin; refine Cb.append rfl (.tmp 45) (.tmp 47) 28 2 (.int .i64 0) 8 rfl Try.underlying28 info2 rfl (Pv.i64 _) (by decide) bo co O.length _ (.int .i64 (i : Int)) (by rw [List.length_map]) rfl rfl rfl (Pv.i64 _) HT2.out.oc (by rw [List.length_map]; omega) ?_; intro g1 cap1 w2 h1 h2 h3; have HT3 := Aside0.mk (HT2.out.pushO h1 h2 h3); clear h1 h2 h3)
      obtain ⟨G2, hG2⟩ : ∃ G2, G2 = G.map fun v => if v = vb then va else v := ⟨_, rfl⟩
      have hl2 : G2.length = G.length := by rw [hG2]; simp
      have HNX := Aside0.mk (show ∀ (j : Nat) (h : j < G.length), G2[j]'(by rw [hl2]; exact h) = if rd G j = vb then va else rd G j from fun j h => by
       simp only [hG2, List.getElem_map]
       rw [show rd G (j : Int) = G[j] by simp [rd, List.getD_eq_getElem?_getD, h]])
      have t2 := Aside0.mk (show Two W0 w2 g1 cap1 bg cg (O ++ [(i : Int)]) (Hc.upd G2 G 0) by rw [upd_zero]; exact HT3.out)
      have HG2 := Aside0.mk hG2
      clear hG2 HT1 HT2 HT3
      go_loopw [51] (fun v51 wz => ∃ j : Nat, v51 = .int .i64 (j : Int) ∧ j ≤ n ∧ Aside0 (Two W0 wz g1 cap1 bg cg (O ++ [(i : Int)]) (Hc.upd G2 G j))) (fun v _ => n - (intOf v).toNat)
      case atStart => exact ⟨0, rfl, by omega, t2⟩
      case round =>
       clear t2
       obtain ⟨j, rfl, hj, HT⟩ := hrel
       by_cases hjt : j < n
       ·have p3 : decide ((j : Int) < (n : Int)) = true := decide_eq_true (by omega)
        have hul := upd_len hl2 (k := j) (by omega)
        obtain ⟨z2, z3⟩ := HT.out.cell j (by omega)
        rw [rd_upd hl2 (by omega)] at z2
        have hnx := HNX.out j (by omega)
        have i5 : (0 ≤ (j : Int)) = True := eq_true (by omega)
        have i6 : ((j : Int) < (n : Int)) = True := eq_true (by omega)
        obtain ⟨vj, hvj⟩ : ∃ vj, vj = rd G (j : Int) := ⟨_, rfl⟩
        rw [← hvj] at z2 hnx
        by_cases hh : vj = vb
        ·have d2 : (vj == vb) = true := by simpa using hh
         rw [if_pos hh] at hnx
         have hst := HT.out.setG j va
         rw [← hnx, upd_set hl2 (by omega), hnx] at hst
         have HN := Aside0.mk hst
         clear hh hst hnx hvj hul
         go_wp2_with (fail)
         go_roundw
         case rel => exact ⟨j + 1, by go_num, by omega, HN⟩
         case measure => simp [intOf]; omega
        ·have d2 : (vj == vb) = false := by simpa using hh
         rw [if_neg hh, hvj, show rd G (j : Int) = G[j]'(by omega) by simp [rd, List.getD_eq_getElem?_getD, show j < G.length by omega]] at hnx
         have HN := Aside0.mk (show Two W0 wr g1 cap1 bg cg (O ++ [(i : Int)]) (Hc.upd G2 G (j + 1)) by rw [upd_same hl2 (by omega) hnx]; exact HT.out)
         clear hh hnx hvj hul z3
         go_wp2_with (fail)
         go_roundw
         case rel => exact ⟨j + 1, by go_num, by omega, HN⟩
         case measure => simp [intOf]; omega
       ·obtain rfl : n = j := by omega
        have p3 : decide ((n : Int) < (n : Int)) = false := decide_eq_false (by omega)
        have hall := HT.out
        rw [← hgl, upd_all hl2, HG2.out] at hall
        have HN := Aside0.mk hall
        clear hall
        go_wp2_with (fail)
        go_roundw
        case rel => exact ⟨i + 1, g1, cap1, by rw [HS2.out.1]; simp [hO], by go_num, by omega, ⟨by rw [HS2.out.1, HS2.out.2]; exact HN.out⟩⟩
        case measure => simp [intOf]; omega
    ·obtain rfl : l.length = i := by omega
     have p2 : decide ((l.length : Int) < (l.length : Int)) = false := decide_eq_false (by omega)
     go_wp2_with (fail)
     go_ret2
     exact ⟨bo, co, _, rfl, Gv.T.of_cb HT.out.oc (by have h1 := HT.out.ob; have h2 := HB0.out.size; omega), HB0.out.trans (HT.out.be.mono HB0.out.size)⟩
end Go.Proofs.Ytkafbmanmffliaa.Ht

/- The program's treeHeights: the heights that follow from the chosen sights. -/
namespace Go.Proofs.Ytkafbmanmffliaa.He
open Hd Go.RowKit YtkafbmanmffliaaW.PrintWords YtkafbmanmffliaaW.PrintLast YtkafbmanmffliaaW.PrintMore Q Hb Hc PuT
theorem tree_any (n : Nat) (l : List S32) (hv : surveyB n l = true) (A : Option Addr) (c : Nat) (w : World) (hr : Kd.C k32 w A l.length l) (hc : l.length ≤ c) :
  Calls Try.prog 75 #[.agg #[.int .i64 n, .slice A l.length c]] w fun e w' => ∃ v0 v1 : Value, e = .returned (.tuple #[v0, v1]) ∧ T w.heap.size w' v0 (treeG n l).out ∧ Below w.heap.size w w' := by
 refine (Ht.tree_all n l hv A c w hr).mono ?_
 rintro e w' ⟨bo, co, v, rfl, h0, hb⟩
 exact ⟨_, v, rfl, h0, hb⟩
theorem mk47 (n : Nat) (hn : n ≤ 5) : ∀ W : World, (Instr.makeSlice 28 (.int .i64 (n : Int)) (.int .i64 (n : Int))).run Try.prog W = .ok (.slice (some ⟨W.heap.size, 0, none⟩) n n) (W.alloc (.cells (madeCells #[.int .i64 0] n) 2)) :=
 print_make_of 28 2 (.int .i64 0) 8 Try.underlying28 info2 rfl (by decide) n (by omega)
theorem mk83 (n : Nat) (hn : n ≤ 5) : ∀ W : World, (Instr.makeSlice 123 (.int .i64 (n : Int)) (.int .i64 (n : Int))).run Try.prog W = .ok (.slice (some ⟨W.heap.size, 0, none⟩) n n) (W.alloc (.cells (madeCells #[.bool false] n) 4)) :=
 print_make_of 123 4 (.bool false) 1 Try.underlying123 info4 rfl (by decide) n (by omega)
theorem T.made {B : Nat} (W : World) (n : Nat) (hn : n ≤ 5) (hB : B ≤ W.heap.size) : T B (W.alloc (.cells (madeCells #[.int .i64 0] n) 2)) (.slice (some ⟨W.heap.size, 0, none⟩) n n) (List.replicate n 0) := by
 have h := own_made_of (enc := Value.int .i64) (d := 0) W B 2 n hB (by omega)
 exact Kd.R_of_own (by simpa using h) (fun _ _ => trivial)
theorem TB.made {B : Nat} (W : World) (n : Nat) (hn : n ≤ 5) (hB : B ≤ W.heap.size) : TB B (W.alloc (.cells (madeCells #[.bool false] n) 4)) (.slice (some ⟨W.heap.size, 0, none⟩) n n) (List.replicate n false) := by
 have h := own_made_of (enc := Value.bool) (d := false) W B 4 n hB (by omega)
 exact Kd.R_of_own (by simpa using h) (fun _ _ => trivial)
structure Sh where
 h : List Int
 kn : List Bool
def stepH (l : List S32) (st : Sh) (j : Int) : Sh :=
 if rdOf false st.kn (rd_T32 l j).f0 = true ∧ rdOf false st.kn (rd_T32 l j).f1 = false then ⟨st.h.set (rd_T32 l j).f1.toNat (wrap64 (rd st.h (rd_T32 l j).f0 + (rd_T32 l j).f2)), st.kn.set (rd_T32 l j).f1.toNat true⟩
 else if rdOf false st.kn (rd_T32 l j).f1 = true ∧ rdOf false st.kn (rd_T32 l j).f0 = false then ⟨st.h.set (rd_T32 l j).f0.toNat (wrap64 (rd st.h (rd_T32 l j).f1 - (rd_T32 l j).f2)), st.kn.set (rd_T32 l j).f0.toNat true⟩
 else st
def startH (n : Nat) : Sh := ⟨List.replicate n 0, (List.replicate n false).set 0 true⟩
def itH (n : Nat) (l : List S32) (o : List Int) : Nat → Sh
 | 0 => startH n
 | i + 1 => o.foldl (stepH l) (itH n l o i)
def inH (n : Nat) (l : List S32) (o : List Int) (i j : Nat) : Sh := (o.take j).foldl (stepH l) (itH n l o i)
theorem inH_zero (n : Nat) (l : List S32) (o : List Int) (i : Nat) : inH n l o i 0 = itH n l o i := by simp [inH]
theorem inH_all (n : Nat) (l : List S32) (o : List Int) (i : Nat) : inH n l o i o.length = itH n l o (i + 1) := by simp [inH, itH]
theorem inH_succ (n : Nat) (l : List S32) (o : List Int) (i j : Nat) (h : j < o.length) : inH n l o i (j + 1) = stepH l (inH n l o i j) (rd o j) := by
 unfold inH
 rw [List.take_succ_eq_append_getElem h, List.foldl_append]
 simp [rd_nat _ _ h]
theorem stepH_len (l : List S32) (st : Sh) (j : Int) : (stepH l st j).h.length = st.h.length ∧ (stepH l st j).kn.length = st.kn.length := by
 unfold stepH; split
 ·simp
 ·split <;> simp
theorem foldH_len (l : List S32) (o : List Int) (st : Sh) : (o.foldl (stepH l) st).h.length = st.h.length ∧ (o.foldl (stepH l) st).kn.length = st.kn.length := by
 induction o generalizing st with
 | nil => exact ⟨rfl, rfl⟩
 | cons x xs ih => simp only [List.foldl_cons]; rw [(ih _).1, (ih _).2]; exact stepH_len l st x
theorem itH_len (n : Nat) (l : List S32) (o : List Int) (i : Nat) : (itH n l o i).h.length = n ∧ (itH n l o i).kn.length = n := by
 induction i with
 | zero => simp [itH, startH]
 | succ i ih => simp only [itH]; rw [(foldH_len ..).1, (foldH_len ..).2]; exact ih
theorem inH_len (n : Nat) (l : List S32) (o : List Int) (i j : Nat) : (inH n l o i j).h.length = n ∧ (inH n l o i j).kn.length = n := by
 unfold inH; rw [(foldH_len ..).1, (foldH_len ..).2]; exact itH_len n l o i
def hgt (n : Nat) (l : List S32) : List Int := (itH n l (treeG n l).out (treeG n l).out.length).h
theorem outG_lt (n : Nat) (l : List S32) : ∀ k, k ≤ l.length → ∀ x ∈ (atG n l k).out, 0 ≤ x ∧ x < k := by
 intro k
 induction k with
 | zero => intro _ x hx; simp [atG, startG] at hx
 | succ k ih =>
  intro hk x hx
  rw [atG_succ n l k (by omega)] at hx
  unfold PuT.stepG at hx
  split at hx
  ·have := ih (by omega) x hx; omega
  ·simp only [List.mem_append, List.mem_singleton] at hx
   rcases hx with hx | hx
   ·have := ih (by omega) x hx; omega
   ·subst hx; omega
theorem out_at (n : Nat) (l : List S32) (j : Nat) (h : j < (treeG n l).out.length) : 0 ≤ rd (treeG n l).out j ∧ rd (treeG n l).out j < l.length := by
 rw [rd_nat _ _ h]; exact outG_lt n l l.length (Nat.le_refl _) _ (List.getElem_mem _)
abbrev W0 (n : Nat) (A : Option Addr) (k c : Nat) (w : World) : World := w.alloc (.cells #[.int .i64 n, .slice A k c] 26)
def Made (w0 : World) (n : Nat) (u v5 v6 : Value) (o : List Int) (wz : World) : Prop :=
 ∃ g5 g6 : Nat, v5 = .slice (some ⟨g5, 0, none⟩) n n ∧ v6 = .slice (some ⟨g6, 0, none⟩) n n ∧ Aside0 (g5 ≠ g6) ∧ Aside0 (w0.heap.size ≤ g5) ∧ Aside0 (w0.heap.size ≤ g6) ∧ Aside0 (T w0.heap.size wz (.slice (some ⟨g5, 0, none⟩) n n) (List.replicate n 0)) ∧ Aside0 (TB w0.heap.size wz (.slice (some ⟨g6, 0, none⟩) n n) (List.replicate n false)) ∧
   Aside0 (T w0.heap.size wz u o) ∧ Aside0 (NE u (.slice (some ⟨g5, 0, none⟩) n n)) ∧ Aside0 (NE u (.slice (some ⟨g6, 0, none⟩) n n)) ∧ Aside0 (Below w0.heap.size w0 wz)
theorem made_a {w0 w1 : World} {n : Nat} (hn : n ≤ 5) {u : Value} {o : List Int} (h0 : T w0.heap.size w1 u o) (hb : Below w0.heap.size w0 w1) :
  Made w0 n u (.slice (some ⟨w1.heap.size, 0, none⟩) n n) (.slice (some ⟨w1.heap.size + 1, 0, none⟩) n n) o ((w1.alloc (.cells (madeCells #[.int .i64 0] n) 2)).alloc (.cells (madeCells #[.bool false] n) 4)).drew := by
 have hs := hb.size
 have t5 := T.made (B := w0.heap.size) w1 n hn hs
 have t6 := TB.made (B := w0.heap.size) (w1.alloc (.cells (madeCells #[.int .i64 0] n) 2)) n hn (by simp; omega)
 rw [World.size_alloc] at t6
 have k1 := below_alloc (Below.refl w1.heap.size w1) (.cells (madeCells #[.int .i64 0] n) 2)
 have k2 := (below_alloc (Below.refl (w1.alloc (.cells (madeCells #[.int .i64 0] n) 2)).heap.size (w1.alloc (.cells (madeCells #[.int .i64 0] n) 2))) (.cells (madeCells #[.bool false] n) 4)).drew
 have k3 := (below_alloc (below_alloc (Below.refl w1.heap.size w1) (.cells (madeCells #[.int .i64 0] n) 2)) (.cells (madeCells #[.bool false] n) 4)).drew
 exact ⟨_, _, rfl, rfl, ⟨by omega⟩, ⟨hs⟩, ⟨by omega⟩, ⟨t5.below k2⟩, ⟨Kd.R_drew t6⟩, ⟨h0.below k3⟩, ⟨NE.new h0 ⟨_, rfl, Nat.le_refl _⟩⟩, ⟨NE.new h0 ⟨_, rfl, Nat.le_succ _⟩⟩, ⟨below_step hb k3⟩⟩
theorem made_b {w0 w1 : World} {n : Nat} (hn : n ≤ 5) {u : Value} {o : List Int} (h0 : T w0.heap.size w1 u o) (hb : Below w0.heap.size w0 w1) :
  Made w0 n u (.slice (some ⟨w1.heap.size + 1, 0, none⟩) n n) (.slice (some ⟨w1.heap.size, 0, none⟩) n n) o ((w1.alloc (.cells (madeCells #[.bool false] n) 4)).alloc (.cells (madeCells #[.int .i64 0] n) 2)).drew := by
 have hs := hb.size
 have t6 := TB.made (B := w0.heap.size) w1 n hn hs
 have t5 := T.made (B := w0.heap.size) (w1.alloc (.cells (madeCells #[.bool false] n) 4)) n hn (by simp; omega)
 rw [World.size_alloc] at t5
 have k2 := (below_alloc (Below.refl (w1.alloc (.cells (madeCells #[.bool false] n) 4)).heap.size (w1.alloc (.cells (madeCells #[.bool false] n) 4))) (.cells (madeCells #[.int .i64 0] n) 2)).drew
 have k3 := (below_alloc (below_alloc (Below.refl w1.heap.size w1) (.cells (madeCells #[.bool false] n) 4)) (.cells (madeCells #[.int .i64 0] n) 2)).drew
 exact ⟨_, _, rfl, rfl, ⟨by omega⟩, ⟨by omega⟩, ⟨hs⟩, ⟨Kd.R_drew t5⟩, ⟨t6.below k2⟩, ⟨h0.below k3⟩, ⟨NE.new h0 ⟨_, rfl, Nat.le_succ _⟩⟩, ⟨NE.new h0 ⟨_, rfl, Nat.le_refl _⟩⟩, ⟨below_step hb k3⟩⟩
theorem NE.types {B : Nat} {W : World} {u v : Value} {xs : List Int} {bs : List Bool} (h : T B W u xs) (hv : TB B W v bs) : NE u v := by
 intro k hk hv'
 obtain ⟨c1, e1⟩ := Kd.R_typed h k hk
 obtain ⟨c2, e2⟩ := Kd.R_typed hv k hv'
 rw [e1] at e2; simp at e2
theorem T.lower {B B' : Nat} {W : World} {v : Value} {xs : List Int} (h : T B W v xs) (hb : B' ≤ B) : T B' W v xs := Kd.R_lower h hb
theorem two_a {B : Nat} {W : World} {u : Value} {o hs : List Int} {kn : List Bool} {g5 g6 n : Nat} (h0 : T B W u o) (h5 : T B W (.slice (some ⟨g5, 0, none⟩) n n) hs) (h6 : TB B W (.slice (some ⟨g6, 0, none⟩) n n) kn) (hne : g5 ≠ g6) (m5 : NE u (.slice (some ⟨g5, 0, none⟩) n n)) (m6 : NE u (.slice (some ⟨g6, 0, none⟩) n n)) (i : Nat) (x : Int) (b : Bool) :
  T B ((W.setCell ⟨g5, i, none⟩ (.int .i64 x)).setCell ⟨g6, i, none⟩ (.bool b)) u o ∧ T B ((W.setCell ⟨g5, i, none⟩ (.int .i64 x)).setCell ⟨g6, i, none⟩ (.bool b)) (.slice (some ⟨g5, 0, none⟩) n n) (hs.set i x) ∧ TB B ((W.setCell ⟨g5, i, none⟩ (.int .i64 x)).setCell ⟨g6, i, none⟩ (.bool b)) (.slice (some ⟨g6, 0, none⟩) n n) (kn.set i b) := by
 obtain ⟨p5, q5⟩ := h5.put i x
 have p6 := TB.grown (v := .slice (some ⟨g5, 0, none⟩) n n) h6 q5 (NE.of (n1 := n) (c1 := n) (n2 := n) (c2 := n) (Ne.symm hne))
 obtain ⟨r6, q6⟩ := p6.put i b
 exact ⟨T.grown (v := .slice (some ⟨g6, 0, none⟩) n n) (T.grown (v := .slice (some ⟨g5, 0, none⟩) n n) h0 q5 m5) q6 m6, T.grown (v := .slice (some ⟨g6, 0, none⟩) n n) p5 q6 (NE.of (n1 := n) (c1 := n) (n2 := n) (c2 := n) hne), r6⟩
set_option maxHeartbeats 4000000 in
set_option maxRecDepth 100000 in
theorem heights_any (n : Nat) (l : List S32) (hv : surveyB n l = true) (A : Option Addr) (c : Nat) (w : World) (hr : Kd.C k32 w A l.length l) (hc : l.length ≤ c) :
  Calls Try.prog 76 #[.agg #[.int .i64 n, .slice A l.length c]] w fun e w' => ∃ v, e = .returned v ∧ T w.heap.size w' v (hgt n l) ∧ Below w.heap.size w w' := by
 have hn5 : n ≤ 5 := by have := valid_pts hv; omega
 have hn2 : 2 ≤ n := by have := valid_pts hv; omega
 have hl8 : l.length ≤ 8 := by have := valid_pts hv; omega
 have hu32 := Try.underlying32
 have hu26 := Try.underlying26
 have HV := Aside0.mk hv
 have hbx := below_alloc (Below.refl w.heap.size w) (.cells #[.int .i64 n, .slice A l.length c] 26)
 have HR := Aside0.mk (Kd.C_below hr hbx)
 have HB := Aside0.mk hbx
 have hcall := tree_any n l hv A c _ (Kd.C_below hr hbx) hc
 have HX := Aside0.mk (heap_alloc_new w (.cells #[.int .i64 n, .slice A l.length c] 26))
 clear hr hv hbx
 go_enter Try.func76, Try.ntmps76
 go_wp2_with (go_at_call 75; refine hcall.mono ?_; rintro e w1 ⟨v0, v1, rfl, h0, hb1⟩)
 have hcx0 : w1.cell? ⟨w.heap.size, 0, none⟩ = some (.int .i64 n) := (blk_cell (blk_below HX.out hb1) 0).trans rfl
 have hm1 := mk47 n hn5
 have hm2 := mk83 n hn5
 have hB0 : w1.heap[w.heap.size]? = some (.cells #[.int .i64 n, .slice A l.length c] 26 (0, 0)) := blk_below HX.out hb1
 have hca : (w1.alloc (.cells (madeCells #[.int .i64 0] n) 2)).cell? ⟨w.heap.size, 0, none⟩ = some (.int .i64 n) := (blk_cell (blk_alloc hB0 _) 0).trans rfl
 have hcb : (w1.alloc (.cells (madeCells #[.bool false] n) 4)).cell? ⟨w.heap.size, 0, none⟩ = some (.int .i64 n) := (blk_cell (blk_alloc hB0 _) 0).trans rfl
 obtain ⟨Ao, co, rfl⟩ := Kd.R_slice h0
 have H0 := Aside0.mk h0
 have HB1 := Aside0.mk hb1
 have HB0 := Aside0.mk hB0
 clear h0 hb1 hB0 hcall
 go_cut [5, 6] from 15 to 20 (fun v5 v6 wz => Made (W0 n A l.length c w) n (.slice Ao (treeG n l).out.length co) v5 v6 (treeG n l).out wz)
 case first =>
  go_region
  all_goals go_wp2_with (fail)
  all_goals go_meet
  ·exact made_a hn5 H0.out HB1.out
  ·exact made_b hn5 H0.out HB1.out
 case rest =>
  clear hcx0 hm1 hm2 hca hcb H0 HB1 HB0
  obtain ⟨g5, g6, rfl, rfl, hne, hg5, hg6, t5, t6, t0, m5, m6, hb⟩ := hcut
  obtain ⟨hz0, hz1⟩ := t6.out.cell 0 (by omega)
  have s6 := Aside0.mk (t6.out.put 0 true)
  have s5 := Aside0.mk (T.grown (v := .slice (some ⟨g6, 0, none⟩) n n) t5.out s6.out.2 (NE.of (n1 := n) (c1 := n) (n2 := n) (c2 := n) hne.out))
  have s0 := Aside0.mk (T.grown (v := .slice (some ⟨g6, 0, none⟩) n n) t0.out s6.out.2 m6.out)
  have sb := Aside0.mk (hb.out.setCell (p := ⟨g6, 0, none⟩) hg6.out (.bool true))
  have hol := Nat.le_trans (atG_out n l l.length) hl8
  change (treeG n l).out.length ≤ 8 at hol
  have HO := Aside0.mk (out_at n l)
  have HL := Aside0.mk (inH_len n l (treeG n l).out)
  have HI := Aside0.mk (inH_succ n l (treeG n l).out)
  clear t5 t6 t0 hb
  go_wp2_with (fail)
  clear hz0 hz1
  go_loopw [25] (fun v25 wz => ∃ i : Nat, i ≤ (treeG n l).out.length ∧ v25 = .int .i64 i ∧ Aside0 (T (W0 n A l.length c w).heap.size wz (.slice Ao (treeG n l).out.length co) (treeG n l).out) ∧ Aside0 (T (W0 n A l.length c w).heap.size wz (.slice (some ⟨g5, 0, none⟩) n n) (itH n l (treeG n l).out i).h) ∧ Aside0 (TB (W0 n A l.length c w).heap.size wz (.slice (some ⟨g6, 0, none⟩) n n) (itH n l (treeG n l).out i).kn) ∧ Aside0 (Below (W0 n A l.length c w).heap.size (W0 n A l.length c w) wz)) (fun v _ => (treeG n l).out.length - (intOf v).toNat)
  case atStart => exact ⟨0, by omega, rfl, s0, s5, ⟨s6.out.1⟩, sb⟩
  case round =>
   clear s0 s5 s6 sb
   obtain ⟨i, hi, rfl, r0, r5, r6, rb⟩ := hrel
   by_cases hlt : i < (treeG n l).out.length
   ·have hlt' : decide ((i : Int) < ((treeG n l).out.length : Int)) = true := by simpa using hlt
    go_wp2_with (fail)
    go_loopw [29] (fun v29 wz => ∃ j : Nat, j ≤ (treeG n l).out.length ∧ v29 = .int .i64 j ∧ Aside0 (T (W0 n A l.length c w).heap.size wz (.slice Ao (treeG n l).out.length co) (treeG n l).out) ∧ Aside0 (T (W0 n A l.length c w).heap.size wz (.slice (some ⟨g5, 0, none⟩) n n) (inH n l (treeG n l).out i j).h) ∧ Aside0 (TB (W0 n A l.length c w).heap.size wz (.slice (some ⟨g6, 0, none⟩) n n) (inH n l (treeG n l).out i j).kn) ∧ Aside0 (Below (W0 n A l.length c w).heap.size (W0 n A l.length c w) wz)) (fun v _ => (treeG n l).out.length - (intOf v).toNat)
    case atStart => exact ⟨0, by omega, rfl, r0, ⟨by rw [inH_zero]; exact r5.out⟩, ⟨by rw [inH_zero]; exact r6.out⟩, rb⟩
    case round =>
     clear r0 r5 r6 rb
     obtain ⟨j, hj, rfl, r0, r5, r6, rb⟩ := hrel
     by_cases hjt : j < (treeG n l).out.length
     ·have hjt' : decide ((j : Int) < ((treeG n l).out.length : Int)) = true := by simpa using hjt
      obtain ⟨ao, rfl, hy⟩ := Kd.at_int (Kd.R_reads' r0.out).2.2 (j : Int) (by omega) (by omega)
      simp only [Int.toNat_natCast] at hy
      obtain ⟨hk0, hk1⟩ := HO.out j hjt
      have HS := Aside0.mk (HI.out i j hjt)
      obtain ⟨k, hk⟩ : ∃ k, k = rd (treeG n l).out j := ⟨_, rfl⟩
      rw [← hk] at hy hk0 hk1 HS
      clear hk
      have hr1 := Kd.C_below HR.out rb.out
      obtain ⟨ad, rfl, hx0, hx1, hx2, hx3⟩ := at_T32 hr1 k hk0 hk1
      clear hr1
      have HS2 := Aside0.mk (HS.out.trans (show stepH l (inH n l (treeG n l).out i j) k = _ from rfl))
      have hva := valid_at HV.out k.toNat (by omega)
      rw [Int.toNat_of_nonneg hk0] at hva
      obtain ⟨hs0, hs1, hs2, hs3⟩ := hva
      have HE := Aside0.mk (show stepH l (inH n l (treeG n l).out i j) k = if rdOf false (inH n l (treeG n l).out i j).kn (rd_T32 l k).f0 = true ∧ rdOf false (inH n l (treeG n l).out i j).kn (rd_T32 l k).f1 = false then ⟨(inH n l (treeG n l).out i j).h.set (rd_T32 l k).f1.toNat (wrap64 (rd (inH n l (treeG n l).out i j).h (rd_T32 l k).f0 + (rd_T32 l k).f2)), (inH n l (treeG n l).out i j).kn.set (rd_T32 l k).f1.toNat true⟩
       else if rdOf false (inH n l (treeG n l).out i j).kn (rd_T32 l k).f1 = true ∧ rdOf false (inH n l (treeG n l).out i j).kn (rd_T32 l k).f0 = false then ⟨(inH n l (treeG n l).out i j).h.set (rd_T32 l k).f0.toNat (wrap64 (rd (inH n l (treeG n l).out i j).h (rd_T32 l k).f1 - (rd_T32 l k).f2)), (inH n l (treeG n l).out i j).kn.set (rd_T32 l k).f0.toNat true⟩
       else inH n l (treeG n l).out i j from rfl)
      rw [HE.out] at HS
      clear HS2 HE
      obtain ⟨st, hst⟩ : ∃ st, st = inH n l (treeG n l).out i j := ⟨_, rfl⟩
      obtain ⟨s, hs⟩ : ∃ s, s = rd_T32 l k := ⟨_, rfl⟩
      have hlh : st.h.length = n ∧ st.kn.length = n := by rw [hst]; exact HL.out i j
      rw [← hst] at r5 r6 HS
      rw [← hs] at hx0 hx1 hx2 hx3 hs0 hs1 hs2 hs3 HS
      clear hst hs
      have hl5 : g5 < wr.heap.size := r5.out.lt rfl
      have hl6 : g6 < wr.heap.size := r6.out.lt rfl
      have hb0 : wr.heap[w.heap.size]? = some (.cells #[.int .i64 n, .slice (some ad) l.length c] 26 (0, 0)) := blk_below HX.out rb.out
      have hcw : wr.cell? ⟨w.heap.size, 1, none⟩ = some (.slice (some ad) l.length c) := (blk_cell hb0 1).trans rfl
      have hbl := below_alloc (Below.refl wr.heap.size wr) (.cells #[.int .i64 s.f0, .int .i64 s.f1, .int .i64 s.f2, .int .i64 s.f3] 32)
      obtain ⟨p0, p1⟩ := Kd.R_celln 0 r5.out s.f0 hs0 hs1
      obtain ⟨p2, p3⟩ := Kd.R_celln 0 r5.out s.f1 hs2 hs3
      obtain ⟨q0, q1⟩ := Kd.R_celln false r6.out s.f0 hs0 hs1
      obtain ⟨q2, q3⟩ := Kd.R_celln false r6.out s.f1 hs2 hs3
      change wr.cell? ⟨g5, s.f0.toNat, none⟩ = some (.int .i64 (rd st.h s.f0)) at p0
      change wr.cell? ⟨g5, s.f1.toNat, none⟩ = some (.int .i64 (rd st.h s.f1)) at p2
      have hn1 : g5 ≠ g6 := hne.out
      have hn2 : g6 ≠ g5 := hn1.symm
      cases ha : rdOf false st.kn s.f0 <;> cases hb : rdOf false st.kn s.f1
      ·rw [ha] at q0; rw [hb] at q2
       have HN := Aside0.mk (show inH n l (treeG n l).out i (j + 1) = st by rw [HS.out, ha, hb]; simp)
       clear ha hb
       go_wp2_with (fail)
       go_roundw
       case rel => exact ⟨j + 1, by omega, by go_num, ⟨r0.out.below hbl⟩, ⟨by rw [HN.out]; exact r5.out.below hbl⟩, ⟨by rw [HN.out]; exact r6.out.below hbl⟩, ⟨below_step rb.out hbl⟩⟩
       case measure => simp [intOf]; omega
      ·rw [ha] at q0; rw [hb] at q2
       have HN := Aside0.mk (show inH n l (treeG n l).out i (j + 1) = ⟨st.h.set s.f0.toNat (wrap64 (rd st.h s.f1 - s.f2)), st.kn.set s.f0.toNat true⟩ by rw [HS.out, ha, hb]; simp)
       have hA := Aside0.mk (two_a r0.out r5.out r6.out hn1 m5.out m6.out s.f0.toNat (wrap64 (rd st.h s.f1 - s.f2)) true)
       have kA := Aside0.mk (below_drew (below_alloc ((rb.out.setCell (p := ⟨g5, s.f0.toNat, none⟩) hg5.out (.int .i64 (wrap64 (rd st.h s.f1 - s.f2)))).setCell (p := ⟨g6, s.f0.toNat, none⟩) hg6.out (.bool true)) (.cells #[.int .i64 s.f0, .int .i64 s.f1, .int .i64 s.f2, .int .i64 s.f3] 32)))
       clear ha hb
       go_wp2_with (fail)
       go_region
       all_goals go_wp2_with (fail)
       ·go_roundw
        case rel => exact ⟨j + 1, by omega, by go_num, ⟨Kd.R_drew (Kd.R_alloc hA.out.1 _)⟩, ⟨by rw [HN.out]; exact Kd.R_drew (Kd.R_alloc hA.out.2.1 _)⟩, ⟨by rw [HN.out]; exact Kd.R_drew (Kd.R_alloc hA.out.2.2 _)⟩, kA⟩
        case measure => simp [intOf]; omega
      ·rw [ha] at q0; rw [hb] at q2
       have HN := Aside0.mk (show inH n l (treeG n l).out i (j + 1) = ⟨st.h.set s.f1.toNat (wrap64 (rd st.h s.f0 + s.f2)), st.kn.set s.f1.toNat true⟩ by rw [HS.out, ha, hb]; simp)
       have hA := Aside0.mk (two_a r0.out r5.out r6.out hn1 m5.out m6.out s.f1.toNat (wrap64 (rd st.h s.f0 + s.f2)) true)
       have kA := Aside0.mk (below_drew (below_alloc ((rb.out.setCell (p := ⟨g5, s.f1.toNat, none⟩) hg5.out (.int .i64 (wrap64 (rd st.h s.f0 + s.f2)))).setCell (p := ⟨g6, s.f1.toNat, none⟩) hg6.out (.bool true)) (.cells #[.int .i64 s.f0, .int .i64 s.f1, .int .i64 s.f2, .int .i64 s.f3] 32)))
       clear ha hb
       go_wp2_with (fail)
       go_region
       all_goals go_wp2_with (fail)
       ·go_roundw
        case rel => exact ⟨j + 1, by omega, by go_num, ⟨Kd.R_drew (Kd.R_alloc hA.out.1 _)⟩, ⟨by rw [HN.out]; exact Kd.R_drew (Kd.R_alloc hA.out.2.1 _)⟩, ⟨by rw [HN.out]; exact Kd.R_drew (Kd.R_alloc hA.out.2.2 _)⟩, kA⟩
        case measure => simp [intOf]; omega
      ·rw [ha] at q0; rw [hb] at q2
       have HN := Aside0.mk (show inH n l (treeG n l).out i (j + 1) = st by rw [HS.out, ha, hb]; simp)
       clear ha hb
       go_wp2_with (fail)
       go_roundw
       case rel => exact ⟨j + 1, by omega, by go_num, ⟨r0.out.below hbl⟩, ⟨by rw [HN.out]; exact r5.out.below hbl⟩, ⟨by rw [HN.out]; exact r6.out.below hbl⟩, ⟨below_step rb.out hbl⟩⟩
       case measure => simp [intOf]; omega
     ·obtain rfl : j = (treeG n l).out.length := by omega
      have hjt' : decide (((treeG n l).out.length : Int) < ((treeG n l).out.length : Int)) = false := by simp
      go_wp2_with (fail)
      go_roundw
      case rel => exact ⟨i + 1, by omega, by go_num, r0, ⟨by rw [← inH_all]; exact r5.out⟩, ⟨by rw [← inH_all]; exact r6.out⟩, rb⟩
      case measure => simp [intOf]; omega
   ·obtain rfl : i = (treeG n l).out.length := by omega
    have hlt' : decide (((treeG n l).out.length : Int) < ((treeG n l).out.length : Int)) = false := by simp
    go_wp2_with (fail)
    go_ret
    exact ⟨_, rfl, T.lower r5.out HB.out.size, below_weaken HB.out (by simp) rb.out⟩
end Go.Proofs.Ytkafbmanmffliaa.He

/- The program's heights and the reference's are the same in a connected survey. -/
namespace Go.Proofs.Ytkafbmanmffliaa.PuH
open Go.RowKit YtkafbmanmffliaaW.PrintWords Q PuT Hb Hc Hd He
theorem rd_newHts (part hts : List Int) (a b lf : Int) (x : Nat) (h1 : x < part.length) (h2 : x < hts.length) : rd (newHts part hts a b lf) x = if rd part x = mxI a b then wrap64 (rd hts x + lf) else rd hts x := by
 have h3 : x < (newHts part hts a b lf).length := by simp [newHts]; omega
 rw [rd_nat _ _ h3, rd_nat _ _ h1, rd_nat _ _ h2]; simp [newHts]
structure HI (n : Nat) (l : List S32) (st : St) : Prop where
 ll : st.hts.length = n
 ch : ∀ j ∈ st.out, ∃ u v : Nat, u < n ∧ v < n ∧ (rd_T32 l j).f0 = u ∧ (rd_T32 l j).f1 = v ∧ rd st.part u = rd st.part v ∧ wrap64 (rd st.hts u + (rd_T32 l j).f2) = rd st.hts v
 rp : ∀ x : Nat, x < n → rd st.part x = x → rd st.hts x = 0
 wr : ∀ x : Nat, x < n → wrap64 (rd st.hts x) = rd st.hts x
 cl : ∀ K : Nat → Prop, (∀ j ∈ st.out, (K (rd_T32 l j).f0.toNat ↔ K (rd_T32 l j).f1.toNat)) → ∀ x y : Nat, x < n → y < n → rd st.part x = rd st.part y → (K x ↔ K y)
theorem hi_start (n : Nat) (l : List S32) : HI n l (Hd.start n) where
 ll := by simp [Hd.start]
 ch := fun j hj => by simp [Hd.start] at hj
 rp := fun x hx _ => by simp only [Hd.start, Int.toNat_natCast]; rw [rd_nat _ _ (by simpa using hx)]; simp
 wr := fun x hx => by simp only [Hd.start, Int.toNat_natCast]; rw [rd_nat _ _ (by simpa using hx)]; simp [wrap64]
 cl := fun K _ x y hx hy h => by
  simp only [Hd.start, Int.toNat_natCast] at h
  rw [rd_range n x hx, rd_range n y hy] at h
  obtain rfl : x = y := by omega
  exact Iff.rfl
theorem hi_step {n : Nat} {l : List S32} {st : St} {sg : Sg} (hi : HI n l st) (h : Inv n st.out st.part sg.grp) (i : Nat) (_ : i < l.length) (h0 : 0 ≤ (rd_T32 l i).f0) (h1 : (rd_T32 l i).f0 < n) (h2 : 0 ≤ (rd_T32 l i).f1) (h3 : (rd_T32 l i).f1 < n) :
  HI n l (Hd.step st (rd_T32 l i, i)) := by
 obtain ⟨s, hs⟩ : ∃ s, s = rd_T32 l i := ⟨_, rfl⟩
 rw [← hs] at h0 h1 h2 h3 ⊢
 obtain ⟨u, hu⟩ : ∃ u : Nat, s.f0 = (u : Int) := ⟨s.f0.toNat, by omega⟩
 obtain ⟨v, hv⟩ : ∃ v : Nat, s.f1 = (v : Int) := ⟨s.f1.toNat, by omega⟩
 rw [hu] at h1; rw [hv] at h3
 have hun : u < n := by omega
 have hvn : v < n := by omega
 clear h0 h1 h2 h3
 unfold Hd.step
 simp only [hu, hv]
 by_cases hab : rd st.part u = rd st.part v
 ·rw [if_pos hab]; exact hi
 ·rw [if_neg hab]
  have hmm : (mnI (rd st.part u) (rd st.part v) = rd st.part u ∧ mxI (rd st.part u) (rd st.part v) = rd st.part v) ∨ (mnI (rd st.part u) (rd st.part v) = rd st.part v ∧ mxI (rd st.part u) (rd st.part v) = rd st.part u) := by
   unfold mnI mxI; split <;> split <;> omega
  have hlt : mnI (rd st.part u) (rd st.part v) < mxI (rd st.part u) (rd st.part v) := by unfold mnI mxI; split <;> split <;> omega
  have hP : ∀ y : Nat, y < n → rd (newPart st.part (rd st.part u) (rd st.part v)) y = if rd st.part y = mxI (rd st.part u) (rd st.part v) then mnI (rd st.part u) (rd st.part v) else rd st.part y := fun y hy => rd_map _ _ _ (by rw [h.lp]; exact hy)
  have rmn : rd st.part (mnI (rd st.part u) (rd st.part v)) = mnI (rd st.part u) (rd st.part v) := by
   rcases hmm with ⟨e, _⟩ | ⟨e, _⟩ <;> rw [e]
   ·exact h.rep u hun
   ·exact h.rep v hvn
  obtain ⟨lf, hlf⟩ : ∃ lf, lf = liftOf st s := ⟨_, rfl⟩
  have hH : ∀ y : Nat, y < n → rd (newHts st.part st.hts (rd st.part u) (rd st.part v) lf) y = if rd st.part y = mxI (rd st.part u) (rd st.part v) then wrap64 (rd st.hts y + lf) else rd st.hts y := fun y hy => rd_newHts _ _ _ _ _ _ (by rw [h.lp]; exact hy) (by rw [hi.ll]; exact hy)
  have hnew : wrap64 (rd (newHts st.part st.hts (rd st.part u) (rd st.part v) lf) u + s.f2) = rd (newHts st.part st.hts (rd st.part u) (rd st.part v) lf) v := by
   rw [hH u hun, hH v hvn]
   have w1 := hi.wr u hun
   have w2 := hi.wr v hvn
   unfold liftOf at hlf
   simp only [hu, hv] at hlf
   generalize rd st.hts u = x at *
   generalize rd st.hts v = y at *
   generalize rd st.part u = a at *
   generalize rd st.part v = b at *
   unfold mxI
   by_cases hba : b < a
   ·rw [if_pos hba] at hlf ⊢
    rw [if_pos rfl, if_neg (fun e => hab e.symm), hlf]
    unfold wrap64 at *
    omega
   ·rw [if_neg hba] at hlf ⊢
    rw [if_neg hab, if_pos rfl, hlf]
    unfold wrap64 at *
    omega
  have hold : ∀ y z : Nat, y < n → z < n → rd st.part y = rd st.part z → ∀ r : Int, wrap64 (rd st.hts y + r) = rd st.hts z → wrap64 (rd (newHts st.part st.hts (rd st.part u) (rd st.part v) lf) y + r) = rd (newHts st.part st.hts (rd st.part u) (rd st.part v) lf) z := by
   intro y z hy hz hyz r hr
   rw [hH y hy, hH z hz, ← hyz]
   split
   ·generalize rd st.hts y = p at *
    generalize rd st.hts z = q at *
    clear hnew hlf
    unfold wrap64 at *
    omega
   ·exact hr
  rw [← hlf]
  refine ⟨by rw [newHts_len _ _ _ _ _ (by rw [h.lp, hi.ll])]; exact hi.ll, ?_, ?_, ?_, ?_⟩
  ·intro j hj
   simp only [List.mem_append, List.mem_singleton] at hj
   rcases hj with hj | rfl
   ·obtain ⟨y, z, hy, hz, e0, e1, e2, e3⟩ := hi.ch j hj
    exact ⟨y, z, hy, hz, e0, e1, by rw [hP y hy, hP z hz, e2], hold y z hy hz e2 _ e3⟩
   ·refine ⟨u, v, hun, hvn, by rw [← hs]; exact hu, by rw [← hs]; exact hv, ?_, by rw [← hs]; exact hnew⟩
    rw [hP u hun, hP v hvn]
    rcases hmm with ⟨e1, e2⟩ | ⟨e1, e2⟩
    ·rw [e1, e2, if_neg hab, if_pos rfl]
    ·rw [e1, e2, if_pos rfl, if_neg (fun e => hab e.symm)]
  ·intro x hx hpx
   rw [hP x hx] at hpx
   rw [hH x hx]
   by_cases e : rd st.part x = mxI (rd st.part u) (rd st.part v)
   ·rw [if_pos e] at hpx
    rw [hpx] at rmn
    omega
   ·rw [if_neg e] at hpx ⊢
    exact hi.rp x hx hpx
  ·intro x hx
   rw [hH x hx]
   split
   ·unfold wrap64; omega
   ·exact hi.wr x hx
  ·intro K hK x y hx hy hxy
   have hK1 : ∀ j ∈ st.out, (K (rd_T32 l j).f0.toNat ↔ K (rd_T32 l j).f1.toNat) := fun j hj => hK j (by simp [hj])
   have hK2 : K u ↔ K v := by
    have := hK i (by simp)
    rw [← hs, hu, hv] at this
    simpa using this
   have hc := hi.cl K hK1
   simp only [] at hxy
   rw [hP x hx, hP y hy, merge_eq hab hmm] at hxy
   rcases hxy with e | ⟨e1, e2⟩
   ·exact hc x y hx hy e
   ·rcases e1 with e1 | e1 <;> rcases e2 with e2 | e2
    ·exact hc x y hx hy (e1.trans e2.symm)
    ·exact (hc x u hx hun e1).trans (hK2.trans (hc y v hy hvn e2).symm)
    ·exact (hc x v hx hvn e1).trans (hK2.symm.trans (hc y u hy hun e2).symm)
    ·exact hc x y hx hy (e1.trans e2.symm)
theorem hi_at {n : Nat} {l : List S32} (hv : surveyB n l = true) : ∀ k, k ≤ l.length → HI n l (at_ n l k) := by
 intro k
 induction k with
 | zero => intro _; rw [at_zero]; exact hi_start n l
 | succ k ih =>
  intro hk
  obtain ⟨a, b, c, d⟩ := valid_at hv k (by omega)
  rw [at_succ n l k (by omega)]
  exact hi_step (ih (by omega)) (inv_at hv k (by omega)).1 k (by omega) a b c d
theorem rdB_nat (l : List Bool) (k : Nat) (h : k < l.length) : rdOf false l k = l[k] := by simp [rdOf, List.getD_eq_getElem?_getD, h]
theorem rdB_set (l : List Bool) (i k : Nat) (b : Bool) (h : k < l.length) : rdOf false (l.set i b) k = if i = k then b else rdOf false l k := by
 rw [rdB_nat _ _ (by simpa using h), rdB_nat _ _ h, List.getElem_set]
theorem rd_set (l : List Int) (i k : Nat) (x : Int) (h : k < l.length) : rd (l.set i x) k = if i = k then x else rd l k := by
 rw [rd_nat _ _ (by simpa using h), rd_nat _ _ h, List.getElem_set]
def InP (n : Nat) (l : List S32) (j : Int) : Prop := ∃ u v : Nat, u < n ∧ v < n ∧ (rd_T32 l j).f0 = u ∧ (rd_T32 l j).f1 = v
structure KI (n : Nat) (H : Nat → Int) (st : Sh) : Prop where
 lh : st.h.length = n
 lk : st.kn.length = n
 ok : ∀ x : Nat, x < n → rdOf false st.kn x = true → rd st.h x = H x
theorem step_cases {n : Nat} {l : List S32} {j : Int} {st : Sh} (hl : st.kn.length = n) (hp : InP n l j) :
  (stepH l st j = st ∧ rdOf false st.kn (rd_T32 l j).f0 = rdOf false st.kn (rd_T32 l j).f1) ∨ (stepH l st j).kn.count true = st.kn.count true + 1 := by
 obtain ⟨u, v, hu, hv, e0, e1⟩ := hp
 unfold stepH
 rw [e0, e1]
 cases ha : rdOf false st.kn u <;> cases hb : rdOf false st.kn v
 ·exact .inl ⟨by simp, rfl⟩
 ·refine .inr ?_
  simp only [Bool.false_eq_true, false_and, if_false, and_self, if_true, Int.toNat_natCast]
  rw [rdB_nat _ _ (by omega)] at ha
  rw [List.count_set (by omega), ha]; simp
 ·refine .inr ?_
  simp only [and_self, if_true, Int.toNat_natCast]
  rw [rdB_nat _ _ (by omega)] at hb
  rw [List.count_set (by omega), hb]; simp
 ·exact .inl ⟨by simp, rfl⟩
theorem step_ki {n : Nat} {l : List S32} {j : Int} {st : Sh} {H : Nat → Int} (h : KI n H st) (hp : InP n l j) (hH : ∀ u v : Nat, (rd_T32 l j).f0 = u → (rd_T32 l j).f1 = v → wrap64 (H u + (rd_T32 l j).f2) = H v ∧ wrap64 (H u) = H u) : KI n H (stepH l st j) := by
 obtain ⟨u, v, hu, hv, e0, e1⟩ := hp
 obtain ⟨h1, h2⟩ := hH u v e0 e1
 refine ⟨by rw [(stepH_len l st j).1]; exact h.lh, by rw [(stepH_len l st j).2]; exact h.lk, ?_⟩
 unfold stepH
 rw [e0, e1]
 cases ha : rdOf false st.kn u <;> cases hb : rdOf false st.kn v
 ·simpa using h.ok
 ·simp only [Bool.false_eq_true, false_and, if_false, and_self, if_true, Int.toNat_natCast]
  intro x hx hk
  rw [rdB_set _ _ _ _ (by rw [h.lk]; exact hx)] at hk
  rw [rd_set _ _ _ _ (by rw [h.lh]; exact hx)]
  by_cases e : u = x
  ·subst e
   rw [if_pos rfl, h.ok v hv hb]
   generalize H u = p at *
   generalize H v = q at *
   unfold wrap64 at *
   omega
  ·rw [if_neg e] at hk ⊢
   exact h.ok x hx hk
 ·simp only [and_self, if_true, Int.toNat_natCast]
  intro x hx hk
  rw [rdB_set _ _ _ _ (by rw [h.lk]; exact hx)] at hk
  rw [rd_set _ _ _ _ (by rw [h.lh]; exact hx)]
  by_cases e : v = x
  ·subst e
   rw [if_pos rfl, h.ok u hu ha]
   exact h1
  ·rw [if_neg e] at hk ⊢
   exact h.ok x hx hk
 ·simpa using h.ok
theorem fold_cases {n : Nat} {l : List S32} : ∀ (o : List Int) (st : Sh), st.kn.length = n → (∀ j ∈ o, InP n l j) →
  (o.foldl (stepH l) st = st ∧ ∀ j ∈ o, rdOf false st.kn (rd_T32 l j).f0 = rdOf false st.kn (rd_T32 l j).f1) ∨ st.kn.count true + 1 ≤ (o.foldl (stepH l) st).kn.count true := by
 intro o
 induction o with
 | nil => intro st _ _; exact .inl ⟨rfl, fun j hj => by cases hj⟩
 | cons x xs ih =>
  intro st hl hp
  simp only [List.foldl_cons]
  have hx := step_cases hl (hp x (by simp))
  have hr := ih (stepH l st x) (by rw [(stepH_len l st x).2]; exact hl) (fun j hj => hp j (by simp [hj]))
  rcases hx with ⟨e1, e2⟩ | e1
  ·rw [e1] at hr ⊢
   rcases hr with ⟨e3, e4⟩ | e3
   ·refine .inl ⟨e3, ?_⟩
    intro j hj
    rcases List.mem_cons.1 hj with rfl | hj
    ·exact e2
    ·exact e4 j hj
   ·exact .inr e3
  ·rcases hr with ⟨e3, _⟩ | e3
   ·rw [e3]; exact .inr (by omega)
   ·exact .inr (by omega)
theorem fold_ki {n : Nat} {l : List S32} {H : Nat → Int} : ∀ (o : List Int) (st : Sh), KI n H st → (∀ j ∈ o, InP n l j) → (∀ j ∈ o, ∀ u v : Nat, (rd_T32 l j).f0 = u → (rd_T32 l j).f1 = v → wrap64 (H u + (rd_T32 l j).f2) = H v ∧ wrap64 (H u) = H u) → KI n H (o.foldl (stepH l) st) := by
 intro o
 induction o with
 | nil => intro st h _ _; exact h
 | cons x xs ih =>
  intro st h hp hH
  simp only [List.foldl_cons]
  exact ih _ (step_ki h (hp x (by simp)) (hH x (by simp))) (fun j hj => hp j (by simp [hj])) (fun j hj => hH j (by simp [hj]))
theorem hgt_eq {n : Nat} {l : List S32} (hv : surveyB n l = true) (hc : (treeS n l).part.all (· == 0) = true) : hgt n l = (treeS n l).hts := by
 have hn := valid_pts hv
 have hi := hi_at hv l.length (Nat.le_refl _)
 have hinv := (inv_at hv l.length (Nat.le_refl _)).1
 rw [at_all] at hi hinv
 have ho := out_eq hv
 have hlen := (conn_eq hv).1 hc
 have hz : ∀ x : Nat, x < n → rd (treeS n l).part x = 0 := by
  intro x hx
  rw [List.all_eq_true] at hc
  have hx' : x < (treeS n l).part.length := by rw [hinv.lp]; exact hx
  have := hc (rd (treeS n l).part x) (by rw [rd_nat _ _ hx']; exact List.getElem_mem _)
  simpa using this
 have hP : ∀ j ∈ (treeG n l).out, InP n l j := by
  intro j hj
  rw [← ho] at hj
  obtain ⟨u, v, h1, h2, h3, h4, _⟩ := hi.ch j hj
  exact ⟨u, v, h1, h2, h3, h4⟩
 have hH : ∀ j ∈ (treeG n l).out, ∀ u v : Nat, (rd_T32 l j).f0 = u → (rd_T32 l j).f1 = v → wrap64 ((fun x : Nat => rd (treeS n l).hts x) u + (rd_T32 l j).f2) = (fun x : Nat => rd (treeS n l).hts x) v ∧ wrap64 ((fun x : Nat => rd (treeS n l).hts x) u) = (fun x : Nat => rd (treeS n l).hts x) u := by
  intro j hj u v hu hv'
  rw [← ho] at hj
  obtain ⟨u', v', h1, h2, h3, h4, _, h6⟩ := hi.ch j hj
  obtain rfl : u' = u := by rw [h3] at hu; omega
  obtain rfl : v' = v := by rw [h4] at hv'; omega
  exact ⟨h6, hi.wr u' h1⟩
 have hall : ∀ i : Nat, KI n (fun x : Nat => rd (treeS n l).hts x) (itH n l (treeG n l).out i) ∧ rdOf false (itH n l (treeG n l).out i).kn (0 : Nat) = true ∧ (i + 1 ≤ (itH n l (treeG n l).out i).kn.count true ∨ (itH n l (treeG n l).out i).kn.count true = n) := by
  intro i
  induction i with
  | zero =>
   simp only [itH, startH]
   have hk0 : rdOf false ((List.replicate n false).set 0 true) (0 : Nat) = true := by rw [rdB_set _ _ _ _ (by simp; omega)]; simp
   refine ⟨⟨by simp, by simp, ?_⟩, hk0, ?_⟩
   ·intro x hx hk
    rw [rdB_set _ _ _ _ (by simpa using hx)] at hk
    by_cases e : 0 = x
    ·subst e
     have h0 := hi.rp 0 (by omega) (by rw [hz 0 (by omega)]; rfl)
     rw [h0, rd_nat _ _ (by simp; omega)]; simp
    ·rw [if_neg e, rdB_nat _ _ (by simpa using hx)] at hk
     simp at hk
   ·left
    rw [List.count_set (by simp; omega)]; simp
  | succ i ih =>
   obtain ⟨h1, h2, h3⟩ := ih
   simp only [itH]
   have hki := fold_ki (treeG n l).out _ h1 hP hH
   have hle := List.count_le_length (a := true) (l := ((treeG n l).out.foldl (stepH l) (itH n l (treeG n l).out i)).kn)
   rw [hki.lk] at hle
   rcases fold_cases (treeG n l).out _ h1.lk hP with ⟨e1, e2⟩ | e1
   ·rw [e1]
    refine ⟨h1, h2, .inr ?_⟩
    have hcl := hi.cl (fun x => rdOf false (itH n l (treeG n l).out i).kn x = true) (by
     intro j hj
     rw [ho] at hj
     obtain ⟨u, v, hu, hv', q0, q1⟩ := hP j hj
     have := e2 j hj
     rw [q0, q1] at this ⊢
     simp only [Int.toNat_natCast]
     rw [this])
    have hk : ∀ x : Nat, x < n → rdOf false (itH n l (treeG n l).out i).kn x = true := fun x hx => (hcl 0 x (by omega) hx (by rw [hz x hx]; exact hz 0 (by omega))).1 h2
    refine (List.count_eq_length.2 ?_).trans h1.lk
    intro b hb
    obtain ⟨x, hx, rfl⟩ := List.getElem_of_mem hb
    have := hk x (Nat.lt_of_lt_of_eq hx h1.lk)
    rw [rdB_nat _ _ hx] at this
    exact this.symm
   ·refine ⟨hki, ?_, ?_⟩
    ·have hmono : ∀ (o : List Int) (st : Sh), st.kn.length = n → (∀ j ∈ o, InP n l j) → rdOf false st.kn (0 : Nat) = true → rdOf false (o.foldl (stepH l) st).kn (0 : Nat) = true := by
      intro o
      induction o with
      | nil => intro st _ _ h; exact h
      | cons x xs ih =>
       intro st hl hp h
       simp only [List.foldl_cons]
       refine ih _ (by rw [(stepH_len l st x).2]; exact hl) (fun j hj => hp j (by simp [hj])) ?_
       unfold stepH
       split
       ·simp only []; rw [rdB_set _ _ _ _ (by omega)]; split; (first | rfl | exact h); exact h
       ·split
        ·simp only []; rw [rdB_set _ _ _ _ (by omega)]; split; (first | rfl | exact h); exact h
        ·exact h
     exact hmono _ _ h1.lk hP h2
    ·rcases h3 with h3 | h3
     ·left; omega
     ·right; omega
 obtain ⟨h1, h2, h3⟩ := hall (treeG n l).out.length
 have hcnt : (itH n l (treeG n l).out (treeG n l).out.length).kn.count true = n := by
  have hle := List.count_le_length (a := true) (l := (itH n l (treeG n l).out (treeG n l).out.length).kn)
  rw [h1.lk] at hle
  omega
 unfold hgt
 apply List.ext_getElem
 ·rw [h1.lh, hi.ll]
 ·intro x hx1 hx2
  have hxn : x < n := Nat.lt_of_lt_of_eq hx1 h1.lh
  have hkx : rdOf false (itH n l (treeG n l).out (treeG n l).out.length).kn x = true := by
   have hcnt := hcnt.trans h1.lk.symm
   rw [List.count_eq_length] at hcnt
   rw [rdB_nat _ _ (by rw [h1.lk]; exact hxn)]
   exact (hcnt _ (List.getElem_mem _)).symm
  have := h1.ok x hxn hkx
  rw [rd_nat _ _ hx1, rd_nat _ _ hx2] at this
  exact this
end Go.Proofs.Ytkafbmanmffliaa.PuH

