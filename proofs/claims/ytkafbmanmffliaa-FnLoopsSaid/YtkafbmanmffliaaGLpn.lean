/- Parts of the proof that the law of this seat holds: Tl, Pl, Ex2, Pc, Pd, Q2, Q3, Q4, Q5. -/
import Derived.Test.YtkafbmanmffliaaGLpm
import Derived.Test.YtkafbmanmffliaaGLpa
set_option linter.unusedVariables false
set_option linter.unusedSimpArgs false
/- The program's TreeSights, TreeHeights, LoopErrors at connected surveys. -/
namespace Go.Proofs.Ytkafbmanmffliaa.Tl
open Go Go.RowKit YtkafbmanmffliaaW.PrintWords YtkafbmanmffliaaW.PrintLast YtkafbmanmffliaaW.PrintMore Q Gd Ge Gi Hb Hc Hd He Hv PuT
structure One (w0 wz : World) (bo co : Nat) (o : List Int) : Prop where
 ob : w0.heap.size ≤ bo
 oc : Cb wz 2 bo co (o.map (Value.int .i64))
 be : Below w0.heap.size w0 wz
section
variable {w0 wr wa w1 w2 : World} {bo co g1 cap1 : Nat} {o : List Int} {x : Int}
theorem One.below (h : One w0 wr bo co o) (hb : Below wr.heap.size wr w1) : One w0 w1 bo co o := ⟨h.ob, h.oc.below hb, below_step h.be hb⟩
theorem One.push (h : One w0 wr bo co o) (hb : Below wr.heap.size wr wa) (hc : Cb w2 2 g1 cap1 (o.map (Value.int .i64) ++ [.int .i64 x])) (hat : g1 = bo ∨ wa.heap.size ≤ g1) (hg : wa.grownBy w2 (some bo)) : One w0 w2 g1 cap1 (o ++ [x]) := by
 have hs := h.be.size
 have hs2 := hb.size
 have h1 := h.ob
 refine ⟨?_, by rw [List.map_append]; exact hc, below_grownB (below_step h.be hb) (Nat.le_refl _) hg h.ob⟩
 rcases hat with e | e <;> omega
end
def er (H : List Int) (s : S32) : Int := wrap64 (wrap64 (s.f2 - rd H s.f1) + rd H s.f0)
theorem sights_any (n : Nat) (l : List S32) (hv : surveyB n l = true) (hcn : Gm.connB n l = true) (A : Option Addr) (c : Nat) (w : World) (hr : Kd.C k32 w A l.length l) :
  Calls Try.prog 32 #[.agg #[.int .i64 (n : Int), .slice A l.length c]] w fun e w' => ∃ v : Value, e = .returned (.tuple #[v, .bool true]) ∧ T w.heap.size w' v (treeG n l).out ∧ Below w.heap.size w w' := by
 have hu26 := Try.underlying26
 have hp5 := valid_pts hv
 have hbx := below_alloc (Below.refl w.heap.size w) (BS n A l.length c)
 have HX := Aside0.mk (heap_alloc_new w (BS n A l.length c))
 have HR := Aside0.mk (Kd.C_below hr hbx)
 have HB := Aside0.mk hbx
 have hz := Hw.isConn_any n l A c _ HR.out (by omega)
 rw [hcn] at hz
 have HV := Aside0.mk hv
 clear hr hbx hv hcn
 go_enter Try.func32, Try.ntmps32
 go_wp2_with (fail)
 refine hz.mono ?_
 rintro e w1 ⟨rfl, hb⟩
 have e0 : w1.cell? ⟨w.heap.size, 0, none⟩ = some (.int .i64 (n : Int)) := (blk_cell (blk_below HX.out hb) 0).trans rfl
 have e1 : w1.cell? ⟨w.heap.size, 1, none⟩ = some (.slice A l.length c) := (blk_cell (blk_below HX.out hb) 1).trans rfl
 have hz := Ht.tree_all n l HV.out A c w1 (Kd.C_below HR.out hb)
 have HB1 := Aside0.mk (below_step HB.out hb)
 clear hb
 go_wp2_with (fail)
 refine hz.mono ?_
 rintro e w2 ⟨bo, co, v, rfl, ht, hb⟩
 have HT := Aside0.mk ht
 have HB2 := Aside0.mk (below_step HB1.out hb)
 clear hz hb ht e0 e1
 go_wp2_with (fail)
 go_ret2
 exact ⟨_, rfl, Kd.R_lower HT.out HB1.out.size, HB2.out⟩
theorem heightsOf_any (n : Nat) (l : List S32) (hv : surveyB n l = true) (hcn : Gm.connB n l = true) (A : Option Addr) (c : Nat) (w : World) (hr : Kd.C k32 w A l.length l) (hc : l.length ≤ c) :
  Calls Try.prog 33 #[.agg #[.int .i64 (n : Int), .slice A l.length c]] w fun e w' => ∃ v : Value, e = .returned (.tuple #[v, .bool true]) ∧ T w.heap.size w' v (hgt n l) ∧ Below w.heap.size w w' := by
 have hu26 := Try.underlying26
 have hp5 := valid_pts hv
 have hbx := below_alloc (Below.refl w.heap.size w) (BS n A l.length c)
 have HX := Aside0.mk (heap_alloc_new w (BS n A l.length c))
 have HR := Aside0.mk (Kd.C_below hr hbx)
 have HB := Aside0.mk hbx
 have HC := Aside0.mk hc
 have hz := Hw.isConn_any n l A c _ HR.out (by omega)
 rw [hcn] at hz
 have HV := Aside0.mk hv
 clear hr hbx hv hcn hc
 go_enter Try.func33, Try.ntmps33
 go_wp2_with (fail)
 refine hz.mono ?_
 rintro e w1 ⟨rfl, hb⟩
 have e0 : w1.cell? ⟨w.heap.size, 0, none⟩ = some (.int .i64 (n : Int)) := (blk_cell (blk_below HX.out hb) 0).trans rfl
 have e1 : w1.cell? ⟨w.heap.size, 1, none⟩ = some (.slice A l.length c) := (blk_cell (blk_below HX.out hb) 1).trans rfl
 have hz := heights_any n l HV.out A c w1 (Kd.C_below HR.out hb) HC.out
 have HB1 := Aside0.mk (below_step HB.out hb)
 clear hb
 go_wp2_with (fail)
 refine hz.mono ?_
 rintro e w2 ⟨v, rfl, ht, hb⟩
 have HT := Aside0.mk ht
 have HB2 := Aside0.mk (below_step HB1.out hb)
 clear hz hb ht e0 e1
 go_wp2_with (fail)
 go_ret2
 exact ⟨_, rfl, Kd.R_lower HT.out HB1.out.size, HB2.out⟩
set_option maxHeartbeats 4000000 in
set_option maxRecDepth 100000 in
theorem loops_any (n : Nat) (l : List S32) (hv : surveyB n l = true) (hcn : Gm.connB n l = true) (A : Option Addr) (c : Nat) (w : World) (hr : Kd.C k32 w A l.length l) (hc : l.length ≤ c) :
  Calls Try.prog 34 #[.agg #[.int .i64 (n : Int), .slice A l.length c]] w fun e w' => ∃ v : Value, e = .returned (.tuple #[v, .bool true]) ∧ T w.heap.size w' v (l.map (er (hgt n l))) ∧ Below w.heap.size w w' := by
 have hu26 := Try.underlying26
 have hu32 := Try.underlying32
 have hp5 := valid_pts hv
 have hbx := below_alloc (Below.refl w.heap.size w) (BS n A l.length c)
 have HX := Aside0.mk (heap_alloc_new w (BS n A l.length c))
 have HR := Aside0.mk (Kd.C_below hr hbx)
 have HB := Aside0.mk hbx
 have HC := Aside0.mk hc
 have hz := Hw.isConn_any n l A c _ HR.out (by omega)
 rw [hcn] at hz
 have HV := Aside0.mk hv
 have HLH := Aside0.mk (itH_len n l (treeG n l).out (treeG n l).out.length).1
 clear hr hbx hv hcn hc
 go_enter Try.func34, Try.ntmps34
 go_wp2_with (fail)
 refine hz.mono ?_
 rintro e w1 ⟨rfl, hb⟩
 have e0 : w1.cell? ⟨w.heap.size, 0, none⟩ = some (.int .i64 (n : Int)) := (blk_cell (blk_below HX.out hb) 0).trans rfl
 have e1 : w1.cell? ⟨w.heap.size, 1, none⟩ = some (.slice A l.length c) := (blk_cell (blk_below HX.out hb) 1).trans rfl
 have hz := heights_any n l HV.out A c w1 (Kd.C_below HR.out hb) HC.out
 have HB1 := Aside0.mk (below_step HB.out hb)
 have X1 := Aside0.mk (blk_below HX.out hb)
 have R1 := Aside0.mk (Kd.C_below HR.out hb)
 clear hb
 go_wp2_with (fail)
 refine hz.mono ?_
 rintro e w2 ⟨v, rfl, ht, hb⟩
 have hlen : (hgt n l).length = n := HLH.out
 obtain ⟨H, hH⟩ : ∃ H, H = hgt n l := ⟨_, rfl⟩
 rw [← hH] at ht hlen
 have HHL := Aside0.mk hlen
 have HHE := Aside0.mk hH
 obtain ⟨gH, cH, rfl, -, -⟩ := ht.form (by omega)
 rw [hlen] at ht ⊢
 have HT := Aside0.mk ht
 have HB2 := Aside0.mk (below_step HB1.out hb)
 have X2 := Aside0.mk (blk_below X1.out hb)
 have R2 := Aside0.mk (Kd.C_below R1.out hb)
 clear hz hb ht e0 e1 hH hlen HX HR HB
 have e1 : w2.cell? ⟨w.heap.size, 1, none⟩ = some (.slice A l.length c) := (blk_cell X2.out 1).trans rfl
 have hlt2 : w.heap.size < w2.heap.size := blk_lt X2.out
 have t0 := Aside0.mk (show One w2 (w2.alloc (.cells #[] 2)) w2.heap.size 0 [] from ⟨Nat.le_refl _, Cb.nil_new w2 2, below_alloc (Below.refl _ _) _⟩)
 go_wp2_with (fail)
 clear e1 hlt2
 go_loopw [5, 17] (fun v5 v17 wz => ∃ (i bo co : Nat), v5 = .slice (some ⟨bo, 0, none⟩) i co ∧ v17 = .int .i64 (i : Int) ∧ i ≤ l.length ∧ Aside0 (One w2 wz bo co ((l.take i).map (er H)))) (fun _ v _ => l.length - (intOf v).toNat)
 case atStart => exact ⟨0, _, _, rfl, rfl, by omega, by simpa using t0⟩
 case round =>
  clear t0
  obtain ⟨i, bo, co, rfl, rfl, hi, HO⟩ := hrel
  by_cases hlt : i < l.length
  ·have p1 : decide ((i : Int) < (l.length : Int)) = true := decide_eq_true (by omega)
   obtain ⟨ad, e, x0, x1, x2, x3⟩ := at_T32 (Kd.C_below R2.out HO.out.be) (i : Int) (by omega) (by omega)
   subst e
   rw [Int.toNat_natCast] at x0 x1 x2 x3
   have hva := valid_at HV.out i hlt
   have HTK := Aside0.mk (show (l.take (i + 1)).map (er H) = (l.take i).map (er H) ++ [er H (rd_T32 l i)] by
    rw [List.take_succ_eq_append_getElem hlt, List.map_append]
    congr 1
    simp only [List.map_cons, List.map_nil, rd_T32, Int.toNat_natCast]
    rw [List.getD_eq_getElem?_getD, List.getElem?_eq_getElem hlt]; rfl)
   obtain ⟨s, hs⟩ : ∃ s, s = rd_T32 l i := ⟨_, rfl⟩
   rw [← hs] at x0 x1 x2 x3 hva HTK
   clear hs
   obtain ⟨f, t, ri, wt⟩ := s
   dsimp only at x0 x1 x2 x3 hva HTK
   obtain ⟨y0, y1, y2, y3⟩ := hva
   have HE := Aside0.mk (show er H ⟨f, t, ri, wt⟩ = wrap64 (wrap64 (ri - rd H t) + rd H f) from rfl)
   go_wp2_with (fail)
   obtain ⟨wq, hwq⟩ : ∃ wq, wq = wr.alloc (.cells #[.int .i64 f, .int .i64 t, .int .i64 ri, .int .i64 wt] 32) := ⟨_, rfl⟩
   have HBQ := Aside0.mk (show Below wr.heap.size wr wq by rw [hwq]; exact below_alloc (Below.refl _ _) _)
   have HNQ := Aside0.mk (show wq.heap[wr.heap.size]? = some (.cells #[.int .i64 f, .int .i64 t, .int .i64 ri, .int .i64 wt] 32) by rw [hwq]; exact heap_alloc_new wr _)
   rw [← hwq]
   clear hwq
   have HTQ := Aside0.mk (HO.out.below HBQ.out)
   have HTT := Aside0.mk (HT.out.below HTQ.out.be)
   have k0 : wq.cell? ⟨wr.heap.size, 0, none⟩ = some (.int .i64 f) := (blk_cell HNQ.out 0).trans rfl
   have k1 : wq.cell? ⟨wr.heap.size, 1, none⟩ = some (.int .i64 t) := (blk_cell HNQ.out 1).trans rfl
   have k2 : wq.cell? ⟨wr.heap.size, 2, none⟩ = some (.int .i64 ri) := (blk_cell HNQ.out 2).trans rfl
   have ca := (HTT.out.cell t.toNat (by omega)).1
   have cb := (HTT.out.cell f.toNat (by omega)).1
   rw [Int.toNat_of_nonneg y2] at ca
   rw [Int.toNat_of_nonneg y0] at cb
   obtain ⟨a, ha⟩ : ∃ a, a = rd H t := ⟨_, rfl⟩
   obtain ⟨b, hb⟩ : ∃ b, b = rd H f := ⟨_, rfl⟩
   rw [← ha] at ca HE
   rw [← hb] at cb HE
   have i1 : (0 ≤ t) = True := eq_true y2
   have i2 : (t < (n : Int)) = True := eq_true y3
   have i3 : (0 ≤ f) = True := eq_true y0
   have i4 : (f < (n : Int)) = True := eq_true y1
   have HUL := Aside0.mk (show (((l.take i).map (er H)).map (Value.int .i64)).length = i by simp; omega)
   clear ha hb x0 x1 x2 x3 y0 y1 y2 y3 HO HT
   refine start_ (n:=18) (S := fun w' => w'.cell? ⟨wr.heap.size, 2, none⟩ = some (.int .i64 ri) ∧ w'.cell? ⟨wr.heap.size, 1, none⟩ = some (.int .i64 t) ∧ w'.cell? ⟨wr.heap.size, 0, none⟩ = some (.int .i64 f) ∧ w'.cell? ⟨gH, t.toNat, none⟩ = some (.int .i64 a) ∧ w'.cell? ⟨gH, f.toNat, none⟩ = some (.int .i64 b)) (ds:=[16]) #[false,false,false,false,false,false,false,false,false,false,false,false,false,false,false,false,false,false] (by kernel_rfl) rfl rfl ⟨k2, k1, k0, ca, cb⟩ (fun hHeld => ?_)
   refine pure_ (i:=0) (N:=some 21) (v:=?_) (a':=?_) #[true,false,false,false,false,false,false,false,false,false,false,false,false,false,false,false,false,false] rfl rfl (by kernel_rfl) (fun _ _ _ h => h) (Or.inl ⟨by rfl, ?_⟩) ?_ ?_
   rotate_left
   ·intro w'
    go_simp
    with_reducible rfl
   rotate_left
   ·simp only [Act.put, List.setIfInBounds_toArray, List.set_cons_zero, List.set_cons_succ, i64_w, i32_w]
    rfl
   refine pure_ (i:=1) (N:=some 22) (v:=?_) (a':=?_) #[true,true,false,false,false,false,false,false,false,false,false,false,false,false,false,false,false,false] rfl rfl (by kernel_rfl) (fun _ _ _ h => h) (Or.inl ⟨by rfl, ?_⟩) ?_ ?_
   rotate_left
   ·intro w'
    go_simp
    with_reducible rfl
   rotate_left
   ·simp only [Act.put, List.setIfInBounds_toArray, List.set_cons_zero, List.set_cons_succ, i64_w, i32_w]
    rfl
   refine pure_ (i:=3) (N:=some 24) (v:=?_) (a':=?_) #[true,true,false,true,false,false,false,false,false,false,false,false,false,false,false,false,false,false] rfl rfl (by kernel_rfl) (fun _ _ _ h => h) (Or.inl ⟨by rfl, ?_⟩) ?_ ?_
   rotate_left
   ·intro w'
    go_simp
    with_reducible rfl
   rotate_left
   ·simp only [Act.put, List.setIfInBounds_toArray, List.set_cons_zero, List.set_cons_succ, i64_w, i32_w]
    rfl
   refine pure_ (i:=4) (N:=some 25) (v:=?_) (a':=?_) #[true,true,false,true,true,false,false,false,false,false,false,false,false,false,false,false,false,false] rfl rfl (by kernel_rfl) (fun _ _ _ h => h) (Or.inl ⟨by rfl, ?_⟩) ?_ ?_
   rotate_left
   ·intro w'
    go_simp
    with_reducible rfl
   rotate_left
   ·simp only [Act.put, List.setIfInBounds_toArray, List.set_cons_zero, List.set_cons_succ, i64_w, i32_w]
    rfl
   refine pure_ (i:=9) (N:=some 30) (v:=?_) (a':=?_) #[true,true,false,true,true,false,false,false,false,true,false,false,false,false,false,false,false,false] rfl rfl (by kernel_rfl) (fun _ _ _ h => h) (Or.inl ⟨by rfl, ?_⟩) ?_ ?_
   rotate_left
   ·intro w'
    go_simp
    with_reducible rfl
   rotate_left
   ·simp only [Act.put, List.setIfInBounds_toArray, List.set_cons_zero, List.set_cons_succ, i64_w, i32_w]
    rfl
   refine pure_ (i:=10) (N:=some 31) (v:=?_) (a':=?_) #[true,true,false,true,true,false,false,false,false,true,true,false,false,false,false,false,false,false] rfl rfl (by kernel_rfl) (fun _ _ _ h => h) (Or.inl ⟨by rfl, ?_⟩) ?_ ?_
   rotate_left
   ·intro w'
    go_simp
    with_reducible rfl
   rotate_left
   ·simp only [Act.put, List.setIfInBounds_toArray, List.set_cons_zero, List.set_cons_succ, i64_w, i32_w]
    rfl
   refine take_ (i:=2) (N:=some 23) (v:=?_) (a':=?_) #[true,true,true,true,true,false,false,false,false,true,true,false,false,false,false,false,false,false] rfl rfl (by kernel_rfl) (fun _ _ _ h => h) (Or.inl ⟨by rfl, ?_⟩) hHeld ?_ ?_
   rotate_left
   ·rintro w' ⟨s0, s1, s2, s3, s4⟩
    go_simp
    with_reducible rfl
   rotate_left
   ·simp only [Act.put, List.setIfInBounds_toArray, List.set_cons_zero, List.set_cons_succ, i64_w, i32_w]
    rfl
   refine take_ (i:=5) (N:=some 26) (v:=?_) (a':=?_) #[true,true,true,true,true,true,false,false,false,true,true,false,false,false,false,false,false,false] rfl rfl (by kernel_rfl) (fun _ _ _ h => h) (Or.inl ⟨by rfl, ?_⟩) hHeld ?_ ?_
   rotate_left
   ·rintro w' ⟨s0, s1, s2, s3, s4⟩
    go_simp
    with_reducible rfl
   rotate_left
   ·simp only [Act.put, List.setIfInBounds_toArray, List.set_cons_zero, List.set_cons_succ, i64_w, i32_w]
    rfl
   refine pure_ (i:=6) (N:=some 27) (v:=?_) (a':=?_) #[true,true,true,true,true,true,true,false,false,true,true,false,false,false,false,false,false,false] rfl rfl (by kernel_rfl) (fun _ _ _ h => h) (Or.inl ⟨by rfl, ?_⟩) ?_ ?_
   rotate_left
   ·intro w'
    go_simp
    with_reducible rfl
   rotate_left
   ·simp only [Act.put, List.setIfInBounds_toArray, List.set_cons_zero, List.set_cons_succ, i64_w, i32_w]
    rfl
   refine take_ (i:=7) (N:=some 28) (v:=?_) (a':=?_) #[true,true,true,true,true,true,true,true,false,true,true,false,false,false,false,false,false,false] rfl rfl (by kernel_rfl) (fun _ _ _ h => h) (Or.inl ⟨by rfl, ?_⟩) hHeld ?_ ?_
   rotate_left
   ·rintro w' ⟨s0, s1, s2, s3, s4⟩
    go_simp
    with_reducible rfl
   rotate_left
   ·simp only [Act.put, List.setIfInBounds_toArray, List.set_cons_zero, List.set_cons_succ, i64_w, i32_w]
    rfl
   refine pure_ (i:=8) (N:=some 29) (v:=?_) (a':=?_) #[true,true,true,true,true,true,true,true,true,true,true,false,false,false,false,false,false,false] rfl rfl (by kernel_rfl) (fun _ _ _ h => h) (Or.inl ⟨by rfl, ?_⟩) ?_ ?_
   rotate_left
   ·intro w'
    go_simp
    with_reducible rfl
   rotate_left
   ·simp only [Act.put, List.setIfInBounds_toArray, List.set_cons_zero, List.set_cons_succ, i64_w, i32_w]
    rfl
   refine take_ (i:=11) (N:=some 32) (v:=?_) (a':=?_) #[true,true,true,true,true,true,true,true,true,true,true,true,false,false,false,false,false,false] rfl rfl (by kernel_rfl) (fun _ _ _ h => h) (Or.inl ⟨by rfl, ?_⟩) hHeld ?_ ?_
   rotate_left
   ·rintro w' ⟨s0, s1, s2, s3, s4⟩
    go_simp
    with_reducible rfl
   rotate_left
   ·simp only [Act.put, List.setIfInBounds_toArray, List.set_cons_zero, List.set_cons_succ, i64_w, i32_w]
    rfl
   refine pure_ (i:=12) (N:=some 33) (v:=?_) (a':=?_) #[true,true,true,true,true,true,true,true,true,true,true,true,true,false,false,false,false,false] rfl rfl (by kernel_rfl) (fun _ _ _ h => h) (Or.inl ⟨by rfl, ?_⟩) ?_ ?_
   rotate_left
   ·intro w'
    go_simp
    with_reducible rfl
   rotate_left
   ·simp only [Act.put, List.setIfInBounds_toArray, List.set_cons_zero, List.set_cons_succ, i64_w, i32_w]
    rfl
   refine take_ (i:=13) (N:=some 34) (v:=?_) (a':=?_) #[true,true,true,true,true,true,true,true,true,true,true,true,true,true,false,false,false,false] rfl rfl (by kernel_rfl) (fun _ _ _ h => h) (Or.inl ⟨by rfl, ?_⟩) hHeld ?_ ?_
   rotate_left
   ·rintro w' ⟨s0, s1, s2, s3, s4⟩
    go_simp
    with_reducible rfl
   rotate_left
   ·simp only [Act.put, List.setIfInBounds_toArray, List.set_cons_zero, List.set_cons_succ, i64_w, i32_w]
    rfl
   refine pure_ (i:=14) (N:=some 35) (v:=?_) (a':=?_) #[true,true,true,true,true,true,true,true,true,true,true,true,true,true,true,false,false,false] rfl rfl (by kernel_rfl) (fun _ _ _ h => h) (Or.inl ⟨by rfl, ?_⟩) ?_ ?_
   rotate_left
   ·intro w'
    go_simp
    with_reducible rfl
   rotate_left
   ·simp only [Act.put, List.setIfInBounds_toArray, List.set_cons_zero, List.set_cons_succ, i64_w, i32_w]
    rfl
   refine one_ (i:=15) (N:=some 36) #[true,true,true,true,true,true,true,true,true,true,true,true,true,true,true,true,false,false] rfl rfl (by kernel_rfl) (by decide) (fun K_ hK => ?_)
   refine value_ (v := .slice (some ⟨wq.drew.heap.size, 0, none⟩) 1 1) (w1 := wq.drew.alloc (.cells #[.int .i64 (wrap64 (wrap64 (ri - a) + b))] 2)) (by rfl) rfl ?_ ?_
   ·go_simp
    first | done | exact ⟨rfl, rfl⟩ | rfl
   have HBA := Aside0.mk (below_step (below_drew (Below.refl wq.heap.size wq)) (below_alloc (Below.refl wq.drew.heap.size wq.drew) (.cells #[.int .i64 (wrap64 (wrap64 (ri - a) + b))] 2)))
   have HCA := Aside0.mk ((blk_cell (heap_alloc_new wq.drew (.cells #[.int .i64 (wrap64 (wrap64 (ri - a) + b))] 2)) 0).trans rfl)
   refine hK.out _ _ (⟨(HBA.out.cell (World.block_lt_of_cell? _ _ k2)).trans k2, (HBA.out.cell (World.block_lt_of_cell? _ _ k1)).trans k1, (HBA.out.cell (World.block_lt_of_cell? _ _ k0)).trans k0, (HBA.out.cell (World.block_lt_of_cell? _ _ ca)).trans ca, (HBA.out.cell (World.block_lt_of_cell? _ _ cb)).trans cb⟩) (fun hHeld => ?_)
   clear hK K_
   refine norm_ (a':=?_) ?_ ?_
   rotate_left
   ·show Act.put _ (some 36) _ = _
    simp only [Act.put, List.setIfInBounds_toArray, List.set_cons_zero, List.set_cons_succ, i64_w, i32_w]
    rfl
   refine last_ (i:=16) (N:=some 37) #[true,true,true,true,true,true,true,true,true,true,true,true,true,true,true,true,true,false] rfl rfl (by kernel_rfl) (by decide) (fun K_ hK => ?_)
   refine Cb.append_step (by rfl) (.tmp 21) (.tmp 36) 28 2 (.int .i64 0) 8 rfl Try.underlying28 info2 rfl (Pv.i64 _) (by decide) bo co wq.drew.heap.size i _ (.int .i64 (wrap64 (wrap64 (ri - a) + b))) HUL.out rfl rfl HCA.out rfl (Pv.i64 _) (HTQ.out.oc.below HBA.out) (by rw [HUL.out]; omega) ?_
   intro g1 cap1 w9 h1 h2 h3
   have HN := Aside0.mk (HTQ.out.push HBA.out h1 h2 h3)
   clear h1 h2 h3
   refine hK.out _ _ ?_
   clear hK K_
   refine norm_ (a':=?_) ?_ ?_
   rotate_left
   ·show Act.put _ (some 37) _ = _
    simp only [Act.put, List.setIfInBounds_toArray, List.set_cons_zero, List.set_cons_succ, i64_w, i32_w]
    rfl
   refine pure_ (i:=17) (N:=some 5) (v:=?_) (a':=?_) #[true,true,true,true,true,true,true,true,true,true,true,true,true,true,true,true,true,true] rfl rfl (by kernel_rfl) (fun _ _ _ h => h) (Or.inl ⟨by rfl, ?_⟩) ?_ ?_
   rotate_left
   ·intro w'
    go_simp
    with_reducible rfl
   rotate_left
   ·simp only [Act.put, List.setIfInBounds_toArray, List.set_cons_zero, List.set_cons_succ, i64_w, i32_w]
    rfl
   refine done_ (by kernel_rfl) ?_
   clear i1 i2 i3 i4 k0 k1 k2 ca cb hHeld
   go_wp2_with (fail)
   go_roundw
   case rel => exact ⟨i + 1, g1, cap1, by go_num, by go_num, by omega, ⟨by rw [HTK.out, HE.out]; exact HN.out⟩⟩
   case measure => simp [intOf]; omega
  ·obtain rfl : i = l.length := by omega
   have p1 : decide ((l.length : Int) < (l.length : Int)) = false := decide_eq_false (by omega)
   have HF := Aside0.mk (HO.out)
   go_wp2_with (fail)
   go_ret2
   have ho := HO.out.oc
   rw [List.take_of_length_le (Nat.le_refl _)] at ho
   have h5 := Gv.T.of_cb (B := w.heap.size) ho (by have h1 := HO.out.ob; have h2 := HB2.out.size; omega)
   rw [show (l.map (er H)).length = l.length by simp] at h5
   rw [← HHE.out]
   exact ⟨_, rfl, h5, below_step HB2.out HO.out.be⟩
end Go.Proofs.Ytkafbmanmffliaa.Tl

/- Plain: tree heights and loop errors. -/
namespace Go.Proofs.Ytkafbmanmffliaa.Pl
open Go Go.RowKit YtkafbmanmffliaaW.PrintWords Q Hb Hd He Ka Kc Ke Kf Ex Pa PuT Tl
set_option linter.unusedSectionVars false
def Bd (B : Int) (h : List Int) : Prop := ∀ x : Int, -B ≤ rd h x ∧ rd h x ≤ B
theorem rd_put (h : List Int) (k : Nat) (v x : Int) : rd (h.set k v) x = v ∨ rd (h.set k v) x = rd h x := by
 unfold rd
 rw [List.getD_eq_getElem?_getD, List.getD_eq_getElem?_getD, List.getElem?_set]
 split
 ·split
  ·exact .inl rfl
  ·rename_i e e2
   refine .inr ?_
   rw [List.getElem?_eq_none (by omega)]
 ·exact .inr rfl
theorem bd_step {l : List S32} (hl : ∀ j : Int, -100 ≤ (rd_T32 l j).f2 ∧ (rd_T32 l j).f2 ≤ 100) {B : Int} (h0 : 0 ≤ B) (hB : B ≤ 1000000) (st : Sh) (j : Int) (h : Bd B st.h) : Bd (B + 100) (stepH l st j).h := by
 have h1 := hl j
 have hx : ∀ x : Int, -(B + 100) ≤ rd st.h x ∧ rd st.h x ≤ B + 100 := fun x => by have := h x; omega
 unfold stepH
 split
 ·intro x
  dsimp only
  have h2 := h (rd_T32 l j).f0
  rcases rd_put st.h (rd_T32 l j).f1.toNat (wrap64 (rd st.h (rd_T32 l j).f0 + (rd_T32 l j).f2)) x with e | e
  ·rw [e, PuS.wrap_id (by omega) (by omega)]; omega
  ·rw [e]; exact hx x
 ·split
  ·intro x
   dsimp only
   have h2 := h (rd_T32 l j).f1
   rcases rd_put st.h (rd_T32 l j).f0.toNat (wrap64 (rd st.h (rd_T32 l j).f1 - (rd_T32 l j).f2)) x with e | e
   ·rw [e, PuS.wrap_id (by omega) (by omega)]; omega
   ·rw [e]; exact hx x
  ·exact hx
theorem bd_fold {l : List S32} (hl : ∀ j : Int, -100 ≤ (rd_T32 l j).f2 ∧ (rd_T32 l j).f2 ≤ 100) : ∀ (o : List Int) (B : Int) (st : Sh), 0 ≤ B → B + 100 * o.length ≤ 1000000 → Bd B st.h → Bd (B + 100 * o.length) (o.foldl (stepH l) st).h
 | [], B, st, _, _, h => by simpa using h
 | j :: o, B, st, h0, h1, h => by
  simp only [List.length_cons] at h1 ⊢
  simp only [List.foldl_cons]
  have := bd_fold hl o (B + 100) _ (by omega) (by omega) (bd_step hl h0 (by omega) st j h)
  rw [show B + 100 + 100 * (o.length : Int) = B + 100 * ((o.length + 1 : Nat) : Int) by omega] at this
  exact this
theorem bd_it {l : List S32} (hl : ∀ j : Int, -100 ≤ (rd_T32 l j).f2 ∧ (rd_T32 l j).f2 ≤ 100) (n : Nat) (o : List Int) (ho : o.length ≤ 8) : ∀ i : Nat, i ≤ 8 → Bd (800 * i) (itH n l o i).h := by
 intro i
 induction i with
 | zero =>
  intro _ x
  have : rd (itH n l o 0).h x = 0 := by
   simp only [itH, startH, rd, List.getD_eq_getElem?_getD, List.getElem?_replicate]
   split <;> rfl
  rw [this]; omega
 | succ i ih =>
  intro hi x
  simp only [itH]
  have := bd_fold hl o (800 * i) (itH n l o i) (by omega) (by omega) (ih (by omega)) x
  omega
section
variable {n : Nat} {l : List S32} (hc : Gm.connB ((n : Int) + 1) l = true)
include hc
theorem conn_m : Gm.connB ((n + 1 : Nat) : Int) l = true := by exact_mod_cast hc
theorem valid_m : surveyB ((n + 1 : Nat) : Int) l = true := by
 have h := conn_m hc
 unfold Gm.connB at h
 simp only [Bool.and_eq_true] at h
 exact h.1
theorem all_m : (treeS ((n + 1 : Nat) : Int) l).part.all (· == 0) = true := by
 have h := conn_m hc
 unfold Gm.connB at h
 simp only [Bool.and_eq_true] at h
 exact h.2
theorem hgt_hts : hgt (n + 1) l = (treeS ((n + 1 : Nat) : Int) l).hts := PuH.hgt_eq (valid_m hc) (all_m hc)
theorem tree_len : ((treeG ((n + 1 : Nat) : Int) l).out.length : Int) = n := by
 have := (conn_eq (valid_m hc)).1 (all_m hc)
 omega
theorem hi_m : PuH.HI (n + 1) l (treeS ((n + 1 : Nat) : Int) l) := by
 have := PuH.hi_at (valid_m hc) l.length (Nat.le_refl _)
 rwa [at_all] at this
theorem hz_m (x : Nat) (hx : x < n + 1) : rd (treeS ((n + 1 : Nat) : Int) l).part x = 0 := by
 have hinv := (inv_at (valid_m hc) l.length (Nat.le_refl _)).1
 rw [at_all] at hinv
 have h := all_m hc
 rw [List.all_eq_true] at h
 have hx' : x < (treeS ((n + 1 : Nat) : Int) l).part.length := by rw [hinv.lp]; exact hx
 have := h (rd (treeS ((n + 1 : Nat) : Int) l).part x) (by rw [Hc.rd_nat _ _ hx']; exact List.getElem_mem _)
 simpa using this
theorem hgt_len : (hgt (n + 1) l).length = n + 1 := (itH_len (n + 1) l (treeG ((n + 1 : Nat) : Int) l).out (treeG ((n + 1 : Nat) : Int) l).out.length).1
theorem hgt_zero : rd (hgt (n + 1) l) 0 = 0 := by
 rw [hgt_hts hc]
 exact (hi_m hc).rp 0 (by omega) (by rw [hz_m hc 0 (by omega)]; rfl)
theorem rise_le (j : Int) : -100 ≤ (rd_T32 l j).f2 ∧ (rd_T32 l j).f2 ≤ 100 := by
 by_cases h : j.toNat < l.length
 ·have e : rd_T32 l j = l[j.toNat] := by simp only [rd_T32]; rw [List.getD_eq_getElem?_getD, List.getElem?_eq_getElem h]; rfl
  have h1 := mem_at (conn_v hc) _ (List.getElem_mem h)
  rw [e]
  omega
 ·have e : rd_T32 l j = z32 := by simp only [rd_T32]; rw [List.getD_eq_getElem?_getD, List.getElem?_eq_none (by omega)]; rfl
  rw [e]
  decide
theorem hgt_le (x : Int) : -6400 ≤ rd (hgt (n + 1) l) x ∧ rd (hgt (n + 1) l) x ≤ 6400 := by
 have h1 := tree_len hc
 have h2 := (conn_n hc).2.1
 have h3 := bd_it (rise_le hc) (n + 1) (treeG ((n + 1 : Nat) : Int) l).out (by omega) (treeG ((n + 1 : Nat) : Int) l).out.length (by omega) x
 unfold hgt
 omega
theorem er_eq (s : S32) (hs : s ∈ l) : er (hgt (n + 1) l) s = s.f2 - rd (hgt (n + 1) l) s.f1 + rd (hgt (n + 1) l) s.f0 := by
 have h1 := hgt_le hc s.f1
 have h2 := hgt_le hc s.f0
 have h3 := mem_at (conn_v hc) s hs
 unfold er
 rw [PuS.wrap_id (x := s.f2 - _) (by omega) (by omega), PuS.wrap_id (by omega) (by omega)]
theorem tree_zero (i : Nat) (hi : i < l.length) (h : (i : Int) ∈ (treeG ((n + 1 : Nat) : Int) l).out) : er (hgt (n + 1) l) (rd_T32 l i) = 0 := by
 rw [← out_eq (valid_m hc)] at h
 obtain ⟨u, v, h1, h2, h3, h4, -, h6⟩ := (hi_m hc).ch _ h
 rw [er_eq hc _ (by rw [rd_mem hi]; exact List.getElem_mem hi)]
 rw [← hgt_hts hc] at h6
 have a1 := hgt_le hc (u : Int)
 have a2 := rise_le hc (i : Int)
 rw [PuS.wrap_id (by omega) (by omega)] at h6
 rw [h3, h4]
 omega
theorem fit {X : Int → Rat} (h0 : X 0 = 0) (hX : ∀ s ∈ l, (s.f2 : Rat) = dif X s) (p : Nat) (hp : p < n + 1) : X (p : Int) = (rd (hgt (n + 1) l) (p : Int) : Rat) := by
 have hi := hi_m hc
 have hlt : ∀ j ∈ (treeS ((n + 1 : Nat) : Int) l).out, ∃ k : Nat, k < l.length ∧ j = (k : Int) := fun j hj => by
  rw [out_eq (valid_m hc)] at hj
  have := outG_lt (n + 1) l l.length (Nat.le_refl _) j hj
  exact ⟨j.toNat, by omega, by omega⟩
 have hk := hi.cl (fun x => X (x : Int) = (rd (hgt (n + 1) l) (x : Int) : Rat)) (fun j hj => by
  obtain ⟨k, hk, rfl⟩ := hlt j hj
  obtain ⟨u, v, h1, h2, h3, h4, -, h6⟩ := hi.ch _ hj
  have hm : rd_T32 l k ∈ l := by rw [rd_mem hk]; exact List.getElem_mem hk
  have hx := hX _ hm
  rw [← hgt_hts hc] at h6
  have a1 := hgt_le hc (u : Int)
  have a2 := rise_le hc (k : Int)
  rw [PuS.wrap_id (by omega) (by omega)] at h6
  unfold dif at hx
  rw [h3, h4] at hx ⊢
  rw [Int.toNat_natCast, Int.toNat_natCast]
  have h7 : (rd (hgt (n + 1) l) (v : Int) : Rat) = (rd (hgt (n + 1) l) (u : Int) : Rat) + ((rd_T32 l k).f2 : Rat) := by
   rw [← h6, Rat.intCast_add]
  rw [h7]
  grind) 0 p (by omega) hp (by rw [hz_m hc p hp, hz_m hc 0 (by omega)])
 refine hk.1 ?_
 have := hgt_zero hc
 show X ((0 : Nat) : Int) = (rd (hgt (n + 1) l) ((0 : Nat) : Int) : Rat)
 rw [show ((0 : Nat) : Int) = 0 from rfl, this, h0]
 rfl
theorem hts_zero : hts n l 0 = 0 := by
 rw [hts_hv hc 0 (Int.le_refl _) (by omega), hv_zero]
 grind
theorem hts_all (h : ∀ s ∈ l, er (hgt (n + 1) l) s = 0) (p : Int) (h0 : 0 ≤ p) (hp : p ≤ n) : hts n l p = (rd (hgt (n + 1) l) p : Rat) :=
 uniq hc (x' := fun q => (rd (hgt (n + 1) l) q : Rat)) (fun y => by
  rw [adj hc]
  unfold B
  refine sm_congr (fun s hs => ?_)
  have h1 := h s hs
  rw [er_eq hc s hs] at h1
  have h2 : s.f2 = rd (hgt (n + 1) l) s.f1 - rd (hgt (n + 1) l) s.f0 := by omega
  have h3 : (s.f2 : Rat) = (rd (hgt (n + 1) l) s.f1 : Rat) - (rd (hgt (n + 1) l) s.f0 : Rat) := by rw [h2, Rat.intCast_sub]
  rw [Rat.intCast_mul, h3]
  simp only [dif]
  grind) (by rw [hts_zero hc]; have := hgt_zero hc; rw [this]; rfl) p h0 hp
theorem ev_of_er (h : ∀ s ∈ l, er (hgt (n + 1) l) s = 0) (s : S32) (hs : s ∈ l) : ev n l s = 0 := by
 have hv := mem_at (conn_v hc) s hs
 have h1 := h s hs
 rw [er_eq hc s hs] at h1
 have h2 : s.f2 = rd (hgt (n + 1) l) s.f1 - rd (hgt (n + 1) l) s.f0 := by omega
 have h3 : (s.f2 : Rat) = (rd (hgt (n + 1) l) s.f1 : Rat) - (rd (hgt (n + 1) l) s.f0 : Rat) := by rw [h2, Rat.intCast_sub]
 have h4 : res n l s = 0 := by
  unfold res dif
  rw [hts_all hc h _ hv.2.2.1 hv.2.2.2.1, hts_all hc h _ hv.1 hv.2.1, h3]
  grind
 have h5 := res_ev hc s hs
 have h6 := eD_pos hc
 have n2 : ((eD n l : Int) : Rat) ≠ 0 := by exact_mod_cast (show (eD n l : Int) ≠ 0 by omega)
 rw [h4] at h5
 have : (ev n l s : Rat) = ((0 : Int) : Rat) := by
  have h7 : (ev n l s : Rat) = 0 * (eD n l : Rat) := by grind
  rw [h7]; grind
 exact_mod_cast this
theorem er_of_ev (h : ∀ s ∈ l, ev n l s = 0) (s : S32) (hs : s ∈ l) : er (hgt (n + 1) l) s = 0 := by
 have hv := mem_at (conn_v hc) s hs
 have hr : ∀ t ∈ l, (t.f2 : Rat) = dif (hts n l) t := fun t ht => by
  have h5 := res_ev hc t ht
  rw [h t ht] at h5
  unfold res at h5
  have : ((0 : Int) : Rat) / (eD n l : Rat) = 0 := by rw [Rat.div_def]; exact Rat.zero_mul _
  rw [this] at h5
  grind
 have f := fun (p : Int) (h0 : 0 ≤ p) (hp : p ≤ n) => by
  have := fit hc (hts_zero hc) hr p.toNat (by omega)
  rw [Int.toNat_of_nonneg h0] at this
  exact this
 have h1 := hr s hs
 unfold dif at h1
 rw [f _ hv.2.2.1 hv.2.2.2.1, f _ hv.1 hv.2.1] at h1
 rw [er_eq hc s hs]
 have h2 : (s.f2 : Rat) = ((rd (hgt (n + 1) l) s.f1 - rd (hgt (n + 1) l) s.f0 : Int) : Rat) := by rw [Rat.intCast_sub]; exact h1
 have h3 : s.f2 = rd (hgt (n + 1) l) s.f1 - rd (hgt (n + 1) l) s.f0 := by exact_mod_cast h2
 omega
theorem agree_same : (l.all fun s => er (hgt (n + 1) l) s == 0) = l.all fun s => ev n l s == 0 := by
 rw [Bool.eq_iff_iff, List.all_eq_true, List.all_eq_true]
 constructor
 ·intro h s hs
  rw [ev_of_er hc (fun t ht => by simpa using h t ht) s hs]; rfl
 ·intro h s hs
  rw [er_of_ev hc (fun t ht => by simpa using h t ht) s hs]; rfl
theorem hv_hgt (h : (l.all fun s => er (hgt (n + 1) l) s == 0) = true) (p : Int) (h0 : 0 ≤ p) (hp : p ≤ n) : hv n l p = hD n l * rd (hgt (n + 1) l) p := by
 rw [List.all_eq_true] at h
 have h1 := hts_all hc (fun t ht => by simpa using h t ht) p h0 hp
 have h2 := hts_hv hc p h0 hp
 have h3 := hD_pos hc
 have n2 : ((hD n l : Int) : Rat) ≠ 0 := by exact_mod_cast (show (hD n l : Int) ≠ 0 by omega)
 rw [h1] at h2
 have h4 : (hv n l p : Rat) = ((hD n l * rd (hgt (n + 1) l) p : Int) : Rat) := by
  rw [Rat.intCast_mul]
  grind
 exact_mod_cast h4
end
end Go.Proofs.Ytkafbmanmffliaa.Pl

/- The program's CofactorOf and RiseBetween: what they return. -/
namespace Go.Proofs.Ytkafbmanmffliaa.Ex2
open Go Go.RowKit YtkafbmanmffliaaW.PrintWords YtkafbmanmffliaaW.PrintLast YtkafbmanmffliaaW.PrintMore Q Bi Ra Gn Kf
def okN (ok : Bool) (q : Rat) : Int := if ok = true then q.num else 0
def okD (ok : Bool) (q : Rat) : Int := if ok = true then (q.den : Int) else 0
def Post2 (w : World) (q : Rat) (ok : Bool) (e : Ending) (w' : World) : Prop := e = .returned (.tuple #[.int .i64 (okN ok q), .int .i64 (okD ok q), .bool ok]) ∧ Below w.heap.size w w'
def rise (n : Nat) (l : List S32) (a b : Int) : Rat := hts n l b - hts n l a
end Go.Proofs.Ytkafbmanmffliaa.Ex2

/- Plain: the uncertainties between points of a connected survey: symmetric, 0 only at a point itself, at most 4, and no detour is shorter. -/
namespace Go.Proofs.Ytkafbmanmffliaa.Pc
open Go Go.RowKit YtkafbmanmffliaaW.PrintWords Q Ka Kc Ke Kf Ex2 Sb
set_option linter.unusedSectionVars false
theorem step_le {k : Nat} {u d E D F : Rat} (hu : u * u ≤ (k : Rat) * E) (hd : d * d = D) (hE : 0 ≤ E) (hF : E + D ≤ F) : (u + d) * (u + d) ≤ ((k + 1 : Nat) : Rat) * F := by
 have hk : (0 : Rat) ≤ (k : Rat) := by exact_mod_cast Nat.zero_le k
 have e1 : ((k + 1 : Nat) : Rat) = (k : Rat) + 1 := by push_cast; rfl
 rw [e1]
 have hD : 0 ≤ D := by rw [← hd]; exact sq_nn d
 have h1 : ((k : Rat) + 1) * (E + D) ≤ ((k : Rat) + 1) * F := Rat.mul_le_mul_of_nonneg_left hF (by grind)
 refine Rat.le_trans ?_ h1
 by_cases hk0 : k = 0
 ·subst hk0
  have e0 : ((0 : Nat) : Rat) = 0 := rfl
  rw [e0] at hu ⊢
  have h2 : u * u = 0 := by have := sq_nn u; grind
  have h3 := sq_zero_r h2
  rw [h3]
  grind
 ·have hkp : (0 : Rat) < (k : Rat) := by exact_mod_cast Nat.pos_of_ne_zero hk0
  refine Rat.le_of_mul_le_mul_left (c := (k : Rat)) ?_ hkp
  obtain ⟨K, hK⟩ : ∃ K : Rat, K = (k : Rat) := ⟨_, rfl⟩
  rw [← hK] at hu hkp ⊢
  have h4 := sq_nn (u - K * d)
  have h5 : (K + 1) * (u * u) ≤ (K + 1) * (K * E) := Rat.mul_le_mul_of_nonneg_left hu (by grind)
  rw [← hd]
  grind
def en (P : Int → Bool) (x : Int → Rat) (l : List S32) : Rat := sm (fun s => if (P s.f0 && P s.f1) = true then dif x s * dif x s else 0) l
def cnt (n : Nat) (P : Int → Bool) : Nat := (List.range (n + 1)).countP (fun q : Nat => P (q : Int))
theorem cnt_at (k m : Nat) : (List.range m).countP (fun q : Nat => (q : Int) == (k : Int)) = if k < m then 1 else 0 := by
 induction m with
 | zero => rfl
 | succ m ih =>
  rw [List.range_succ, List.countP_append, ih]
  simp only [List.countP_cons, List.countP_nil]
  by_cases h1 : k < m
  ·simp [h1, show k < m + 1 by omega, show ¬ (m : Int) = k by omega]
  ·by_cases h2 : k = m
   ·simp [h2]
   ·simp [h1, show ¬ k < m + 1 by omega, show ¬ (m : Int) = k by omega]
theorem cnt_one (n : Nat) (a : Int) (h0 : 0 ≤ a) (h : a ≤ n) : cnt n (fun q => q == a) = 1 := by
 obtain ⟨k, rfl⟩ : ∃ k : Nat, a = k := ⟨a.toNat, by omega⟩
 exact (cnt_at k (n + 1)).trans (if_pos (by omega))
theorem cnt_add (n : Nat) (P : Int → Bool) (a : Int) (h0 : 0 ≤ a) (h : a ≤ n) (hP : P a = false) : cnt n (fun q => P q || q == a) = cnt n P + 1 := by
 rw [← cnt_one n a h0 h]
 unfold cnt
 generalize List.range (n + 1) = L
 induction L with
 | nil => rfl
 | cons q L ih =>
  rw [List.countP_cons, List.countP_cons, List.countP_cons, ih]
  by_cases hq : (q : Int) = a
  ·simp [hq, hP]; omega
  ·simp [hq]; omega
theorem cnt_all (n : Nat) (P : Int → Bool) (h : cnt n P = n + 1) (q : Nat) (hq : q ≤ n) : P (q : Int) = true := by
 unfold cnt at h
 have e : (List.range (n + 1)).countP (fun q : Nat => P (q : Int)) = (List.range (n + 1)).length := by simpa using h
 exact List.countP_eq_length.1 e q (List.mem_range.2 (by omega))
section
variable {n : Nat} {l : List S32} (hc : Gm.connB ((n : Int) + 1) l = true)
include hc
theorem cross (P : Int → Bool) (a : Int) (h0 : 0 ≤ a) (ha : a ≤ n) (hPa : P a = true) (hn : cnt n P < n + 1) : ∃ s ∈ l, P s.f0 ≠ P s.f1 := by
 apply Classical.byContradiction
 intro hno
 have hall : ∀ s ∈ l, P s.f0 = P s.f1 := fun s hs => Classical.byContradiction (fun h => hno ⟨s, hs, h⟩)
 have hx : ∀ p : Int, 0 ≤ p → p ≤ n → (if P p = true then (1 : Rat) else 0) = if P 0 = true then 1 else 0 := fun p q0 q1 =>
  conn_rat hc (x := fun q => if P q = true then 1 else 0) (fun s hs => by rw [hall s hs]) p q0 q1
 have h1 := hx a h0 ha
 rw [if_pos hPa] at h1
 have hP0 : P 0 = true := by
  by_cases e : P 0 = true
  ·exact e
  ·rw [if_neg e] at h1; grind
 have h2 : cnt n P = n + 1 := by
  unfold cnt
  have : (List.range (n + 1)).countP (fun q : Nat => P (q : Int)) = (List.range (n + 1)).length := List.countP_eq_length.2 (fun q hq => by
   have := hx (q : Int) (by omega) (by have := List.mem_range.1 hq; omega)
   rw [if_pos hP0] at this
   by_cases e : P (q : Int) = true
   ·exact e
   ·rw [if_neg e] at this; grind)
  simpa using this
 omega
theorem reach (x : Int → Rat) (a : Int) (h0 : 0 ≤ a) (ha : a ≤ n) (k : Nat) (hk : k ≤ n) : ∃ P : Int → Bool, P a = true ∧ cnt n P = k + 1 ∧ ∀ q : Int, P q = true → (x q - x a) * (x q - x a) ≤ (k : Rat) * en P x l := by
 induction k with
 | zero =>
  refine ⟨fun q => q == a, by simp, cnt_one n a h0 ha, fun q hq => ?_⟩
  have : q = a := by simpa using hq
  rw [this]
  have e0 : ((0 : Nat) : Rat) = 0 := rfl
  rw [e0]
  grind
 | succ k ih =>
  obtain ⟨P, hPa, hPc, hP⟩ := ih (by omega)
  obtain ⟨s, hs, hne⟩ := cross hc P a h0 ha hPa (by omega)
  have hv := mem_at (conn_v hc) s hs
  obtain ⟨r, q', hr, hq', hrq, hin⟩ : ∃ r q' : Int, P r = true ∧ P q' = false ∧ (x q' - x r) * (x q' - x r) = dif x s * dif x s ∧ (0 ≤ q' ∧ q' ≤ n ∧ ((s.f0 = r ∧ s.f1 = q') ∨ (s.f0 = q' ∧ s.f1 = r))) := by
   cases h : P s.f0 with
   | true =>
    have h1 : P s.f1 = false := by
     cases e : P s.f1 with
     | true => exact absurd (h.trans e.symm) hne
     | false => rfl
    exact ⟨s.f0, s.f1, h, h1, rfl, by omega, by omega, Or.inl ⟨rfl, rfl⟩⟩
   | false =>
    have h1 : P s.f1 = true := by
     cases e : P s.f1 with
     | true => rfl
     | false => exact absurd (h.trans e.symm) hne
    exact ⟨s.f1, s.f0, h1, h, by unfold dif; grind, by omega, by omega, Or.inr ⟨rfl, rfl⟩⟩
  have hE : 0 ≤ en P x l := sm_nonneg (fun t _ => by
   split
   ·exact sq_nn _
   ·exact Rat.le_refl)
  have hF : en P x l + dif x s * dif x s ≤ en (fun q => P q || q == q') x l := by
   have hg : ∀ t, t ∈ l → 0 ≤ (if ((P t.f0 || t.f0 == q') && (P t.f1 || t.f1 == q')) = true then dif x t * dif x t else 0) - (if (P t.f0 && P t.f1) = true then dif x t * dif x t else 0) := fun t _ => by
    have hsq := sq_nn (dif x t)
    cases h1 : P t.f0 <;> cases h2 : P t.f1 <;> simp <;> (try split) <;> grind
   have h1 := sm_one hg s hs
   rw [sm_sub] at h1
   have h2 : (if ((P s.f0 || s.f0 == q') && (P s.f1 || s.f1 == q')) = true then dif x s * dif x s else 0) - (if (P s.f0 && P s.f1) = true then dif x s * dif x s else 0) = dif x s * dif x s := by
    rcases hin.2.2 with ⟨e1, e2⟩ | ⟨e1, e2⟩
    ·rw [e1, e2, hr, hq']; simp; grind
    ·rw [e1, e2, hr, hq']; simp; grind
   rw [h2] at h1
   unfold en
   grind
  refine ⟨fun q => P q || q == q', by simp [hPa], by rw [cnt_add n P q' hin.1 hin.2.1 hq', hPc], fun q hq => ?_⟩
  cases hPq : P q with
  | true =>
   have h1 := hP q hPq
   have h2 := step_le (d := 0) (D := 0) (F := en (fun q => P q || q == q') x l) h1 (by grind) hE (by have := sq_nn (dif x s); grind)
   rw [Rat.add_zero] at h2
   exact h2
  | false =>
   have e : q = q' := by
    dsimp only at hq
    rw [hPq] at hq
    simpa using hq
   rw [e]
   have h2 := step_le (u := x r - x a) (d := x q' - x r) (hP r hr) hrq hE hF
   have e2 : x r - x a + (x q' - x r) = x q' - x a := by grind
   rw [e2] at h2
   exact h2
theorem path (x : Int → Rat) (a b : Int) (h0 : 0 ≤ a) (ha : a ≤ n) (hb0 : 0 ≤ b) (hb : b ≤ n) : (x b - x a) * (x b - x a) ≤ 4 * B l x x := by
 obtain ⟨P, hPa, hPc, hP⟩ := reach hc x a h0 ha n (Nat.le_refl _)
 obtain ⟨q, rfl⟩ : ∃ q : Nat, b = q := ⟨b.toNat, by omega⟩
 have h1 := hP (q : Int) (cnt_all n P hPc q (by omega))
 have h2 : en P x l ≤ B l x x := sm_le (fun s hs => by
  have hw := w_pos hc s hs
  have hsq := sq_nn (dif x s)
  have h3 : 1 * (dif x s * dif x s) ≤ (s.f3 : Rat) * (dif x s * dif x s) := Rat.mul_le_mul_of_nonneg_right hw hsq
  split <;> grind)
 have hn4 : (n : Rat) ≤ 4 := by
  have := (conn_n hc).2.1
  have : (n : Rat) ≤ ((4 : Nat) : Rat) := by exact_mod_cast this
  simpa using this
 have hn0 : (0 : Rat) ≤ (n : Rat) := by exact_mod_cast Nat.zero_le n
 have hBn := B_nonneg hc x
 have h4 : (n : Rat) * en P x l ≤ (n : Rat) * B l x x := Rat.mul_le_mul_of_nonneg_left h2 hn0
 have h5 : (n : Rat) * B l x x ≤ 4 * B l x x := Rat.mul_le_mul_of_nonneg_right hn4 hBn
 exact Rat.le_trans h1 (Rat.le_trans h4 h5)
section
variable {a b c : Int} (ha0 : 0 ≤ a) (ha : a ≤ n) (hb0 : 0 ≤ b) (hb : b ≤ n)
include ha0 ha hb0 hb
end
theorem energy_le : B l (hts n l) (hts n l) ≤ ((240000 : Int) : Rat) := by
 have h1 := rise_sq hc
 have h2 := normal hc (hts n l)
 have e : sm (fun s : S32 => (s.f3 : Rat) * (((s.f2 : Rat) - dif (fun _ => 0) s) * ((s.f2 : Rat) - dif (fun _ => 0) s))) l = sm (fun s : S32 => (s.f3 : Rat) * (res n l s * res n l s)) l + 2 * sm (fun s : S32 => (s.f3 : Rat) * (res n l s * dif (hts n l) s)) l + B l (hts n l) (hts n l) := by
  unfold B
  rw [← sm_mul, ← sm_add, ← sm_add]
  refine sm_congr (fun s _ => ?_)
  unfold res dif
  grind
 have h3 : 0 ≤ sm (fun s : S32 => (s.f3 : Rat) * (res n l s * res n l s)) l := sm_nonneg (fun s hs => term_nonneg (w_pos hc s hs))
 rw [e, h2] at h1
 grind
theorem rise_le {a b : Int} (ha0 : 0 ≤ a) (ha : a ≤ n) (hb0 : 0 ≤ b) (hb : b ≤ n) : -1000 ≤ rise n l a b ∧ rise n l a b ≤ 1000 := by
 have h1 := path hc (hts n l) a b ha0 ha hb0 hb
 have h2 := energy_le hc
 have e : hts n l b - hts n l a = rise n l a b := rfl
 rw [e] at h1
 obtain ⟨r, hr⟩ : ∃ r, r = rise n l a b := ⟨_, rfl⟩
 rw [← hr] at h1 ⊢
 have h3 : ((240000 : Int) : Rat) = 240000 := rfl
 rw [h3] at h2
 have h4 : r * r ≤ 960000 := by grind
 constructor
 ·by_cases hlt : -1000 ≤ r
  ·exact hlt
  ·have h5 : r < -1000 := Rat.not_le.1 hlt
   have h6 : 0 ≤ (-1000 - r) * (1000 - r) := Rat.mul_nonneg (by grind) (by grind)
   grind
 ·by_cases hlt : r ≤ 1000
  ·exact hlt
  ·have h5 : 1000 < r := Rat.not_le.1 hlt
   have h6 : 0 ≤ (r - 1000) * (r + 1000) := Rat.mul_nonneg (by grind) (by grind)
   grind
end
end Go.Proofs.Ytkafbmanmffliaa.Pc

/- Plain: the uncertainties and the rises as whole numbers over their denominators. -/
namespace Go.Proofs.Ytkafbmanmffliaa.Pd
open Go Go.RowKit YtkafbmanmffliaaW.PrintWords Q
set_option linter.unusedSectionVars false
section
variable {n : Nat} {l : List S32} (hc : Gm.connB ((n : Int) + 1) l = true)
include hc
section
variable {a b : Int} (ha0 : 0 ≤ a) (ha : a ≤ n) (hb0 : 0 ≤ b) (hb : b ≤ n)
include ha0 ha hb0 hb
end
section
variable {a b c : Int} (ha0 : 0 ≤ a) (ha : a ≤ n) (hb0 : 0 ≤ b) (hb : b ≤ n) (hc0 : 0 ≤ c) (hcn : c ≤ n)
include ha0 ha hb0 hb hc0 hcn
end
end
end Go.Proofs.Ytkafbmanmffliaa.Pd

namespace Go.Proofs.Ytkafbmanmffliaa.Q
open Go.RowKit YtkafbmanmffliaaW.PrintWords YtkafbmanmffliaaW.PrintLast YtkafbmanmffliaaW.PrintMore
attribute [local go_sem] max2_int min2_int max_two min_two max_three min_three max_four min_four
def IsS102 (w0 W : World) (g : Nat) (f0 : List Int) (f1 : Int) (f2 : Int) : Prop := ∃ A0 c0, W.heap[g]? = some (.cells #[.slice A0 f0.length c0, .int .i64 f1, .int .u64 f2] 102 (0, 0)) ∧ w0.heap.size ≤ g ∧ Kd.C (Kd.int .u8) w0 A0 f0.length f0
theorem IsS102.grown {w0 W : World} {g : Nat} {f0 : List Int} {f1 : Int} {f2 : Int} {W1 : World} {row : Option Nat} (h : IsS102 w0 W g f0 f1 f2) (hw : W.grownBy W1 row) (hne : some g ≠ row) : IsS102 w0 W1 g f0 f1 f2 := by
 obtain ⟨A0, c0, hb, hg, hr0⟩ := h
 exact ⟨A0, c0, blk_grown hb hw hne, hg, hr0⟩
theorem IsS102.kept {w0 W : World} {g : Nat} {f0 : List Int} {f1 : Int} {f2 : Int} {W1 : World} {S : Nat → Prop} (h : IsS102 w0 W g f0 f1 f2) (hk : Kept W W1 S) (hne : ¬ S g) : IsS102 w0 W1 g f0 f1 f2 := by
 obtain ⟨A0, c0, hb, hg, hr0⟩ := h
 exact ⟨A0, c0, blk_kept hb hk hne, hg, hr0⟩
theorem IsS102.below {w0 W : World} {g : Nat} {f0 : List Int} {f1 : Int} {f2 : Int} {W1 : World} (h : IsS102 w0 W g f0 f1 f2) (hw : Below W.heap.size W W1) : IsS102 w0 W1 g f0 f1 f2 := h.grown (grown_of_below hw none) (by simp)
theorem IsS102.alloc {w0 W : World} {g : Nat} {f0 : List Int} {f1 : Int} {f2 : Int} (h : IsS102 w0 W g f0 f1 f2) (o : Obj) : IsS102 w0 (W.alloc o) g f0 f1 f2 := h.below (below_alloc (Below.refl _ _) o)
theorem IsS102.drewN {w0 W : World} {g : Nat} {f0 : List Int} {f1 : Int} {f2 : Int} (h : IsS102 w0 W g f0 f1 f2) (m : Nat) : IsS102 w0 (W.drewN m) g f0 f1 f2 := h
theorem IsS102.drew {w0 W : World} {g : Nat} {f0 : List Int} {f1 : Int} {f2 : Int} (h : IsS102 w0 W g f0 f1 f2) : IsS102 w0 W.drew g f0 f1 f2 := h
theorem IsS102.at_ {w0 W : World} {g : Nat} {f0 : List Int} {f1 : Int} {f2 : Int} {w' : World} {m : Nat} (hq : W.drewN m = w') (h : IsS102 w0 W g f0 f1 f2) : IsS102 w0 w' g f0 f1 f2 := by subst hq; exact IsS102.drewN h m
theorem IsS102.apart {w0 W : World} {g : Nat} {f0 : List Int} {f1 : Int} {f2 : Int} {α : Type} {d : Kd α} {e : Nat} {base : Nat} {ok : Nat → Prop} {v : Value} {xs : List α} (h : IsS102 w0 W g f0 f1 f2) (ho : d.R e W base ok v xs) (ht : ∀ q, q ∈ e :: d.E → q ≠ 102) : d.R e W base (fun k => ok k ∧ k ≠ g) v xs := by
 obtain ⟨A0, c0, hb, hg, hr0⟩ := h
 exact Kd.R_types ho hb ht
theorem IsS102.own_ne {w0 W : World} {g : Nat} {f0 : List Int} {f1 : Int} {f2 : Int} {α : Type} {d : Kd α} {e : Nat} {base : Nat} {ok : Nat → Prop} {v : Value} {xs : List α} (h : IsS102 w0 W g f0 f1 f2) (ho : d.R e W base ok v xs) (ht : e ≠ 102) : some g ≠ v.ownBlock := by
 obtain ⟨A0, c0, hb, hg, hr0⟩ := h
 exact Kd.R_ne ho hb ht
theorem IsS102.lt {w0 W : World} {g : Nat} {f0 : List Int} {f1 : Int} {f2 : Int} (h : IsS102 w0 W g f0 f1 f2) : g < W.heap.size := by
 obtain ⟨A0, c0, hb, hg, hr0⟩ := h
 exact blk_lt hb
theorem IsS102.ge {w0 W : World} {g : Nat} {f0 : List Int} {f1 : Int} {f2 : Int} (h : IsS102 w0 W g f0 f1 f2) : w0.heap.size ≤ g := by
 obtain ⟨A0, c0, hb, hg, hr0⟩ := h
 exact hg
theorem IsS102.ne_blk {w0 W : World} {g : Nat} {f0 : List Int} {f1 : Int} {f2 : Int} {a : Nat} {cs : Array Value} {t : TypeId} {fr : Nat × Nat} (h : IsS102 w0 W g f0 f1 f2) (hb2 : W.heap[a]? = some (.cells cs t fr)) (ht : t ≠ 102) : g ≠ a := by
 obtain ⟨A0, c0, hb, hg, hr0⟩ := h
 rintro rfl
 rw [hb] at hb2
 injection hb2 with hb2
 injection hb2 with _ ht2
 exact ht ht2.symm
theorem IsS102.far {w0 W : World} {g : Nat} {f0 : List Int} {f1 : Int} {f2 : Int} {p : Addr} (h : IsS102 w0 W g f0 f1 f2) (hne : g ≠ p.block) (u : Value) : IsS102 w0 (W.setCell p u) g f0 f1 f2 := by
 obtain ⟨A0, c0, hb, hg, hr0⟩ := h
 exact ⟨A0, c0, blk_far hb hne u, hg, hr0⟩
theorem cellS102_0 {W : World} {g : Nat} {A0 : Option Addr} {c0 : Nat} {f0 : List Int} {f1 : Int} {f2 : Int} (h : W.heap[g]? = some (.cells #[.slice A0 f0.length c0, .int .i64 f1, .int .u64 f2] 102 (0, 0))) : W.cell? ⟨g, 0, none⟩ = some (.slice A0 f0.length c0) := (blk_cell h 0).trans rfl
theorem cellS102_1 {W : World} {g : Nat} {A0 : Option Addr} {c0 : Nat} {f0 : List Int} {f1 : Int} {f2 : Int} (h : W.heap[g]? = some (.cells #[.slice A0 f0.length c0, .int .i64 f1, .int .u64 f2] 102 (0, 0))) : W.cell? ⟨g, 1, none⟩ = some (.int .i64 f1) := (blk_cell h 1).trans rfl
theorem IsS102.set_1 {w0 W : World} {g : Nat} {f0 : List Int} {f1 : Int} {f2 : Int} (h : IsS102 w0 W g f0 f1 f2) (x : Int) : IsS102 w0 (W.setCell ⟨g, 1, none⟩ (.int .i64 x)) g f0 x f2 := by
 obtain ⟨A0, c0, hb, hg, hr0⟩ := h
 exact ⟨A0, c0, by simpa using blk_set hb 1 (.int .i64 x), hg, hr0⟩
theorem cellS102_2 {W : World} {g : Nat} {A0 : Option Addr} {c0 : Nat} {f0 : List Int} {f1 : Int} {f2 : Int} (h : W.heap[g]? = some (.cells #[.slice A0 f0.length c0, .int .i64 f1, .int .u64 f2] 102 (0, 0))) : W.cell? ⟨g, 2, none⟩ = some (.int .u64 f2) := (blk_cell h 2).trans rfl
theorem IsS102.set_2 {w0 W : World} {g : Nat} {f0 : List Int} {f1 : Int} {f2 : Int} (h : IsS102 w0 W g f0 f1 f2) (x : Int) : IsS102 w0 (W.setCell ⟨g, 2, none⟩ (.int .u64 x)) g f0 f1 x := by
 obtain ⟨A0, c0, hb, hg, hr0⟩ := h
 exact ⟨A0, c0, by simpa using blk_set hb 2 (.int .u64 x), hg, hr0⟩
theorem IsS102.new (w0 W : World) (A0 : Option Addr) (c0 : Nat) (f0 : List Int) (f1 : Int) (f2 : Int) (hB : Below w0.heap.size w0 W) (hr0 : Kd.C (Kd.int .u8) w0 A0 f0.length f0) : IsS102 w0 (W.alloc (.cells #[.slice A0 f0.length c0, .int .i64 f1, .int .u64 f2] 102)) W.heap.size f0 f1 f2 := ⟨A0, c0, by simpa using heap_alloc_new W _, hB.size, hr0⟩
def spec_l00From.f (l0 : List Int) : Option (List Int × Int × Int) := some (l0, 0, 0)
set_option maxHeartbeats 8000000 in
set_option maxRecDepth 100000 in
theorem spec_l00From.calls (A0 : Option Addr) (c0 : Nat) (l0 : List Int) (r1 : List Int) (r2 : Int) (r3 : Int) (w0 w : World) (hB : Below w0.heap.size w0 w) (hr0 : Kd.C (Kd.int .u8) w0 A0 l0.length l0) (hc0 : l0.length ≤ c0) (h : spec_l00From.f l0 = some (r1, r2, r3)) :
  Calls Try.prog 56 #[.slice A0 l0.length c0] w fun e w' => ∃ g_ : Nat, e = .returned (.pointer (some ⟨g_, 0, none⟩)) ∧ IsS102 w0 w' g_ r1 r2 r3 ∧ Below w0.heap.size w0 w' ∧ Below w.heap.size w w' := by
 have hu102 := Try.underlying102
 have HR0 := Aside0.mk hr0
 have HC0 := Aside0.mk hc0
 clear hr0 hc0
 have HBW := Aside0.mk (Below.refl w.heap.size w)
 have HW0 := Aside0.mk hB.size
 have HB := Aside0.mk hB
 clear hB
 have H : (some (l0, 0, 0)) = some (r1, r2, r3) := h
 clear h
 simp only [Option.some.injEq, Prod.mk.injEq] at H
 obtain ⟨rfl, rfl, rfl⟩ := H
 go_enter Try.func56, Try.ntmps56
 go_wp2_with (first | ((with_reducible refine gate_dst (N := 5) rfl ?_); refine box_event ?hg (N := 5) ?hd (cs := #[.slice A0 l0.length c0, .int .i64 0, .int .u64 0]) (t := 102) ?hr ?_; (case hd => rfl); (case hg => rfl); (case hr => first | (go_simp; done) | (go_simp; rfl)); intro gb101 hg w2 hbox hb; have n0_ := Aside0.mk (below_step HBW.out hb); have n1_ := Aside0.mk (below_step (by repeat (first | (with_reducible first | exact HB.out | apply below_alloc | apply pw_below_drewN | apply below_drew1) | exact HB.out)) hb); have n2_ := Aside0.mk (hbox); have n3_ := Aside0.mk ((by rw [hg]; exact (below_size (by repeat (first | (with_reducible first | exact HBW.out | apply below_alloc | apply pw_below_drewN | apply below_drew1) | exact HBW.out))) : w.heap.size ≤ gb101)); have n4_ := Aside0.mk ((Nat.le_trans HW0.out (by rw [hg]; exact (below_size (by repeat (first | (with_reducible first | exact HBW.out | apply below_alloc | apply pw_below_drewN | apply below_drew1) | exact HBW.out))) : w.heap.size ≤ gb101) : w0.heap.size ≤ gb101)); clear HBW; clear HB; have HBW := n0_; have HB := n1_; have BK101 := n2_; have GW101 := n3_; have GE101 := n4_; clear n0_ n1_ n2_ n3_ n4_; clear hb hbox hg))
 go_ret
 exact ⟨_, rfl, (show IsS102 w0 _ gb101 l0 0 0 from ⟨_, _, by (with_reducible repeat (first | refine blk_drewN ?_ _ | refine blk_drew ?_ | refine blk_alloc ?_ _)); exact BK101.out, GE101.out, HR0.out⟩), by repeat (first | (with_reducible first | exact HB.out | apply below_alloc | apply pw_below_drewN | apply below_drew1 | refine below_set ?_ GE101.out) | exact HB.out), by repeat (first | (with_reducible first | exact HBW.out | apply below_alloc | apply pw_below_drewN | apply below_drew1 | refine below_set ?_ GW101.out) | exact HBW.out)⟩
end Go.Proofs.Ytkafbmanmffliaa.Q

namespace Go.Proofs.Ytkafbmanmffliaa.Q
open Go.RowKit YtkafbmanmffliaaW.PrintWords YtkafbmanmffliaaW.PrintLast YtkafbmanmffliaaW.PrintMore
attribute [local go_sem] max2_int min2_int max_two min_two max_three min_three max_four min_four
def spec_l00Src_next.f (s0_0 : List Int) (s0_1 : Int) (s0_2 : Int) : Option (Int × Int × Int) := if s0_1 < (s0_0.length : Int) then (if 0 ≤ s0_1 then (if (wrap64 (s0_1 + 1)) ≤ (s0_0.length : Int) then (some (wrap64 (rd s0_0 s0_1), wrap64 (s0_1 + 1), IntKind.u64.wrap ((IntKind.u64.wrap ((IntKind.u64.wrap (s0_2 * 6364136223846793005)) + (IntKind.u64.wrap (wrap64 (rd s0_0 s0_1))))) + 1442695040888963407))) else (some (wrap64 (Go.bits .and .u64 ((IntKind.u64.wrap ((IntKind.u64.wrap ((IntKind.u64.wrap (s0_2 * 6364136223846793005)) + (IntKind.u64.wrap (wrap64 (rd s0_0 s0_1))))) + 1442695040888963407)) / 1099511627776) 255), wrap64 (s0_1 + 1), IntKind.u64.wrap ((IntKind.u64.wrap ((IntKind.u64.wrap (s0_2 * 6364136223846793005)) + (IntKind.u64.wrap (wrap64 (rd s0_0 s0_1))))) + 1442695040888963407)))) else (none)) else (if (wrap64 (s0_1 + 1)) ≤ (s0_0.length : Int) then (some (0, wrap64 (s0_1 + 1), IntKind.u64.wrap ((IntKind.u64.wrap ((IntKind.u64.wrap (s0_2 * 6364136223846793005)))) + 1442695040888963407))) else (some (wrap64 (Go.bits .and .u64 ((IntKind.u64.wrap ((IntKind.u64.wrap ((IntKind.u64.wrap (s0_2 * 6364136223846793005)))) + 1442695040888963407)) / 1099511627776) 255), wrap64 (s0_1 + 1), IntKind.u64.wrap ((IntKind.u64.wrap ((IntKind.u64.wrap (s0_2 * 6364136223846793005)))) + 1442695040888963407))))
set_option maxHeartbeats 8000000 in
set_option maxRecDepth 100000 in
theorem spec_l00Src_next.calls (g : Nat) (s0_0 : List Int) (s0_1 : Int) (s0_2 : Int) (r1 : Int) (r2 : Int) (r3 : Int) (w0 w : World) (hI : IsS102 w0 w g s0_0 s0_1 s0_2) (hB : Below w0.heap.size w0 w) (h : spec_l00Src_next.f s0_0 s0_1 s0_2 = some (r1, r2, r3)) :
  Calls Try.prog 128 #[.pointer (some ⟨g, 0, none⟩)] w fun e w' => e = .returned (.int .i64 r1) ∧ IsS102 w0 w' g s0_0 r2 r3 ∧ Below w0.heap.size w0 w' ∧ KeepBut w w' g none := by
 have HI0 := Aside0.mk hI
 have HK := Aside0.mk (KeepBut.refl w g none)
 have HL := Aside0.mk hB.size
 clear hI
 have HW0 := Aside0.mk hB.size
 have HB := Aside0.mk hB
 clear hB
 have H : (if s0_1 < (s0_0.length : Int) then (if 0 ≤ s0_1 then (if (wrap64 (s0_1 + 1)) ≤ (s0_0.length : Int) then (some (wrap64 (rd s0_0 s0_1), wrap64 (s0_1 + 1), IntKind.u64.wrap ((IntKind.u64.wrap ((IntKind.u64.wrap (s0_2 * 6364136223846793005)) + (IntKind.u64.wrap (wrap64 (rd s0_0 s0_1))))) + 1442695040888963407))) else (some (wrap64 (Go.bits .and .u64 ((IntKind.u64.wrap ((IntKind.u64.wrap ((IntKind.u64.wrap (s0_2 * 6364136223846793005)) + (IntKind.u64.wrap (wrap64 (rd s0_0 s0_1))))) + 1442695040888963407)) / 1099511627776) 255), wrap64 (s0_1 + 1), IntKind.u64.wrap ((IntKind.u64.wrap ((IntKind.u64.wrap (s0_2 * 6364136223846793005)) + (IntKind.u64.wrap (wrap64 (rd s0_0 s0_1))))) + 1442695040888963407)))) else (none)) else (if (wrap64 (s0_1 + 1)) ≤ (s0_0.length : Int) then (some (0, wrap64 (s0_1 + 1), IntKind.u64.wrap ((IntKind.u64.wrap ((IntKind.u64.wrap (s0_2 * 6364136223846793005)))) + 1442695040888963407))) else (some (wrap64 (Go.bits .and .u64 ((IntKind.u64.wrap ((IntKind.u64.wrap ((IntKind.u64.wrap (s0_2 * 6364136223846793005)))) + 1442695040888963407)) / 1099511627776) 255), wrap64 (s0_1 + 1), IntKind.u64.wrap ((IntKind.u64.wrap ((IntKind.u64.wrap (s0_2 * 6364136223846793005)))) + 1442695040888963407))))) = some (r1, r2, r3) := h
 clear h
 by_cases c2 : s0_1 < (s0_0.length : Int)
 ·rw [if_pos c2] at H
  have c2b0 : decide (s0_1 < (s0_0.length : Int)) = true := decide_eq_true c2
  clear c2
  by_cases c3 : 0 ≤ s0_1
  ·rw [if_pos c3] at H
   have c3b0 : decide (0 ≤ s0_1) = true := decide_eq_true c3
   clear c3
   by_cases c4 : (wrap64 (s0_1 + 1)) ≤ (s0_0.length : Int)
   ·rw [if_pos c4] at H
    have c4b0 : decide ((wrap64 (s0_1 + 1)) ≤ (s0_0.length : Int)) = true := decide_eq_true c4
    clear c4
    simp only [Option.some.injEq, Prod.mk.injEq] at H
    obtain ⟨rfl, rfl, rfl⟩ := H
    obtain ⟨ASz5_0, cSz5_0, HGz5, hgz5, HSz5_0⟩ := HI0.out
    have hcz5_0 := cellS102_0 HGz5
    have hcz5_1 := cellS102_1 HGz5
    have hcz5_2 := cellS102_2 HGz5
    have hfz5_1 := blk_frozen HGz5 1
    have hfz5_2 := blk_frozen HGz5 2
    clear HGz5 hgz5
    have p102 : 0 ≤ (s0_1 : Int) := of_decide_eq_true (by first | (with_reducible assumption) | assumption)
    have q102 : s0_1 < (s0_0.length : Int) := of_decide_eq_true (by first | (with_reducible assumption) | assumption)
    obtain ⟨ad102, e102, hx102_0⟩ := Kd.at_int HSz5_0 s0_1 p102 q102
    cases e102
    replace hx102_0 := pw_cell_below HB.out hx102_0
    replace p102 := eq_true p102
    replace q102 := eq_true q102
    go_enter Try.func128, Try.ntmps128
    go_wp2
    repeat (go_quiet (fail); try go_wp2)
    go_ret
    exact ⟨by first | rfl | (simp [errW_none, errW_some] <;> rfl) | (simp [*, errW_none, errW_some] <;> rfl), by repeat (first | (with_reducible first | exact HI0.out | apply IsS102.alloc | apply IsS102.drewN | apply IsS102.drew | apply IsS102.set_1 | apply IsS102.set_2) | exact HI0.out), by repeat (first | (with_reducible first | exact HB.out | apply below_alloc | apply pw_below_drewN | apply below_drew1 | refine below_set ?_ (IsS102.ge HI0.out)) | exact HB.out), by repeat (first | (with_reducible first | exact HK.out | apply KeepBut.set_ | apply keep_drewN | apply keep_drew | apply keep_alloc) | exact HK.out)⟩
   ·rw [if_neg c4] at H
    have c4b0 : decide ((wrap64 (s0_1 + 1)) ≤ (s0_0.length : Int)) = false := decide_eq_false c4
    clear c4
    simp only [Option.some.injEq, Prod.mk.injEq] at H
    obtain ⟨rfl, rfl, rfl⟩ := H
    obtain ⟨ASz6_0, cSz6_0, HGz6, hgz6, HSz6_0⟩ := HI0.out
    have hcz6_0 := cellS102_0 HGz6
    have hcz6_1 := cellS102_1 HGz6
    have hcz6_2 := cellS102_2 HGz6
    have hfz6_1 := blk_frozen HGz6 1
    have hfz6_2 := blk_frozen HGz6 2
    clear HGz6 hgz6
    have p102 : 0 ≤ (s0_1 : Int) := of_decide_eq_true (by first | (with_reducible assumption) | assumption)
    have q102 : s0_1 < (s0_0.length : Int) := of_decide_eq_true (by first | (with_reducible assumption) | assumption)
    obtain ⟨ad102, e102, hx102_0⟩ := Kd.at_int HSz6_0 s0_1 p102 q102
    cases e102
    replace hx102_0 := pw_cell_below HB.out hx102_0
    replace p102 := eq_true p102
    replace q102 := eq_true q102
    go_enter Try.func128, Try.ntmps128
    go_wp2
    repeat (go_quiet (fail); try go_wp2)
    go_ret
    exact ⟨by first | rfl | (simp [errW_none, errW_some] <;> rfl) | (simp [*, errW_none, errW_some] <;> rfl), by repeat (first | (with_reducible first | exact HI0.out | apply IsS102.alloc | apply IsS102.drewN | apply IsS102.drew | apply IsS102.set_1 | apply IsS102.set_2) | exact HI0.out), by repeat (first | (with_reducible first | exact HB.out | apply below_alloc | apply pw_below_drewN | apply below_drew1 | refine below_set ?_ (IsS102.ge HI0.out)) | exact HB.out), by repeat (first | (with_reducible first | exact HK.out | apply KeepBut.set_ | apply keep_drewN | apply keep_drew | apply keep_alloc) | exact HK.out)⟩
  ·rw [if_neg c3] at H
   exact absurd H (by simp)
 ·rw [if_neg c2] at H
  have c2b0 : decide (s0_1 < (s0_0.length : Int)) = false := decide_eq_false c2
  clear c2
  by_cases c7 : (wrap64 (s0_1 + 1)) ≤ (s0_0.length : Int)
  ·rw [if_pos c7] at H
   have c7b0 : decide ((wrap64 (s0_1 + 1)) ≤ (s0_0.length : Int)) = true := decide_eq_true c7
   clear c7
   simp only [Option.some.injEq, Prod.mk.injEq] at H
   obtain ⟨rfl, rfl, rfl⟩ := H
   obtain ⟨ASz8_0, cSz8_0, HGz8, hgz8, HSz8_0⟩ := HI0.out
   have hcz8_0 := cellS102_0 HGz8
   have hcz8_1 := cellS102_1 HGz8
   have hcz8_2 := cellS102_2 HGz8
   have hfz8_1 := blk_frozen HGz8 1
   have hfz8_2 := blk_frozen HGz8 2
   clear HGz8 hgz8
   go_enter Try.func128, Try.ntmps128
   go_wp2
   repeat (go_quiet (fail); try go_wp2)
   go_ret
   exact ⟨by first | rfl | (simp [errW_none, errW_some] <;> rfl) | (simp [*, errW_none, errW_some] <;> rfl), by repeat (first | (with_reducible first | exact HI0.out | apply IsS102.alloc | apply IsS102.drewN | apply IsS102.drew | apply IsS102.set_1 | apply IsS102.set_2) | exact HI0.out), by repeat (first | (with_reducible first | exact HB.out | apply below_alloc | apply pw_below_drewN | apply below_drew1 | refine below_set ?_ (IsS102.ge HI0.out)) | exact HB.out), by repeat (first | (with_reducible first | exact HK.out | apply KeepBut.set_ | apply keep_drewN | apply keep_drew | apply keep_alloc) | exact HK.out)⟩
  ·rw [if_neg c7] at H
   have c7b0 : decide ((wrap64 (s0_1 + 1)) ≤ (s0_0.length : Int)) = false := decide_eq_false c7
   clear c7
   simp only [Option.some.injEq, Prod.mk.injEq] at H
   obtain ⟨rfl, rfl, rfl⟩ := H
   obtain ⟨ASz9_0, cSz9_0, HGz9, hgz9, HSz9_0⟩ := HI0.out
   have hcz9_0 := cellS102_0 HGz9
   have hcz9_1 := cellS102_1 HGz9
   have hcz9_2 := cellS102_2 HGz9
   have hfz9_1 := blk_frozen HGz9 1
   have hfz9_2 := blk_frozen HGz9 2
   clear HGz9 hgz9
   go_enter Try.func128, Try.ntmps128
   go_wp2
   repeat (go_quiet (fail); try go_wp2)
   go_ret
   exact ⟨by first | rfl | (simp [errW_none, errW_some] <;> rfl) | (simp [*, errW_none, errW_some] <;> rfl), by repeat (first | (with_reducible first | exact HI0.out | apply IsS102.alloc | apply IsS102.drewN | apply IsS102.drew | apply IsS102.set_1 | apply IsS102.set_2) | exact HI0.out), by repeat (first | (with_reducible first | exact HB.out | apply below_alloc | apply pw_below_drewN | apply below_drew1 | refine below_set ?_ (IsS102.ge HI0.out)) | exact HB.out), by repeat (first | (with_reducible first | exact HK.out | apply KeepBut.set_ | apply keep_drewN | apply keep_drew | apply keep_alloc) | exact HK.out)⟩
end Go.Proofs.Ytkafbmanmffliaa.Q

namespace Go.Proofs.Ytkafbmanmffliaa.Q
open Go.RowKit YtkafbmanmffliaaW.PrintWords YtkafbmanmffliaaW.PrintLast YtkafbmanmffliaaW.PrintMore
attribute [local go_sem] max2_int min2_int max_two min_two max_three min_three max_four min_four
def spec_l00Src_pick.f (s0_0 : List Int) (s0_1 : Int) (s0_2 : Int) (a1 : Int) : Option (Int × Int × Int) := if a1 ≤ 1 then (some (0, s0_1, s0_2)) else ((spec_l00Src_next.f s0_0 s0_1 s0_2).bind fun bt103 => (if a1 > 200 then ((spec_l00Src_next.f s0_0 bt103.2.1 bt103.2.2).bind fun bt106 => (if a1 = 0 then (none) else (some (Int.tmod (wrap64 ((wrap64 (bt103.1 * 256)) + bt106.1)) a1, bt106.2.1, bt106.2.2)))) else (if a1 = 0 then (none) else (some (Int.tmod bt103.1 a1, bt103.2.1, bt103.2.2)))))
set_option maxHeartbeats 8000000 in
set_option maxRecDepth 100000 in
theorem spec_l00Src_pick.calls (g : Nat) (s0_0 : List Int) (s0_1 : Int) (s0_2 : Int) (a1 : Int) (r1 : Int) (r2 : Int) (r3 : Int) (w0 w : World) (hI : IsS102 w0 w g s0_0 s0_1 s0_2) (hB : Below w0.heap.size w0 w) (h : spec_l00Src_pick.f s0_0 s0_1 s0_2 a1 = some (r1, r2, r3)) :
  Calls Try.prog 97 #[.pointer (some ⟨g, 0, none⟩), .int .i64 a1] w fun e w' => e = .returned (.int .i64 r1) ∧ IsS102 w0 w' g s0_0 r2 r3 ∧ Below w0.heap.size w0 w' ∧ KeepBut w w' g none := by
 have HI0 := Aside0.mk hI
 have HK := Aside0.mk (KeepBut.refl w g none)
 have HL := Aside0.mk hB.size
 clear hI
 have HW0 := Aside0.mk hB.size
 have HB := Aside0.mk hB
 clear hB
 have H : (if a1 ≤ 1 then (some (0, s0_1, s0_2)) else ((spec_l00Src_next.f s0_0 s0_1 s0_2).bind fun bt103 => (if a1 > 200 then ((spec_l00Src_next.f s0_0 bt103.2.1 bt103.2.2).bind fun bt106 => (if a1 = 0 then (none) else (some (Int.tmod (wrap64 ((wrap64 (bt103.1 * 256)) + bt106.1)) a1, bt106.2.1, bt106.2.2)))) else (if a1 = 0 then (none) else (some (Int.tmod bt103.1 a1, bt103.2.1, bt103.2.2)))))) = some (r1, r2, r3) := h
 clear h
 by_cases c3 : a1 ≤ 1
 ·rw [if_pos c3] at H
  have c3b0 : decide (a1 ≤ 1) = true := decide_eq_true c3
  clear c3
  simp only [Option.some.injEq, Prod.mk.injEq] at H
  obtain ⟨rfl, rfl, rfl⟩ := H
  go_enter Try.func97, Try.ntmps97
  go_wp2
  go_ret
  exact ⟨by first | rfl | (simp [errW_none, errW_some] <;> rfl) | (simp [*, errW_none, errW_some] <;> rfl), by repeat (first | (with_reducible first | exact HI0.out | apply IsS102.alloc | apply IsS102.drewN | apply IsS102.drew | apply IsS102.set_1 | apply IsS102.set_2) | exact HI0.out), by repeat (first | (with_reducible first | exact HB.out | apply below_alloc | apply pw_below_drewN | apply below_drew1 | refine below_set ?_ (IsS102.ge HI0.out)) | exact HB.out), by repeat (first | (with_reducible first | exact HK.out | apply KeepBut.set_ | apply keep_drewN | apply keep_drew | apply keep_alloc) | exact HK.out)⟩
 ·rw [if_neg c3] at H
  have c3b0 : decide (a1 ≤ 1) = false := decide_eq_false c3
  clear c3
  replace H := Option.bind_eq_some_iff.mp H
  obtain ⟨⟨t103, t104, t105⟩, A40, H⟩ := H
  replace H : (if a1 > 200 then ((spec_l00Src_next.f s0_0 t104 t105).bind fun bt106 => (if a1 = 0 then (none) else (some (Int.tmod (wrap64 ((wrap64 (t103 * 256)) + bt106.1)) a1, bt106.2.1, bt106.2.2)))) else (if a1 = 0 then (none) else (some (Int.tmod t103 a1, t104, t105)))) = some (r1, r2, r3) := H
  have A4 := Aside0.mk A40
  clear A40
  by_cases c5 : a1 > 200
  ·rw [if_pos c5] at H
   have c5b0 : decide (200 < a1) = true := decide_eq_true c5
   clear c5
   replace H := Option.bind_eq_some_iff.mp H
   obtain ⟨⟨t106, t107, t108⟩, A60, H⟩ := H
   replace H : (if a1 = 0 then (none) else (some (Int.tmod (wrap64 ((wrap64 (t103 * 256)) + t106)) a1, t107, t108))) = some (r1, r2, r3) := H
   have A6 := Aside0.mk A60
   clear A60
   by_cases c7 : a1 = 0
   ·rw [if_pos c7] at H
    exact absurd H (by simp)
   ·rw [if_neg c7] at H
    have c7b0 : (a1 == 0) = false := beq_eq_false_iff_ne.mpr c7
    have c7b1 : (a1 != 0) = true := bne_iff_ne.mpr c7
    simp only [Option.some.injEq, Prod.mk.injEq] at H
    obtain ⟨rfl, rfl, rfl⟩ := H
    go_enter Try.func97, Try.ntmps97
    go_wp2_with (first | ((with_reducible refine gate_callee (f := 128) rfl ?_); refine goesL_ (some 9) rfl rfl Try.func128 (by kernel_rfl) rfl #[.pointer (some ⟨g, 0, none⟩)] rfl (by (try simp only [List.map_toArray, List.map_cons, List.map_nil]); first | done | rfl | (simp only [List.length_drop, List.length_take]; rfl)) ?_; (with_reducible refine (spec_l00Src_next.calls g s0_0 s0_1 s0_2 t103 t104 t105 w0 _ ?side1 ?side2 A4.out).mono ?_); (case side1 => repeat (first | (with_reducible first | exact HI0.out | apply IsS102.alloc | apply IsS102.drewN | apply IsS102.drew | apply IsS102.set_1 | apply IsS102.set_2) | exact HI0.out)); (case side2 => repeat (first | (with_reducible first | exact HB.out | apply below_alloc | apply pw_below_drewN | apply below_drew1 | refine below_set ?_ (IsS102.ge HI0.out)) | exact HB.out)); rintro e w8 ⟨rfl, hi, hb, hk⟩; refine ⟨_, rfl, ?_⟩; have n0_ := Aside0.mk (KeepBut.trans (by repeat (first | (with_reducible first | exact HK.out | apply KeepBut.set_ | apply keep_drewN | apply keep_drew | apply keep_alloc) | exact HK.out)) hk (.inl rfl)); have n1_ := Aside0.mk (hb); have n2_ := Aside0.mk (hi); clear HK; clear HB; clear HI0; have HK := n0_; have HB := n1_; have HI0 := n2_; clear n0_ n1_ n2_; (try clear hb); (try clear hb2); (try clear hk); (try clear hi)) | ((with_reducible refine gate_callee (f := 128) rfl ?_); refine goesL_ (some 15) rfl rfl Try.func128 (by kernel_rfl) rfl #[.pointer (some ⟨g, 0, none⟩)] rfl (by (try simp only [List.map_toArray, List.map_cons, List.map_nil]); first | done | rfl | (simp only [List.length_drop, List.length_take]; rfl)) ?_; (with_reducible refine (spec_l00Src_next.calls g s0_0 t104 t105 t106 t107 t108 w0 _ ?side1 ?side2 A6.out).mono ?_); (case side1 => repeat (first | (with_reducible first | exact HI0.out | apply IsS102.alloc | apply IsS102.drewN | apply IsS102.drew | apply IsS102.set_1 | apply IsS102.set_2) | exact HI0.out)); (case side2 => repeat (first | (with_reducible first | exact HB.out | apply below_alloc | apply pw_below_drewN | apply below_drew1 | refine below_set ?_ (IsS102.ge HI0.out)) | exact HB.out)); rintro e w9 ⟨rfl, hi, hb, hk⟩; refine ⟨_, rfl, ?_⟩; have n0_ := Aside0.mk (KeepBut.trans (by repeat (first | (with_reducible first | exact HK.out | apply KeepBut.set_ | apply keep_drewN | apply keep_drew | apply keep_alloc) | exact HK.out)) hk (.inl rfl)); have n1_ := Aside0.mk (hb); have n2_ := Aside0.mk (hi); clear HK; clear HB; clear HI0; have HK := n0_; have HB := n1_; have HI0 := n2_; clear n0_ n1_ n2_; (try clear hb); (try clear hb2); (try clear hk); (try clear hi)))
    go_ret
    exact ⟨by first | rfl | (simp [errW_none, errW_some] <;> rfl) | (simp [*, errW_none, errW_some] <;> rfl), by repeat (first | (with_reducible first | exact HI0.out | apply IsS102.alloc | apply IsS102.drewN | apply IsS102.drew | apply IsS102.set_1 | apply IsS102.set_2) | exact HI0.out), by repeat (first | (with_reducible first | exact HB.out | apply below_alloc | apply pw_below_drewN | apply below_drew1 | refine below_set ?_ (IsS102.ge HI0.out)) | exact HB.out), by repeat (first | (with_reducible first | exact HK.out | apply KeepBut.set_ | apply keep_drewN | apply keep_drew | apply keep_alloc) | exact HK.out)⟩
  ·rw [if_neg c5] at H
   have c5b0 : decide (200 < a1) = false := decide_eq_false c5
   clear c5
   by_cases c10 : a1 = 0
   ·rw [if_pos c10] at H
    exact absurd H (by simp)
   ·rw [if_neg c10] at H
    have c10b0 : (a1 == 0) = false := beq_eq_false_iff_ne.mpr c10
    have c10b1 : (a1 != 0) = true := bne_iff_ne.mpr c10
    simp only [Option.some.injEq, Prod.mk.injEq] at H
    obtain ⟨rfl, rfl, rfl⟩ := H
    go_enter Try.func97, Try.ntmps97
    go_wp2_with (first | ((with_reducible refine gate_callee (f := 128) rfl ?_); refine goesL_ (some 9) rfl rfl Try.func128 (by kernel_rfl) rfl #[.pointer (some ⟨g, 0, none⟩)] rfl (by (try simp only [List.map_toArray, List.map_cons, List.map_nil]); first | done | rfl | (simp only [List.length_drop, List.length_take]; rfl)) ?_; (with_reducible refine (spec_l00Src_next.calls g s0_0 s0_1 s0_2 t103 t104 t105 w0 _ ?side1 ?side2 A4.out).mono ?_); (case side1 => repeat (first | (with_reducible first | exact HI0.out | apply IsS102.alloc | apply IsS102.drewN | apply IsS102.drew | apply IsS102.set_1 | apply IsS102.set_2) | exact HI0.out)); (case side2 => repeat (first | (with_reducible first | exact HB.out | apply below_alloc | apply pw_below_drewN | apply below_drew1 | refine below_set ?_ (IsS102.ge HI0.out)) | exact HB.out)); rintro e w11 ⟨rfl, hi, hb, hk⟩; refine ⟨_, rfl, ?_⟩; have n0_ := Aside0.mk (KeepBut.trans (by repeat (first | (with_reducible first | exact HK.out | apply KeepBut.set_ | apply keep_drewN | apply keep_drew | apply keep_alloc) | exact HK.out)) hk (.inl rfl)); have n1_ := Aside0.mk (hb); have n2_ := Aside0.mk (hi); clear HK; clear HB; clear HI0; have HK := n0_; have HB := n1_; have HI0 := n2_; clear n0_ n1_ n2_; (try clear hb); (try clear hb2); (try clear hk); (try clear hi)))
    go_ret
    exact ⟨by first | rfl | (simp [errW_none, errW_some] <;> rfl) | (simp [*, errW_none, errW_some] <;> rfl), by repeat (first | (with_reducible first | exact HI0.out | apply IsS102.alloc | apply IsS102.drewN | apply IsS102.drew | apply IsS102.set_1 | apply IsS102.set_2) | exact HI0.out), by repeat (first | (with_reducible first | exact HB.out | apply below_alloc | apply pw_below_drewN | apply below_drew1 | refine below_set ?_ (IsS102.ge HI0.out)) | exact HB.out), by repeat (first | (with_reducible first | exact HK.out | apply KeepBut.set_ | apply keep_drewN | apply keep_drew | apply keep_alloc) | exact HK.out)⟩
end Go.Proofs.Ytkafbmanmffliaa.Q

namespace Go.Proofs.Ytkafbmanmffliaa.Q
open Go.RowKit YtkafbmanmffliaaW.PrintWords YtkafbmanmffliaaW.PrintLast YtkafbmanmffliaaW.PrintMore
attribute [local go_sem] max2_int min2_int max_two min_two max_three min_three max_four min_four
def spec_l00Src_one.f (s0_0 : List Int) (s0_1 : Int) (s0_2 : Int) (a1 : Int) : Option (Bool × Int × Int) := (spec_l00Src_pick.f s0_0 s0_1 s0_2 a1).bind fun bt109 => (some ((bt109.1 == 0), bt109.2.1, bt109.2.2))
set_option maxHeartbeats 8000000 in
set_option maxRecDepth 100000 in
theorem spec_l00Src_one.calls (g : Nat) (s0_0 : List Int) (s0_1 : Int) (s0_2 : Int) (a1 : Int) (r1 : Bool) (r2 : Int) (r3 : Int) (w0 w : World) (hI : IsS102 w0 w g s0_0 s0_1 s0_2) (hB : Below w0.heap.size w0 w) (h : spec_l00Src_one.f s0_0 s0_1 s0_2 a1 = some (r1, r2, r3)) :
  Calls Try.prog 96 #[.pointer (some ⟨g, 0, none⟩), .int .i64 a1] w fun e w' => e = .returned (.bool r1) ∧ IsS102 w0 w' g s0_0 r2 r3 ∧ Below w0.heap.size w0 w' ∧ KeepBut w w' g none := by
 have HI0 := Aside0.mk hI
 have HK := Aside0.mk (KeepBut.refl w g none)
 have HL := Aside0.mk hB.size
 clear hI
 have HW0 := Aside0.mk hB.size
 have HB := Aside0.mk hB
 clear hB
 have H : ((spec_l00Src_pick.f s0_0 s0_1 s0_2 a1).bind fun bt109 => (some ((bt109.1 == 0), bt109.2.1, bt109.2.2))) = some (r1, r2, r3) := h
 clear h
 replace H := Option.bind_eq_some_iff.mp H
 obtain ⟨⟨t109, t110, t111⟩, A30, H⟩ := H
 replace H : (some ((t109 == 0), t110, t111)) = some (r1, r2, r3) := H
 have A3 := Aside0.mk A30
 clear A30
 simp only [Option.some.injEq, Prod.mk.injEq] at H
 obtain ⟨rfl, rfl, rfl⟩ := H
 go_enter Try.func96, Try.ntmps96
 go_wp2_with (first | ((with_reducible refine gate_callee (f := 97) rfl ?_); refine goesL_ (some 7) rfl rfl Try.func97 (by kernel_rfl) rfl #[.pointer (some ⟨g, 0, none⟩), .int .i64 a1] rfl (by (try simp only [List.map_toArray, List.map_cons, List.map_nil]); first | done | rfl | (simp only [List.length_drop, List.length_take]; rfl)) ?_; (with_reducible refine (spec_l00Src_pick.calls g s0_0 s0_1 s0_2 a1 t109 t110 t111 w0 _ ?side1 ?side2 A3.out).mono ?_); (case side1 => repeat (first | (with_reducible first | exact HI0.out | apply IsS102.alloc | apply IsS102.drewN | apply IsS102.drew | apply IsS102.set_1 | apply IsS102.set_2) | exact HI0.out)); (case side2 => repeat (first | (with_reducible first | exact HB.out | apply below_alloc | apply pw_below_drewN | apply below_drew1 | refine below_set ?_ (IsS102.ge HI0.out)) | exact HB.out)); rintro e w4 ⟨rfl, hi, hb, hk⟩; refine ⟨_, rfl, ?_⟩; have n0_ := Aside0.mk (KeepBut.trans (by repeat (first | (with_reducible first | exact HK.out | apply KeepBut.set_ | apply keep_drewN | apply keep_drew | apply keep_alloc) | exact HK.out)) hk (.inl rfl)); have n1_ := Aside0.mk (hb); have n2_ := Aside0.mk (hi); clear HK; clear HB; clear HI0; have HK := n0_; have HB := n1_; have HI0 := n2_; clear n0_ n1_ n2_; (try clear hb); (try clear hb2); (try clear hk); (try clear hi)))
 go_ret
 exact ⟨by first | rfl | (simp [errW_none, errW_some] <;> rfl) | (simp [*, errW_none, errW_some] <;> rfl), by repeat (first | (with_reducible first | exact HI0.out | apply IsS102.alloc | apply IsS102.drewN | apply IsS102.drew | apply IsS102.set_1 | apply IsS102.set_2) | exact HI0.out), by repeat (first | (with_reducible first | exact HB.out | apply below_alloc | apply pw_below_drewN | apply below_drew1 | refine below_set ?_ (IsS102.ge HI0.out)) | exact HB.out), by repeat (first | (with_reducible first | exact HK.out | apply KeepBut.set_ | apply keep_drewN | apply keep_drew | apply keep_alloc) | exact HK.out)⟩
end Go.Proofs.Ytkafbmanmffliaa.Q

