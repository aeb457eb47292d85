/- Parts of the proof that the law of this seat holds: Hd, Ht, Vc0, Q66, Vc5, Vc10, Vb8, Vc2, Q73, Pn, Vc8, Vc11, Q75. -/
import Derived.Test.YtkbklocfdoofeaaDoorGRCpb
import Derived.RegionTactic
import Derived.BigRegion
import Derived.Test.YtkbklocfdoofeaaDoorGRCpa
import Derived.Test.YtkbklocfdoofeaaDoorGRCw
set_option linter.unusedVariables false
set_option linter.unusedSimpArgs false
/- The program's readDeed: the deed with a text. -/
namespace Go.Proofs.YtkbklocfdoofeaaDoor.Hd
open Go.RowKit Go.Proofs.YtkbklocfdoofeaaDoorW.PrintWords Go.Proofs.YtkbklocfdoofeaaDoorW.PrintLast Go.Proofs.YtkbklocfdoofeaaDoorW.PrintMore Go.Proofs.YtkbklocfdoofeaaDoor.Q Go.Proofs.YtkbklocfdoofeaaDoor.Ha Go.Proofs.YtkbklocfdoofeaaDoor.Sp Go.Proofs.YtkbklocfdoofeaaDoor.PuD Go.Proofs.YtkbklocfdoofeaaDoor.PuVD Go.Proofs.YtkbklocfdoofeaaDoor.PuDT Go.Proofs.YtkbklocfdoofeaaDoor.Ni

def textN (x : Nine) : List UInt8 := deedT x.1 x.2.1 x.2.2.1 x.2.2.2.1 x.2.2.2.2.1 x.2.2.2.2.2.1 x.2.2.2.2.2.2.1 x.2.2.2.2.2.2.2.1 x.2.2.2.2.2.2.2.2
/-- What is handed back of a deed that was put together out of the text l. -/
def okI (l : List UInt8) (x : Nine) : Nine × Bool := if deedN x = true ∧ textN x = l then (x, true) else (n0, false)

theorem three_cells {w : World} {A : Option Addr} {a b c : Int} (h : (Kd.int .i64).C w A [a, b, c].length [a, b, c]) : ∃ ad, A = some ad ∧ w.cell? ad = some (.int .i64 a) ∧ w.cell? ⟨ad.block, ad.off + 1, none⟩ = some (.int .i64 b) ∧ w.cell? ⟨ad.block, ad.off + 2, none⟩ = some (.int .i64 c) := by
  obtain ⟨ad, rfl, h0⟩ := Kd.at_int h 0 (by decide) (by simp)
  obtain ⟨ad', e, h1⟩ := Kd.at_int h 1 (by decide) (by simp)
  cases e
  obtain ⟨ad', e, h2⟩ := Kd.at_int h 2 (by decide) (by simp)
  cases e
  refine ⟨ad, rfl, ?_, ?_, ?_⟩
  · simpa [rd, Addr.add] using h0
  · simpa [rd, Addr.add] using h1
  · simpa [rd, Addr.add] using h2
theorem three_far {w w2 : World} {ad : Addr} {n c : Nat} {xs : List Int} {g : Nat} {o : Obj} (h : (Kd.int .i64).R 2 w2 w.heap.size (fun _ => True) (.slice (some ad) n c) xs) (hd : w.heap[g]? = some o) : (ad.block = g) = False := by
  obtain ⟨inner, hw⟩ := Kd.R_own h
  have ho := own_base hw ad.block (by simp [Value.ownBlock])
  have hg := blk_lt hd
  exact eq_false (by omega)

theorem cut_at {l p q : List UInt8} {t : Bool} (hc : cut1 32 l = (p, q, t)) (hl : l.length ≤ 1048576) (W : World) (hT : Tb.TC W) :
    Calls Tryd.prog 89 #[.string (txt l), .string (⟨#[32]⟩ : ByteArray)] W fun e w' => e = .returned (.tuple #[.string (txt p), .string (txt q), .bool t]) ∧ Below W.heap.size W w' := by
  have h := cut_any (txt l) 32 W hT.tb (by rw [txt_size]; omega)
  rw [show (txt l).data.toList = l from rfl, hc] at h
  exact h

set_option maxRecDepth 100000 in
set_option maxHeartbeats 1000000 in
theorem read_bad (l p q : List UInt8) (t : Bool) (hl : l.length ≤ 1048576) (hc : cut1 32 l = (p, q, t)) (hp : p ≠ [98, 117, 105, 108, 100]) (k : Nat) (ns : List Int) (ok : Bool) (hr : impl_readAll.f k (txt q) (⟨#[32]⟩ : ByteArray) (-1000000000) 1000000000 = some (ns, ok)) (hb : ok = false ∨ ns.length ≠ 3) (w : World) (hT : Tb.TC w) :
    Calls Tryd.prog 61 #[.string (txt l)] w fun e w' => e = endN (n0, false) ∧ Below w.heap.size w w' := by
  have HT := Aside0.mk hT
  have HC := Lib.hid hc
  have hu := Tryd.underlying41
  have hu2 := Tryd.underlying39
  have q0 : ((txt p).toList == [98, 117, 105, 108, 100]) = false := by rw [ByteArray.toList_eq]; exact beq_eq_false_iff_ne.2 hp
  have HQ := Aside0.mk hr
  have hb2 : ok = false ∨ (ok = true ∧ ((ns.length : Int) == 3) = false) := by
    cases ok with
    | false => exact .inl rfl
    | true => exact .inr ⟨rfl, by rcases hb with h | h; cases h; exact beq_eq_false_iff_ne.2 (by omega)⟩
  clear hc hp hT hr hb
  rcases hb2 with rfl | ⟨rfl, q5⟩
  · go_enter Tryd.func61, Tryd.ntmps61
    go_wp2_with (first
      | (go_at_call 89; refine (cut_at HC.out hl _ (Tb.TC.below HT.out (below_alloc (Below.refl _ _) _))).mono ?_; rintro e w1 ⟨rfl, hb1⟩; have HS := Aside0.mk (St.mk (g := w1.heap.size) (below_alloc (below_step (below_alloc (Below.refl _ _) _) hb1) _) (Nat.le_refl _) (Nat.lt_of_lt_of_le (by simp) hb1.size) (blk_alloc (blk_below (blk_new w (blkN n0)) hb1) _) (blk_new w1 (blkN n0))); clear hb1)
      | (go_at_call 94; refine (impl_readAll.calls k _ _ _ _ _ _ _ (Tb.TC.below HT.out HS.out.bel) HQ.out).mono ?_; rintro e w2 ⟨v, rfl, hR, hb2⟩; obtain ⟨A, cA, rfl⟩ := Kd.R_slice hR; clear hR; have hS := HS.out.step hb2; obtain ⟨d0, d1, d2, d3, d4, d5, d6, d7, d8⟩ := cells9 hS.d; obtain ⟨k0, k1, k2, k3, k4, k5, k6, k7, k8⟩ := frozen9 hS.d; obtain ⟨c0, c1, c2, c3, c4, c5, c6, c7, c8⟩ := cells9 hS.r; obtain ⟨f0, f1, f2, f3, f4, f5, f6, f7, f8⟩ := frozen9 hS.r; have HS := Aside0.mk hS; clear hS hb2))
    refine bodyPost_ret (results_ct rfl _ _ w.heap.size 41 (cellsN n0) (0, 0) _ rfl (HS.out.putR n0).r Tryd.underlying41 rfl (by kernel_rfl)) rfl ?_
    exact ⟨rfl, (HS.out.putR n0).bel⟩
  · go_enter Tryd.func61, Tryd.ntmps61
    go_wp2_with (first
      | (go_at_call 89; refine (cut_at HC.out hl _ (Tb.TC.below HT.out (below_alloc (Below.refl _ _) _))).mono ?_; rintro e w1 ⟨rfl, hb1⟩; have HS := Aside0.mk (St.mk (g := w1.heap.size) (below_alloc (below_step (below_alloc (Below.refl _ _) _) hb1) _) (Nat.le_refl _) (Nat.lt_of_lt_of_le (by simp) hb1.size) (blk_alloc (blk_below (blk_new w (blkN n0)) hb1) _) (blk_new w1 (blkN n0))); clear hb1)
      | (go_at_call 94; refine (impl_readAll.calls k _ _ _ _ _ _ _ (Tb.TC.below HT.out HS.out.bel) HQ.out).mono ?_; rintro e w2 ⟨v, rfl, hR, hb2⟩; obtain ⟨A, cA, rfl⟩ := Kd.R_slice hR; clear hR; have hS := HS.out.step hb2; obtain ⟨d0, d1, d2, d3, d4, d5, d6, d7, d8⟩ := cells9 hS.d; obtain ⟨k0, k1, k2, k3, k4, k5, k6, k7, k8⟩ := frozen9 hS.d; obtain ⟨c0, c1, c2, c3, c4, c5, c6, c7, c8⟩ := cells9 hS.r; obtain ⟨f0, f1, f2, f3, f4, f5, f6, f7, f8⟩ := frozen9 hS.r; have HS := Aside0.mk hS; clear hS hb2))
    refine bodyPost_ret (results_ct rfl _ _ w.heap.size 41 (cellsN n0) (0, 0) _ rfl (HS.out.putR n0).r Tryd.underlying41 rfl (by kernel_rfl)) rfl ?_
    exact ⟨rfl, (HS.out.putR n0).bel⟩
set_option maxRecDepth 100000 in
set_option maxHeartbeats 1000000 in
theorem read_build (l p q : List UInt8) (t : Bool) (hl : l.length ≤ 1048576) (hc : cut1 32 l = (p, q, t)) (hp : p = [98, 117, 105, 108, 100]) (k : Nat) (rk rn : Int) (ok : Bool) (hr : impl_readRing.f k (txt q) = some (rk, rn, ok)) (w : World) (hT : Tb.TC w) :
    Calls Tryd.prog 61 #[.string (txt l)] w fun e w' => e = endN (okI l (2, 0, 0, 0, rk, rn, 0, 0, 0)) ∧ Below w.heap.size w w' := by
  have HT := Aside0.mk hT
  have HC := Lib.hid hc
  have hu := Tryd.underlying41
  have hu2 := Tryd.underlying39
  have q0 : ((txt p).toList == [98, 117, 105, 108, 100]) = true := by rw [ByteArray.toList_eq]; exact beq_iff_eq.2 hp
  have HQ := Aside0.mk hr
  clear hc hp hT hr
  cases hk : deedN (2, 0, 0, 0, rk, rn, 0, 0, 0)
  · have HE := Aside0.mk (show endN (n0, false) = endN (okI l (2, 0, 0, 0, rk, rn, 0, 0, 0)) by simp [okI, hk])
    have HV := Aside0.mk ((impl_eq 2 0 0 0 rk rn 0 0 0).trans (congrArg some hk))
    clear hk
    go_enter Tryd.func61, Tryd.ntmps61
    go_wp2_with (first
      | (go_at_call 89; refine (cut_at HC.out hl _ (Tb.TC.below HT.out (below_alloc (Below.refl _ _) _))).mono ?_; rintro e w1 ⟨rfl, hb1⟩; have HS := Aside0.mk (St.mk (g := w1.heap.size) (below_alloc (below_step (below_alloc (Below.refl _ _) _) hb1) _) (Nat.le_refl _) (Nat.lt_of_lt_of_le (by simp) hb1.size) (blk_alloc (blk_below (blk_new w (blkN n0)) hb1) _) (blk_new w1 (blkN n0))); clear hb1)
      | (go_at_call 93; refine (impl_readRing.calls k _ _ _ _ _ (Tb.TC.below HT.out HS.out.bel) HQ.out).mono ?_; rintro e w2 ⟨rfl, hb2⟩; have hS := (HS.out.step hb2).alloc (.cells #[.int .i64 rk, .int .i64 rn] 39); obtain ⟨d0, d1, d2, d3, d4, d5, d6, d7, d8⟩ := cells9 hS.d; obtain ⟨k0, k1, k2, k3, k4, k5, k6, k7, k8⟩ := frozen9 hS.d; have HS := Aside0.mk hS; clear hS hb2)
      | (go_at_call 46; refine (impl_ValidDeed.calls _ _ _ _ _ _ _ _ _ _ _ HV.out).mono ?_; rintro e w5 ⟨rfl, hb5⟩; have hS := (HS.out.put (2, 0, 0, 0, rk, rn, 0, 0, 0)).step hb5; obtain ⟨c0, c1, c2, c3, c4, c5, c6, c7, c8⟩ := cells9 hS.r; obtain ⟨f0, f1, f2, f3, f4, f5, f6, f7, f8⟩ := frozen9 hS.r; obtain ⟨d0, d1, d2, d3, d4, d5, d6, d7, d8⟩ := cells9 hS.d; have HS5 := Aside0.mk hS; clear hS hb5))
    refine bodyPost_ret (results_ct rfl _ _ w.heap.size 41 (cellsN n0) (0, 0) _ rfl (HS5.out.putR n0).r Tryd.underlying41 rfl (by kernel_rfl)) rfl ?_
    exact ⟨HE.out, (HS5.out.putR n0).bel⟩
  · have HX := Aside0.mk (show impl_deedText.f 4 2 0 0 0 rk rn 0 0 0 = some (txt (textN (2, 0, 0, 0, rk, rn, 0, 0, 0))) from implDeedT hk 4 (by omega))
    have HV := Aside0.mk ((impl_eq 2 0 0 0 rk rn 0 0 0).trans (congrArg some hk))
    by_cases ht : textN (2, 0, 0, 0, rk, rn, 0, 0, 0) = l
    · have HE := Aside0.mk (show endN ((2, 0, 0, 0, rk, rn, 0, 0, 0), true) = endN (okI l (2, 0, 0, 0, rk, rn, 0, 0, 0)) by simp [okI, hk, ht])
      have q9 : ((txt (textN (2, 0, 0, 0, rk, rn, 0, 0, 0))).toList == (txt l).toList) = true := by rw [ByteArray.toList_eq, ByteArray.toList_eq]; exact beq_iff_eq.2 ht
      have q9n : ((txt (textN (2, 0, 0, 0, rk, rn, 0, 0, 0))).toList != (txt l).toList) = false := by rw [bne, q9]; rfl
      clear hk ht
      go_enter Tryd.func61, Tryd.ntmps61
      go_wp2_with (first
        | (go_at_call 89; refine (cut_at HC.out hl _ (Tb.TC.below HT.out (below_alloc (Below.refl _ _) _))).mono ?_; rintro e w1 ⟨rfl, hb1⟩; have HS := Aside0.mk (St.mk (g := w1.heap.size) (below_alloc (below_step (below_alloc (Below.refl _ _) _) hb1) _) (Nat.le_refl _) (Nat.lt_of_lt_of_le (by simp) hb1.size) (blk_alloc (blk_below (blk_new w (blkN n0)) hb1) _) (blk_new w1 (blkN n0))); clear hb1)
        | (go_at_call 93; refine (impl_readRing.calls k _ _ _ _ _ (Tb.TC.below HT.out HS.out.bel) HQ.out).mono ?_; rintro e w2 ⟨rfl, hb2⟩; have hS := (HS.out.step hb2).alloc (.cells #[.int .i64 rk, .int .i64 rn] 39); obtain ⟨d0, d1, d2, d3, d4, d5, d6, d7, d8⟩ := cells9 hS.d; obtain ⟨k0, k1, k2, k3, k4, k5, k6, k7, k8⟩ := frozen9 hS.d; have HS := Aside0.mk hS; clear hS hb2)
        | (go_at_call 46; refine (impl_ValidDeed.calls _ _ _ _ _ _ _ _ _ _ _ HV.out).mono ?_; rintro e w5 ⟨rfl, hb5⟩; have hS := (HS.out.put (2, 0, 0, 0, rk, rn, 0, 0, 0)).step hb5; obtain ⟨c0, c1, c2, c3, c4, c5, c6, c7, c8⟩ := cells9 hS.r; obtain ⟨f0, f1, f2, f3, f4, f5, f6, f7, f8⟩ := frozen9 hS.r; obtain ⟨d0, d1, d2, d3, d4, d5, d6, d7, d8⟩ := cells9 hS.d; have HS5 := Aside0.mk hS; clear hS hb5)
        | (go_at_call 47; refine (impl_deedText.calls 4 _ _ _ _ _ _ _ _ _ _ _ (Tb.TB.below HT.out.tb HS5.out.bel) HX.out).mono ?_; rintro e w6 ⟨rfl, hb6⟩; have hS := HS5.out.step hb6; obtain ⟨c0, c1, c2, c3, c4, c5, c6, c7, c8⟩ := cells9 hS.r; obtain ⟨f0, f1, f2, f3, f4, f5, f6, f7, f8⟩ := frozen9 hS.r; obtain ⟨d0, d1, d2, d3, d4, d5, d6, d7, d8⟩ := cells9 hS.d; have HS6 := Aside0.mk hS; clear hS hb6))
      refine bodyPost_ret (results_ct rfl _ _ w.heap.size 41 (cellsN (2, 0, 0, 0, rk, rn, 0, 0, 0)) (0, 0) _ rfl (HS6.out.putR (2, 0, 0, 0, rk, rn, 0, 0, 0)).r Tryd.underlying41 rfl (by kernel_rfl)) rfl ?_
      exact ⟨HE.out, (HS6.out.putR (2, 0, 0, 0, rk, rn, 0, 0, 0)).bel⟩
    · have HE := Aside0.mk (show endN (n0, false) = endN (okI l (2, 0, 0, 0, rk, rn, 0, 0, 0)) by simp [okI, hk, ht])
      have q9 : ((txt (textN (2, 0, 0, 0, rk, rn, 0, 0, 0))).toList == (txt l).toList) = false := by rw [ByteArray.toList_eq, ByteArray.toList_eq]; exact beq_eq_false_iff_ne.2 ht
      have q9n : ((txt (textN (2, 0, 0, 0, rk, rn, 0, 0, 0))).toList != (txt l).toList) = true := by rw [bne, q9]; rfl
      clear hk ht
      go_enter Tryd.func61, Tryd.ntmps61
      go_wp2_with (first
        | (go_at_call 89; refine (cut_at HC.out hl _ (Tb.TC.below HT.out (below_alloc (Below.refl _ _) _))).mono ?_; rintro e w1 ⟨rfl, hb1⟩; have HS := Aside0.mk (St.mk (g := w1.heap.size) (below_alloc (below_step (below_alloc (Below.refl _ _) _) hb1) _) (Nat.le_refl _) (Nat.lt_of_lt_of_le (by simp) hb1.size) (blk_alloc (blk_below (blk_new w (blkN n0)) hb1) _) (blk_new w1 (blkN n0))); clear hb1)
        | (go_at_call 93; refine (impl_readRing.calls k _ _ _ _ _ (Tb.TC.below HT.out HS.out.bel) HQ.out).mono ?_; rintro e w2 ⟨rfl, hb2⟩; have hS := (HS.out.step hb2).alloc (.cells #[.int .i64 rk, .int .i64 rn] 39); obtain ⟨d0, d1, d2, d3, d4, d5, d6, d7, d8⟩ := cells9 hS.d; obtain ⟨k0, k1, k2, k3, k4, k5, k6, k7, k8⟩ := frozen9 hS.d; have HS := Aside0.mk hS; clear hS hb2)
        | (go_at_call 46; refine (impl_ValidDeed.calls _ _ _ _ _ _ _ _ _ _ _ HV.out).mono ?_; rintro e w5 ⟨rfl, hb5⟩; have hS := (HS.out.put (2, 0, 0, 0, rk, rn, 0, 0, 0)).step hb5; obtain ⟨c0, c1, c2, c3, c4, c5, c6, c7, c8⟩ := cells9 hS.r; obtain ⟨f0, f1, f2, f3, f4, f5, f6, f7, f8⟩ := frozen9 hS.r; obtain ⟨d0, d1, d2, d3, d4, d5, d6, d7, d8⟩ := cells9 hS.d; have HS5 := Aside0.mk hS; clear hS hb5)
        | (go_at_call 47; refine (impl_deedText.calls 4 _ _ _ _ _ _ _ _ _ _ _ (Tb.TB.below HT.out.tb HS5.out.bel) HX.out).mono ?_; rintro e w6 ⟨rfl, hb6⟩; have hS := HS5.out.step hb6; obtain ⟨c0, c1, c2, c3, c4, c5, c6, c7, c8⟩ := cells9 hS.r; obtain ⟨f0, f1, f2, f3, f4, f5, f6, f7, f8⟩ := frozen9 hS.r; obtain ⟨d0, d1, d2, d3, d4, d5, d6, d7, d8⟩ := cells9 hS.d; have HS6 := Aside0.mk hS; clear hS hb6))
      refine bodyPost_ret (results_ct rfl _ _ w.heap.size 41 (cellsN n0) (0, 0) _ rfl (HS6.out.putR n0).r Tryd.underlying41 rfl (by kernel_rfl)) rfl ?_
      exact ⟨HE.out, (HS6.out.putR n0).bel⟩
set_option maxRecDepth 100000 in
set_option maxHeartbeats 1000000 in
theorem read_push (l p q : List UInt8) (t : Bool) (hl : l.length ≤ 1048576) (hc : cut1 32 l = (p, q, t)) (hp : p ≠ [98, 117, 105, 108, 100] ∧ p ≠ [103, 114, 111, 117, 116]) (k : Nat) (m1 m2 m3 : Int) (hr : impl_readAll.f k (txt q) (⟨#[32]⟩ : ByteArray) (-1000000000) 1000000000 = some ([m1, m2, m3], true)) (w : World) (hT : Tb.TC w) :
    Calls Tryd.prog 61 #[.string (txt l)] w fun e w' => e = endN (okI l (1, m1, m2, m3, 0, 0, 0, 0, 0)) ∧ Below w.heap.size w w' := by
  have HT := Aside0.mk hT
  have HC := Lib.hid hc
  have hu := Tryd.underlying41
  have hu2 := Tryd.underlying39
  have q0 : ((txt p).toList == [98, 117, 105, 108, 100]) = false := by rw [ByteArray.toList_eq]; exact beq_eq_false_iff_ne.2 hp.1
  have q1 : ((txt p).toList == [103, 114, 111, 117, 116]) = false := by rw [ByteArray.toList_eq]; exact beq_eq_false_iff_ne.2 hp.2
  have HQ := Aside0.mk hr
  clear hc hp hT hr
  cases hk : deedN (1, m1, m2, m3, 0, 0, 0, 0, 0)
  · have HE := Aside0.mk (show endN (n0, false) = endN (okI l (1, m1, m2, m3, 0, 0, 0, 0, 0)) by simp [okI, hk])
    have HV := Aside0.mk ((impl_eq 1 m1 m2 m3 0 0 0 0 0).trans (congrArg some hk))
    clear hk
    go_enter Tryd.func61, Tryd.ntmps61
    go_wp2_with (first
      | (go_at_call 89; refine (cut_at HC.out hl _ (Tb.TC.below HT.out (below_alloc (Below.refl _ _) _))).mono ?_; rintro e w1 ⟨rfl, hb1⟩; have HS := Aside0.mk (St.mk (g := w1.heap.size) (below_alloc (below_step (below_alloc (Below.refl _ _) _) hb1) _) (Nat.le_refl _) (Nat.lt_of_lt_of_le (by simp) hb1.size) (blk_alloc (blk_below (blk_new w (blkN n0)) hb1) _) (blk_new w1 (blkN n0))); clear hb1)
      | (go_at_call 94; refine (impl_readAll.calls k _ _ _ _ _ _ _ (Tb.TC.below HT.out HS.out.bel) HQ.out).mono ?_; rintro e w2 ⟨v, rfl, hR, hb2⟩; obtain ⟨A, cA, rfl, hcc, hC⟩ := Kd.R_reads hR; obtain ⟨ad, rfl, hx0, hx1, hx2⟩ := three_cells hC; have hneq := three_far hR HS.out.d; clear hR hC hcc; have hS := HS.out.step hb2; obtain ⟨d0, d1, d2, d3, d4, d5, d6, d7, d8⟩ := cells9 hS.d; obtain ⟨k0, k1, k2, k3, k4, k5, k6, k7, k8⟩ := frozen9 hS.d; obtain ⟨c0, c1, c2, c3, c4, c5, c6, c7, c8⟩ := cells9 hS.r; obtain ⟨f0, f1, f2, f3, f4, f5, f6, f7, f8⟩ := frozen9 hS.r; have HS := Aside0.mk hS; clear hS hb2)
      | (go_at_call 46; refine (impl_ValidDeed.calls _ _ _ _ _ _ _ _ _ _ _ HV.out).mono ?_; rintro e w5 ⟨rfl, hb5⟩; have hS := (HS.out.put (1, m1, m2, m3, 0, 0, 0, 0, 0)).drew.step hb5; obtain ⟨c0, c1, c2, c3, c4, c5, c6, c7, c8⟩ := cells9 hS.r; obtain ⟨f0, f1, f2, f3, f4, f5, f6, f7, f8⟩ := frozen9 hS.r; obtain ⟨d0, d1, d2, d3, d4, d5, d6, d7, d8⟩ := cells9 hS.d; have HS5 := Aside0.mk hS; clear hS hb5))
    go_region
    go_wp2_with (first
      | (go_at_call 89; refine (cut_at HC.out hl _ (Tb.TC.below HT.out (below_alloc (Below.refl _ _) _))).mono ?_; rintro e w1 ⟨rfl, hb1⟩; have HS := Aside0.mk (St.mk (g := w1.heap.size) (below_alloc (below_step (below_alloc (Below.refl _ _) _) hb1) _) (Nat.le_refl _) (Nat.lt_of_lt_of_le (by simp) hb1.size) (blk_alloc (blk_below (blk_new w (blkN n0)) hb1) _) (blk_new w1 (blkN n0))); clear hb1)
      | (go_at_call 94; refine (impl_readAll.calls k _ _ _ _ _ _ _ (Tb.TC.below HT.out HS.out.bel) HQ.out).mono ?_; rintro e w2 ⟨v, rfl, hR, hb2⟩; obtain ⟨A, cA, rfl, hcc, hC⟩ := Kd.R_reads hR; obtain ⟨ad, rfl, hx0, hx1, hx2⟩ := three_cells hC; have hneq := three_far hR HS.out.d; clear hR hC hcc; have hS := HS.out.step hb2; obtain ⟨d0, d1, d2, d3, d4, d5, d6, d7, d8⟩ := cells9 hS.d; obtain ⟨k0, k1, k2, k3, k4, k5, k6, k7, k8⟩ := frozen9 hS.d; obtain ⟨c0, c1, c2, c3, c4, c5, c6, c7, c8⟩ := cells9 hS.r; obtain ⟨f0, f1, f2, f3, f4, f5, f6, f7, f8⟩ := frozen9 hS.r; have HS := Aside0.mk hS; clear hS hb2)
      | (go_at_call 46; refine (impl_ValidDeed.calls _ _ _ _ _ _ _ _ _ _ _ HV.out).mono ?_; rintro e w5 ⟨rfl, hb5⟩; have hS := (HS.out.put (1, m1, m2, m3, 0, 0, 0, 0, 0)).drew.step hb5; obtain ⟨c0, c1, c2, c3, c4, c5, c6, c7, c8⟩ := cells9 hS.r; obtain ⟨f0, f1, f2, f3, f4, f5, f6, f7, f8⟩ := frozen9 hS.r; obtain ⟨d0, d1, d2, d3, d4, d5, d6, d7, d8⟩ := cells9 hS.d; have HS5 := Aside0.mk hS; clear hS hb5))
    refine bodyPost_ret (results_ct rfl _ _ w.heap.size 41 (cellsN n0) (0, 0) _ rfl (HS5.out.putR n0).r Tryd.underlying41 rfl (by kernel_rfl)) rfl ?_
    exact ⟨HE.out, (HS5.out.putR n0).bel⟩
  · have HX := Aside0.mk (show impl_deedText.f 4 1 m1 m2 m3 0 0 0 0 0 = some (txt (textN (1, m1, m2, m3, 0, 0, 0, 0, 0))) from implDeedT hk 4 (by omega))
    have HV := Aside0.mk ((impl_eq 1 m1 m2 m3 0 0 0 0 0).trans (congrArg some hk))
    by_cases ht : textN (1, m1, m2, m3, 0, 0, 0, 0, 0) = l
    · have HE := Aside0.mk (show endN ((1, m1, m2, m3, 0, 0, 0, 0, 0), true) = endN (okI l (1, m1, m2, m3, 0, 0, 0, 0, 0)) by simp [okI, hk, ht])
      have q9 : ((txt (textN (1, m1, m2, m3, 0, 0, 0, 0, 0))).toList == (txt l).toList) = true := by rw [ByteArray.toList_eq, ByteArray.toList_eq]; exact beq_iff_eq.2 ht
      have q9n : ((txt (textN (1, m1, m2, m3, 0, 0, 0, 0, 0))).toList != (txt l).toList) = false := by rw [bne, q9]; rfl
      clear hk ht
      go_enter Tryd.func61, Tryd.ntmps61
      go_wp2_with (first
        | (go_at_call 89; refine (cut_at HC.out hl _ (Tb.TC.below HT.out (below_alloc (Below.refl _ _) _))).mono ?_; rintro e w1 ⟨rfl, hb1⟩; have HS := Aside0.mk (St.mk (g := w1.heap.size) (below_alloc (below_step (below_alloc (Below.refl _ _) _) hb1) _) (Nat.le_refl _) (Nat.lt_of_lt_of_le (by simp) hb1.size) (blk_alloc (blk_below (blk_new w (blkN n0)) hb1) _) (blk_new w1 (blkN n0))); clear hb1)
        | (go_at_call 94; refine (impl_readAll.calls k _ _ _ _ _ _ _ (Tb.TC.below HT.out HS.out.bel) HQ.out).mono ?_; rintro e w2 ⟨v, rfl, hR, hb2⟩; obtain ⟨A, cA, rfl, hcc, hC⟩ := Kd.R_reads hR; obtain ⟨ad, rfl, hx0, hx1, hx2⟩ := three_cells hC; have hneq := three_far hR HS.out.d; clear hR hC hcc; have hS := HS.out.step hb2; obtain ⟨d0, d1, d2, d3, d4, d5, d6, d7, d8⟩ := cells9 hS.d; obtain ⟨k0, k1, k2, k3, k4, k5, k6, k7, k8⟩ := frozen9 hS.d; obtain ⟨c0, c1, c2, c3, c4, c5, c6, c7, c8⟩ := cells9 hS.r; obtain ⟨f0, f1, f2, f3, f4, f5, f6, f7, f8⟩ := frozen9 hS.r; have HS := Aside0.mk hS; clear hS hb2)
        | (go_at_call 46; refine (impl_ValidDeed.calls _ _ _ _ _ _ _ _ _ _ _ HV.out).mono ?_; rintro e w5 ⟨rfl, hb5⟩; have hS := (HS.out.put (1, m1, m2, m3, 0, 0, 0, 0, 0)).drew.step hb5; obtain ⟨c0, c1, c2, c3, c4, c5, c6, c7, c8⟩ := cells9 hS.r; obtain ⟨f0, f1, f2, f3, f4, f5, f6, f7, f8⟩ := frozen9 hS.r; obtain ⟨d0, d1, d2, d3, d4, d5, d6, d7, d8⟩ := cells9 hS.d; have HS5 := Aside0.mk hS; clear hS hb5)
        | (go_at_call 47; refine (impl_deedText.calls 4 _ _ _ _ _ _ _ _ _ _ _ (Tb.TB.below HT.out.tb HS5.out.bel) HX.out).mono ?_; rintro e w6 ⟨rfl, hb6⟩; have hS := HS5.out.step hb6; obtain ⟨c0, c1, c2, c3, c4, c5, c6, c7, c8⟩ := cells9 hS.r; obtain ⟨f0, f1, f2, f3, f4, f5, f6, f7, f8⟩ := frozen9 hS.r; obtain ⟨d0, d1, d2, d3, d4, d5, d6, d7, d8⟩ := cells9 hS.d; have HS6 := Aside0.mk hS; clear hS hb6))
      go_region
      go_wp2_with (first
        | (go_at_call 89; refine (cut_at HC.out hl _ (Tb.TC.below HT.out (below_alloc (Below.refl _ _) _))).mono ?_; rintro e w1 ⟨rfl, hb1⟩; have HS := Aside0.mk (St.mk (g := w1.heap.size) (below_alloc (below_step (below_alloc (Below.refl _ _) _) hb1) _) (Nat.le_refl _) (Nat.lt_of_lt_of_le (by simp) hb1.size) (blk_alloc (blk_below (blk_new w (blkN n0)) hb1) _) (blk_new w1 (blkN n0))); clear hb1)
        | (go_at_call 94; refine (impl_readAll.calls k _ _ _ _ _ _ _ (Tb.TC.below HT.out HS.out.bel) HQ.out).mono ?_; rintro e w2 ⟨v, rfl, hR, hb2⟩; obtain ⟨A, cA, rfl, hcc, hC⟩ := Kd.R_reads hR; obtain ⟨ad, rfl, hx0, hx1, hx2⟩ := three_cells hC; have hneq := three_far hR HS.out.d; clear hR hC hcc; have hS := HS.out.step hb2; obtain ⟨d0, d1, d2, d3, d4, d5, d6, d7, d8⟩ := cells9 hS.d; obtain ⟨k0, k1, k2, k3, k4, k5, k6, k7, k8⟩ := frozen9 hS.d; obtain ⟨c0, c1, c2, c3, c4, c5, c6, c7, c8⟩ := cells9 hS.r; obtain ⟨f0, f1, f2, f3, f4, f5, f6, f7, f8⟩ := frozen9 hS.r; have HS := Aside0.mk hS; clear hS hb2)
        | (go_at_call 46; refine (impl_ValidDeed.calls _ _ _ _ _ _ _ _ _ _ _ HV.out).mono ?_; rintro e w5 ⟨rfl, hb5⟩; have hS := (HS.out.put (1, m1, m2, m3, 0, 0, 0, 0, 0)).drew.step hb5; obtain ⟨c0, c1, c2, c3, c4, c5, c6, c7, c8⟩ := cells9 hS.r; obtain ⟨f0, f1, f2, f3, f4, f5, f6, f7, f8⟩ := frozen9 hS.r; obtain ⟨d0, d1, d2, d3, d4, d5, d6, d7, d8⟩ := cells9 hS.d; have HS5 := Aside0.mk hS; clear hS hb5)
        | (go_at_call 47; refine (impl_deedText.calls 4 _ _ _ _ _ _ _ _ _ _ _ (Tb.TB.below HT.out.tb HS5.out.bel) HX.out).mono ?_; rintro e w6 ⟨rfl, hb6⟩; have hS := HS5.out.step hb6; obtain ⟨c0, c1, c2, c3, c4, c5, c6, c7, c8⟩ := cells9 hS.r; obtain ⟨f0, f1, f2, f3, f4, f5, f6, f7, f8⟩ := frozen9 hS.r; obtain ⟨d0, d1, d2, d3, d4, d5, d6, d7, d8⟩ := cells9 hS.d; have HS6 := Aside0.mk hS; clear hS hb6))
      refine bodyPost_ret (results_ct rfl _ _ w.heap.size 41 (cellsN (1, m1, m2, m3, 0, 0, 0, 0, 0)) (0, 0) _ rfl (HS6.out.putR (1, m1, m2, m3, 0, 0, 0, 0, 0)).r Tryd.underlying41 rfl (by kernel_rfl)) rfl ?_
      exact ⟨HE.out, (HS6.out.putR (1, m1, m2, m3, 0, 0, 0, 0, 0)).bel⟩
    · have HE := Aside0.mk (show endN (n0, false) = endN (okI l (1, m1, m2, m3, 0, 0, 0, 0, 0)) by simp [okI, hk, ht])
      have q9 : ((txt (textN (1, m1, m2, m3, 0, 0, 0, 0, 0))).toList == (txt l).toList) = false := by rw [ByteArray.toList_eq, ByteArray.toList_eq]; exact beq_eq_false_iff_ne.2 ht
      have q9n : ((txt (textN (1, m1, m2, m3, 0, 0, 0, 0, 0))).toList != (txt l).toList) = true := by rw [bne, q9]; rfl
      clear hk ht
      go_enter Tryd.func61, Tryd.ntmps61
      go_wp2_with (first
        | (go_at_call 89; refine (cut_at HC.out hl _ (Tb.TC.below HT.out (below_alloc (Below.refl _ _) _))).mono ?_; rintro e w1 ⟨rfl, hb1⟩; have HS := Aside0.mk (St.mk (g := w1.heap.size) (below_alloc (below_step (below_alloc (Below.refl _ _) _) hb1) _) (Nat.le_refl _) (Nat.lt_of_lt_of_le (by simp) hb1.size) (blk_alloc (blk_below (blk_new w (blkN n0)) hb1) _) (blk_new w1 (blkN n0))); clear hb1)
        | (go_at_call 94; refine (impl_readAll.calls k _ _ _ _ _ _ _ (Tb.TC.below HT.out HS.out.bel) HQ.out).mono ?_; rintro e w2 ⟨v, rfl, hR, hb2⟩; obtain ⟨A, cA, rfl, hcc, hC⟩ := Kd.R_reads hR; obtain ⟨ad, rfl, hx0, hx1, hx2⟩ := three_cells hC; have hneq := three_far hR HS.out.d; clear hR hC hcc; have hS := HS.out.step hb2; obtain ⟨d0, d1, d2, d3, d4, d5, d6, d7, d8⟩ := cells9 hS.d; obtain ⟨k0, k1, k2, k3, k4, k5, k6, k7, k8⟩ := frozen9 hS.d; obtain ⟨c0, c1, c2, c3, c4, c5, c6, c7, c8⟩ := cells9 hS.r; obtain ⟨f0, f1, f2, f3, f4, f5, f6, f7, f8⟩ := frozen9 hS.r; have HS := Aside0.mk hS; clear hS hb2)
        | (go_at_call 46; refine (impl_ValidDeed.calls _ _ _ _ _ _ _ _ _ _ _ HV.out).mono ?_; rintro e w5 ⟨rfl, hb5⟩; have hS := (HS.out.put (1, m1, m2, m3, 0, 0, 0, 0, 0)).drew.step hb5; obtain ⟨c0, c1, c2, c3, c4, c5, c6, c7, c8⟩ := cells9 hS.r; obtain ⟨f0, f1, f2, f3, f4, f5, f6, f7, f8⟩ := frozen9 hS.r; obtain ⟨d0, d1, d2, d3, d4, d5, d6, d7, d8⟩ := cells9 hS.d; have HS5 := Aside0.mk hS; clear hS hb5)
        | (go_at_call 47; refine (impl_deedText.calls 4 _ _ _ _ _ _ _ _ _ _ _ (Tb.TB.below HT.out.tb HS5.out.bel) HX.out).mono ?_; rintro e w6 ⟨rfl, hb6⟩; have hS := HS5.out.step hb6; obtain ⟨c0, c1, c2, c3, c4, c5, c6, c7, c8⟩ := cells9 hS.r; obtain ⟨f0, f1, f2, f3, f4, f5, f6, f7, f8⟩ := frozen9 hS.r; obtain ⟨d0, d1, d2, d3, d4, d5, d6, d7, d8⟩ := cells9 hS.d; have HS6 := Aside0.mk hS; clear hS hb6))
      go_region
      go_wp2_with (first
        | (go_at_call 89; refine (cut_at HC.out hl _ (Tb.TC.below HT.out (below_alloc (Below.refl _ _) _))).mono ?_; rintro e w1 ⟨rfl, hb1⟩; have HS := Aside0.mk (St.mk (g := w1.heap.size) (below_alloc (below_step (below_alloc (Below.refl _ _) _) hb1) _) (Nat.le_refl _) (Nat.lt_of_lt_of_le (by simp) hb1.size) (blk_alloc (blk_below (blk_new w (blkN n0)) hb1) _) (blk_new w1 (blkN n0))); clear hb1)
        | (go_at_call 94; refine (impl_readAll.calls k _ _ _ _ _ _ _ (Tb.TC.below HT.out HS.out.bel) HQ.out).mono ?_; rintro e w2 ⟨v, rfl, hR, hb2⟩; obtain ⟨A, cA, rfl, hcc, hC⟩ := Kd.R_reads hR; obtain ⟨ad, rfl, hx0, hx1, hx2⟩ := three_cells hC; have hneq := three_far hR HS.out.d; clear hR hC hcc; have hS := HS.out.step hb2; obtain ⟨d0, d1, d2, d3, d4, d5, d6, d7, d8⟩ := cells9 hS.d; obtain ⟨k0, k1, k2, k3, k4, k5, k6, k7, k8⟩ := frozen9 hS.d; obtain ⟨c0, c1, c2, c3, c4, c5, c6, c7, c8⟩ := cells9 hS.r; obtain ⟨f0, f1, f2, f3, f4, f5, f6, f7, f8⟩ := frozen9 hS.r; have HS := Aside0.mk hS; clear hS hb2)
        | (go_at_call 46; refine (impl_ValidDeed.calls _ _ _ _ _ _ _ _ _ _ _ HV.out).mono ?_; rintro e w5 ⟨rfl, hb5⟩; have hS := (HS.out.put (1, m1, m2, m3, 0, 0, 0, 0, 0)).drew.step hb5; obtain ⟨c0, c1, c2, c3, c4, c5, c6, c7, c8⟩ := cells9 hS.r; obtain ⟨f0, f1, f2, f3, f4, f5, f6, f7, f8⟩ := frozen9 hS.r; obtain ⟨d0, d1, d2, d3, d4, d5, d6, d7, d8⟩ := cells9 hS.d; have HS5 := Aside0.mk hS; clear hS hb5)
        | (go_at_call 47; refine (impl_deedText.calls 4 _ _ _ _ _ _ _ _ _ _ _ (Tb.TB.below HT.out.tb HS5.out.bel) HX.out).mono ?_; rintro e w6 ⟨rfl, hb6⟩; have hS := HS5.out.step hb6; obtain ⟨c0, c1, c2, c3, c4, c5, c6, c7, c8⟩ := cells9 hS.r; obtain ⟨f0, f1, f2, f3, f4, f5, f6, f7, f8⟩ := frozen9 hS.r; obtain ⟨d0, d1, d2, d3, d4, d5, d6, d7, d8⟩ := cells9 hS.d; have HS6 := Aside0.mk hS; clear hS hb6))
      refine bodyPost_ret (results_ct rfl _ _ w.heap.size 41 (cellsN n0) (0, 0) _ rfl (HS6.out.putR n0).r Tryd.underlying41 rfl (by kernel_rfl)) rfl ?_
      exact ⟨HE.out, (HS6.out.putR n0).bel⟩
set_option maxRecDepth 100000 in
set_option maxHeartbeats 1000000 in
theorem read_grout (l p q : List UInt8) (t : Bool) (hl : l.length ≤ 1048576) (hc : cut1 32 l = (p, q, t)) (hp : p = [103, 114, 111, 117, 116]) (k : Nat) (m1 m2 m3 : Int) (hr : impl_readAll.f k (txt q) (⟨#[32]⟩ : ByteArray) (-1000000000) 1000000000 = some ([m1, m2, m3], true)) (w : World) (hT : Tb.TC w) :
    Calls Tryd.prog 61 #[.string (txt l)] w fun e w' => e = endN (okI l (3, 0, 0, 0, 0, 0, m1, m2, m3)) ∧ Below w.heap.size w w' := by
  have HT := Aside0.mk hT
  have HC := Lib.hid hc
  have hu := Tryd.underlying41
  have hu2 := Tryd.underlying39
  have hp1 : p ≠ [98, 117, 105, 108, 100] := by rw [hp]; decide
  have q0 : ((txt p).toList == [98, 117, 105, 108, 100]) = false := by rw [ByteArray.toList_eq]; exact beq_eq_false_iff_ne.2 hp1
  have q1 : ((txt p).toList == [103, 114, 111, 117, 116]) = true := by rw [ByteArray.toList_eq]; exact beq_iff_eq.2 hp
  have HQ := Aside0.mk hr
  clear hc hp1 hp hT hr
  cases hk : deedN (3, 0, 0, 0, 0, 0, m1, m2, m3)
  · have HE := Aside0.mk (show endN (n0, false) = endN (okI l (3, 0, 0, 0, 0, 0, m1, m2, m3)) by simp [okI, hk])
    have HV := Aside0.mk ((impl_eq 3 0 0 0 0 0 m1 m2 m3).trans (congrArg some hk))
    clear hk
    go_enter Tryd.func61, Tryd.ntmps61
    go_wp2_with (first
      | (go_at_call 89; refine (cut_at HC.out hl _ (Tb.TC.below HT.out (below_alloc (Below.refl _ _) _))).mono ?_; rintro e w1 ⟨rfl, hb1⟩; have HS := Aside0.mk (St.mk (g := w1.heap.size) (below_alloc (below_step (below_alloc (Below.refl _ _) _) hb1) _) (Nat.le_refl _) (Nat.lt_of_lt_of_le (by simp) hb1.size) (blk_alloc (blk_below (blk_new w (blkN n0)) hb1) _) (blk_new w1 (blkN n0))); clear hb1)
      | (go_at_call 94; refine (impl_readAll.calls k _ _ _ _ _ _ _ (Tb.TC.below HT.out HS.out.bel) HQ.out).mono ?_; rintro e w2 ⟨v, rfl, hR, hb2⟩; obtain ⟨A, cA, rfl, hcc, hC⟩ := Kd.R_reads hR; obtain ⟨ad, rfl, hx0, hx1, hx2⟩ := three_cells hC; have hneq := three_far hR HS.out.d; clear hR hC hcc; have hS := HS.out.step hb2; obtain ⟨d0, d1, d2, d3, d4, d5, d6, d7, d8⟩ := cells9 hS.d; obtain ⟨k0, k1, k2, k3, k4, k5, k6, k7, k8⟩ := frozen9 hS.d; obtain ⟨c0, c1, c2, c3, c4, c5, c6, c7, c8⟩ := cells9 hS.r; obtain ⟨f0, f1, f2, f3, f4, f5, f6, f7, f8⟩ := frozen9 hS.r; have HS := Aside0.mk hS; clear hS hb2)
      | (go_at_call 46; refine (impl_ValidDeed.calls _ _ _ _ _ _ _ _ _ _ _ HV.out).mono ?_; rintro e w5 ⟨rfl, hb5⟩; have hS := (((HS.out.put (1, m1, m2, m3, 0, 0, 0, 0, 0)).put (3, 0, 0, 0, 0, 0, m1, m2, m3)).drew.drew).step hb5; obtain ⟨c0, c1, c2, c3, c4, c5, c6, c7, c8⟩ := cells9 hS.r; obtain ⟨f0, f1, f2, f3, f4, f5, f6, f7, f8⟩ := frozen9 hS.r; obtain ⟨d0, d1, d2, d3, d4, d5, d6, d7, d8⟩ := cells9 hS.d; have HS5 := Aside0.mk hS; clear hS hb5))
    go_region
    have e0 := set9_cell (1, m1, m2, m3, 0, 0, 0, 0, 0) hneq hx0
    have e1 := set9_cell (a := ⟨ad.block, ad.off + 1, none⟩) (1, m1, m2, m3, 0, 0, 0, 0, 0) hneq hx1
    have e2 := set9_cell (a := ⟨ad.block, ad.off + 2, none⟩) (1, m1, m2, m3, 0, 0, 0, 0, 0) hneq hx2
    obtain ⟨d0, d1, d2, d3, d4, d5, d6, d7, d8⟩ := cells9 (HS.out.put (1, m1, m2, m3, 0, 0, 0, 0, 0)).d
    obtain ⟨k0, k1, k2, k3, k4, k5, k6, k7, k8⟩ := frozen9 (HS.out.put (1, m1, m2, m3, 0, 0, 0, 0, 0)).d
    go_wp2_with (first
      | (go_at_call 89; refine (cut_at HC.out hl _ (Tb.TC.below HT.out (below_alloc (Below.refl _ _) _))).mono ?_; rintro e w1 ⟨rfl, hb1⟩; have HS := Aside0.mk (St.mk (g := w1.heap.size) (below_alloc (below_step (below_alloc (Below.refl _ _) _) hb1) _) (Nat.le_refl _) (Nat.lt_of_lt_of_le (by simp) hb1.size) (blk_alloc (blk_below (blk_new w (blkN n0)) hb1) _) (blk_new w1 (blkN n0))); clear hb1)
      | (go_at_call 94; refine (impl_readAll.calls k _ _ _ _ _ _ _ (Tb.TC.below HT.out HS.out.bel) HQ.out).mono ?_; rintro e w2 ⟨v, rfl, hR, hb2⟩; obtain ⟨A, cA, rfl, hcc, hC⟩ := Kd.R_reads hR; obtain ⟨ad, rfl, hx0, hx1, hx2⟩ := three_cells hC; have hneq := three_far hR HS.out.d; clear hR hC hcc; have hS := HS.out.step hb2; obtain ⟨d0, d1, d2, d3, d4, d5, d6, d7, d8⟩ := cells9 hS.d; obtain ⟨k0, k1, k2, k3, k4, k5, k6, k7, k8⟩ := frozen9 hS.d; obtain ⟨c0, c1, c2, c3, c4, c5, c6, c7, c8⟩ := cells9 hS.r; obtain ⟨f0, f1, f2, f3, f4, f5, f6, f7, f8⟩ := frozen9 hS.r; have HS := Aside0.mk hS; clear hS hb2)
      | (go_at_call 46; refine (impl_ValidDeed.calls _ _ _ _ _ _ _ _ _ _ _ HV.out).mono ?_; rintro e w5 ⟨rfl, hb5⟩; have hS := (((HS.out.put (1, m1, m2, m3, 0, 0, 0, 0, 0)).put (3, 0, 0, 0, 0, 0, m1, m2, m3)).drew.drew).step hb5; obtain ⟨c0, c1, c2, c3, c4, c5, c6, c7, c8⟩ := cells9 hS.r; obtain ⟨f0, f1, f2, f3, f4, f5, f6, f7, f8⟩ := frozen9 hS.r; obtain ⟨d0, d1, d2, d3, d4, d5, d6, d7, d8⟩ := cells9 hS.d; have HS5 := Aside0.mk hS; clear hS hb5))
    go_region
    go_wp2_with (first
      | (go_at_call 89; refine (cut_at HC.out hl _ (Tb.TC.below HT.out (below_alloc (Below.refl _ _) _))).mono ?_; rintro e w1 ⟨rfl, hb1⟩; have HS := Aside0.mk (St.mk (g := w1.heap.size) (below_alloc (below_step (below_alloc (Below.refl _ _) _) hb1) _) (Nat.le_refl _) (Nat.lt_of_lt_of_le (by simp) hb1.size) (blk_alloc (blk_below (blk_new w (blkN n0)) hb1) _) (blk_new w1 (blkN n0))); clear hb1)
      | (go_at_call 94; refine (impl_readAll.calls k _ _ _ _ _ _ _ (Tb.TC.below HT.out HS.out.bel) HQ.out).mono ?_; rintro e w2 ⟨v, rfl, hR, hb2⟩; obtain ⟨A, cA, rfl, hcc, hC⟩ := Kd.R_reads hR; obtain ⟨ad, rfl, hx0, hx1, hx2⟩ := three_cells hC; have hneq := three_far hR HS.out.d; clear hR hC hcc; have hS := HS.out.step hb2; obtain ⟨d0, d1, d2, d3, d4, d5, d6, d7, d8⟩ := cells9 hS.d; obtain ⟨k0, k1, k2, k3, k4, k5, k6, k7, k8⟩ := frozen9 hS.d; obtain ⟨c0, c1, c2, c3, c4, c5, c6, c7, c8⟩ := cells9 hS.r; obtain ⟨f0, f1, f2, f3, f4, f5, f6, f7, f8⟩ := frozen9 hS.r; have HS := Aside0.mk hS; clear hS hb2)
      | (go_at_call 46; refine (impl_ValidDeed.calls _ _ _ _ _ _ _ _ _ _ _ HV.out).mono ?_; rintro e w5 ⟨rfl, hb5⟩; have hS := (((HS.out.put (1, m1, m2, m3, 0, 0, 0, 0, 0)).put (3, 0, 0, 0, 0, 0, m1, m2, m3)).drew.drew).step hb5; obtain ⟨c0, c1, c2, c3, c4, c5, c6, c7, c8⟩ := cells9 hS.r; obtain ⟨f0, f1, f2, f3, f4, f5, f6, f7, f8⟩ := frozen9 hS.r; obtain ⟨d0, d1, d2, d3, d4, d5, d6, d7, d8⟩ := cells9 hS.d; have HS5 := Aside0.mk hS; clear hS hb5))
    refine bodyPost_ret (results_ct rfl _ _ w.heap.size 41 (cellsN n0) (0, 0) _ rfl (HS5.out.putR n0).r Tryd.underlying41 rfl (by kernel_rfl)) rfl ?_
    exact ⟨HE.out, (HS5.out.putR n0).bel⟩
  · have HX := Aside0.mk (show impl_deedText.f 4 3 0 0 0 0 0 m1 m2 m3 = some (txt (textN (3, 0, 0, 0, 0, 0, m1, m2, m3))) from implDeedT hk 4 (by omega))
    have HV := Aside0.mk ((impl_eq 3 0 0 0 0 0 m1 m2 m3).trans (congrArg some hk))
    by_cases ht : textN (3, 0, 0, 0, 0, 0, m1, m2, m3) = l
    · have HE := Aside0.mk (show endN ((3, 0, 0, 0, 0, 0, m1, m2, m3), true) = endN (okI l (3, 0, 0, 0, 0, 0, m1, m2, m3)) by simp [okI, hk, ht])
      have q9 : ((txt (textN (3, 0, 0, 0, 0, 0, m1, m2, m3))).toList == (txt l).toList) = true := by rw [ByteArray.toList_eq, ByteArray.toList_eq]; exact beq_iff_eq.2 ht
      have q9n : ((txt (textN (3, 0, 0, 0, 0, 0, m1, m2, m3))).toList != (txt l).toList) = false := by rw [bne, q9]; rfl
      clear hk ht
      go_enter Tryd.func61, Tryd.ntmps61
      go_wp2_with (first
        | (go_at_call 89; refine (cut_at HC.out hl _ (Tb.TC.below HT.out (below_alloc (Below.refl _ _) _))).mono ?_; rintro e w1 ⟨rfl, hb1⟩; have HS := Aside0.mk (St.mk (g := w1.heap.size) (below_alloc (below_step (below_alloc (Below.refl _ _) _) hb1) _) (Nat.le_refl _) (Nat.lt_of_lt_of_le (by simp) hb1.size) (blk_alloc (blk_below (blk_new w (blkN n0)) hb1) _) (blk_new w1 (blkN n0))); clear hb1)
        | (go_at_call 94; refine (impl_readAll.calls k _ _ _ _ _ _ _ (Tb.TC.below HT.out HS.out.bel) HQ.out).mono ?_; rintro e w2 ⟨v, rfl, hR, hb2⟩; obtain ⟨A, cA, rfl, hcc, hC⟩ := Kd.R_reads hR; obtain ⟨ad, rfl, hx0, hx1, hx2⟩ := three_cells hC; have hneq := three_far hR HS.out.d; clear hR hC hcc; have hS := HS.out.step hb2; obtain ⟨d0, d1, d2, d3, d4, d5, d6, d7, d8⟩ := cells9 hS.d; obtain ⟨k0, k1, k2, k3, k4, k5, k6, k7, k8⟩ := frozen9 hS.d; obtain ⟨c0, c1, c2, c3, c4, c5, c6, c7, c8⟩ := cells9 hS.r; obtain ⟨f0, f1, f2, f3, f4, f5, f6, f7, f8⟩ := frozen9 hS.r; have HS := Aside0.mk hS; clear hS hb2)
        | (go_at_call 46; refine (impl_ValidDeed.calls _ _ _ _ _ _ _ _ _ _ _ HV.out).mono ?_; rintro e w5 ⟨rfl, hb5⟩; have hS := (((HS.out.put (1, m1, m2, m3, 0, 0, 0, 0, 0)).put (3, 0, 0, 0, 0, 0, m1, m2, m3)).drew.drew).step hb5; obtain ⟨c0, c1, c2, c3, c4, c5, c6, c7, c8⟩ := cells9 hS.r; obtain ⟨f0, f1, f2, f3, f4, f5, f6, f7, f8⟩ := frozen9 hS.r; obtain ⟨d0, d1, d2, d3, d4, d5, d6, d7, d8⟩ := cells9 hS.d; have HS5 := Aside0.mk hS; clear hS hb5)
        | (go_at_call 47; refine (impl_deedText.calls 4 _ _ _ _ _ _ _ _ _ _ _ (Tb.TB.below HT.out.tb HS5.out.bel) HX.out).mono ?_; rintro e w6 ⟨rfl, hb6⟩; have hS := HS5.out.step hb6; obtain ⟨c0, c1, c2, c3, c4, c5, c6, c7, c8⟩ := cells9 hS.r; obtain ⟨f0, f1, f2, f3, f4, f5, f6, f7, f8⟩ := frozen9 hS.r; obtain ⟨d0, d1, d2, d3, d4, d5, d6, d7, d8⟩ := cells9 hS.d; have HS6 := Aside0.mk hS; clear hS hb6))
      go_region
      have e0 := set9_cell (1, m1, m2, m3, 0, 0, 0, 0, 0) hneq hx0
      have e1 := set9_cell (a := ⟨ad.block, ad.off + 1, none⟩) (1, m1, m2, m3, 0, 0, 0, 0, 0) hneq hx1
      have e2 := set9_cell (a := ⟨ad.block, ad.off + 2, none⟩) (1, m1, m2, m3, 0, 0, 0, 0, 0) hneq hx2
      obtain ⟨d0, d1, d2, d3, d4, d5, d6, d7, d8⟩ := cells9 (HS.out.put (1, m1, m2, m3, 0, 0, 0, 0, 0)).d
      obtain ⟨k0, k1, k2, k3, k4, k5, k6, k7, k8⟩ := frozen9 (HS.out.put (1, m1, m2, m3, 0, 0, 0, 0, 0)).d
      go_wp2_with (first
        | (go_at_call 89; refine (cut_at HC.out hl _ (Tb.TC.below HT.out (below_alloc (Below.refl _ _) _))).mono ?_; rintro e w1 ⟨rfl, hb1⟩; have HS := Aside0.mk (St.mk (g := w1.heap.size) (below_alloc (below_step (below_alloc (Below.refl _ _) _) hb1) _) (Nat.le_refl _) (Nat.lt_of_lt_of_le (by simp) hb1.size) (blk_alloc (blk_below (blk_new w (blkN n0)) hb1) _) (blk_new w1 (blkN n0))); clear hb1)
        | (go_at_call 94; refine (impl_readAll.calls k _ _ _ _ _ _ _ (Tb.TC.below HT.out HS.out.bel) HQ.out).mono ?_; rintro e w2 ⟨v, rfl, hR, hb2⟩; obtain ⟨A, cA, rfl, hcc, hC⟩ := Kd.R_reads hR; obtain ⟨ad, rfl, hx0, hx1, hx2⟩ := three_cells hC; have hneq := three_far hR HS.out.d; clear hR hC hcc; have hS := HS.out.step hb2; obtain ⟨d0, d1, d2, d3, d4, d5, d6, d7, d8⟩ := cells9 hS.d; obtain ⟨k0, k1, k2, k3, k4, k5, k6, k7, k8⟩ := frozen9 hS.d; obtain ⟨c0, c1, c2, c3, c4, c5, c6, c7, c8⟩ := cells9 hS.r; obtain ⟨f0, f1, f2, f3, f4, f5, f6, f7, f8⟩ := frozen9 hS.r; have HS := Aside0.mk hS; clear hS hb2)
        | (go_at_call 46; refine (impl_ValidDeed.calls _ _ _ _ _ _ _ _ _ _ _ HV.out).mono ?_; rintro e w5 ⟨rfl, hb5⟩; have hS := (((HS.out.put (1, m1, m2, m3, 0, 0, 0, 0, 0)).put (3, 0, 0, 0, 0, 0, m1, m2, m3)).drew.drew).step hb5; obtain ⟨c0, c1, c2, c3, c4, c5, c6, c7, c8⟩ := cells9 hS.r; obtain ⟨f0, f1, f2, f3, f4, f5, f6, f7, f8⟩ := frozen9 hS.r; obtain ⟨d0, d1, d2, d3, d4, d5, d6, d7, d8⟩ := cells9 hS.d; have HS5 := Aside0.mk hS; clear hS hb5)
        | (go_at_call 47; refine (impl_deedText.calls 4 _ _ _ _ _ _ _ _ _ _ _ (Tb.TB.below HT.out.tb HS5.out.bel) HX.out).mono ?_; rintro e w6 ⟨rfl, hb6⟩; have hS := HS5.out.step hb6; obtain ⟨c0, c1, c2, c3, c4, c5, c6, c7, c8⟩ := cells9 hS.r; obtain ⟨f0, f1, f2, f3, f4, f5, f6, f7, f8⟩ := frozen9 hS.r; obtain ⟨d0, d1, d2, d3, d4, d5, d6, d7, d8⟩ := cells9 hS.d; have HS6 := Aside0.mk hS; clear hS hb6))
      go_region
      go_wp2_with (first
        | (go_at_call 89; refine (cut_at HC.out hl _ (Tb.TC.below HT.out (below_alloc (Below.refl _ _) _))).mono ?_; rintro e w1 ⟨rfl, hb1⟩; have HS := Aside0.mk (St.mk (g := w1.heap.size) (below_alloc (below_step (below_alloc (Below.refl _ _) _) hb1) _) (Nat.le_refl _) (Nat.lt_of_lt_of_le (by simp) hb1.size) (blk_alloc (blk_below (blk_new w (blkN n0)) hb1) _) (blk_new w1 (blkN n0))); clear hb1)
        | (go_at_call 94; refine (impl_readAll.calls k _ _ _ _ _ _ _ (Tb.TC.below HT.out HS.out.bel) HQ.out).mono ?_; rintro e w2 ⟨v, rfl, hR, hb2⟩; obtain ⟨A, cA, rfl, hcc, hC⟩ := Kd.R_reads hR; obtain ⟨ad, rfl, hx0, hx1, hx2⟩ := three_cells hC; have hneq := three_far hR HS.out.d; clear hR hC hcc; have hS := HS.out.step hb2; obtain ⟨d0, d1, d2, d3, d4, d5, d6, d7, d8⟩ := cells9 hS.d; obtain ⟨k0, k1, k2, k3, k4, k5, k6, k7, k8⟩ := frozen9 hS.d; obtain ⟨c0, c1, c2, c3, c4, c5, c6, c7, c8⟩ := cells9 hS.r; obtain ⟨f0, f1, f2, f3, f4, f5, f6, f7, f8⟩ := frozen9 hS.r; have HS := Aside0.mk hS; clear hS hb2)
        | (go_at_call 46; refine (impl_ValidDeed.calls _ _ _ _ _ _ _ _ _ _ _ HV.out).mono ?_; rintro e w5 ⟨rfl, hb5⟩; have hS := (((HS.out.put (1, m1, m2, m3, 0, 0, 0, 0, 0)).put (3, 0, 0, 0, 0, 0, m1, m2, m3)).drew.drew).step hb5; obtain ⟨c0, c1, c2, c3, c4, c5, c6, c7, c8⟩ := cells9 hS.r; obtain ⟨f0, f1, f2, f3, f4, f5, f6, f7, f8⟩ := frozen9 hS.r; obtain ⟨d0, d1, d2, d3, d4, d5, d6, d7, d8⟩ := cells9 hS.d; have HS5 := Aside0.mk hS; clear hS hb5)
        | (go_at_call 47; refine (impl_deedText.calls 4 _ _ _ _ _ _ _ _ _ _ _ (Tb.TB.below HT.out.tb HS5.out.bel) HX.out).mono ?_; rintro e w6 ⟨rfl, hb6⟩; have hS := HS5.out.step hb6; obtain ⟨c0, c1, c2, c3, c4, c5, c6, c7, c8⟩ := cells9 hS.r; obtain ⟨f0, f1, f2, f3, f4, f5, f6, f7, f8⟩ := frozen9 hS.r; obtain ⟨d0, d1, d2, d3, d4, d5, d6, d7, d8⟩ := cells9 hS.d; have HS6 := Aside0.mk hS; clear hS hb6))
      refine bodyPost_ret (results_ct rfl _ _ w.heap.size 41 (cellsN (3, 0, 0, 0, 0, 0, m1, m2, m3)) (0, 0) _ rfl (HS6.out.putR (3, 0, 0, 0, 0, 0, m1, m2, m3)).r Tryd.underlying41 rfl (by kernel_rfl)) rfl ?_
      exact ⟨HE.out, (HS6.out.putR (3, 0, 0, 0, 0, 0, m1, m2, m3)).bel⟩
    · have HE := Aside0.mk (show endN (n0, false) = endN (okI l (3, 0, 0, 0, 0, 0, m1, m2, m3)) by simp [okI, hk, ht])
      have q9 : ((txt (textN (3, 0, 0, 0, 0, 0, m1, m2, m3))).toList == (txt l).toList) = false := by rw [ByteArray.toList_eq, ByteArray.toList_eq]; exact beq_eq_false_iff_ne.2 ht
      have q9n : ((txt (textN (3, 0, 0, 0, 0, 0, m1, m2, m3))).toList != (txt l).toList) = true := by rw [bne, q9]; rfl
      clear hk ht
      go_enter Tryd.func61, Tryd.ntmps61
      go_wp2_with (first
        | (go_at_call 89; refine (cut_at HC.out hl _ (Tb.TC.below HT.out (below_alloc (Below.refl _ _) _))).mono ?_; rintro e w1 ⟨rfl, hb1⟩; have HS := Aside0.mk (St.mk (g := w1.heap.size) (below_alloc (below_step (below_alloc (Below.refl _ _) _) hb1) _) (Nat.le_refl _) (Nat.lt_of_lt_of_le (by simp) hb1.size) (blk_alloc (blk_below (blk_new w (blkN n0)) hb1) _) (blk_new w1 (blkN n0))); clear hb1)
        | (go_at_call 94; refine (impl_readAll.calls k _ _ _ _ _ _ _ (Tb.TC.below HT.out HS.out.bel) HQ.out).mono ?_; rintro e w2 ⟨v, rfl, hR, hb2⟩; obtain ⟨A, cA, rfl, hcc, hC⟩ := Kd.R_reads hR; obtain ⟨ad, rfl, hx0, hx1, hx2⟩ := three_cells hC; have hneq := three_far hR HS.out.d; clear hR hC hcc; have hS := HS.out.step hb2; obtain ⟨d0, d1, d2, d3, d4, d5, d6, d7, d8⟩ := cells9 hS.d; obtain ⟨k0, k1, k2, k3, k4, k5, k6, k7, k8⟩ := frozen9 hS.d; obtain ⟨c0, c1, c2, c3, c4, c5, c6, c7, c8⟩ := cells9 hS.r; obtain ⟨f0, f1, f2, f3, f4, f5, f6, f7, f8⟩ := frozen9 hS.r; have HS := Aside0.mk hS; clear hS hb2)
        | (go_at_call 46; refine (impl_ValidDeed.calls _ _ _ _ _ _ _ _ _ _ _ HV.out).mono ?_; rintro e w5 ⟨rfl, hb5⟩; have hS := (((HS.out.put (1, m1, m2, m3, 0, 0, 0, 0, 0)).put (3, 0, 0, 0, 0, 0, m1, m2, m3)).drew.drew).step hb5; obtain ⟨c0, c1, c2, c3, c4, c5, c6, c7, c8⟩ := cells9 hS.r; obtain ⟨f0, f1, f2, f3, f4, f5, f6, f7, f8⟩ := frozen9 hS.r; obtain ⟨d0, d1, d2, d3, d4, d5, d6, d7, d8⟩ := cells9 hS.d; have HS5 := Aside0.mk hS; clear hS hb5)
        | (go_at_call 47; refine (impl_deedText.calls 4 _ _ _ _ _ _ _ _ _ _ _ (Tb.TB.below HT.out.tb HS5.out.bel) HX.out).mono ?_; rintro e w6 ⟨rfl, hb6⟩; have hS := HS5.out.step hb6; obtain ⟨c0, c1, c2, c3, c4, c5, c6, c7, c8⟩ := cells9 hS.r; obtain ⟨f0, f1, f2, f3, f4, f5, f6, f7, f8⟩ := frozen9 hS.r; obtain ⟨d0, d1, d2, d3, d4, d5, d6, d7, d8⟩ := cells9 hS.d; have HS6 := Aside0.mk hS; clear hS hb6))
      go_region
      have e0 := set9_cell (1, m1, m2, m3, 0, 0, 0, 0, 0) hneq hx0
      have e1 := set9_cell (a := ⟨ad.block, ad.off + 1, none⟩) (1, m1, m2, m3, 0, 0, 0, 0, 0) hneq hx1
      have e2 := set9_cell (a := ⟨ad.block, ad.off + 2, none⟩) (1, m1, m2, m3, 0, 0, 0, 0, 0) hneq hx2
      obtain ⟨d0, d1, d2, d3, d4, d5, d6, d7, d8⟩ := cells9 (HS.out.put (1, m1, m2, m3, 0, 0, 0, 0, 0)).d
      obtain ⟨k0, k1, k2, k3, k4, k5, k6, k7, k8⟩ := frozen9 (HS.out.put (1, m1, m2, m3, 0, 0, 0, 0, 0)).d
      go_wp2_with (first
        | (go_at_call 89; refine (cut_at HC.out hl _ (Tb.TC.below HT.out (below_alloc (Below.refl _ _) _))).mono ?_; rintro e w1 ⟨rfl, hb1⟩; have HS := Aside0.mk (St.mk (g := w1.heap.size) (below_alloc (below_step (below_alloc (Below.refl _ _) _) hb1) _) (Nat.le_refl _) (Nat.lt_of_lt_of_le (by simp) hb1.size) (blk_alloc (blk_below (blk_new w (blkN n0)) hb1) _) (blk_new w1 (blkN n0))); clear hb1)
        | (go_at_call 94; refine (impl_readAll.calls k _ _ _ _ _ _ _ (Tb.TC.below HT.out HS.out.bel) HQ.out).mono ?_; rintro e w2 ⟨v, rfl, hR, hb2⟩; obtain ⟨A, cA, rfl, hcc, hC⟩ := Kd.R_reads hR; obtain ⟨ad, rfl, hx0, hx1, hx2⟩ := three_cells hC; have hneq := three_far hR HS.out.d; clear hR hC hcc; have hS := HS.out.step hb2; obtain ⟨d0, d1, d2, d3, d4, d5, d6, d7, d8⟩ := cells9 hS.d; obtain ⟨k0, k1, k2, k3, k4, k5, k6, k7, k8⟩ := frozen9 hS.d; obtain ⟨c0, c1, c2, c3, c4, c5, c6, c7, c8⟩ := cells9 hS.r; obtain ⟨f0, f1, f2, f3, f4, f5, f6, f7, f8⟩ := frozen9 hS.r; have HS := Aside0.mk hS; clear hS hb2)
        | (go_at_call 46; refine (impl_ValidDeed.calls _ _ _ _ _ _ _ _ _ _ _ HV.out).mono ?_; rintro e w5 ⟨rfl, hb5⟩; have hS := (((HS.out.put (1, m1, m2, m3, 0, 0, 0, 0, 0)).put (3, 0, 0, 0, 0, 0, m1, m2, m3)).drew.drew).step hb5; obtain ⟨c0, c1, c2, c3, c4, c5, c6, c7, c8⟩ := cells9 hS.r; obtain ⟨f0, f1, f2, f3, f4, f5, f6, f7, f8⟩ := frozen9 hS.r; obtain ⟨d0, d1, d2, d3, d4, d5, d6, d7, d8⟩ := cells9 hS.d; have HS5 := Aside0.mk hS; clear hS hb5)
        | (go_at_call 47; refine (impl_deedText.calls 4 _ _ _ _ _ _ _ _ _ _ _ (Tb.TB.below HT.out.tb HS5.out.bel) HX.out).mono ?_; rintro e w6 ⟨rfl, hb6⟩; have hS := HS5.out.step hb6; obtain ⟨c0, c1, c2, c3, c4, c5, c6, c7, c8⟩ := cells9 hS.r; obtain ⟨f0, f1, f2, f3, f4, f5, f6, f7, f8⟩ := frozen9 hS.r; obtain ⟨d0, d1, d2, d3, d4, d5, d6, d7, d8⟩ := cells9 hS.d; have HS6 := Aside0.mk hS; clear hS hb6))
      go_region
      go_wp2_with (first
        | (go_at_call 89; refine (cut_at HC.out hl _ (Tb.TC.below HT.out (below_alloc (Below.refl _ _) _))).mono ?_; rintro e w1 ⟨rfl, hb1⟩; have HS := Aside0.mk (St.mk (g := w1.heap.size) (below_alloc (below_step (below_alloc (Below.refl _ _) _) hb1) _) (Nat.le_refl _) (Nat.lt_of_lt_of_le (by simp) hb1.size) (blk_alloc (blk_below (blk_new w (blkN n0)) hb1) _) (blk_new w1 (blkN n0))); clear hb1)
        | (go_at_call 94; refine (impl_readAll.calls k _ _ _ _ _ _ _ (Tb.TC.below HT.out HS.out.bel) HQ.out).mono ?_; rintro e w2 ⟨v, rfl, hR, hb2⟩; obtain ⟨A, cA, rfl, hcc, hC⟩ := Kd.R_reads hR; obtain ⟨ad, rfl, hx0, hx1, hx2⟩ := three_cells hC; have hneq := three_far hR HS.out.d; clear hR hC hcc; have hS := HS.out.step hb2; obtain ⟨d0, d1, d2, d3, d4, d5, d6, d7, d8⟩ := cells9 hS.d; obtain ⟨k0, k1, k2, k3, k4, k5, k6, k7, k8⟩ := frozen9 hS.d; obtain ⟨c0, c1, c2, c3, c4, c5, c6, c7, c8⟩ := cells9 hS.r; obtain ⟨f0, f1, f2, f3, f4, f5, f6, f7, f8⟩ := frozen9 hS.r; have HS := Aside0.mk hS; clear hS hb2)
        | (go_at_call 46; refine (impl_ValidDeed.calls _ _ _ _ _ _ _ _ _ _ _ HV.out).mono ?_; rintro e w5 ⟨rfl, hb5⟩; have hS := (((HS.out.put (1, m1, m2, m3, 0, 0, 0, 0, 0)).put (3, 0, 0, 0, 0, 0, m1, m2, m3)).drew.drew).step hb5; obtain ⟨c0, c1, c2, c3, c4, c5, c6, c7, c8⟩ := cells9 hS.r; obtain ⟨f0, f1, f2, f3, f4, f5, f6, f7, f8⟩ := frozen9 hS.r; obtain ⟨d0, d1, d2, d3, d4, d5, d6, d7, d8⟩ := cells9 hS.d; have HS5 := Aside0.mk hS; clear hS hb5)
        | (go_at_call 47; refine (impl_deedText.calls 4 _ _ _ _ _ _ _ _ _ _ _ (Tb.TB.below HT.out.tb HS5.out.bel) HX.out).mono ?_; rintro e w6 ⟨rfl, hb6⟩; have hS := HS5.out.step hb6; obtain ⟨c0, c1, c2, c3, c4, c5, c6, c7, c8⟩ := cells9 hS.r; obtain ⟨f0, f1, f2, f3, f4, f5, f6, f7, f8⟩ := frozen9 hS.r; obtain ⟨d0, d1, d2, d3, d4, d5, d6, d7, d8⟩ := cells9 hS.d; have HS6 := Aside0.mk hS; clear hS hb6))
      refine bodyPost_ret (results_ct rfl _ _ w.heap.size 41 (cellsN n0) (0, 0) _ rfl (HS6.out.putR n0).r Tryd.underlying41 rfl (by kernel_rfl)) rfl ?_
      exact ⟨HE.out, (HS6.out.putR n0).bel⟩
end Go.Proofs.YtkbklocfdoofeaaDoor.Hd

/- l11Read and readDeed: what they hand back, at every text. -/
namespace Go.Proofs.YtkbklocfdoofeaaDoor.Ht
open Go.RowKit Go.Proofs.YtkbklocfdoofeaaDoorW.PrintWords Go.Proofs.YtkbklocfdoofeaaDoorW.PrintLast Go.Proofs.YtkbklocfdoofeaaDoorW.PrintMore Go.Proofs.YtkbklocfdoofeaaDoor.Q Go.Proofs.YtkbklocfdoofeaaDoor.Ha Go.Proofs.YtkbklocfdoofeaaDoor.Sp Go.Proofs.YtkbklocfdoofeaaDoor.PuD Go.Proofs.YtkbklocfdoofeaaDoor.PuV Go.Proofs.YtkbklocfdoofeaaDoor.PuW Go.Proofs.YtkbklocfdoofeaaDoor.PuVD Go.Proofs.YtkbklocfdoofeaaDoor.PuDT Go.Proofs.YtkbklocfdoofeaaDoor.Ni Go.Proofs.YtkbklocfdoofeaaDoor.Hr Go.Proofs.YtkbklocfdoofeaaDoor.Hs Go.Proofs.YtkbklocfdoofeaaDoor.Hd

abbrev wBuild : List UInt8 := [98, 117, 105, 108, 100]
abbrev wPush : List UInt8 := [112, 117, 115, 104]
abbrev wGrout : List UInt8 := [103, 114, 111, 117, 116]
abbrev rdV (l : List UInt8) : Int × Bool := readL l (-1000000000) 1000000000
/-- The deed that words name, valid or not. -/
def deedW : List (List UInt8) → Nine
  | [a, b] => if a = wBuild then (2, 0, 0, 0, (wordR b).1, (wordR b).2, 0, 0, 0) else n0
  | [a, b, c, d] => if ((rdV b).2 && (rdV c).2 && (rdV d).2) = true then (if a = wPush then (1, (rdV b).1, (rdV c).1, (rdV d).1, 0, 0, 0, 0, 0) else if a = wGrout then (3, 0, 0, 0, 0, 0, (rdV b).1, (rdV c).1, (rdV d).1) else n0) else n0
  | _ => n0
def readS (l : List UInt8) : Nine × Bool := okN (deedW (split1 32 l))

theorem split1_len (c : UInt8) (l : List UInt8) : ∀ w ∈ split1 c l, w.length ≤ l.length := by
  induction l with
  | nil => intro w hw; simp [split1] at hw; simp [hw]
  | cons b l ih =>
    intro w hw
    simp only [split1] at hw
    split at hw
    · rcases List.mem_cons.1 hw with rfl | h
      · simp
      · have := ih w h; simp; omega
    · split at hw
      · simp at hw; subst hw; simp
      · rename_i w0 ws he
        rcases List.mem_cons.1 hw with rfl | h
        · have := ih w0 (by rw [he]; simp); simp; omega
        · have := ih w (by rw [he]; simp [h]); simp; omega

theorem l11Read_any (l : List UInt8) (hl : l.length ≤ 4294967296) (w : World) :
    Calls Tryd.prog 60 #[.string (txt l)] w fun e w' => e = endN (readS l) ∧ Below w.heap.size w w' := by
  have hle : ∀ w ∈ split1 32 l, w.length ≤ 4294967296 := fun w hw => Nat.le_trans (split1_len 32 l w hw) hl
  unfold readS
  match hs : split1 32 l with
  | [] => exact read_other l hl (by rw [hs]; decide) (by rw [hs]; decide) w
  | [a] => exact read_other l hl (by rw [hs]; simp) (by rw [hs]; simp) w
  | [a, b, c] => exact read_other l hl (by rw [hs]; simp) (by rw [hs]; simp) w
  | a :: b :: c :: d :: e :: r => exact read_other l hl (by rw [hs]; simp) (by rw [hs]; simp) w
  | [a, b] =>
    rw [hs] at hle
    simp only [deedW]
    by_cases ha : a = wBuild
    · rw [if_pos ha]; exact read_two_yes l hl a b hs ha (hle b (by simp)) w
    · rw [if_neg ha]; exact read_two_no l hl a b hs ha w
  | [a, b, c, d] =>
    rw [hs] at hle
    have l1 := hle b (by simp); have l2 := hle c (by simp); have l3 := hle d (by simp)
    simp only [deedW]
    by_cases ho : ((rdV b).2 && (rdV c).2 && (rdV d).2) = true
    · have ht : (rdV b).2 = true ∧ (rdV c).2 = true ∧ (rdV d).2 = true := by simp only [Bool.and_eq_true] at ho; exact ⟨ho.1.1, ho.1.2, ho.2⟩
      rw [if_pos ho]
      by_cases h1 : a = wPush
      · rw [if_pos h1]; exact read_four_push l hl a b c d hs _ _ _ _ _ _ l1 l2 l3 rfl rfl rfl h1 ht w
      · rw [if_neg h1]
        by_cases h2 : a = wGrout
        · rw [if_pos h2]; exact read_four_grout l hl a b c d hs _ _ _ _ _ _ l1 l2 l3 rfl rfl rfl h2 ht w
        · rw [if_neg h2]; exact read_four_none l hl a b c d hs _ _ _ _ _ _ l1 l2 l3 rfl rfl rfl h1 h2 ht w
    · rw [if_neg ho]; exact read_four_bad l hl a b c d hs _ _ _ _ _ _ l1 l2 l3 rfl rfl rfl (by rcases Bool.eq_false_or_eq_true ((rdV b).2 && (rdV c).2 && (rdV d).2) with h | h; exact absurd h ho; exact h) w

/-- What the program hands back of the numbers behind a word. -/
def deedI (l p : List UInt8) (r : List Int × Bool) : Nine × Bool := match r with
  | ([m1, m2, m3], true) => okI l (if p = wGrout then (3, 0, 0, 0, 0, 0, m1, m2, m3) else (1, m1, m2, m3, 0, 0, 0, 0, 0))
  | _ => (n0, false)
def readI (l : List UInt8) : Option (Nine × Bool) :=
  if (cut1 32 l).1 = wBuild then (impl_readRing.f (l.length + 100) (txt (cut1 32 l).2.1)).bind fun r => some (okI l (2, 0, 0, 0, r.1, r.2.1, 0, 0, 0))
  else (impl_readAll.f (l.length + 100) (txt (cut1 32 l).2.1) (⟨#[32]⟩ : ByteArray) (-1000000000) 1000000000).bind fun r => some (deedI l (cut1 32 l).1 r)
theorem readDeed_any (l : List UInt8) (hl : l.length ≤ 1048576) (x : Nine × Bool) (h : readI l = some x) (w : World) (hT : Tb.TC w) :
    Calls Tryd.prog 61 #[.string (txt l)] w fun e w' => e = endN x ∧ Below w.heap.size w w' := by
  obtain ⟨p, q, t, hc⟩ : ∃ p q t, cut1 32 l = (p, q, t) := ⟨_, _, _, rfl⟩
  unfold readI at h
  rw [hc] at h
  by_cases hp : p = wBuild
  · rw [if_pos hp] at h
    cases hr : impl_readRing.f (l.length + 100) (txt q) with
    | none => rw [hr] at h; simp at h
    | some r =>
      obtain ⟨rk, rn, ok⟩ := r
      rw [hr] at h
      obtain rfl := Option.some.inj h
      exact read_build l p q t hl hc hp _ rk rn ok hr w hT
  · rw [if_neg hp] at h
    cases hr : impl_readAll.f (l.length + 100) (txt q) (⟨#[32]⟩ : ByteArray) (-1000000000) 1000000000 with
    | none => rw [hr] at h; simp at h
    | some r =>
      obtain ⟨ns, ok⟩ := r
      rw [hr] at h
      obtain rfl := Option.some.inj h
      have bad : ok = false ∨ ns.length ≠ 3 → deedI l p (ns, ok) = (n0, false) := by
        rintro (rfl | hn)
        · unfold deedI; split
          · rename_i h; cases h
          · rfl
        · unfold deedI; split
          · rename_i h; cases h; exact absurd rfl hn
          · rfl
      by_cases hb : ok = false ∨ ns.length ≠ 3
      · show Calls Tryd.prog 61 #[.string (txt l)] w fun e w' => e = endN (deedI l p (ns, ok)) ∧ Below w.heap.size w w'
        rw [bad hb]
        exact read_bad l p q t hl hc hp _ ns ok hr hb w hT
      · obtain ⟨rfl, h3⟩ : ok = true ∧ ns.length = 3 := by
          cases ok with
          | false => exact absurd (.inl rfl) hb
          | true => exact ⟨rfl, by rcases Nat.decEq ns.length 3 with h | h; exact absurd (.inr h) hb; exact h⟩
        obtain ⟨m1, m2, m3, rfl⟩ : ∃ m1 m2 m3, ns = [m1, m2, m3] := by
          match ns, h3 with
          | [a, b, c], _ => exact ⟨a, b, c, rfl⟩
        show Calls Tryd.prog 61 #[.string (txt l)] w fun e w' => e = endN (okI l (if p = wGrout then (3, 0, 0, 0, 0, 0, m1, m2, m3) else (1, m1, m2, m3, 0, 0, 0, 0, 0))) ∧ Below w.heap.size w w'
        by_cases hg : p = wGrout
        · rw [if_pos hg]; exact read_grout l p q t hl hc hg _ m1 m2 m3 hr w hT
        · rw [if_neg hg]; exact read_push l p q t hl hc ⟨hp, hg⟩ _ m1 m2 m3 hr w hT
/-- A deed and an answer, side by side. -/
def flat (x : Nine × Bool) : Int × Int × Int × Int × Int × Int × Int × Int × Int × Bool := (x.1.1, x.1.2.1, x.1.2.2.1, x.1.2.2.2.1, x.1.2.2.2.2.1, x.1.2.2.2.2.2.1, x.1.2.2.2.2.2.2.1, x.1.2.2.2.2.2.2.2.1, x.1.2.2.2.2.2.2.2.2, x.2)
end Go.Proofs.YtkbklocfdoofeaaDoor.Ht

-- made by a patched copy of print.sh: this session's own
namespace Go.Proofs.YtkbklocfdoofeaaDoor.Q
open Go.RowKit Go.Proofs.YtkbklocfdoofeaaDoorW.PrintWords Go.Proofs.YtkbklocfdoofeaaDoorW.PrintLast Go.Proofs.YtkbklocfdoofeaaDoorW.PrintMore
attribute [local go_sem] max2_int min2_int max_two min_two max_three min_three max_four min_four   -- for this text's walks alone
set_option linter.unusedVariables false
set_option linter.unusedSimpArgs false

/-! ### spec_l11Read: function 60 -/
def spec_l11Read.f (a0 : ByteArray) : Option (Int × Int × Int × Int × Int × Int × Int × Int × Int × Bool) := if a0.size ≤ 4294967296 then some (Ht.flat (Ht.readS a0.data.toList)) else none
theorem spec_l11Read.calls (a0 : ByteArray) (r1 : Int) (r2 : Int) (r3 : Int) (r4 : Int) (r5 : Int) (r6 : Int) (r7 : Int) (r8 : Int) (r9 : Int) (r10 : Bool) (w : World) (h : spec_l11Read.f a0 = some (r1, r2, r3, r4, r5, r6, r7, r8, r9, r10)) :
    Calls Tryd.prog 60 #[.string a0] w fun e w' => e = .returned (.tuple #[.agg #[.int .i64 r1, .int .i64 r2, .int .i64 r3, .int .i64 r4, .int .i64 r5, .int .i64 r6, .int .i64 r7, .int .i64 r8, .int .i64 r9], .bool r10]) ∧ Below w.heap.size w w' := by
  unfold spec_l11Read.f at h
  split at h
  · rename_i hs
    have h2 := Option.some.inj h
    have hl : a0.data.toList.length ≤ 4294967296 := by rw [Array.length_toList]; exact hs
    have := Ht.l11Read_any a0.data.toList hl w
    rw [show PuD.txt a0.data.toList = a0 from by simp [PuD.txt]] at this
    revert this h2
    generalize Ht.readS a0.data.toList = x
    obtain ⟨⟨x1, x2, x3, x4, x5, x6, x7, x8, x9⟩, b⟩ := x
    intro h2 this
    simp only [Ht.flat, Prod.mk.injEq] at h2
    obtain ⟨rfl, rfl, rfl, rfl, rfl, rfl, rfl, rfl, rfl, rfl⟩ := h2
    exact this
  · cases h

end Go.Proofs.YtkbklocfdoofeaaDoor.Q

-- made by a patched copy of print.sh: this session's own
namespace Go.Proofs.YtkbklocfdoofeaaDoor.Q
open Go.RowKit Go.Proofs.YtkbklocfdoofeaaDoorW.PrintWords Go.Proofs.YtkbklocfdoofeaaDoorW.PrintLast Go.Proofs.YtkbklocfdoofeaaDoorW.PrintMore
attribute [local go_sem] max2_int min2_int max_two min_two max_three min_three max_four min_four   -- for this text's walks alone
set_option linter.unusedVariables false
set_option linter.unusedSimpArgs false

/-! ### spec_l01Check: function 83 -/
def spec_l01Check.l0 : Nat → ByteArray → Int → Int → Option (Int)
  | 0, _, _, _ => none
  | k + 1, x1, x5, x6 => if x6 < (x1.size : Int) then (if 0 ≤ x6 then (spec_l01Check.l0 k x1 (Int.tmod (wrap64 ((wrap64 ((wrap64 (257 * x5)) + (wrap64 (bt x1 x6)))) + 1)) 99991) (wrap64 (x6 + 1))) else (none)) else (some x5)
def spec_l01Check.f (k : Nat) (a0 : Int) (a1 : ByteArray) : Option (Int) := spec_l01Check.l0 k a1 a0 0
set_option maxHeartbeats 8000000 in
set_option maxRecDepth 100000 in
theorem spec_l01Check.calls (k : Nat) (a0 : Int) (a1 : ByteArray) (r : Int) (w : World) (h : spec_l01Check.f k a0 a1 = some r) :
    Calls Tryd.prog 83 #[.int .i64 a0, .string a1] w fun e w' => e = .returned (.int .i64 r) ∧ Drawn0 w w' := by
  have H : (spec_l01Check.l0 k a1 a0 0) = some r := h
  clear h
  have H' := Aside0.mk H
  clear H
  go_enter Tryd.func83, Tryd.ntmps83
  go_wp2
  go_loopg [5, 6] k (fun kq v5 v6 w' => ∃ (x5_1 : Int) (x6_1 : Int), v5 = .int .i64 x5_1 ∧ v6 = .int .i64 x6_1 ∧ Aside0 (spec_l01Check.l0 kq a1 x5_1 x6_1 = some r) ∧ Aside0 (kq ≤ k) ∧ Drawn0 w w')
  case atStart => exact ⟨(a0), (0), (by first | rfl | (simp; done) | (simp [*]; done)), (by first | rfl | (simp; done) | (simp [*]; done)), H', ⟨Nat.le_refl _⟩, by repeat (first | exact Drawn0.refl _ | apply Drawn0.step)⟩
  case round =>
    clear H'
    try clear p2
    obtain ⟨x5_1, x6_1, rfl, rfl, HA, HK1, ⟨m1, rfl⟩⟩ := hrel
    cases gk with
    | zero => exact absurd HA.out (by simp [spec_l01Check.l0])
    | succ k1 =>
      have H := HA.out
      clear HA
      simp only [spec_l01Check.l0] at H
      by_cases c3 : x6_1 < (a1.size : Int)
      · rw [if_pos c3] at H
        have c3b0 : decide (x6_1 < (a1.size : Int)) = true := decide_eq_true c3
        clear c3
        by_cases c4 : 0 ≤ x6_1
        · rw [if_pos c4] at H
          have c4b0 : decide (0 ≤ x6_1) = true := decide_eq_true c4
          clear c4
          have H' := Aside0.mk H
          clear H
          have p5 : 0 ≤ (x6_1 : Int) := of_decide_eq_true (by first | (with_reducible assumption) | assumption)
          have q5 : x6_1 < (a1.size : Int) := of_decide_eq_true (by first | (with_reducible assumption) | assumption)
          have hx5 := bt_at a1 x6_1
          replace p5 := eq_true p5
          replace q5 := eq_true q5
          go_wp2
          go_roundg k1
          case measure => have := HK1.out; omega
          case rel => exact ⟨(Int.tmod (wrap64 ((wrap64 ((wrap64 (257 * x5_1)) + (wrap64 (bt a1 x6_1)))) + 1)) 99991), (wrap64 (x6_1 + 1)), (by first | rfl | (simp; done) | (simp [*]; done)), (by first | rfl | (simp; done) | (simp [*]; done)), H', ⟨by have := HK1.out; omega⟩, by repeat (first | exact Drawn0.refl _ | apply Drawn0.step)⟩
        · rw [if_neg c4] at H
          exact absurd H (by simp)
      · rw [if_neg c3] at H
        have c3b0 : decide (x6_1 < (a1.size : Int)) = false := decide_eq_false c3
        clear c3
        obtain rfl := Option.some.inj H
        go_wp2
        go_ret
        exact ⟨by first | rfl | (simp; done) | (simp [*]; done), by repeat (first | exact Drawn0.refl _ | apply Drawn0.step)⟩

end Go.Proofs.YtkbklocfdoofeaaDoor.Q

-- made by a patched copy of print.sh: this session's own
namespace Go.Proofs.YtkbklocfdoofeaaDoor.Q
open Go.RowKit Go.Proofs.YtkbklocfdoofeaaDoorW.PrintWords Go.Proofs.YtkbklocfdoofeaaDoorW.PrintLast Go.Proofs.YtkbklocfdoofeaaDoorW.PrintMore
attribute [local go_sem] max2_int min2_int max_two min_two max_three min_three max_four min_four   -- for this text's walks alone
set_option linter.unusedVariables false
set_option linter.unusedSimpArgs false

/-! ### spec_l11Recover: function 63 -/
mutual
def spec_l11Recover.l0 : Nat → ByteArray → List (S41) → Int → Int → Int → Option ((List (S41)) × Int)
  | 0, _, _, _, _, _ => none
  | k + 1, x0, x4, x5, x6, x7 => if x7 < (x0.size : Int) then (spec_l11Recover.j1 k x0 x4 x5 x6 x7 (decide ((x4.length : Int) < 60))) else (spec_l11Recover.j1 k x0 x4 x5 x6 x7 false)
def spec_l11Recover.j1 : Nat → ByteArray → List (S41) → Int → Int → Int → Bool → Option ((List (S41)) × Int)
  | 0, _, _, _, _, _, _ => none
  | k + 1, x0, x4, x5, x6, x7, x21 => if x21 = true then (if 0 ≤ x7 then (if x7 < (x0.size : Int) then (if (bt x0 x7) = 10 then (spec_l11Recover.l1 k x0 x4 x5 x6 x7 x6) else (spec_l11Recover.l0 k x0 x4 x5 x6 (wrap64 (x7 + 1)))) else (none)) else (none)) else (some (x4, x6))
def spec_l11Recover.j3 : Nat → ByteArray → List (S41) → Int → Int → Int → Int → Option ((List (S41)) × Int)
  | 0, _, _, _, _, _, _ => none
  | k + 1, x0, x4, x5, x6, x7, x8 => if x8 = x7 then (some (x4, x6)) else (if 0 ≤ (wrap64 (x8 + 1)) then (if (wrap64 (x8 + 1)) ≤ x7 then (if x7 ≤ (x0.size : Int) then ((spec_l11Read.f (x0.extract ((wrap64 (x8 + 1)) : Int).toNat (x7 : Int).toNat)).bind fun bt297 => (if bt297.2.2.2.2.2.2.2.2.2 = true then ((spec_l01Check.f k x5 (x0.extract ((wrap64 (x8 + 1)) : Int).toNat (x7 : Int).toNat)).bind fun t308 => (if 0 ≤ x6 then (if x6 ≤ x8 then (if x8 ≤ (x0.size : Int) then ((spec_l01Dec.f k t308).bind fun t309 => (if (x0.extract (x6 : Int).toNat (x8 : Int).toNat).toList = t309.toList then (if x4.length < 1954687338268 then (spec_l11Recover.l0 k x0 (x4 ++ [(⟨bt297.1, bt297.2.1, bt297.2.2.1, bt297.2.2.2.1, (⟨bt297.2.2.2.2.1, bt297.2.2.2.2.2.1⟩ : S39), bt297.2.2.2.2.2.2.1, bt297.2.2.2.2.2.2.2.1, bt297.2.2.2.2.2.2.2.2.1⟩ : S41)]) t308 (wrap64 (x7 + 1)) (wrap64 (x7 + 1))) else (none)) else (some (x4, x6)))) else (none)) else (none)) else (none))) else (some (x4, x6)))) else (none)) else (none)) else (none))
def spec_l11Recover.l1 : Nat → ByteArray → List (S41) → Int → Int → Int → Int → Option ((List (S41)) × Int)
  | 0, _, _, _, _, _, _ => none
  | k + 1, x0, x4, x5, x6, x7, x8 => if x8 < x7 then (if 0 ≤ x8 then (if x8 < (x0.size : Int) then (if (bt x0 x8) = 32 then (spec_l11Recover.j3 k x0 x4 x5 x6 x7 x8) else (spec_l11Recover.l1 k x0 x4 x5 x6 x7 (wrap64 (x8 + 1)))) else (none)) else (none)) else (spec_l11Recover.j3 k x0 x4 x5 x6 x7 x8)
end
def spec_l11Recover.f (k : Nat) (a0 : ByteArray) : Option ((List (S41)) × Int) := spec_l11Recover.l0 k a0 (([] : List (S41))) 1 0 0
set_option maxHeartbeats 8000000 in
set_option maxRecDepth 100000 in
theorem spec_l11Recover.calls (k : Nat) (a0 : ByteArray) (r1 : List (S41)) (r2 : Int) (w : World) (h : spec_l11Recover.f k a0 = some (r1, r2)) :
    Calls Tryd.prog 63 #[.string a0] w fun e w' => ∃ v0_ : Value, e = .returned (.tuple #[v0_, .int .i64 r2]) ∧ Kd.R k41 41 w' w.heap.size (fun _ => True) v0_ r1 ∧ Below w.heap.size w w' := by
  have hu41 := Tryd.underlying41
  have HB := Aside0.mk (Below.refl w.heap.size w)
  have H : (spec_l11Recover.l0 k a0 (([] : List (S41))) 1 0 0) = some (r1, r2) := h
  clear h
  obtain ⟨y294, hy294⟩ : ∃ y_ : List (S41), y_ = (([] : List (S41))) := ⟨_, rfl⟩
  replace H : (spec_l11Recover.l0 k a0 y294 1 0 0) = some (r1, r2) := by first | (rw [hy294]; with_reducible exact H) | (have H2_ := (Option.bind_some _ _).symm.trans H; rw [hy294]; with_reducible exact H2_) | (have H2_ := (Option.bind_some _ _).symm.trans H; with_reducible exact H2_) | with_reducible exact H | (rw [hy294]; exact H) | exact H
  have Ny294 := Aside0.mk hy294
  clear hy294
  have H' := Aside0.mk H
  clear H
  go_enter Tryd.func63, Tryd.ntmps63
  go_wp2_with (first | ((with_reducible refine gate_dst (N := 12) rfl ?_); (try (refine gate_guard (by rfl) ?_; dsimp only)); refine Kd.R_lit k41 _ 41 ?hg (N := 12) ?hd (xs := ([] : List (S41))) (inner := []) (ok := fun _ => True) (okp := fun _ => True) ?hr ?hp (fun _ hk => hk) trivial (Below.refl _ _) (Nat.le_refl _) (by simp) ?_; (case hd => rfl); (case hg => rfl); (case hr => first | (go_simp; done) | (go_simp; rfl)); (case hp => exact (Reps.none _ _)); intro v295 w2 ho3 hb hg_ hnew_; clear hg_ hnew_; (first | rw [← Ny294.out] at ho3 | (simp only [Int.reduceToNat] at ho3; rw [← Ny294.out] at ho3)); have n0_ := Aside0.mk (Kd.R_lower ho3 (below_size (by repeat (first | (with_reducible first | exact HB.out | apply below_alloc | apply pw_below_drewN | apply below_drew1) | exact HB.out)))); have n1_ := Aside0.mk (below_step (by repeat (first | (with_reducible first | exact HB.out | apply below_alloc | apply pw_below_drewN | apply below_drew1) | exact HB.out)) hb); clear HB; have HO296 := n0_; have HB := n1_; clear n0_ n1_; clear hb ho3))
  go_loopg [4, 5, 6, 7] k (fun kq v4 v5 v6 v7 w' => ∃ (x4_1 : List (S41)) (x5_1 : Int) (x6_1 : Int) (x7_1 : Int), v5 = .int .i64 x5_1 ∧ v6 = .int .i64 x6_1 ∧ v7 = .int .i64 x7_1 ∧ Aside0 (spec_l11Recover.l0 kq a0 x4_1 x5_1 x6_1 x7_1 = some (r1, r2)) ∧ Aside0 (kq ≤ k) ∧ Aside0 (Kd.R k41 41 w' w.heap.size (fun _ => True) v4 x4_1) ∧ Aside0 (Below w.heap.size w w'))
  case atStart => exact ⟨(y294), (1), (0), (0), (by first | rfl | (simp; done) | (simp [*]; done)), (by first | rfl | (simp; done) | (simp [*]; done)), (by first | rfl | (simp; done) | (simp [*]; done)), H', ⟨Nat.le_refl _⟩, ⟨by (with_reducible repeat (first | apply Kd.R_alloc | apply Kd.R_drewN | apply Kd.R_drew)); exact HO296.out⟩, ⟨by repeat (first | (with_reducible first | exact HB.out | apply below_alloc | apply pw_below_drewN | apply below_drew1) | exact HB.out)⟩⟩
  case round =>
    clear H'
    try clear p2
    obtain ⟨x4_1, x5_1, x6_1, x7_1, rfl, rfl, rfl, HA, HK1, HO_4, HB⟩ := hrel
    cases gk with
    | zero => exact absurd HA.out (by simp [spec_l11Recover.l0])
    | succ k1 =>
      have H := HA.out
      clear HA
      simp only [spec_l11Recover.l0] at H
      have HC4 := Aside0.mk H
      clear H
      go_upto_region 5 with (fail)
      go_cut [21] (fun v21 wc => ∃ (kq : Nat) (x21_3 : Bool), v21 = .bool x21_3 ∧ Aside0 (spec_l11Recover.j1 kq a0 x4_1 x5_1 x6_1 x7_1 x21_3 = some (r1, r2)) ∧ Aside0 (kq ≤ k1) ∧ Aside0 (Kd.R k41 41 wc w.heap.size (fun _ => True) u4 x4_1) ∧ Aside0 (Below w.heap.size w wc))
      case first =>
        have H := HC4.out
        clear HC4
        by_cases c5 : x7_1 < (a0.size : Int)
        · rw [if_pos c5] at H
          have c5b0 : decide (x7_1 < (a0.size : Int)) = true := decide_eq_true c5
          clear c5
          (first | rw [c5b0] | (simp only [i64_w, i32_w]; rw [c5b0]) | skip)
          have H' := Aside0.mk H
          clear H
          obtain ⟨Ao6, co6, eo6⟩ := Kd.R_slice HO_4.out
          subst eo6
          go_wp2
          go_meet
          case rel => exact ⟨_, (decide ((x4_1.length : Int) < 60)), (by first | rfl | (simp; done) | (simp [*]; done)), H', ⟨by have := HK1.out; first | omega | exact Nat.le_refl _⟩, ⟨by (with_reducible repeat (first | apply Kd.R_alloc | apply Kd.R_drewN | apply Kd.R_drew)); exact HO_4.out⟩, ⟨by repeat (first | (with_reducible first | exact HB.out | apply below_alloc | apply pw_below_drewN | apply below_drew1) | exact HB.out)⟩⟩
        · rw [if_neg c5] at H
          have c5b0 : decide (x7_1 < (a0.size : Int)) = false := decide_eq_false c5
          clear c5
          (first | rw [c5b0] | (simp only [i64_w, i32_w]; rw [c5b0]) | skip)
          have H' := Aside0.mk H
          clear H
          go_wp2
          go_meet
          case rel => exact ⟨_, (false), (by first | rfl | (simp; done) | (simp [*]; done)), H', ⟨by have := HK1.out; first | omega | exact Nat.le_refl _⟩, ⟨by (with_reducible repeat (first | apply Kd.R_alloc | apply Kd.R_drewN | apply Kd.R_drew)); exact HO_4.out⟩, ⟨by repeat (first | (with_reducible first | exact HB.out | apply below_alloc | apply pw_below_drewN | apply below_drew1) | exact HB.out)⟩⟩
      case rest =>
        clear HC4
        try clear p2
        try clear c5
        try clear c5b0
        try clear c6
        try clear p2
        obtain ⟨kq, x21_3, rfl, HA, HJ3, HO_4, HB⟩ := hcut
        cases kq with
        | zero => exact absurd HA.out (by simp [spec_l11Recover.j1])
        | succ kj3 =>
          have H := HA.out
          clear HA
          simp only [spec_l11Recover.j1] at H
          by_cases c7 : x21_3 = true
          · subst c7
            have H1 : (if 0 ≤ x7_1 then (if x7_1 < (a0.size : Int) then (if (bt a0 x7_1) = 10 then (spec_l11Recover.l1 kj3 a0 x4_1 x5_1 x6_1 x7_1 x6_1) else (spec_l11Recover.l0 kj3 a0 x4_1 x5_1 x6_1 (wrap64 (x7_1 + 1)))) else (none)) else (none)) = some (r1, r2) := by rw [if_pos rfl] at H; exact H
            clear H
            have H := H1
            clear H1
            by_cases c8 : 0 ≤ x7_1
            · rw [if_pos c8] at H
              have c8b0 : decide (0 ≤ x7_1) = true := decide_eq_true c8
              clear c8
              by_cases c9 : x7_1 < (a0.size : Int)
              · rw [if_pos c9] at H
                have c9b0 : decide (x7_1 < (a0.size : Int)) = true := decide_eq_true c9
                clear c9
                by_cases c11 : (bt a0 x7_1) = 10
                · rw [if_pos c11] at H
                  have c11b0 : ((bt a0 x7_1) == 10) = true := beq_iff_eq.mpr c11
                  have c11b1 : ((bt a0 x7_1) != 10) = false := bne_eq_false_iff_eq.mpr c11
                  clear c11
                  have HC12 := Aside0.mk H
                  clear H
                  have p10 : 0 ≤ (x7_1 : Int) := of_decide_eq_true (by first | (with_reducible assumption) | assumption)
                  have q10 : x7_1 < (a0.size : Int) := of_decide_eq_true (by first | (with_reducible assumption) | assumption)
                  have hx10 := bt_at a0 x7_1
                  replace p10 := eq_true p10
                  replace q10 := eq_true q10
                  go_upto_block 2 with (fail)
                  go_cut [8] (fun v8 wc => ∃ (kq : Nat) (x8_11 : Int), v8 = .int .i64 x8_11 ∧ Aside0 (spec_l11Recover.j3 kq a0 x4_1 x5_1 x6_1 x7_1 x8_11 = some (r1, r2)) ∧ Aside0 (kq ≤ kj3) ∧ Aside0 (Kd.R k41 41 wc w.heap.size (fun _ => True) u4 x4_1) ∧ Aside0 (Below w.heap.size w wc))
                  case first =>
                    have H := HC12.out
                    clear HC12
                    have H' := Aside0.mk H
                    clear H
                    go_wp2
                    go_loopg [8] kj3 (fun kq v8 w' => ∃ (x8_3 : Int), v8 = .int .i64 x8_3 ∧ Aside0 (spec_l11Recover.l1 kq a0 x4_1 x5_1 x6_1 x7_1 x8_3 = some (r1, r2)) ∧ Aside0 (kq ≤ kj3) ∧ Aside0 (Kd.R k41 41 w' w.heap.size (fun _ => True) u4 x4_1) ∧ Aside0 (Below w.heap.size w w'))
                    case atStart => exact ⟨(x6_1), (by first | rfl | (simp; done) | (simp [*]; done)), H', ⟨Nat.le_refl _⟩, ⟨by (with_reducible repeat (first | apply Kd.R_alloc | apply Kd.R_drewN | apply Kd.R_drew)); exact HO_4.out⟩, ⟨by repeat (first | (with_reducible first | exact HB.out | apply below_alloc | apply pw_below_drewN | apply below_drew1) | exact HB.out)⟩⟩
                    case round =>
                      clear H'
                      try clear c1
                      try clear p1
                      try clear q1
                      try clear hx1
                      try clear p2
                      try clear c5
                      try clear c5b0
                      try clear c6
                      try clear p6
                      try clear c7
                      try clear c8
                      try clear c8b0
                      try clear c9
                      try clear c9b0
                      try clear p10
                      try clear q10
                      try clear hx10
                      try clear c11
                      try clear c11b0
                      try clear c11b1
                      try clear p10
                      try clear p2
                      try clear q10
                      obtain ⟨x8_3, rfl, HA, HK3, HO_4, HB⟩ := hrel
                      cases gk with
                      | zero => exact absurd HA.out (by simp [spec_l11Recover.l1])
                      | succ k3 =>
                        have H := HA.out
                        clear HA
                        simp only [spec_l11Recover.l1] at H
                        by_cases c13 : x8_3 < x7_1
                        · rw [if_pos c13] at H
                          have c13b0 : decide (x8_3 < x7_1) = true := decide_eq_true c13
                          clear c13
                          (first | rw [c13b0] | (simp only [i64_w, i32_w]; rw [c13b0]) | skip)
                          by_cases c14 : 0 ≤ x8_3
                          · rw [if_pos c14] at H
                            have c14b0 : decide (0 ≤ x8_3) = true := decide_eq_true c14
                            clear c14
                            by_cases c15 : x8_3 < (a0.size : Int)
                            · rw [if_pos c15] at H
                              have c15b0 : decide (x8_3 < (a0.size : Int)) = true := decide_eq_true c15
                              clear c15
                              by_cases c17 : (bt a0 x8_3) = 32
                              · rw [if_pos c17] at H
                                have c17b0 : ((bt a0 x8_3) == 32) = true := beq_iff_eq.mpr c17
                                have c17b1 : ((bt a0 x8_3) != 32) = false := bne_eq_false_iff_eq.mpr c17
                                clear c17
                                have H' := Aside0.mk H
                                clear H
                                have p16 : 0 ≤ (x8_3 : Int) := of_decide_eq_true (by first | (with_reducible assumption) | assumption)
                                have q16 : x8_3 < (a0.size : Int) := of_decide_eq_true (by first | (with_reducible assumption) | assumption)
                                have hx16 := bt_at a0 x8_3
                                replace p16 := eq_true p16
                                replace q16 := eq_true q16
                                go_wp2
                                go_meet
                                case rel => exact ⟨_, (x8_3), (by first | rfl | (simp; done) | (simp [*]; done)), H', ⟨by have := HK1.out; have := HJ3.out; have := HK3.out; first | omega | exact Nat.le_refl _⟩, ⟨by (with_reducible repeat (first | apply Kd.R_alloc | apply Kd.R_drewN | apply Kd.R_drew)); exact HO_4.out⟩, ⟨by repeat (first | (with_reducible first | exact HB.out | apply below_alloc | apply pw_below_drewN | apply below_drew1) | exact HB.out)⟩⟩
                              · rw [if_neg c17] at H
                                have c17b0 : ((bt a0 x8_3) == 32) = false := beq_eq_false_iff_ne.mpr c17
                                have c17b1 : ((bt a0 x8_3) != 32) = true := bne_iff_ne.mpr c17
                                have H' := Aside0.mk H
                                clear H
                                have p16 : 0 ≤ (x8_3 : Int) := of_decide_eq_true (by first | (with_reducible assumption) | assumption)
                                have q16 : x8_3 < (a0.size : Int) := of_decide_eq_true (by first | (with_reducible assumption) | assumption)
                                have hx16 := bt_at a0 x8_3
                                replace p16 := eq_true p16
                                replace q16 := eq_true q16
                                go_wp2
                                go_roundg k3
                                case measure => have := HK1.out; have := HJ3.out; have := HK3.out; omega
                                case rel => exact ⟨(wrap64 (x8_3 + 1)), (by first | rfl | (simp; done) | (simp [*]; done)), H', ⟨by have := HK1.out; have := HJ3.out; have := HK3.out; omega⟩, ⟨by (with_reducible repeat (first | apply Kd.R_alloc | apply Kd.R_drewN | apply Kd.R_drew)); exact HO_4.out⟩, ⟨by repeat (first | (with_reducible first | exact HB.out | apply below_alloc | apply pw_below_drewN | apply below_drew1) | exact HB.out)⟩⟩
                            · rw [if_neg c15] at H
                              exact absurd H (by simp)
                          · rw [if_neg c14] at H
                            exact absurd H (by simp)
                        · rw [if_neg c13] at H
                          have c13b0 : decide (x8_3 < x7_1) = false := decide_eq_false c13
                          clear c13
                          (first | rw [c13b0] | (simp only [i64_w, i32_w]; rw [c13b0]) | skip)
                          have H' := Aside0.mk H
                          clear H
                          go_wp2
                          go_meet
                          case rel => exact ⟨_, (x8_3), (by first | rfl | (simp; done) | (simp [*]; done)), H', ⟨by have := HK1.out; have := HJ3.out; have := HK3.out; first | omega | exact Nat.le_refl _⟩, ⟨by (with_reducible repeat (first | apply Kd.R_alloc | apply Kd.R_drewN | apply Kd.R_drew)); exact HO_4.out⟩, ⟨by repeat (first | (with_reducible first | exact HB.out | apply below_alloc | apply pw_below_drewN | apply below_drew1) | exact HB.out)⟩⟩
                  case rest =>
                    clear HC12
                    try clear c1
                    try clear p1
                    try clear q1
                    try clear hx1
                    try clear p2
                    try clear c5
                    try clear c5b0
                    try clear c6
                    try clear p6
                    try clear c7
                    try clear c8
                    try clear c8b0
                    try clear c9
                    try clear c9b0
                    try clear p10
                    try clear q10
                    try clear hx10
                    try clear c11
                    try clear c11b0
                    try clear c11b1
                    try clear c13
                    try clear c13b0
                    try clear c14
                    try clear c14b0
                    try clear c15
                    try clear c15b0
                    try clear p16
                    try clear q16
                    try clear hx16
                    try clear c17
                    try clear c17b0
                    try clear c17b1
                    try clear p1
                    try clear p10
                    try clear p16
                    try clear p2
                    try clear p6
                    try clear q1
                    try clear q10
                    try clear q16
                    obtain ⟨kq, x8_11, rfl, HA, HJ11, HO_4, HB⟩ := hcut
                    cases kq with
                    | zero => exact absurd HA.out (by simp [spec_l11Recover.j3])
                    | succ kj11 =>
                      have H := HA.out
                      clear HA
                      simp only [spec_l11Recover.j3] at H
                      by_cases c18 : x8_11 = x7_1
                      · rw [if_pos c18] at H
                        have c18b0 : (x8_11 == x7_1) = true := beq_iff_eq.mpr c18
                        have c18b1 : (x8_11 != x7_1) = false := bne_eq_false_iff_eq.mpr c18
                        clear c18
                        simp only [Option.some.injEq, Prod.mk.injEq] at H
                        obtain ⟨rfl, rfl⟩ := H
                        go_wp2
                        go_ret2
                        exact ⟨_, by first | rfl | (simp [errW_none, errW_some] <;> rfl) | (simp [*, errW_none, errW_some] <;> rfl), by (with_reducible repeat (first | apply Kd.R_alloc | apply Kd.R_drewN | apply Kd.R_drew)); exact HO_4.out, by repeat (first | (with_reducible first | exact HB.out | apply below_alloc | apply pw_below_drewN | apply below_drew1) | exact HB.out)⟩
                      · rw [if_neg c18] at H
                        have c18b0 : (x8_11 == x7_1) = false := beq_eq_false_iff_ne.mpr c18
                        have c18b1 : (x8_11 != x7_1) = true := bne_iff_ne.mpr c18
                        obtain ⟨ji19, hji19⟩ : ∃ j_ : Int, (wrap64 (x8_11 + 1)) = j_ := ⟨_, rfl⟩
                        replace H : (if 0 ≤ (ji19) then (if (ji19) ≤ x7_1 then (if x7_1 ≤ (a0.size : Int) then ((spec_l11Read.f (a0.extract ((ji19) : Int).toNat (x7_1 : Int).toNat)).bind fun bt297 => (if bt297.2.2.2.2.2.2.2.2.2 = true then ((spec_l01Check.f kj11 x5_1 (a0.extract ((ji19) : Int).toNat (x7_1 : Int).toNat)).bind fun t308 => (if 0 ≤ x6_1 then (if x6_1 ≤ x8_11 then (if x8_11 ≤ (a0.size : Int) then ((spec_l01Dec.f kj11 t308).bind fun t309 => (if (a0.extract (x6_1 : Int).toNat (x8_11 : Int).toNat).toList = t309.toList then (if x4_1.length < 1954687338268 then (spec_l11Recover.l0 kj11 a0 (x4_1 ++ [(⟨bt297.1, bt297.2.1, bt297.2.2.1, bt297.2.2.2.1, (⟨bt297.2.2.2.2.1, bt297.2.2.2.2.2.1⟩ : S39), bt297.2.2.2.2.2.2.1, bt297.2.2.2.2.2.2.2.1, bt297.2.2.2.2.2.2.2.2.1⟩ : S41)]) t308 (wrap64 (x7_1 + 1)) (wrap64 (x7_1 + 1))) else (none)) else (some (x4_1, x6_1)))) else (none)) else (none)) else (none))) else (some (x4_1, x6_1)))) else (none)) else (none)) else (none)) = some (r1, r2) := by first | (rw [hji19] at H; exact H) | (simp only [hji19] at H ⊢; exact H)
                        have hji19w : (IntKind.i64.wrap (x8_11 + 1)) = ji19 := (i64_w _).trans hji19
                        by_cases c20 : 0 ≤ (ji19)
                        · rw [if_pos c20] at H
                          have c20b0 := eq_true c20
                          have c20b1 : decide (0 ≤ (ji19)) = true := decide_eq_true c20
                          clear c20
                          by_cases c21 : (ji19) ≤ x7_1
                          · rw [if_pos c21] at H
                            have c21b0 := eq_true c21
                            have c21b1 : decide ((ji19) ≤ x7_1) = true := decide_eq_true c21
                            clear c21
                            by_cases c22 : x7_1 ≤ (a0.size : Int)
                            · rw [if_pos c22] at H
                              have c22b0 := eq_true c22
                              have c22b1 : decide (x7_1 ≤ (a0.size : Int)) = true := decide_eq_true c22
                              clear c22
                              replace H := Option.bind_eq_some_iff.mp H
                              obtain ⟨⟨t297, t298, t299, t300, t301, t302, t303, t304, t305, t306⟩, A230, H⟩ := H
                              replace H : (if t306 = true then ((spec_l01Check.f kj11 x5_1 (a0.extract ((ji19) : Int).toNat (x7_1 : Int).toNat)).bind fun t308 => (if 0 ≤ x6_1 then (if x6_1 ≤ x8_11 then (if x8_11 ≤ (a0.size : Int) then ((spec_l01Dec.f kj11 t308).bind fun t309 => (if (a0.extract (x6_1 : Int).toNat (x8_11 : Int).toNat).toList = t309.toList then (if x4_1.length < 1954687338268 then (spec_l11Recover.l0 kj11 a0 (x4_1 ++ [(⟨t297, t298, t299, t300, (⟨t301, t302⟩ : S39), t303, t304, t305⟩ : S41)]) t308 (wrap64 (x7_1 + 1)) (wrap64 (x7_1 + 1))) else (none)) else (some (x4_1, x6_1)))) else (none)) else (none)) else (none))) else (some (x4_1, x6_1))) = some (r1, r2) := H
                              have A23 := Aside0.mk A230
                              clear A230
                              by_cases c24 : t306 = true
                              · subst c24
                                have H1 : ((spec_l01Check.f kj11 x5_1 (a0.extract ((ji19) : Int).toNat (x7_1 : Int).toNat)).bind fun t308 => (if 0 ≤ x6_1 then (if x6_1 ≤ x8_11 then (if x8_11 ≤ (a0.size : Int) then ((spec_l01Dec.f kj11 t308).bind fun t309 => (if (a0.extract (x6_1 : Int).toNat (x8_11 : Int).toNat).toList = t309.toList then (if x4_1.length < 1954687338268 then (spec_l11Recover.l0 kj11 a0 (x4_1 ++ [(⟨t297, t298, t299, t300, (⟨t301, t302⟩ : S39), t303, t304, t305⟩ : S41)]) t308 (wrap64 (x7_1 + 1)) (wrap64 (x7_1 + 1))) else (none)) else (some (x4_1, x6_1)))) else (none)) else (none)) else (none))) = some (r1, r2) := by rw [if_pos rfl] at H; exact H
                                clear H
                                have H := H1
                                clear H1
                                replace H := Option.bind_eq_some_iff.mp H
                                obtain ⟨t308, A250, H⟩ := H
                                replace H : (if 0 ≤ x6_1 then (if x6_1 ≤ x8_11 then (if x8_11 ≤ (a0.size : Int) then ((spec_l01Dec.f kj11 t308).bind fun t309 => (if (a0.extract (x6_1 : Int).toNat (x8_11 : Int).toNat).toList = t309.toList then (if x4_1.length < 1954687338268 then (spec_l11Recover.l0 kj11 a0 (x4_1 ++ [(⟨t297, t298, t299, t300, (⟨t301, t302⟩ : S39), t303, t304, t305⟩ : S41)]) t308 (wrap64 (x7_1 + 1)) (wrap64 (x7_1 + 1))) else (none)) else (some (x4_1, x6_1)))) else (none)) else (none)) else (none)) = some (r1, r2) := H
                                have A25 := Aside0.mk A250
                                clear A250
                                by_cases c26 : 0 ≤ x6_1
                                · rw [if_pos c26] at H
                                  have c26b0 := eq_true c26
                                  have c26b1 : decide (0 ≤ x6_1) = true := decide_eq_true c26
                                  clear c26
                                  by_cases c27 : x6_1 ≤ x8_11
                                  · rw [if_pos c27] at H
                                    have c27b0 := eq_true c27
                                    have c27b1 : decide (x6_1 ≤ x8_11) = true := decide_eq_true c27
                                    clear c27
                                    by_cases c28 : x8_11 ≤ (a0.size : Int)
                                    · rw [if_pos c28] at H
                                      have c28b0 := eq_true c28
                                      have c28b1 : decide (x8_11 ≤ (a0.size : Int)) = true := decide_eq_true c28
                                      clear c28
                                      replace H := Option.bind_eq_some_iff.mp H
                                      obtain ⟨t309, A290, H⟩ := H
                                      replace H : (if (a0.extract (x6_1 : Int).toNat (x8_11 : Int).toNat).toList = t309.toList then (if x4_1.length < 1954687338268 then (spec_l11Recover.l0 kj11 a0 (x4_1 ++ [(⟨t297, t298, t299, t300, (⟨t301, t302⟩ : S39), t303, t304, t305⟩ : S41)]) t308 (wrap64 (x7_1 + 1)) (wrap64 (x7_1 + 1))) else (none)) else (some (x4_1, x6_1))) = some (r1, r2) := H
                                      have A29 := Aside0.mk A290
                                      clear A290
                                      by_cases c30 : (a0.extract (x6_1 : Int).toNat (x8_11 : Int).toNat).toList = t309.toList
                                      · rw [if_pos c30] at H
                                        have c30b0 : ((a0.extract (x6_1 : Int).toNat (x8_11 : Int).toNat).toList == t309.toList) = true := beq_iff_eq.mpr c30
                                        have c30b1 : ((a0.extract (x6_1 : Int).toNat (x8_11 : Int).toNat).toList != t309.toList) = false := bne_eq_false_iff_eq.mpr c30
                                        clear c30
                                        by_cases c31 : x4_1.length < 1954687338268
                                        · rw [if_pos c31] at H
                                          have LMc31 := Aside0.mk c31
                                          clear c31
                                          obtain ⟨y310, hy310⟩ : ∃ y_ : List (S41), y_ = (x4_1 ++ [(⟨t297, t298, t299, t300, (⟨t301, t302⟩ : S39), t303, t304, t305⟩ : S41)]) := ⟨_, rfl⟩
                                          replace H : (spec_l11Recover.l0 kj11 a0 y310 t308 (wrap64 (x7_1 + 1)) (wrap64 (x7_1 + 1))) = some (r1, r2) := by first | (rw [hy310]; with_reducible exact H) | (have H2_ := (Option.bind_some _ _).symm.trans H; rw [hy310]; with_reducible exact H2_) | (have H2_ := (Option.bind_some _ _).symm.trans H; with_reducible exact H2_) | with_reducible exact H | (rw [hy310]; exact H) | exact H
                                          have Ny310 := Aside0.mk hy310
                                          clear hy310
                                          have H' := Aside0.mk H
                                          clear H
                                          try go_wp2_with (first | ((with_reducible refine gate_callee (f := 60) rfl ?_); refine goesL_ (some 50) rfl rfl Tryd.func60 (by kernel_rfl) rfl #[.string (a0.extract ((ji19) : Int).toNat (x7_1 : Int).toNat)] rfl (by (try simp only [List.map_toArray, List.map_cons, List.map_nil]); first | done | (simp only [hji19]; rfl) | rfl | (simp only [List.length_drop, List.length_take]; rfl)) ?_; (with_reducible refine (spec_l11Read.calls (a0.extract ((ji19) : Int).toNat (x7_1 : Int).toNat) t297 t298 t299 t300 t301 t302 t303 t304 t305 true _ A23.out).mono ?_); rintro e w32 ⟨rfl, hb⟩; refine ⟨_, rfl, ?_⟩; have n0_ := Aside0.mk (Kd.R_below (by (with_reducible repeat (first | apply Kd.R_alloc | apply Kd.R_drewN | apply Kd.R_drew)); exact HO_4.out) hb); have n1_ := Aside0.mk (below_step (by repeat (first | (with_reducible first | exact HB.out | apply below_alloc | apply pw_below_drewN | apply below_drew1) | exact HB.out)) hb); clear HO_4; clear HB; have HO_4 := n0_; have HB := n1_; clear n0_ n1_; (try clear hb); (try clear hb2); (try clear hk); (try clear hi)) | ((with_reducible refine gate_dst (N := 10) rfl ?_); (try (refine gate_guard (by rfl) ?_; dsimp only)); refine box_event ?hg (N := 10) ?hd (cs := #[.int .i64 0, .int .i64 0, .int .i64 0, .int .i64 0, .int .i64 0, .int .i64 0, .int .i64 0, .int .i64 0, .int .i64 0]) (t := 41) ?hr ?_; (case hd => rfl); (case hg => rfl); (case hr => first | (go_simp; done) | (go_simp; rfl)); intro gb307 hg w33 hbox hb; have n0_ := Aside0.mk (Kd.R_below (Kd.R_elderB (by (with_reducible repeat (first | apply Kd.R_alloc | apply Kd.R_drewN | apply Kd.R_drew)); exact HO_4.out) gb307 (Nat.le_of_eq hg.symm)) hb); have n1_ := Aside0.mk (below_step (by repeat (first | (with_reducible first | exact HB.out | apply below_alloc | apply pw_below_drewN | apply below_drew1) | exact HB.out)) hb); have n2_ := Aside0.mk (hbox); have n3_ := Aside0.mk ((by rw [hg]; exact (below_size (by repeat (first | (with_reducible first | exact HB.out | apply below_alloc | apply pw_below_drewN | apply below_drew1) | exact HB.out))) : w.heap.size ≤ gb307)); have n4_ := Aside0.mk ((by rw [hg]; exact (below_size (by repeat (first | (with_reducible first | exact HB.out | apply below_alloc | apply pw_below_drewN | apply below_drew1) | exact HB.out))) : w.heap.size ≤ gb307)); clear HO_4; clear HB; have HO_4 := n0_; have HB := n1_; have BK307 := n2_; have GW307 := n3_; have GE307 := n4_; clear n0_ n1_ n2_ n3_ n4_; clear hb hbox hg; have hcz34_0 : w33.cell? ⟨gb307, 0, none⟩ = some (.int .i64 0) := (blk_cell BK307.out 0).trans rfl; have hcz34_1 : w33.cell? ⟨gb307, 1, none⟩ = some (.int .i64 0) := (blk_cell BK307.out 1).trans rfl; have hcz34_2 : w33.cell? ⟨gb307, 2, none⟩ = some (.int .i64 0) := (blk_cell BK307.out 2).trans rfl; have hcz34_3 : w33.cell? ⟨gb307, 3, none⟩ = some (.int .i64 0) := (blk_cell BK307.out 3).trans rfl; have hcz34_4 : w33.cell? ⟨gb307, 4, none⟩ = some (.int .i64 0) := (blk_cell BK307.out 4).trans rfl; have hcz34_5 : w33.cell? ⟨gb307, 5, none⟩ = some (.int .i64 0) := (blk_cell BK307.out 5).trans rfl; have hcz34_6 : w33.cell? ⟨gb307, 6, none⟩ = some (.int .i64 0) := (blk_cell BK307.out 6).trans rfl; have hcz34_7 : w33.cell? ⟨gb307, 7, none⟩ = some (.int .i64 0) := (blk_cell BK307.out 7).trans rfl; have hcz34_8 : w33.cell? ⟨gb307, 8, none⟩ = some (.int .i64 0) := (blk_cell BK307.out 8).trans rfl; have hfz34_0 := blk_frozen BK307.out 0; have hfz34_1 := blk_frozen BK307.out 1; have hfz34_2 := blk_frozen BK307.out 2; have hfz34_3 := blk_frozen BK307.out 3; have hfz34_4 := blk_frozen BK307.out 4; have hfz34_5 := blk_frozen BK307.out 5; have hfz34_6 := blk_frozen BK307.out 6; have hfz34_7 := blk_frozen BK307.out 7; have hfz34_8 := blk_frozen BK307.out 8) | ((with_reducible refine gate_callee (f := 83) rfl ?_); refine goesL_ (some 57) rfl rfl Tryd.func83 (by kernel_rfl) rfl #[.int .i64 x5_1, .string (a0.extract ((ji19) : Int).toNat (x7_1 : Int).toNat)] rfl (by (try simp only [List.map_toArray, List.map_cons, List.map_nil]); first | done | (simp only [hji19]; rfl) | rfl | (simp only [List.length_drop, List.length_take]; rfl)) ?_; (with_reducible refine (spec_l01Check.calls kj11 x5_1 (a0.extract ((ji19) : Int).toNat (x7_1 : Int).toNat) t308 _ A25.out).mono ?_); rintro e w' ⟨rfl, ⟨nd, rfl⟩⟩; refine ⟨_, rfl, ?_⟩))
                                          have n0_ : Aside0 (Kd.R k41 41 (((((((((w33.setCell ⟨gb307, 0, none⟩ (.int .i64 t297)).setCell ⟨gb307, 1, none⟩ (.int .i64 t298)).setCell ⟨gb307, 2, none⟩ (.int .i64 t299)).setCell ⟨gb307, 3, none⟩ (.int .i64 t300)).setCell ⟨gb307, 4, none⟩ (.int .i64 t301)).setCell ⟨gb307, 5, none⟩ (.int .i64 t302)).setCell ⟨gb307, 6, none⟩ (.int .i64 t303)).setCell ⟨gb307, 7, none⟩ (.int .i64 t304)).setCell ⟨gb307, 8, none⟩ (.int .i64 t305)) w.heap.size (fun k_ => k_ ≠ gb307) u4 x4_1) := ⟨by (with_reducible repeat (first | apply Kd.R_alloc | apply Kd.R_drewN | apply Kd.R_drew)); exact Kd.R_mono (Kd.R_far (p := ⟨gb307, 8, none⟩) (Kd.R_far (p := ⟨gb307, 7, none⟩) (Kd.R_far (p := ⟨gb307, 6, none⟩) (Kd.R_far (p := ⟨gb307, 5, none⟩) (Kd.R_far (p := ⟨gb307, 4, none⟩) (Kd.R_far (p := ⟨gb307, 3, none⟩) (Kd.R_far (p := ⟨gb307, 2, none⟩) (Kd.R_far (p := ⟨gb307, 1, none⟩) (Kd.R_far (p := ⟨gb307, 0, none⟩) (Kd.R_mono HO_4.out (fun k_ hk => (⟨hk, hk.2⟩ : _ ∧ k_ ≠ gb307))) (fun _ hk => hk.2) (.int .i64 t297)) (fun _ hk => hk.2) (.int .i64 t298)) (fun _ hk => hk.2) (.int .i64 t299)) (fun _ hk => hk.2) (.int .i64 t300)) (fun _ hk => hk.2) (.int .i64 t301)) (fun _ hk => hk.2) (.int .i64 t302)) (fun _ hk => hk.2) (.int .i64 t303)) (fun _ hk => hk.2) (.int .i64 t304)) (fun _ hk => hk.2) (.int .i64 t305)) (fun _ hk => hk.1.2)⟩
                                          have n1_ : Aside0 ((((((((((w33.setCell ⟨gb307, 0, none⟩ (.int .i64 t297)).setCell ⟨gb307, 1, none⟩ (.int .i64 t298)).setCell ⟨gb307, 2, none⟩ (.int .i64 t299)).setCell ⟨gb307, 3, none⟩ (.int .i64 t300)).setCell ⟨gb307, 4, none⟩ (.int .i64 t301)).setCell ⟨gb307, 5, none⟩ (.int .i64 t302)).setCell ⟨gb307, 6, none⟩ (.int .i64 t303)).setCell ⟨gb307, 7, none⟩ (.int .i64 t304)).setCell ⟨gb307, 8, none⟩ (.int .i64 t305)).heap[gb307]? = some (.cells #[.int .i64 t297, .int .i64 t298, .int .i64 t299, .int .i64 t300, .int .i64 t301, .int .i64 t302, .int .i64 t303, .int .i64 t304, .int .i64 t305] 41 (0, 0))) := ⟨by (with_reducible repeat (first | refine blk_drewN ?_ _ | refine blk_drew ?_ | refine blk_alloc ?_ _)); refine blk_put (cs := #[.int .i64 t297, .int .i64 t298, .int .i64 t299, .int .i64 t300, .int .i64 t301, .int .i64 t302, .int .i64 t303, .int .i64 t304, .int .i64 0]) ?_ 8 _ rfl; (with_reducible repeat (first | refine blk_drewN ?_ _ | refine blk_drew ?_ | refine blk_alloc ?_ _)); refine blk_put (cs := #[.int .i64 t297, .int .i64 t298, .int .i64 t299, .int .i64 t300, .int .i64 t301, .int .i64 t302, .int .i64 t303, .int .i64 0, .int .i64 0]) ?_ 7 _ rfl; (with_reducible repeat (first | refine blk_drewN ?_ _ | refine blk_drew ?_ | refine blk_alloc ?_ _)); refine blk_put (cs := #[.int .i64 t297, .int .i64 t298, .int .i64 t299, .int .i64 t300, .int .i64 t301, .int .i64 t302, .int .i64 0, .int .i64 0, .int .i64 0]) ?_ 6 _ rfl; (with_reducible repeat (first | refine blk_drewN ?_ _ | refine blk_drew ?_ | refine blk_alloc ?_ _)); refine blk_put (cs := #[.int .i64 t297, .int .i64 t298, .int .i64 t299, .int .i64 t300, .int .i64 t301, .int .i64 0, .int .i64 0, .int .i64 0, .int .i64 0]) ?_ 5 _ rfl; (with_reducible repeat (first | refine blk_drewN ?_ _ | refine blk_drew ?_ | refine blk_alloc ?_ _)); refine blk_put (cs := #[.int .i64 t297, .int .i64 t298, .int .i64 t299, .int .i64 t300, .int .i64 0, .int .i64 0, .int .i64 0, .int .i64 0, .int .i64 0]) ?_ 4 _ rfl; (with_reducible repeat (first | refine blk_drewN ?_ _ | refine blk_drew ?_ | refine blk_alloc ?_ _)); refine blk_put (cs := #[.int .i64 t297, .int .i64 t298, .int .i64 t299, .int .i64 0, .int .i64 0, .int .i64 0, .int .i64 0, .int .i64 0, .int .i64 0]) ?_ 3 _ rfl; (with_reducible repeat (first | refine blk_drewN ?_ _ | refine blk_drew ?_ | refine blk_alloc ?_ _)); refine blk_put (cs := #[.int .i64 t297, .int .i64 t298, .int .i64 0, .int .i64 0, .int .i64 0, .int .i64 0, .int .i64 0, .int .i64 0, .int .i64 0]) ?_ 2 _ rfl; (with_reducible repeat (first | refine blk_drewN ?_ _ | refine blk_drew ?_ | refine blk_alloc ?_ _)); refine blk_put (cs := #[.int .i64 t297, .int .i64 0, .int .i64 0, .int .i64 0, .int .i64 0, .int .i64 0, .int .i64 0, .int .i64 0, .int .i64 0]) ?_ 1 _ rfl; (with_reducible repeat (first | refine blk_drewN ?_ _ | refine blk_drew ?_ | refine blk_alloc ?_ _)); refine blk_put (cs := #[.int .i64 0, .int .i64 0, .int .i64 0, .int .i64 0, .int .i64 0, .int .i64 0, .int .i64 0, .int .i64 0, .int .i64 0]) ?_ 0 _ rfl; (with_reducible repeat (first | refine blk_drewN ?_ _ | refine blk_drew ?_ | refine blk_alloc ?_ _)); exact BK307.out⟩
                                          have n2_ : Aside0 (Below w.heap.size w (((((((((w33.setCell ⟨gb307, 0, none⟩ (.int .i64 t297)).setCell ⟨gb307, 1, none⟩ (.int .i64 t298)).setCell ⟨gb307, 2, none⟩ (.int .i64 t299)).setCell ⟨gb307, 3, none⟩ (.int .i64 t300)).setCell ⟨gb307, 4, none⟩ (.int .i64 t301)).setCell ⟨gb307, 5, none⟩ (.int .i64 t302)).setCell ⟨gb307, 6, none⟩ (.int .i64 t303)).setCell ⟨gb307, 7, none⟩ (.int .i64 t304)).setCell ⟨gb307, 8, none⟩ (.int .i64 t305))) := ⟨by repeat (first | (with_reducible first | exact HB.out | apply below_alloc | apply pw_below_drewN | apply below_drew1 | refine below_set ?_ GE307.out) | exact HB.out)⟩
                                          (try clear HO_4)
                                          (try clear BK307)
                                          (try clear HB)
                                          generalize (((((((((w33.setCell ⟨gb307, 0, none⟩ (.int .i64 t297)).setCell ⟨gb307, 1, none⟩ (.int .i64 t298)).setCell ⟨gb307, 2, none⟩ (.int .i64 t299)).setCell ⟨gb307, 3, none⟩ (.int .i64 t300)).setCell ⟨gb307, 4, none⟩ (.int .i64 t301)).setCell ⟨gb307, 5, none⟩ (.int .i64 t302)).setCell ⟨gb307, 6, none⟩ (.int .i64 t303)).setCell ⟨gb307, 7, none⟩ (.int .i64 t304)).setCell ⟨gb307, 8, none⟩ (.int .i64 t305)) = w35 at n0_ n1_ n2_ ⊢
                                          have HO_4 := n0_
                                          have BK307 := n1_
                                          have HB := n2_
                                          clear n0_ n1_ n2_
                                          (try (rw [drewN_self w35]; generalize hq_ : World.drewN w35 _ = w35; have n0_ : Aside0 (Kd.R k41 41 w35 w.heap.size (fun k_ => k_ ≠ gb307) u4 x4_1) := ⟨by rw [← hq_]; exact (by (with_reducible repeat (first | apply Kd.R_alloc | apply Kd.R_drewN | apply Kd.R_drew)); exact HO_4.out)⟩; have n1_ : Aside0 (w35.heap[gb307]? = some (.cells #[.int .i64 t297, .int .i64 t298, .int .i64 t299, .int .i64 t300, .int .i64 t301, .int .i64 t302, .int .i64 t303, .int .i64 t304, .int .i64 t305] 41 (0, 0))) := ⟨by rw [← hq_]; exact (by (with_reducible repeat (first | refine blk_drewN ?_ _ | refine blk_drew ?_ | refine blk_alloc ?_ _)); exact BK307.out)⟩; have n2_ : Aside0 (Below w.heap.size w w35) := ⟨by rw [← hq_]; exact (by repeat (first | (with_reducible first | exact HB.out | apply below_alloc | apply pw_below_drewN | apply below_drew1 | refine below_set ?_ GE307.out) | exact HB.out))⟩; clear HO_4 BK307 HB hq_; have HO_4 := n0_; have BK307 := n1_; have HB := n2_; clear n0_ n1_ n2_))
                                          have n0_ := Aside0.mk (Kd.R_drew HO_4.out)
                                          have n1_ := Aside0.mk (blk_drew BK307.out)
                                          have n2_ := Aside0.mk (below_drew1 HB.out)
                                          clear HO_4
                                          clear BK307
                                          clear HB
                                          have HO_4 := n0_
                                          have BK307 := n1_
                                          have HB := n2_
                                          clear n0_ n1_ n2_
                                          refine start_ (n := 7) (S := fun w' => True) (ds := []) #[false, false, false, false, false, false, false] (by kernel_rfl) rfl rfl trivial (fun hHeld => ?_)
                                          generalize w35.drew = w36 at HO_4 BK307 HB hHeld ⊢
                                          refine pure_ (i := 0) (N := some 58) (v := ?_) (a' := ?_) #[true, false, false, false, false, false, false] rfl rfl (by kernel_rfl) (fun _ _ _ h => h) (Or.inl ⟨by rfl, ?_⟩) ?_ ?_
                                          rotate_left
                                          · intro w'
                                            go_simp
                                            with_reducible rfl
                                          rotate_left
                                          · simp only [Act.put, List.setIfInBounds_toArray, List.set_cons_zero, List.set_cons_succ, i64_w, i32_w]
                                            rfl
                                          refine pure_ (i := 1) (N := some 59) (v := ?_) (a' := ?_) #[true, true, false, false, false, false, false] rfl rfl (by kernel_rfl) (fun _ _ _ h => h) (Or.inl ⟨by rfl, ?_⟩) ?_ ?_
                                          rotate_left
                                          · intro w'
                                            go_simp
                                            with_reducible rfl
                                          rotate_left
                                          · simp only [Act.put, List.setIfInBounds_toArray, List.set_cons_zero, List.set_cons_succ, i64_w, i32_w]
                                            rfl
                                          refine pure_ (i := 2) (N := some 60) (v := ?_) (a' := ?_) #[true, true, true, false, false, false, false] rfl rfl (by kernel_rfl) (fun _ _ _ h => h) (Or.inl ⟨by rfl, ?_⟩) ?_ ?_
                                          rotate_left
                                          · intro w'
                                            go_simp
                                            with_reducible rfl
                                          rotate_left
                                          · simp only [Act.put, List.setIfInBounds_toArray, List.set_cons_zero, List.set_cons_succ, i64_w, i32_w]
                                            rfl
                                          refine pure_ (i := 3) (N := some 61) (v := ?_) (a' := ?_) #[true, true, true, true, false, false, false] rfl rfl (by kernel_rfl) (fun _ _ _ h => h) (Or.inl ⟨by rfl, ?_⟩) ?_ ?_
                                          rotate_left
                                          · intro w'
                                            go_simp
                                            with_reducible rfl
                                          rotate_left
                                          · simp only [Act.put, List.setIfInBounds_toArray, List.set_cons_zero, List.set_cons_succ, i64_w, i32_w]
                                            rfl
                                          refine pure_ (i := 4) (N := some 62) (v := ?_) (a' := ?_) #[true, true, true, true, true, false, false] rfl rfl (by kernel_rfl) (fun _ _ _ h => h) (Or.inl ⟨by rfl, ?_⟩) ?_ ?_
                                          rotate_left
                                          · intro w'
                                            go_simp
                                            with_reducible rfl
                                          rotate_left
                                          · simp only [Act.put, List.setIfInBounds_toArray, List.set_cons_zero, List.set_cons_succ, i64_w, i32_w]
                                            rfl
                                          refine one_ (i := 5) (N := some 63) #[true, true, true, true, true, true, false] rfl rfl (by kernel_rfl) (by decide) (fun K hK => ?_)
                                          refine goes_ Tryd.func67 (by kernel_rfl) rfl #[.int .i64 t308] (by rfl) rfl rfl (by (try simp only [List.map_toArray, List.map_cons, List.map_nil]); first | done | rfl | (simp only [List.length_drop, List.length_take]; rfl)) ?_
                                          with_reducible refine (spec_l01Dec.calls kj11 t308 t309 _ A29.out).mono ?_
                                          rintro e w37 ⟨rfl, hb⟩
                                          refine ⟨_, rfl, ?_⟩
                                          have n0_ := Aside0.mk (Kd.R_below (by (with_reducible repeat (first | apply Kd.R_alloc | apply Kd.R_drewN | apply Kd.R_drew)); exact HO_4.out) hb)
                                          have n1_ := Aside0.mk (blk_below (g := gb307) (o := .cells #[.int .i64 t297, .int .i64 t298, .int .i64 t299, .int .i64 t300, .int .i64 t301, .int .i64 t302, .int .i64 t303, .int .i64 t304, .int .i64 t305] 41 (0, 0)) (by (with_reducible repeat (first | refine blk_drewN ?_ _ | refine blk_drew ?_ | refine blk_alloc ?_ _)); exact BK307.out) hb)
                                          have n2_ := Aside0.mk (below_step (by repeat (first | (with_reducible first | exact HB.out | apply below_alloc | apply pw_below_drewN | apply below_drew1 | refine below_set ?_ GE307.out) | exact HB.out)) hb)
                                          clear HO_4
                                          clear BK307
                                          clear HB
                                          have HO_4 := n0_
                                          have BK307 := n1_
                                          have HB := n2_
                                          clear n0_ n1_ n2_
                                          (try clear hb)
                                          (try clear hb2)
                                          (try clear hk)
                                          (try clear hi)
                                          refine hK.out _ _ trivial (fun hHeld => ?_)
                                          clear hK K
                                          refine norm_ (a' := ?_) ?_ ?_
                                          rotate_left
                                          · show Act.put _ (some 63) _ = _
                                            simp only [Act.put, List.setIfInBounds_toArray, List.set_cons_zero, List.set_cons_succ, i64_w, i32_w]
                                            rfl
                                          refine pure_ (i := 6) (N := some 64) (v := ?_) (a' := ?_) #[true, true, true, true, true, true, true] rfl rfl (by kernel_rfl) (fun _ _ _ h => h) (Or.inl ⟨by rfl, ?_⟩) ?_ ?_
                                          rotate_left
                                          · intro w'
                                            go_simp
                                            with_reducible rfl
                                          rotate_left
                                          · simp only [Act.put, List.setIfInBounds_toArray, List.set_cons_zero, List.set_cons_succ, i64_w, i32_w]
                                            rfl
                                          refine done_ (by kernel_rfl) ?_
                                          have hcz38_0 : w37.cell? ⟨gb307, 0, none⟩ = some (.int .i64 t297) := (blk_cell BK307.out 0).trans rfl
                                          have hcz38_1 : w37.cell? ⟨gb307, 1, none⟩ = some (.int .i64 t298) := (blk_cell BK307.out 1).trans rfl
                                          have hcz38_2 : w37.cell? ⟨gb307, 2, none⟩ = some (.int .i64 t299) := (blk_cell BK307.out 2).trans rfl
                                          have hcz38_3 : w37.cell? ⟨gb307, 3, none⟩ = some (.int .i64 t300) := (blk_cell BK307.out 3).trans rfl
                                          have hcz38_4 : w37.cell? ⟨gb307, 4, none⟩ = some (.int .i64 t301) := (blk_cell BK307.out 4).trans rfl
                                          have hcz38_5 : w37.cell? ⟨gb307, 5, none⟩ = some (.int .i64 t302) := (blk_cell BK307.out 5).trans rfl
                                          have hcz38_6 : w37.cell? ⟨gb307, 6, none⟩ = some (.int .i64 t303) := (blk_cell BK307.out 6).trans rfl
                                          have hcz38_7 : w37.cell? ⟨gb307, 7, none⟩ = some (.int .i64 t304) := (blk_cell BK307.out 7).trans rfl
                                          have hcz38_8 : w37.cell? ⟨gb307, 8, none⟩ = some (.int .i64 t305) := (blk_cell BK307.out 8).trans rfl
                                          have hfz38_0 := blk_frozen BK307.out 0
                                          have hfz38_1 := blk_frozen BK307.out 1
                                          have hfz38_2 := blk_frozen BK307.out 2
                                          have hfz38_3 := blk_frozen BK307.out 3
                                          have hfz38_4 := blk_frozen BK307.out 4
                                          have hfz38_5 := blk_frozen BK307.out 5
                                          have hfz38_6 := blk_frozen BK307.out 6
                                          have hfz38_7 := blk_frozen BK307.out 7
                                          have hfz38_8 := blk_frozen BK307.out 8
                                          try go_wp2_with (first | ((with_reducible refine gate_builtin (b := .append) (xs := #[.tmp 65, .tmp 67]) rfl ?_); (try (refine gate_guard (by rfl) ?_; dsimp only)); at_builtin; refine Kd.R_append k41 (w0 := w) w.heap.size rfl (.tmp 65) (.tmp 67) 47 41 (.agg #[(.int .i64 0), (.int .i64 0), (.int .i64 0), (.int .i64 0), (.int .i64 0), (.int .i64 0), (.int .i64 0), (.int .i64 0), (.int .i64 0)]) 72 rfl Tryd.underlying47 info41 rfl (by decide) (by omega) u4 x4_1 (⟨t297, t298, t299, t300, (⟨t301, t302⟩ : S39), t303, t304, t305⟩ : S41) [.int .i64 t297, .int .i64 t298, .int .i64 t299, .int .i64 t300, .int .i64 t301, .int .i64 t302, .int .i64 t303, .int .i64 t304, .int .i64 t305] (fun k_ => k_ ≠ gb307) (fun _ => False) rfl rfl ?aP (fun _ hk => hk.elim) ?aF ?aO ?aB ?aS ?aL ?_; (case aP => exact k41_mkM _ _ _ (⟨t297, t298, t299, t300, (⟨t301, t302⟩ : S39), t303, t304, t305⟩ : S41)); (case aB => exact (by repeat (first | (with_reducible first | exact HB.out | apply below_alloc | apply pw_below_drewN | apply below_drew1 | refine below_set ?_ GE307.out) | exact HB.out))); (case aF => exact (fun k_ hk => Kd.freshB (g := gb307) (o := .cells #[.int .i64 t297, .int .i64 t298, .int .i64 t299, .int .i64 t300, .int .i64 t301, .int .i64 t302, .int .i64 t303, .int .i64 t304, .int .i64 t305] 41 (0, 0)) (by (with_reducible repeat (first | refine blk_drewN ?_ _ | refine blk_drew ?_ | refine blk_alloc ?_ _)); exact BK307.out) k_ hk)); (case aO => exact (by (with_reducible repeat (first | apply Kd.R_alloc | apply Kd.R_drewN | apply Kd.R_drew)); exact HO_4.out)); (case aS => exact (below_size (by repeat (first | (with_reducible first | exact HB.out | apply below_alloc | apply pw_below_drewN | apply below_drew1 | refine below_set ?_ GE307.out) | exact HB.out)))); (case aL => have := LMc31.out; omega); intro v311 w39 ho hb hg hat; rw [← Ny310.out] at ho; have n0_ := Aside0.mk (blk_grown (g := gb307) (o := .cells #[.int .i64 t297, .int .i64 t298, .int .i64 t299, .int .i64 t300, .int .i64 t301, .int .i64 t302, .int .i64 t303, .int .i64 t304, .int .i64 t305] 41 (0, 0)) (by (with_reducible repeat (first | refine blk_drewN ?_ _ | refine blk_drew ?_ | refine blk_alloc ?_ _)); exact BK307.out) hg (Kd.R_away HO_4.out (fun _ hk => hk))); have n1_ := Aside0.mk (hb); have n2_ := Aside0.mk (ho); clear BK307; clear HB; clear HO_4; have BK307 := n0_; have HB := n1_; have HO312 := n2_; clear n0_ n1_ n2_; clear ho hb hg hat))
                                          go_roundg kj11
                                          case measure => have := HK1.out; have := HJ3.out; have := HJ11.out; omega
                                          case rel => exact ⟨(y310), (t308), (wrap64 (x7_1 + 1)), (wrap64 (x7_1 + 1)), (by first | rfl | (simp; done) | (simp [*]; done)), (by first | rfl | (simp; done) | (simp [*]; done)), (by first | rfl | (simp; done) | (simp [*]; done)), H', ⟨by have := HK1.out; have := HJ3.out; have := HJ11.out; omega⟩, ⟨by (with_reducible repeat (first | apply Kd.R_alloc | apply Kd.R_drewN | apply Kd.R_drew)); exact Kd.R_mono HO312.out (fun _ hk => trivial)⟩, ⟨by repeat (first | (with_reducible first | exact HB.out | apply below_alloc | apply pw_below_drewN | apply below_drew1 | refine below_set ?_ GE307.out) | exact HB.out)⟩⟩
                                        · rw [if_neg c31] at H
                                          exact absurd H (by simp)
                                      · rw [if_neg c30] at H
                                        have c30b0 : ((a0.extract (x6_1 : Int).toNat (x8_11 : Int).toNat).toList == t309.toList) = false := beq_eq_false_iff_ne.mpr c30
                                        have c30b1 : ((a0.extract (x6_1 : Int).toNat (x8_11 : Int).toNat).toList != t309.toList) = true := bne_iff_ne.mpr c30
                                        simp only [Option.some.injEq, Prod.mk.injEq] at H
                                        obtain ⟨rfl, rfl⟩ := H
                                        try go_wp2_with (first | ((with_reducible refine gate_callee (f := 60) rfl ?_); refine goesL_ (some 50) rfl rfl Tryd.func60 (by kernel_rfl) rfl #[.string (a0.extract ((ji19) : Int).toNat (x7_1 : Int).toNat)] rfl (by (try simp only [List.map_toArray, List.map_cons, List.map_nil]); first | done | (simp only [hji19]; rfl) | rfl | (simp only [List.length_drop, List.length_take]; rfl)) ?_; (with_reducible refine (spec_l11Read.calls (a0.extract ((ji19) : Int).toNat (x7_1 : Int).toNat) t297 t298 t299 t300 t301 t302 t303 t304 t305 true _ A23.out).mono ?_); rintro e w40 ⟨rfl, hb⟩; refine ⟨_, rfl, ?_⟩; have n0_ := Aside0.mk (Kd.R_below (by (with_reducible repeat (first | apply Kd.R_alloc | apply Kd.R_drewN | apply Kd.R_drew)); exact HO_4.out) hb); have n1_ := Aside0.mk (below_step (by repeat (first | (with_reducible first | exact HB.out | apply below_alloc | apply pw_below_drewN | apply below_drew1) | exact HB.out)) hb); clear HO_4; clear HB; have HO_4 := n0_; have HB := n1_; clear n0_ n1_; (try clear hb); (try clear hb2); (try clear hk); (try clear hi)) | ((with_reducible refine gate_dst (N := 10) rfl ?_); (try (refine gate_guard (by rfl) ?_; dsimp only)); refine box_event ?hg (N := 10) ?hd (cs := #[.int .i64 0, .int .i64 0, .int .i64 0, .int .i64 0, .int .i64 0, .int .i64 0, .int .i64 0, .int .i64 0, .int .i64 0]) (t := 41) ?hr ?_; (case hd => rfl); (case hg => rfl); (case hr => first | (go_simp; done) | (go_simp; rfl)); intro gb307 hg w41 hbox hb; have n0_ := Aside0.mk (Kd.R_below (Kd.R_elderB (by (with_reducible repeat (first | apply Kd.R_alloc | apply Kd.R_drewN | apply Kd.R_drew)); exact HO_4.out) gb307 (Nat.le_of_eq hg.symm)) hb); have n1_ := Aside0.mk (below_step (by repeat (first | (with_reducible first | exact HB.out | apply below_alloc | apply pw_below_drewN | apply below_drew1) | exact HB.out)) hb); have n2_ := Aside0.mk (hbox); have n3_ := Aside0.mk ((by rw [hg]; exact (below_size (by repeat (first | (with_reducible first | exact HB.out | apply below_alloc | apply pw_below_drewN | apply below_drew1) | exact HB.out))) : w.heap.size ≤ gb307)); have n4_ := Aside0.mk ((by rw [hg]; exact (below_size (by repeat (first | (with_reducible first | exact HB.out | apply below_alloc | apply pw_below_drewN | apply below_drew1) | exact HB.out))) : w.heap.size ≤ gb307)); clear HO_4; clear HB; have HO_4 := n0_; have HB := n1_; have BK307 := n2_; have GW307 := n3_; have GE307 := n4_; clear n0_ n1_ n2_ n3_ n4_; clear hb hbox hg; have hcz42_0 : w41.cell? ⟨gb307, 0, none⟩ = some (.int .i64 0) := (blk_cell BK307.out 0).trans rfl; have hcz42_1 : w41.cell? ⟨gb307, 1, none⟩ = some (.int .i64 0) := (blk_cell BK307.out 1).trans rfl; have hcz42_2 : w41.cell? ⟨gb307, 2, none⟩ = some (.int .i64 0) := (blk_cell BK307.out 2).trans rfl; have hcz42_3 : w41.cell? ⟨gb307, 3, none⟩ = some (.int .i64 0) := (blk_cell BK307.out 3).trans rfl; have hcz42_4 : w41.cell? ⟨gb307, 4, none⟩ = some (.int .i64 0) := (blk_cell BK307.out 4).trans rfl; have hcz42_5 : w41.cell? ⟨gb307, 5, none⟩ = some (.int .i64 0) := (blk_cell BK307.out 5).trans rfl; have hcz42_6 : w41.cell? ⟨gb307, 6, none⟩ = some (.int .i64 0) := (blk_cell BK307.out 6).trans rfl; have hcz42_7 : w41.cell? ⟨gb307, 7, none⟩ = some (.int .i64 0) := (blk_cell BK307.out 7).trans rfl; have hcz42_8 : w41.cell? ⟨gb307, 8, none⟩ = some (.int .i64 0) := (blk_cell BK307.out 8).trans rfl; have hfz42_0 := blk_frozen BK307.out 0; have hfz42_1 := blk_frozen BK307.out 1; have hfz42_2 := blk_frozen BK307.out 2; have hfz42_3 := blk_frozen BK307.out 3; have hfz42_4 := blk_frozen BK307.out 4; have hfz42_5 := blk_frozen BK307.out 5; have hfz42_6 := blk_frozen BK307.out 6; have hfz42_7 := blk_frozen BK307.out 7; have hfz42_8 := blk_frozen BK307.out 8) | ((with_reducible refine gate_callee (f := 83) rfl ?_); refine goesL_ (some 57) rfl rfl Tryd.func83 (by kernel_rfl) rfl #[.int .i64 x5_1, .string (a0.extract ((ji19) : Int).toNat (x7_1 : Int).toNat)] rfl (by (try simp only [List.map_toArray, List.map_cons, List.map_nil]); first | done | (simp only [hji19]; rfl) | rfl | (simp only [List.length_drop, List.length_take]; rfl)) ?_; (with_reducible refine (spec_l01Check.calls kj11 x5_1 (a0.extract ((ji19) : Int).toNat (x7_1 : Int).toNat) t308 _ A25.out).mono ?_); rintro e w' ⟨rfl, ⟨nd, rfl⟩⟩; refine ⟨_, rfl, ?_⟩))
                                        have n0_ : Aside0 (Kd.R k41 41 (((((((((w41.setCell ⟨gb307, 0, none⟩ (.int .i64 t297)).setCell ⟨gb307, 1, none⟩ (.int .i64 t298)).setCell ⟨gb307, 2, none⟩ (.int .i64 t299)).setCell ⟨gb307, 3, none⟩ (.int .i64 t300)).setCell ⟨gb307, 4, none⟩ (.int .i64 t301)).setCell ⟨gb307, 5, none⟩ (.int .i64 t302)).setCell ⟨gb307, 6, none⟩ (.int .i64 t303)).setCell ⟨gb307, 7, none⟩ (.int .i64 t304)).setCell ⟨gb307, 8, none⟩ (.int .i64 t305)) w.heap.size (fun k_ => k_ ≠ gb307) u4 x4_1) := ⟨by (with_reducible repeat (first | apply Kd.R_alloc | apply Kd.R_drewN | apply Kd.R_drew)); exact Kd.R_mono (Kd.R_far (p := ⟨gb307, 8, none⟩) (Kd.R_far (p := ⟨gb307, 7, none⟩) (Kd.R_far (p := ⟨gb307, 6, none⟩) (Kd.R_far (p := ⟨gb307, 5, none⟩) (Kd.R_far (p := ⟨gb307, 4, none⟩) (Kd.R_far (p := ⟨gb307, 3, none⟩) (Kd.R_far (p := ⟨gb307, 2, none⟩) (Kd.R_far (p := ⟨gb307, 1, none⟩) (Kd.R_far (p := ⟨gb307, 0, none⟩) (Kd.R_mono HO_4.out (fun k_ hk => (⟨hk, hk.2⟩ : _ ∧ k_ ≠ gb307))) (fun _ hk => hk.2) (.int .i64 t297)) (fun _ hk => hk.2) (.int .i64 t298)) (fun _ hk => hk.2) (.int .i64 t299)) (fun _ hk => hk.2) (.int .i64 t300)) (fun _ hk => hk.2) (.int .i64 t301)) (fun _ hk => hk.2) (.int .i64 t302)) (fun _ hk => hk.2) (.int .i64 t303)) (fun _ hk => hk.2) (.int .i64 t304)) (fun _ hk => hk.2) (.int .i64 t305)) (fun _ hk => hk.1.2)⟩
                                        have n1_ : Aside0 ((((((((((w41.setCell ⟨gb307, 0, none⟩ (.int .i64 t297)).setCell ⟨gb307, 1, none⟩ (.int .i64 t298)).setCell ⟨gb307, 2, none⟩ (.int .i64 t299)).setCell ⟨gb307, 3, none⟩ (.int .i64 t300)).setCell ⟨gb307, 4, none⟩ (.int .i64 t301)).setCell ⟨gb307, 5, none⟩ (.int .i64 t302)).setCell ⟨gb307, 6, none⟩ (.int .i64 t303)).setCell ⟨gb307, 7, none⟩ (.int .i64 t304)).setCell ⟨gb307, 8, none⟩ (.int .i64 t305)).heap[gb307]? = some (.cells #[.int .i64 t297, .int .i64 t298, .int .i64 t299, .int .i64 t300, .int .i64 t301, .int .i64 t302, .int .i64 t303, .int .i64 t304, .int .i64 t305] 41 (0, 0))) := ⟨by (with_reducible repeat (first | refine blk_drewN ?_ _ | refine blk_drew ?_ | refine blk_alloc ?_ _)); refine blk_put (cs := #[.int .i64 t297, .int .i64 t298, .int .i64 t299, .int .i64 t300, .int .i64 t301, .int .i64 t302, .int .i64 t303, .int .i64 t304, .int .i64 0]) ?_ 8 _ rfl; (with_reducible repeat (first | refine blk_drewN ?_ _ | refine blk_drew ?_ | refine blk_alloc ?_ _)); refine blk_put (cs := #[.int .i64 t297, .int .i64 t298, .int .i64 t299, .int .i64 t300, .int .i64 t301, .int .i64 t302, .int .i64 t303, .int .i64 0, .int .i64 0]) ?_ 7 _ rfl; (with_reducible repeat (first | refine blk_drewN ?_ _ | refine blk_drew ?_ | refine blk_alloc ?_ _)); refine blk_put (cs := #[.int .i64 t297, .int .i64 t298, .int .i64 t299, .int .i64 t300, .int .i64 t301, .int .i64 t302, .int .i64 0, .int .i64 0, .int .i64 0]) ?_ 6 _ rfl; (with_reducible repeat (first | refine blk_drewN ?_ _ | refine blk_drew ?_ | refine blk_alloc ?_ _)); refine blk_put (cs := #[.int .i64 t297, .int .i64 t298, .int .i64 t299, .int .i64 t300, .int .i64 t301, .int .i64 0, .int .i64 0, .int .i64 0, .int .i64 0]) ?_ 5 _ rfl; (with_reducible repeat (first | refine blk_drewN ?_ _ | refine blk_drew ?_ | refine blk_alloc ?_ _)); refine blk_put (cs := #[.int .i64 t297, .int .i64 t298, .int .i64 t299, .int .i64 t300, .int .i64 0, .int .i64 0, .int .i64 0, .int .i64 0, .int .i64 0]) ?_ 4 _ rfl; (with_reducible repeat (first | refine blk_drewN ?_ _ | refine blk_drew ?_ | refine blk_alloc ?_ _)); refine blk_put (cs := #[.int .i64 t297, .int .i64 t298, .int .i64 t299, .int .i64 0, .int .i64 0, .int .i64 0, .int .i64 0, .int .i64 0, .int .i64 0]) ?_ 3 _ rfl; (with_reducible repeat (first | refine blk_drewN ?_ _ | refine blk_drew ?_ | refine blk_alloc ?_ _)); refine blk_put (cs := #[.int .i64 t297, .int .i64 t298, .int .i64 0, .int .i64 0, .int .i64 0, .int .i64 0, .int .i64 0, .int .i64 0, .int .i64 0]) ?_ 2 _ rfl; (with_reducible repeat (first | refine blk_drewN ?_ _ | refine blk_drew ?_ | refine blk_alloc ?_ _)); refine blk_put (cs := #[.int .i64 t297, .int .i64 0, .int .i64 0, .int .i64 0, .int .i64 0, .int .i64 0, .int .i64 0, .int .i64 0, .int .i64 0]) ?_ 1 _ rfl; (with_reducible repeat (first | refine blk_drewN ?_ _ | refine blk_drew ?_ | refine blk_alloc ?_ _)); refine blk_put (cs := #[.int .i64 0, .int .i64 0, .int .i64 0, .int .i64 0, .int .i64 0, .int .i64 0, .int .i64 0, .int .i64 0, .int .i64 0]) ?_ 0 _ rfl; (with_reducible repeat (first | refine blk_drewN ?_ _ | refine blk_drew ?_ | refine blk_alloc ?_ _)); exact BK307.out⟩
                                        have n2_ : Aside0 (Below w.heap.size w (((((((((w41.setCell ⟨gb307, 0, none⟩ (.int .i64 t297)).setCell ⟨gb307, 1, none⟩ (.int .i64 t298)).setCell ⟨gb307, 2, none⟩ (.int .i64 t299)).setCell ⟨gb307, 3, none⟩ (.int .i64 t300)).setCell ⟨gb307, 4, none⟩ (.int .i64 t301)).setCell ⟨gb307, 5, none⟩ (.int .i64 t302)).setCell ⟨gb307, 6, none⟩ (.int .i64 t303)).setCell ⟨gb307, 7, none⟩ (.int .i64 t304)).setCell ⟨gb307, 8, none⟩ (.int .i64 t305))) := ⟨by repeat (first | (with_reducible first | exact HB.out | apply below_alloc | apply pw_below_drewN | apply below_drew1 | refine below_set ?_ GE307.out) | exact HB.out)⟩
                                        (try clear HO_4)
                                        (try clear BK307)
                                        (try clear HB)
                                        generalize (((((((((w41.setCell ⟨gb307, 0, none⟩ (.int .i64 t297)).setCell ⟨gb307, 1, none⟩ (.int .i64 t298)).setCell ⟨gb307, 2, none⟩ (.int .i64 t299)).setCell ⟨gb307, 3, none⟩ (.int .i64 t300)).setCell ⟨gb307, 4, none⟩ (.int .i64 t301)).setCell ⟨gb307, 5, none⟩ (.int .i64 t302)).setCell ⟨gb307, 6, none⟩ (.int .i64 t303)).setCell ⟨gb307, 7, none⟩ (.int .i64 t304)).setCell ⟨gb307, 8, none⟩ (.int .i64 t305)) = w43 at n0_ n1_ n2_ ⊢
                                        have HO_4 := n0_
                                        have BK307 := n1_
                                        have HB := n2_
                                        clear n0_ n1_ n2_
                                        (try (rw [drewN_self w43]; generalize hq_ : World.drewN w43 _ = w43; have n0_ : Aside0 (Kd.R k41 41 w43 w.heap.size (fun k_ => k_ ≠ gb307) u4 x4_1) := ⟨by rw [← hq_]; exact (by (with_reducible repeat (first | apply Kd.R_alloc | apply Kd.R_drewN | apply Kd.R_drew)); exact HO_4.out)⟩; have n1_ : Aside0 (w43.heap[gb307]? = some (.cells #[.int .i64 t297, .int .i64 t298, .int .i64 t299, .int .i64 t300, .int .i64 t301, .int .i64 t302, .int .i64 t303, .int .i64 t304, .int .i64 t305] 41 (0, 0))) := ⟨by rw [← hq_]; exact (by (with_reducible repeat (first | refine blk_drewN ?_ _ | refine blk_drew ?_ | refine blk_alloc ?_ _)); exact BK307.out)⟩; have n2_ : Aside0 (Below w.heap.size w w43) := ⟨by rw [← hq_]; exact (by repeat (first | (with_reducible first | exact HB.out | apply below_alloc | apply pw_below_drewN | apply below_drew1 | refine below_set ?_ GE307.out) | exact HB.out))⟩; clear HO_4 BK307 HB hq_; have HO_4 := n0_; have BK307 := n1_; have HB := n2_; clear n0_ n1_ n2_))
                                        have n0_ := Aside0.mk (Kd.R_drew HO_4.out)
                                        have n1_ := Aside0.mk (blk_drew BK307.out)
                                        have n2_ := Aside0.mk (below_drew1 HB.out)
                                        clear HO_4
                                        clear BK307
                                        clear HB
                                        have HO_4 := n0_
                                        have BK307 := n1_
                                        have HB := n2_
                                        clear n0_ n1_ n2_
                                        refine start_ (n := 7) (S := fun w' => True) (ds := []) #[false, false, false, false, false, false, false] (by kernel_rfl) rfl rfl trivial (fun hHeld => ?_)
                                        generalize w43.drew = w44 at HO_4 BK307 HB hHeld ⊢
                                        refine pure_ (i := 0) (N := some 58) (v := ?_) (a' := ?_) #[true, false, false, false, false, false, false] rfl rfl (by kernel_rfl) (fun _ _ _ h => h) (Or.inl ⟨by rfl, ?_⟩) ?_ ?_
                                        rotate_left
                                        · intro w'
                                          go_simp
                                          with_reducible rfl
                                        rotate_left
                                        · simp only [Act.put, List.setIfInBounds_toArray, List.set_cons_zero, List.set_cons_succ, i64_w, i32_w]
                                          rfl
                                        refine pure_ (i := 1) (N := some 59) (v := ?_) (a' := ?_) #[true, true, false, false, false, false, false] rfl rfl (by kernel_rfl) (fun _ _ _ h => h) (Or.inl ⟨by rfl, ?_⟩) ?_ ?_
                                        rotate_left
                                        · intro w'
                                          go_simp
                                          with_reducible rfl
                                        rotate_left
                                        · simp only [Act.put, List.setIfInBounds_toArray, List.set_cons_zero, List.set_cons_succ, i64_w, i32_w]
                                          rfl
                                        refine pure_ (i := 2) (N := some 60) (v := ?_) (a' := ?_) #[true, true, true, false, false, false, false] rfl rfl (by kernel_rfl) (fun _ _ _ h => h) (Or.inl ⟨by rfl, ?_⟩) ?_ ?_
                                        rotate_left
                                        · intro w'
                                          go_simp
                                          with_reducible rfl
                                        rotate_left
                                        · simp only [Act.put, List.setIfInBounds_toArray, List.set_cons_zero, List.set_cons_succ, i64_w, i32_w]
                                          rfl
                                        refine pure_ (i := 3) (N := some 61) (v := ?_) (a' := ?_) #[true, true, true, true, false, false, false] rfl rfl (by kernel_rfl) (fun _ _ _ h => h) (Or.inl ⟨by rfl, ?_⟩) ?_ ?_
                                        rotate_left
                                        · intro w'
                                          go_simp
                                          with_reducible rfl
                                        rotate_left
                                        · simp only [Act.put, List.setIfInBounds_toArray, List.set_cons_zero, List.set_cons_succ, i64_w, i32_w]
                                          rfl
                                        refine pure_ (i := 4) (N := some 62) (v := ?_) (a' := ?_) #[true, true, true, true, true, false, false] rfl rfl (by kernel_rfl) (fun _ _ _ h => h) (Or.inl ⟨by rfl, ?_⟩) ?_ ?_
                                        rotate_left
                                        · intro w'
                                          go_simp
                                          with_reducible rfl
                                        rotate_left
                                        · simp only [Act.put, List.setIfInBounds_toArray, List.set_cons_zero, List.set_cons_succ, i64_w, i32_w]
                                          rfl
                                        refine one_ (i := 5) (N := some 63) #[true, true, true, true, true, true, false] rfl rfl (by kernel_rfl) (by decide) (fun K hK => ?_)
                                        refine goes_ Tryd.func67 (by kernel_rfl) rfl #[.int .i64 t308] (by rfl) rfl rfl (by (try simp only [List.map_toArray, List.map_cons, List.map_nil]); first | done | rfl | (simp only [List.length_drop, List.length_take]; rfl)) ?_
                                        with_reducible refine (spec_l01Dec.calls kj11 t308 t309 _ A29.out).mono ?_
                                        rintro e w45 ⟨rfl, hb⟩
                                        refine ⟨_, rfl, ?_⟩
                                        have n0_ := Aside0.mk (Kd.R_below (by (with_reducible repeat (first | apply Kd.R_alloc | apply Kd.R_drewN | apply Kd.R_drew)); exact HO_4.out) hb)
                                        have n1_ := Aside0.mk (blk_below (g := gb307) (o := .cells #[.int .i64 t297, .int .i64 t298, .int .i64 t299, .int .i64 t300, .int .i64 t301, .int .i64 t302, .int .i64 t303, .int .i64 t304, .int .i64 t305] 41 (0, 0)) (by (with_reducible repeat (first | refine blk_drewN ?_ _ | refine blk_drew ?_ | refine blk_alloc ?_ _)); exact BK307.out) hb)
                                        have n2_ := Aside0.mk (below_step (by repeat (first | (with_reducible first | exact HB.out | apply below_alloc | apply pw_below_drewN | apply below_drew1 | refine below_set ?_ GE307.out) | exact HB.out)) hb)
                                        clear HO_4
                                        clear BK307
                                        clear HB
                                        have HO_4 := n0_
                                        have BK307 := n1_
                                        have HB := n2_
                                        clear n0_ n1_ n2_
                                        (try clear hb)
                                        (try clear hb2)
                                        (try clear hk)
                                        (try clear hi)
                                        refine hK.out _ _ trivial (fun hHeld => ?_)
                                        clear hK K
                                        refine norm_ (a' := ?_) ?_ ?_
                                        rotate_left
                                        · show Act.put _ (some 63) _ = _
                                          simp only [Act.put, List.setIfInBounds_toArray, List.set_cons_zero, List.set_cons_succ, i64_w, i32_w]
                                          rfl
                                        refine pure_ (i := 6) (N := some 64) (v := ?_) (a' := ?_) #[true, true, true, true, true, true, true] rfl rfl (by kernel_rfl) (fun _ _ _ h => h) (Or.inl ⟨by rfl, ?_⟩) ?_ ?_
                                        rotate_left
                                        · intro w'
                                          go_simp
                                          with_reducible rfl
                                        rotate_left
                                        · simp only [Act.put, List.setIfInBounds_toArray, List.set_cons_zero, List.set_cons_succ, i64_w, i32_w]
                                          rfl
                                        refine done_ (by kernel_rfl) ?_
                                        try go_wp2
                                        go_ret2
                                        exact ⟨_, by first | rfl | (simp [errW_none, errW_some] <;> rfl) | (simp only [← hji19]; first | rfl | (simp [errW_none, errW_some] <;> rfl)) | (simp [*, errW_none, errW_some] <;> rfl), by (with_reducible repeat (first | apply Kd.R_alloc | apply Kd.R_drewN | apply Kd.R_drew)); exact Kd.R_mono HO_4.out (fun _ hk => trivial), by repeat (first | (with_reducible first | exact HB.out | apply below_alloc | apply pw_below_drewN | apply below_drew1 | refine below_set ?_ GE307.out) | exact HB.out)⟩
                                    · rw [if_neg c28] at H
                                      exact absurd H (by simp)
                                  · rw [if_neg c27] at H
                                    exact absurd H (by simp)
                                · rw [if_neg c26] at H
                                  exact absurd H (by simp)
                              · replace c24 := Bool.eq_false_iff.mpr c24
                                subst c24
                                have H1 : (some (x4_1, x6_1)) = some (r1, r2) := by rw [if_neg (show ¬ (false = true) by decide)] at H; exact H
                                clear H
                                have H := H1
                                clear H1
                                simp only [Option.some.injEq, Prod.mk.injEq] at H
                                obtain ⟨rfl, rfl⟩ := H
                                go_wp2_with (first | ((with_reducible refine gate_callee (f := 60) rfl ?_); refine goesL_ (some 50) rfl rfl Tryd.func60 (by kernel_rfl) rfl #[.string (a0.extract ((ji19) : Int).toNat (x7_1 : Int).toNat)] rfl (by (try simp only [List.map_toArray, List.map_cons, List.map_nil]); first | done | (simp only [hji19]; rfl) | rfl | (simp only [List.length_drop, List.length_take]; rfl)) ?_; (with_reducible refine (spec_l11Read.calls (a0.extract ((ji19) : Int).toNat (x7_1 : Int).toNat) t297 t298 t299 t300 t301 t302 t303 t304 t305 false _ A23.out).mono ?_); rintro e w46 ⟨rfl, hb⟩; refine ⟨_, rfl, ?_⟩; have n0_ := Aside0.mk (Kd.R_below (by (with_reducible repeat (first | apply Kd.R_alloc | apply Kd.R_drewN | apply Kd.R_drew)); exact HO_4.out) hb); have n1_ := Aside0.mk (below_step (by repeat (first | (with_reducible first | exact HB.out | apply below_alloc | apply pw_below_drewN | apply below_drew1) | exact HB.out)) hb); clear HO_4; clear HB; have HO_4 := n0_; have HB := n1_; clear n0_ n1_; (try clear hb); (try clear hb2); (try clear hk); (try clear hi)) | ((with_reducible refine gate_dst (N := 10) rfl ?_); (try (refine gate_guard (by rfl) ?_; dsimp only)); refine box_event ?hg (N := 10) ?hd (cs := #[.int .i64 0, .int .i64 0, .int .i64 0, .int .i64 0, .int .i64 0, .int .i64 0, .int .i64 0, .int .i64 0, .int .i64 0]) (t := 41) ?hr ?_; (case hd => rfl); (case hg => rfl); (case hr => first | (go_simp; done) | (go_simp; rfl)); intro gb307 hg w47 hbox hb; have n0_ := Aside0.mk (Kd.R_below (Kd.R_elderB (by (with_reducible repeat (first | apply Kd.R_alloc | apply Kd.R_drewN | apply Kd.R_drew)); exact HO_4.out) gb307 (Nat.le_of_eq hg.symm)) hb); have n1_ := Aside0.mk (below_step (by repeat (first | (with_reducible first | exact HB.out | apply below_alloc | apply pw_below_drewN | apply below_drew1) | exact HB.out)) hb); have n2_ := Aside0.mk (hbox); have n3_ := Aside0.mk ((by rw [hg]; exact (below_size (by repeat (first | (with_reducible first | exact HB.out | apply below_alloc | apply pw_below_drewN | apply below_drew1) | exact HB.out))) : w.heap.size ≤ gb307)); have n4_ := Aside0.mk ((by rw [hg]; exact (below_size (by repeat (first | (with_reducible first | exact HB.out | apply below_alloc | apply pw_below_drewN | apply below_drew1) | exact HB.out))) : w.heap.size ≤ gb307)); clear HO_4; clear HB; have HO_4 := n0_; have HB := n1_; have BK307 := n2_; have GW307 := n3_; have GE307 := n4_; clear n0_ n1_ n2_ n3_ n4_; clear hb hbox hg; have hcz48_0 : w47.cell? ⟨gb307, 0, none⟩ = some (.int .i64 0) := (blk_cell BK307.out 0).trans rfl; have hcz48_1 : w47.cell? ⟨gb307, 1, none⟩ = some (.int .i64 0) := (blk_cell BK307.out 1).trans rfl; have hcz48_2 : w47.cell? ⟨gb307, 2, none⟩ = some (.int .i64 0) := (blk_cell BK307.out 2).trans rfl; have hcz48_3 : w47.cell? ⟨gb307, 3, none⟩ = some (.int .i64 0) := (blk_cell BK307.out 3).trans rfl; have hcz48_4 : w47.cell? ⟨gb307, 4, none⟩ = some (.int .i64 0) := (blk_cell BK307.out 4).trans rfl; have hcz48_5 : w47.cell? ⟨gb307, 5, none⟩ = some (.int .i64 0) := (blk_cell BK307.out 5).trans rfl; have hcz48_6 : w47.cell? ⟨gb307, 6, none⟩ = some (.int .i64 0) := (blk_cell BK307.out 6).trans rfl; have hcz48_7 : w47.cell? ⟨gb307, 7, none⟩ = some (.int .i64 0) := (blk_cell BK307.out 7).trans rfl; have hcz48_8 : w47.cell? ⟨gb307, 8, none⟩ = some (.int .i64 0) := (blk_cell BK307.out 8).trans rfl; have hfz48_0 := blk_frozen BK307.out 0; have hfz48_1 := blk_frozen BK307.out 1; have hfz48_2 := blk_frozen BK307.out 2; have hfz48_3 := blk_frozen BK307.out 3; have hfz48_4 := blk_frozen BK307.out 4; have hfz48_5 := blk_frozen BK307.out 5; have hfz48_6 := blk_frozen BK307.out 6; have hfz48_7 := blk_frozen BK307.out 7; have hfz48_8 := blk_frozen BK307.out 8))
                                go_ret2
                                exact ⟨_, by first | rfl | (simp [errW_none, errW_some] <;> rfl) | (simp only [← hji19]; first | rfl | (simp [errW_none, errW_some] <;> rfl)) | (simp [*, errW_none, errW_some] <;> rfl), by (with_reducible repeat (first | apply Kd.R_alloc | apply Kd.R_drewN | apply Kd.R_drew)); exact Kd.R_mono (Kd.R_far (p := ⟨gb307, 8, none⟩) (Kd.R_far (p := ⟨gb307, 7, none⟩) (Kd.R_far (p := ⟨gb307, 6, none⟩) (Kd.R_far (p := ⟨gb307, 5, none⟩) (Kd.R_far (p := ⟨gb307, 4, none⟩) (Kd.R_far (p := ⟨gb307, 3, none⟩) (Kd.R_far (p := ⟨gb307, 2, none⟩) (Kd.R_far (p := ⟨gb307, 1, none⟩) (Kd.R_far (p := ⟨gb307, 0, none⟩) (Kd.R_mono HO_4.out (fun k_ hk => (⟨hk, hk.2⟩ : _ ∧ k_ ≠ gb307))) (fun _ hk => hk.2) (.int .i64 t297)) (fun _ hk => hk.2) (.int .i64 t298)) (fun _ hk => hk.2) (.int .i64 t299)) (fun _ hk => hk.2) (.int .i64 t300)) (fun _ hk => hk.2) (.int .i64 t301)) (fun _ hk => hk.2) (.int .i64 t302)) (fun _ hk => hk.2) (.int .i64 t303)) (fun _ hk => hk.2) (.int .i64 t304)) (fun _ hk => hk.2) (.int .i64 t305)) (fun _ hk => trivial), by repeat (first | (with_reducible first | exact HB.out | apply below_alloc | apply pw_below_drewN | apply below_drew1 | refine below_set ?_ GE307.out) | exact HB.out)⟩
                            · rw [if_neg c22] at H
                              exact absurd H (by simp)
                          · rw [if_neg c21] at H
                            exact absurd H (by simp)
                        · rw [if_neg c20] at H
                          exact absurd H (by simp)
                · rw [if_neg c11] at H
                  have c11b0 : ((bt a0 x7_1) == 10) = false := beq_eq_false_iff_ne.mpr c11
                  have c11b1 : ((bt a0 x7_1) != 10) = true := bne_iff_ne.mpr c11
                  have H' := Aside0.mk H
                  clear H
                  have p10 : 0 ≤ (x7_1 : Int) := of_decide_eq_true (by first | (with_reducible assumption) | assumption)
                  have q10 : x7_1 < (a0.size : Int) := of_decide_eq_true (by first | (with_reducible assumption) | assumption)
                  have hx10 := bt_at a0 x7_1
                  replace p10 := eq_true p10
                  replace q10 := eq_true q10
                  go_wp2
                  go_roundg kj3
                  case measure => have := HK1.out; have := HJ3.out; omega
                  case rel => exact ⟨(x4_1), (x5_1), (x6_1), (wrap64 (x7_1 + 1)), (by first | rfl | (simp; done) | (simp [*]; done)), (by first | rfl | (simp; done) | (simp [*]; done)), (by first | rfl | (simp; done) | (simp [*]; done)), H', ⟨by have := HK1.out; have := HJ3.out; omega⟩, ⟨by (with_reducible repeat (first | apply Kd.R_alloc | apply Kd.R_drewN | apply Kd.R_drew)); exact HO_4.out⟩, ⟨by repeat (first | (with_reducible first | exact HB.out | apply below_alloc | apply pw_below_drewN | apply below_drew1) | exact HB.out)⟩⟩
              · rw [if_neg c9] at H
                exact absurd H (by simp)
            · rw [if_neg c8] at H
              exact absurd H (by simp)
          · replace c7 := Bool.eq_false_iff.mpr c7
            subst c7
            have H1 : (some (x4_1, x6_1)) = some (r1, r2) := by rw [if_neg (show ¬ (false = true) by decide)] at H; exact H
            clear H
            have H := H1
            clear H1
            simp only [Option.some.injEq, Prod.mk.injEq] at H
            obtain ⟨rfl, rfl⟩ := H
            go_wp2
            go_ret2
            exact ⟨_, by first | rfl | (simp [errW_none, errW_some] <;> rfl) | (simp [*, errW_none, errW_some] <;> rfl), by (with_reducible repeat (first | apply Kd.R_alloc | apply Kd.R_drewN | apply Kd.R_drew)); exact HO_4.out, by repeat (first | (with_reducible first | exact HB.out | apply below_alloc | apply pw_below_drewN | apply below_drew1) | exact HB.out)⟩

end Go.Proofs.YtkbklocfdoofeaaDoor.Q

-- made by a patched copy of print.sh: this session's own
namespace Go.Proofs.YtkbklocfdoofeaaDoor.Q
open Go.RowKit Go.Proofs.YtkbklocfdoofeaaDoorW.PrintWords Go.Proofs.YtkbklocfdoofeaaDoorW.PrintLast Go.Proofs.YtkbklocfdoofeaaDoorW.PrintMore
attribute [local go_sem] max2_int min2_int max_two min_two max_three min_three max_four min_four   -- for this text's walks alone
set_option linter.unusedVariables false
set_option linter.unusedSimpArgs false

/-! ### spec_RecoverJournal: function 30 -/
def spec_RecoverJournal.f (k : Nat) (a0 : ByteArray) : Option ((List (S41)) × Int × Bool) := if (a0.size : Int) > 4000 then (some (([] : List (S41)), 0, false)) else ((spec_l11Recover.f k a0).bind fun bt359 => (some (bt359.1, bt359.2, true)))
set_option maxHeartbeats 8000000 in
set_option maxRecDepth 100000 in
theorem spec_RecoverJournal.calls (k : Nat) (a0 : ByteArray) (r1 : List (S41)) (r2 : Int) (r3 : Bool) (w : World) (h : spec_RecoverJournal.f k a0 = some (r1, r2, r3)) :
    Calls Tryd.prog 30 #[.string a0] w fun e w' => ∃ v0_ : Value, e = .returned (.tuple #[v0_, .int .i64 r2, .bool r3]) ∧ Kd.R k41 41 w' w.heap.size (fun _ => True) v0_ r1 ∧ Below w.heap.size w w' := by
  have HB := Aside0.mk (Below.refl w.heap.size w)
  have H : (if (a0.size : Int) > 4000 then (some (([] : List (S41)), 0, false)) else ((spec_l11Recover.f k a0).bind fun bt359 => (some (bt359.1, bt359.2, true)))) = some (r1, r2, r3) := h
  clear h
  by_cases c2 : (a0.size : Int) > 4000
  · rw [if_pos c2] at H
    have c2b0 : decide (4000 < (a0.size : Int)) = true := decide_eq_true c2
    have c2b1 : decide (4000 < a0.size) = true := decide_eq_true (by omega)
    clear c2
    simp only [Option.some.injEq, Prod.mk.injEq] at H
    obtain ⟨rfl, rfl, rfl⟩ := H
    go_enter Tryd.func30, Tryd.ntmps30
    go_wp2
    go_ret3
    exact ⟨_, by first | rfl | (simp [errW_none, errW_some] <;> rfl) | (simp [*, errW_none, errW_some] <;> rfl), by first | exact Kd.R_nil _ _ _ _ _ | exact Kd.N_nil _ _ _ _ _ | exact Kd.V_nil _ _ _ _ _ | exact Kd.Q_nil _ _ _ _ _ | exact Kd.S_nil _ _ _ _ _, by repeat (first | (with_reducible first | exact HB.out | apply below_alloc | apply pw_below_drewN | apply below_drew1) | exact HB.out)⟩
  · rw [if_neg c2] at H
    have c2b0 : decide (4000 < (a0.size : Int)) = false := decide_eq_false c2
    have c2b1 : decide (4000 < a0.size) = false := decide_eq_false (by omega)
    clear c2
    replace H := Option.bind_eq_some_iff.mp H
    obtain ⟨⟨t359, t360⟩, A30, H⟩ := H
    replace H : (some (t359, t360, true)) = some (r1, r2, r3) := H
    have A3 := Aside0.mk A30
    clear A30
    simp only [Option.some.injEq, Prod.mk.injEq] at H
    obtain ⟨rfl, rfl, rfl⟩ := H
    go_enter Tryd.func30, Tryd.ntmps30
    go_wp2_with (first | ((with_reducible refine gate_callee (f := 63) rfl ?_); refine goesL_ (some 12) rfl rfl Tryd.func63 (by kernel_rfl) rfl #[.string a0] rfl (by (try simp only [List.map_toArray, List.map_cons, List.map_nil]); first | done | rfl | (simp only [List.length_drop, List.length_take]; rfl)) ?_; (with_reducible refine (spec_l11Recover.calls k a0 t359 t360 _ A3.out).mono ?_); rintro e w4 ⟨v361, rfl, ho0, hb⟩; refine ⟨_, rfl, ?_⟩; have n0_ := Aside0.mk (Kd.R_lower ho0 (below_size (by repeat (first | (with_reducible first | exact HB.out | apply below_alloc | apply pw_below_drewN | apply below_drew1) | exact HB.out)))); have n1_ := Aside0.mk (below_step (by repeat (first | (with_reducible first | exact HB.out | apply below_alloc | apply pw_below_drewN | apply below_drew1) | exact HB.out)) hb); clear HB; have HO362 := n0_; have HB := n1_; clear n0_ n1_; (try clear hb); (try clear hb2); (try clear hk); (try clear hi); (try clear ho0)))
    go_ret3
    exact ⟨_, by first | rfl | (simp [errW_none, errW_some] <;> rfl) | (simp [*, errW_none, errW_some] <;> rfl), by (with_reducible repeat (first | apply Kd.R_alloc | apply Kd.R_drewN | apply Kd.R_drew)); exact HO362.out, by repeat (first | (with_reducible first | exact HB.out | apply below_alloc | apply pw_below_drewN | apply below_drew1) | exact HB.out)⟩

end Go.Proofs.YtkbklocfdoofeaaDoor.Q

-- made by a patched copy of print.sh: this session's own
namespace Go.Proofs.YtkbklocfdoofeaaDoor.Q
open Go.RowKit Go.Proofs.YtkbklocfdoofeaaDoorW.PrintWords Go.Proofs.YtkbklocfdoofeaaDoorW.PrintLast Go.Proofs.YtkbklocfdoofeaaDoorW.PrintMore
attribute [local go_sem] max2_int min2_int max_two min_two max_three min_three max_four min_four   -- for this text's walks alone
set_option linter.unusedVariables false
set_option linter.unusedSimpArgs false

/-! ### strings_Cut: function 89 -/
def strings_Cut.f (a0 : ByteArray) (a1 : ByteArray) : Option (ByteArray × ByteArray × Bool) := match a1.data.toList with
  | [c] => if a0.size < 4294967281 then some (Sp.tx (Sp.cut1 c a0.data.toList).1, Sp.tx (Sp.cut1 c a0.data.toList).2.1, (Sp.cut1 c a0.data.toList).2.2) else none
  | _ => none
theorem strings_Cut.calls (a0 : ByteArray) (a1 : ByteArray) (r1 : ByteArray) (r2 : ByteArray) (r3 : Bool) (w : World) (hT : Tb.TB w) (h : strings_Cut.f a0 a1 = some (r1, r2, r3)) :
    Calls Tryd.prog 89 #[.string a0, .string a1] w fun e w' => e = .returned (.tuple #[.string r1, .string r2, .bool r3]) ∧ Below w.heap.size w w' := by
  unfold strings_Cut.f at h
  split at h
  · rename_i c hc
    split at h
    · rename_i hs
      have h2 := Option.some.inj h
      obtain rfl : a1 = Sp.tx [c] := by
        apply ByteArray.ext
        rw [← Array.toList_inj, hc]; rfl
      cases h2
      exact Sp.cut_any a0 c w hT hs
    · cases h
  · cases h

end Go.Proofs.YtkbklocfdoofeaaDoor.Q

-- made by a patched copy of print.sh: this session's own
namespace Go.Proofs.YtkbklocfdoofeaaDoor.Q
open Go.RowKit Go.Proofs.YtkbklocfdoofeaaDoorW.PrintWords Go.Proofs.YtkbklocfdoofeaaDoorW.PrintLast Go.Proofs.YtkbklocfdoofeaaDoorW.PrintMore
attribute [local go_sem] max2_int min2_int max_two min_two max_three min_three max_four min_four   -- for this text's walks alone
set_option linter.unusedVariables false
set_option linter.unusedSimpArgs false

/-! ### impl_readDeed: function 61 -/
def impl_readDeed.f (a0 : ByteArray) : Option (Int × Int × Int × Int × Int × Int × Int × Int × Int × Bool) := if a0.size ≤ 1048576 then (Ht.readI a0.data.toList).map Ht.flat else none
theorem impl_readDeed.calls (a0 : ByteArray) (r1 : Int) (r2 : Int) (r3 : Int) (r4 : Int) (r5 : Int) (r6 : Int) (r7 : Int) (r8 : Int) (r9 : Int) (r10 : Bool) (w : World) (hT : Tb.TC w) (h : impl_readDeed.f a0 = some (r1, r2, r3, r4, r5, r6, r7, r8, r9, r10)) :
    Calls Tryd.prog 61 #[.string a0] w fun e w' => e = .returned (.tuple #[.agg #[.int .i64 r1, .int .i64 r2, .int .i64 r3, .int .i64 r4, .int .i64 r5, .int .i64 r6, .int .i64 r7, .int .i64 r8, .int .i64 r9], .bool r10]) ∧ Below w.heap.size w w' := by
  unfold impl_readDeed.f at h
  split at h
  · rename_i hs
    have hl : a0.data.toList.length ≤ 1048576 := by rw [Array.length_toList]; exact hs
    cases hr : Ht.readI a0.data.toList with
    | none => rw [hr] at h; cases h
    | some x =>
      rw [hr] at h
      have h2 := Option.some.inj h
      have := Ht.readDeed_any a0.data.toList hl x hr w hT
      rw [show PuD.txt a0.data.toList = a0 from by simp [PuD.txt]] at this
      obtain ⟨⟨x1, x2, x3, x4, x5, x6, x7, x8, x9⟩, b⟩ := x
      simp only [Ht.flat, Prod.mk.injEq] at h2
      obtain ⟨rfl, rfl, rfl, rfl, rfl, rfl, rfl, rfl, rfl, rfl⟩ := h2
      exact this
  · cases h

end Go.Proofs.YtkbklocfdoofeaaDoor.Q

-- made by a patched copy of print.sh: this session's own
namespace Go.Proofs.YtkbklocfdoofeaaDoor.Q
open Go.RowKit Go.Proofs.YtkbklocfdoofeaaDoorW.PrintWords Go.Proofs.YtkbklocfdoofeaaDoorW.PrintLast Go.Proofs.YtkbklocfdoofeaaDoorW.PrintMore
attribute [local go_sem] max2_int min2_int max_two min_two max_three min_three max_four min_four   -- for this text's walks alone
set_option linter.unusedVariables false
set_option linter.unusedSimpArgs false

/-! ### impl_check: function 51 -/
def impl_check.l0 : Nat → Int → ByteArray → Int → Int → Option (Int)
  | 0, _, _, _, _ => none
  | k + 1, x0, x1, x7, x8 => if x8 < x7 then (if 0 ≤ x8 then (if x8 < (x1.size : Int) then (impl_check.l0 k (Int.tmod (wrap64 ((wrap64 ((wrap64 (257 * x0)) + (wrap64 (bt x1 x8)))) + 1)) 99991) x1 x7 (wrap64 (x8 + 1))) else (none)) else (none)) else (some x0)
def impl_check.f (k : Nat) (a0 : Int) (a1 : ByteArray) : Option (Int) := impl_check.l0 k a0 a1 (a1.size : Int) 0
set_option maxHeartbeats 8000000 in
set_option maxRecDepth 100000 in
theorem impl_check.calls (k : Nat) (a0 : Int) (a1 : ByteArray) (r : Int) (w : World) (h : impl_check.f k a0 a1 = some r) :
    Calls Tryd.prog 51 #[.int .i64 a0, .string a1] w fun e w' => e = .returned (.int .i64 r) ∧ Drawn0 w w' := by
  have H : (impl_check.l0 k a0 a1 (a1.size : Int) 0) = some r := h
  clear h
  have H' := Aside0.mk H
  clear H
  go_enter Tryd.func51, Tryd.ntmps51
  go_wp2
  go_loopg [0, 8] k (fun kq v0 v8 w' => ∃ (x0_1 : Int) (x8_1 : Int), v0 = .int .i64 x0_1 ∧ v8 = .int .i64 x8_1 ∧ Aside0 (impl_check.l0 kq x0_1 a1 (a1.size : Int) x8_1 = some r) ∧ Aside0 (kq ≤ k) ∧ Drawn0 w w')
  case atStart => exact ⟨(a0), (0), (by first | rfl | (simp; done) | (simp [*]; done)), (by first | rfl | (simp; done) | (simp [*]; done)), H', ⟨Nat.le_refl _⟩, by repeat (first | exact Drawn0.refl _ | apply Drawn0.step)⟩
  case round =>
    clear H'
    try clear p2
    obtain ⟨x0_1, x8_1, rfl, rfl, HA, HK1, ⟨m1, rfl⟩⟩ := hrel
    cases gk with
    | zero => exact absurd HA.out (by simp [impl_check.l0])
    | succ k1 =>
      have H := HA.out
      clear HA
      simp only [impl_check.l0] at H
      by_cases c3 : x8_1 < (a1.size : Int)
      · rw [if_pos c3] at H
        have c3b0 : decide (x8_1 < (a1.size : Int)) = true := decide_eq_true c3
        clear c3
        by_cases c4 : 0 ≤ x8_1
        · rw [if_pos c4] at H
          have c4b0 : decide (0 ≤ x8_1) = true := decide_eq_true c4
          clear c4
          by_cases c5 : x8_1 < (a1.size : Int)
          · rw [if_pos c5] at H
            have c5b0 : decide (x8_1 < (a1.size : Int)) = true := decide_eq_true c5
            clear c5
            have H' := Aside0.mk H
            clear H
            have p6 : 0 ≤ (x8_1 : Int) := of_decide_eq_true (by first | (with_reducible assumption) | assumption)
            have q6 : x8_1 < (a1.size : Int) := of_decide_eq_true (by first | (with_reducible assumption) | assumption)
            have hx6 := bt_at a1 x8_1
            replace p6 := eq_true p6
            replace q6 := eq_true q6
            go_wp2
            go_roundg k1
            case measure => have := HK1.out; omega
            case rel => exact ⟨(Int.tmod (wrap64 ((wrap64 ((wrap64 (257 * x0_1)) + (wrap64 (bt a1 x8_1)))) + 1)) 99991), (wrap64 (x8_1 + 1)), (by first | rfl | (simp; done) | (simp [*]; done)), (by first | rfl | (simp; done) | (simp [*]; done)), H', ⟨by have := HK1.out; omega⟩, by repeat (first | exact Drawn0.refl _ | apply Drawn0.step)⟩
          · rw [if_neg c5] at H
            exact absurd H (by simp)
        · rw [if_neg c4] at H
          exact absurd H (by simp)
      · rw [if_neg c3] at H
        have c3b0 : decide (x8_1 < (a1.size : Int)) = false := decide_eq_false c3
        clear c3
        obtain rfl := Option.some.inj H
        go_wp2
        go_ret
        exact ⟨by first | rfl | (simp; done) | (simp [*]; done), by repeat (first | exact Drawn0.refl _ | apply Drawn0.step)⟩

end Go.Proofs.YtkbklocfdoofeaaDoor.Q

/- Nine stores into a box of nine cells, in one step. -/
namespace Go.Proofs.YtkbklocfdoofeaaDoor.Pn
open Go.RowKit Go.Proofs.YtkbklocfdoofeaaDoorW.PrintWords
abbrev put (W : World) (g : Nat) (y0 y1 y2 y3 y4 y5 y6 y7 y8 : Value) : World := ((((((((W.setCell ⟨g, 0, none⟩ y0).setCell ⟨g, 1, none⟩ y1).setCell ⟨g, 2, none⟩ y2).setCell ⟨g, 3, none⟩ y3).setCell ⟨g, 4, none⟩ y4).setCell ⟨g, 5, none⟩ y5).setCell ⟨g, 6, none⟩ y6).setCell ⟨g, 7, none⟩ y7).setCell ⟨g, 8, none⟩ y8
end Go.Proofs.YtkbklocfdoofeaaDoor.Pn

-- made by a patched copy of print.sh: this session's own
namespace Go.Proofs.YtkbklocfdoofeaaDoor.Q
open Go.RowKit Go.Proofs.YtkbklocfdoofeaaDoorW.PrintWords Go.Proofs.YtkbklocfdoofeaaDoorW.PrintLast Go.Proofs.YtkbklocfdoofeaaDoorW.PrintMore
attribute [local go_sem] max2_int min2_int max_two min_two max_three min_three max_four min_four   -- for this text's walks alone
set_option linter.unusedVariables false
set_option linter.unusedSimpArgs false

/-! ### impl_recovered: function 64 -/
def impl_recovered.l0 : Nat → ByteArray → List (S41) → Int → Int → Option ((List (S41)) × Int)
  | 0, _, _, _, _ => none
  | k + 1, x0, x4, x5, x6 => if (x4.length : Int) < 60 then (if 0 ≤ x6 then (if x6 ≤ (x0.size : Int) then ((strings_Cut.f (x0.extract (x6 : Int).toNat x0.size) (⟨#[10]⟩ : ByteArray)).bind fun bt324 => ((strings_Cut.f bt324.1 (⟨#[32]⟩ : ByteArray)).bind fun bt327 => ((impl_readDeed.f bt327.2.1).bind fun bt330 => ((impl_check.f k x5 bt327.2.1).bind fun t341 => (if bt324.2.2 = true then (if bt327.2.2 = true then (if bt330.2.2.2.2.2.2.2.2.2 = true then ((impl_Decimal.f t341).bind fun t342 => (if bt327.1.toList = t342.toList then (if x4.length < 1954687338268 then (impl_recovered.l0 k x0 (x4 ++ [(⟨bt330.1, bt330.2.1, bt330.2.2.1, bt330.2.2.2.1, (⟨bt330.2.2.2.2.1, bt330.2.2.2.2.2.1⟩ : S39), bt330.2.2.2.2.2.2.1, bt330.2.2.2.2.2.2.2.1, bt330.2.2.2.2.2.2.2.2.1⟩ : S41)]) t341 (wrap64 ((wrap64 (x6 + (bt324.1.size : Int))) + 1))) else (none)) else (some (x4, x6)))) else (some (x4, x6))) else (some (x4, x6))) else (some (x4, x6))))))) else (none)) else (none)) else (some (x4, x6))
def impl_recovered.f (k : Nat) (a0 : ByteArray) : Option ((List (S41)) × Int) := impl_recovered.l0 k a0 (([] : List (S41))) 1 0
set_option maxHeartbeats 8000000 in
set_option maxRecDepth 100000 in
theorem impl_recovered.calls (k : Nat) (a0 : ByteArray) (r1 : List (S41)) (r2 : Int) (w : World) (hT : Tb.TC w) (h : impl_recovered.f k a0 = some (r1, r2)) :
    Calls Tryd.prog 64 #[.string a0] w fun e w' => ∃ v0_ : Value, e = .returned (.tuple #[v0_, .int .i64 r2]) ∧ Kd.R k41 41 w' w.heap.size (fun _ => True) v0_ r1 ∧ Below w.heap.size w w' := by
  have HT := Aside0.mk hT
  clear hT
  have hu41 := Tryd.underlying41
  have HB := Aside0.mk (Below.refl w.heap.size w)
  have H : (impl_recovered.l0 k a0 (([] : List (S41))) 1 0) = some (r1, r2) := h
  clear h
  obtain ⟨y321, hy321⟩ : ∃ y_ : List (S41), y_ = (([] : List (S41))) := ⟨_, rfl⟩
  replace H : (impl_recovered.l0 k a0 y321 1 0) = some (r1, r2) := by first | (rw [hy321]; with_reducible exact H) | (have H2_ := (Option.bind_some _ _).symm.trans H; rw [hy321]; with_reducible exact H2_) | (have H2_ := (Option.bind_some _ _).symm.trans H; with_reducible exact H2_) | with_reducible exact H | (rw [hy321]; exact H) | exact H
  have Ny321 := Aside0.mk hy321
  clear hy321
  have H' := Aside0.mk H
  clear H
  go_enter Tryd.func64, Tryd.ntmps64
  go_wp2_with (first | ((with_reducible refine gate_dst (N := 16) rfl ?_); refine Kd.R_lit k41 _ 41 ?hg (N := 16) ?hd (xs := ([] : List (S41))) (inner := []) (ok := fun _ => True) (okp := fun _ => True) ?hr ?hp (fun _ hk => hk) trivial (Below.refl _ _) (Nat.le_refl _) (by simp) ?_; (case hd => rfl); (case hg => rfl); (case hr => first | (go_simp; done) | (go_simp; rfl)); (case hp => exact (Reps.none _ _)); intro v322 w2 ho3 hb hg_ hnew_; clear hg_ hnew_; (first | rw [← Ny321.out] at ho3 | (simp only [Int.reduceToNat] at ho3; rw [← Ny321.out] at ho3)); have n0_ := Aside0.mk (Kd.R_lower ho3 (below_size (by repeat (first | (with_reducible first | exact HB.out | apply below_alloc | apply pw_below_drewN | apply below_drew1) | exact HB.out)))); have n1_ := Aside0.mk (below_step (by repeat (first | (with_reducible first | exact HB.out | apply below_alloc | apply pw_below_drewN | apply below_drew1) | exact HB.out)) hb); clear HB; have HO323 := n0_; have HB := n1_; clear n0_ n1_; clear hb ho3))
  go_loopg [4, 5, 6] k (fun kq v4 v5 v6 w' => ∃ (x4_1 : List (S41)) (x5_1 : Int) (x6_1 : Int), v5 = .int .i64 x5_1 ∧ v6 = .int .i64 x6_1 ∧ Aside0 (impl_recovered.l0 kq a0 x4_1 x5_1 x6_1 = some (r1, r2)) ∧ Aside0 (kq ≤ k) ∧ Aside0 (Kd.R k41 41 w' w.heap.size (fun _ => True) v4 x4_1) ∧ Aside0 (Below w.heap.size w w'))
  case atStart => exact ⟨(y321), (1), (0), (by first | rfl | (simp; done) | (simp [*]; done)), (by first | rfl | (simp; done) | (simp [*]; done)), H', ⟨Nat.le_refl _⟩, ⟨by (with_reducible repeat (first | apply Kd.R_alloc | apply Kd.R_drewN | apply Kd.R_drew)); exact HO323.out⟩, ⟨by repeat (first | (with_reducible first | exact HB.out | apply below_alloc | apply pw_below_drewN | apply below_drew1) | exact HB.out)⟩⟩
  case round =>
    clear H'
    try clear p2
    obtain ⟨x4_1, x5_1, x6_1, rfl, rfl, HA, HK1, HO_4, HB⟩ := hrel
    cases gk with
    | zero => exact absurd HA.out (by simp [impl_recovered.l0])
    | succ k1 =>
      have H := HA.out
      clear HA
      simp only [impl_recovered.l0] at H
      by_cases c4 : (x4_1.length : Int) < 60
      · rw [if_pos c4] at H
        have c4b0 : decide ((x4_1.length : Int) < 60) = true := decide_eq_true c4
        have c4b1 : decide (x4_1.length < 60) = true := decide_eq_true (by omega)
        clear c4
        by_cases c5 : 0 ≤ x6_1
        · rw [if_pos c5] at H
          have c5b0 := eq_true c5
          have c5b1 : decide (0 ≤ x6_1) = true := decide_eq_true c5
          clear c5
          by_cases c6 : x6_1 ≤ (a0.size : Int)
          · rw [if_pos c6] at H
            have c6b0 := eq_true c6
            have c6b1 : decide (x6_1 ≤ (a0.size : Int)) = true := decide_eq_true c6
            clear c6
            replace H := Option.bind_eq_some_iff.mp H
            obtain ⟨⟨t324, t325, t326⟩, A70, H⟩ := H
            replace H : ((strings_Cut.f t324 (⟨#[32]⟩ : ByteArray)).bind fun bt327 => ((impl_readDeed.f bt327.2.1).bind fun bt330 => ((impl_check.f k1 x5_1 bt327.2.1).bind fun t341 => (if t326 = true then (if bt327.2.2 = true then (if bt330.2.2.2.2.2.2.2.2.2 = true then ((impl_Decimal.f t341).bind fun t342 => (if bt327.1.toList = t342.toList then (if x4_1.length < 1954687338268 then (impl_recovered.l0 k1 a0 (x4_1 ++ [(⟨bt330.1, bt330.2.1, bt330.2.2.1, bt330.2.2.2.1, (⟨bt330.2.2.2.2.1, bt330.2.2.2.2.2.1⟩ : S39), bt330.2.2.2.2.2.2.1, bt330.2.2.2.2.2.2.2.1, bt330.2.2.2.2.2.2.2.2.1⟩ : S41)]) t341 (wrap64 ((wrap64 (x6_1 + (t324.size : Int))) + 1))) else (none)) else (some (x4_1, x6_1)))) else (some (x4_1, x6_1))) else (some (x4_1, x6_1))) else (some (x4_1, x6_1)))))) = some (r1, r2) := H
            have A7 := Aside0.mk A70
            clear A70
            replace H := Option.bind_eq_some_iff.mp H
            obtain ⟨⟨t327, t328, t329⟩, A80, H⟩ := H
            replace H : ((impl_readDeed.f t328).bind fun bt330 => ((impl_check.f k1 x5_1 t328).bind fun t341 => (if t326 = true then (if t329 = true then (if bt330.2.2.2.2.2.2.2.2.2 = true then ((impl_Decimal.f t341).bind fun t342 => (if t327.toList = t342.toList then (if x4_1.length < 1954687338268 then (impl_recovered.l0 k1 a0 (x4_1 ++ [(⟨bt330.1, bt330.2.1, bt330.2.2.1, bt330.2.2.2.1, (⟨bt330.2.2.2.2.1, bt330.2.2.2.2.2.1⟩ : S39), bt330.2.2.2.2.2.2.1, bt330.2.2.2.2.2.2.2.1, bt330.2.2.2.2.2.2.2.2.1⟩ : S41)]) t341 (wrap64 ((wrap64 (x6_1 + (t324.size : Int))) + 1))) else (none)) else (some (x4_1, x6_1)))) else (some (x4_1, x6_1))) else (some (x4_1, x6_1))) else (some (x4_1, x6_1))))) = some (r1, r2) := H
            have A8 := Aside0.mk A80
            clear A80
            replace H := Option.bind_eq_some_iff.mp H
            obtain ⟨⟨t330, t331, t332, t333, t334, t335, t336, t337, t338, t339⟩, A90, H⟩ := H
            replace H : ((impl_check.f k1 x5_1 t328).bind fun t341 => (if t326 = true then (if t329 = true then (if t339 = true then ((impl_Decimal.f t341).bind fun t342 => (if t327.toList = t342.toList then (if x4_1.length < 1954687338268 then (impl_recovered.l0 k1 a0 (x4_1 ++ [(⟨t330, t331, t332, t333, (⟨t334, t335⟩ : S39), t336, t337, t338⟩ : S41)]) t341 (wrap64 ((wrap64 (x6_1 + (t324.size : Int))) + 1))) else (none)) else (some (x4_1, x6_1)))) else (some (x4_1, x6_1))) else (some (x4_1, x6_1))) else (some (x4_1, x6_1)))) = some (r1, r2) := H
            have A9 := Aside0.mk A90
            clear A90
            replace H := Option.bind_eq_some_iff.mp H
            obtain ⟨t341, A100, H⟩ := H
            replace H : (if t326 = true then (if t329 = true then (if t339 = true then ((impl_Decimal.f t341).bind fun t342 => (if t327.toList = t342.toList then (if x4_1.length < 1954687338268 then (impl_recovered.l0 k1 a0 (x4_1 ++ [(⟨t330, t331, t332, t333, (⟨t334, t335⟩ : S39), t336, t337, t338⟩ : S41)]) t341 (wrap64 ((wrap64 (x6_1 + (t324.size : Int))) + 1))) else (none)) else (some (x4_1, x6_1)))) else (some (x4_1, x6_1))) else (some (x4_1, x6_1))) else (some (x4_1, x6_1))) = some (r1, r2) := H
            have A10 := Aside0.mk A100
            clear A100
            by_cases c11 : t326 = true
            · subst c11
              have H1 : (if t329 = true then (if t339 = true then ((impl_Decimal.f t341).bind fun t342 => (if t327.toList = t342.toList then (if x4_1.length < 1954687338268 then (impl_recovered.l0 k1 a0 (x4_1 ++ [(⟨t330, t331, t332, t333, (⟨t334, t335⟩ : S39), t336, t337, t338⟩ : S41)]) t341 (wrap64 ((wrap64 (x6_1 + (t324.size : Int))) + 1))) else (none)) else (some (x4_1, x6_1)))) else (some (x4_1, x6_1))) else (some (x4_1, x6_1))) = some (r1, r2) := by rw [if_pos rfl] at H; exact H
              clear H
              have H := H1
              clear H1
              by_cases c12 : t329 = true
              · subst c12
                have H1 : (if t339 = true then ((impl_Decimal.f t341).bind fun t342 => (if t327.toList = t342.toList then (if x4_1.length < 1954687338268 then (impl_recovered.l0 k1 a0 (x4_1 ++ [(⟨t330, t331, t332, t333, (⟨t334, t335⟩ : S39), t336, t337, t338⟩ : S41)]) t341 (wrap64 ((wrap64 (x6_1 + (t324.size : Int))) + 1))) else (none)) else (some (x4_1, x6_1)))) else (some (x4_1, x6_1))) = some (r1, r2) := by rw [if_pos rfl] at H; exact H
                clear H
                have H := H1
                clear H1
                by_cases c13 : t339 = true
                · subst c13
                  have H1 : ((impl_Decimal.f t341).bind fun t342 => (if t327.toList = t342.toList then (if x4_1.length < 1954687338268 then (impl_recovered.l0 k1 a0 (x4_1 ++ [(⟨t330, t331, t332, t333, (⟨t334, t335⟩ : S39), t336, t337, t338⟩ : S41)]) t341 (wrap64 ((wrap64 (x6_1 + (t324.size : Int))) + 1))) else (none)) else (some (x4_1, x6_1)))) = some (r1, r2) := by rw [if_pos rfl] at H; exact H
                  clear H
                  have H := H1
                  clear H1
                  replace H := Option.bind_eq_some_iff.mp H
                  obtain ⟨t342, A140, H⟩ := H
                  replace H : (if t327.toList = t342.toList then (if x4_1.length < 1954687338268 then (impl_recovered.l0 k1 a0 (x4_1 ++ [(⟨t330, t331, t332, t333, (⟨t334, t335⟩ : S39), t336, t337, t338⟩ : S41)]) t341 (wrap64 ((wrap64 (x6_1 + (t324.size : Int))) + 1))) else (none)) else (some (x4_1, x6_1))) = some (r1, r2) := H
                  have A14 := Aside0.mk A140
                  clear A140
                  by_cases c15 : t327.toList = t342.toList
                  · rw [if_pos c15] at H
                    have c15b0 : (t327.toList == t342.toList) = true := beq_iff_eq.mpr c15
                    have c15b1 : (t327.toList != t342.toList) = false := bne_eq_false_iff_eq.mpr c15
                    clear c15
                    by_cases c16 : x4_1.length < 1954687338268
                    · rw [if_pos c16] at H
                      have LMc16 := Aside0.mk c16
                      clear c16
                      obtain ⟨y343, hy343⟩ : ∃ y_ : List (S41), y_ = (x4_1 ++ [(⟨t330, t331, t332, t333, (⟨t334, t335⟩ : S39), t336, t337, t338⟩ : S41)]) := ⟨_, rfl⟩
                      replace H : (impl_recovered.l0 k1 a0 y343 t341 (wrap64 ((wrap64 (x6_1 + (t324.size : Int))) + 1))) = some (r1, r2) := by first | (rw [hy343]; with_reducible exact H) | (have H2_ := (Option.bind_some _ _).symm.trans H; rw [hy343]; with_reducible exact H2_) | (have H2_ := (Option.bind_some _ _).symm.trans H; with_reducible exact H2_) | with_reducible exact H | (rw [hy343]; exact H) | exact H
                      have Ny343 := Aside0.mk hy343
                      clear hy343
                      have H' := Aside0.mk H
                      clear H
                      obtain ⟨Ao17, co17, eo17⟩ := Kd.R_slice HO_4.out
                      subst eo17
                      go_wp2_with (first | ((with_reducible refine gate_callee (f := 89) rfl ?_); refine goesL_ (some 24) rfl rfl Tryd.func89 (by kernel_rfl) rfl #[.string (a0.extract (x6_1 : Int).toNat a0.size), .string (⟨#[10]⟩ : ByteArray)] rfl (by (try simp only [List.map_toArray, List.map_cons, List.map_nil]); first | done | rfl | (simp only [List.length_drop, List.length_take]; rfl)) ?_; (with_reducible refine (strings_Cut.calls (a0.extract (x6_1 : Int).toNat a0.size) (⟨#[10]⟩ : ByteArray) t324 t325 true _ ?side1 A7.out).mono ?_); (case side1 => first | exact Tb.TC.tb (HT.out) | exact Tb.TC.tb (Tb.TC.below HT.out (by repeat (first | (with_reducible first | exact HB.out | apply below_alloc | apply pw_below_drewN | apply below_drew1) | exact HB.out)))); rintro e w18 ⟨rfl, hb⟩; refine ⟨_, rfl, ?_⟩; have n0_ := Aside0.mk (Kd.R_below (by (with_reducible repeat (first | apply Kd.R_alloc | apply Kd.R_drewN | apply Kd.R_drew)); exact HO_4.out) hb); have n1_ := Aside0.mk (below_step (by repeat (first | (with_reducible first | exact HB.out | apply below_alloc | apply pw_below_drewN | apply below_drew1) | exact HB.out)) hb); clear HO_4; clear HB; have HO_4 := n0_; have HB := n1_; clear n0_ n1_; (try clear hb); (try clear hb2); (try clear hk); (try clear hi)) | ((with_reducible refine gate_callee (f := 89) rfl ?_); refine goesL_ (some 30) rfl rfl Tryd.func89 (by kernel_rfl) rfl #[.string t324, .string (⟨#[32]⟩ : ByteArray)] rfl (by (try simp only [List.map_toArray, List.map_cons, List.map_nil]); first | done | rfl | (simp only [List.length_drop, List.length_take]; rfl)) ?_; (with_reducible refine (strings_Cut.calls t324 (⟨#[32]⟩ : ByteArray) t327 t328 true _ ?side1 A8.out).mono ?_); (case side1 => first | exact Tb.TC.tb (HT.out) | exact Tb.TC.tb (Tb.TC.below HT.out (by repeat (first | (with_reducible first | exact HB.out | apply below_alloc | apply pw_below_drewN | apply below_drew1) | exact HB.out)))); rintro e w19 ⟨rfl, hb⟩; refine ⟨_, rfl, ?_⟩; have n0_ := Aside0.mk (Kd.R_below (by (with_reducible repeat (first | apply Kd.R_alloc | apply Kd.R_drewN | apply Kd.R_drew)); exact HO_4.out) hb); have n1_ := Aside0.mk (below_step (by repeat (first | (with_reducible first | exact HB.out | apply below_alloc | apply pw_below_drewN | apply below_drew1) | exact HB.out)) hb); clear HO_4; clear HB; have HO_4 := n0_; have HB := n1_; clear n0_ n1_; (try clear hb); (try clear hb2); (try clear hk); (try clear hi)) | ((with_reducible refine gate_callee (f := 61) rfl ?_); refine goesL_ (some 36) rfl rfl Tryd.func61 (by kernel_rfl) rfl #[.string t328] rfl (by (try simp only [List.map_toArray, List.map_cons, List.map_nil]); first | done | rfl | (simp only [List.length_drop, List.length_take]; rfl)) ?_; (with_reducible refine (impl_readDeed.calls t328 t330 t331 t332 t333 t334 t335 t336 t337 t338 true _ ?side1 A9.out).mono ?_); (case side1 => first | exact HT.out | exact Tb.TC.below HT.out (by repeat (first | (with_reducible first | exact HB.out | apply below_alloc | apply pw_below_drewN | apply below_drew1) | exact HB.out))); rintro e w20 ⟨rfl, hb⟩; refine ⟨_, rfl, ?_⟩; have n0_ := Aside0.mk (Kd.R_below (by (with_reducible repeat (first | apply Kd.R_alloc | apply Kd.R_drewN | apply Kd.R_drew)); exact HO_4.out) hb); have n1_ := Aside0.mk (below_step (by repeat (first | (with_reducible first | exact HB.out | apply below_alloc | apply pw_below_drewN | apply below_drew1) | exact HB.out)) hb); clear HO_4; clear HB; have HO_4 := n0_; have HB := n1_; clear n0_ n1_; (try clear hb); (try clear hb2); (try clear hk); (try clear hi)) | ((with_reducible refine gate_callee (f := 51) rfl ?_); refine goesL_ (some 41) rfl rfl Tryd.func51 (by kernel_rfl) rfl #[.int .i64 x5_1, .string t328] rfl (by (try simp only [List.map_toArray, List.map_cons, List.map_nil]); first | done | rfl | (simp only [List.length_drop, List.length_take]; rfl)) ?_; (with_reducible refine (impl_check.calls k1 x5_1 t328 t341 _ A10.out).mono ?_); rintro e w' ⟨rfl, ⟨nd, rfl⟩⟩; refine ⟨_, rfl, ?_⟩) | (go_at_call 41; (with_reducible refine (impl_Decimal.calls t341 t342 _ ?side1 A14.out).mono ?_); (case side1 => first | exact Tb.TC.tb (HT.out) | exact Tb.TC.tb (Tb.TC.below HT.out (by repeat (first | (with_reducible first | exact HB.out | apply below_alloc | apply pw_below_drewN | apply below_drew1 | refine below_set ?_ GE340.out) | exact HB.out)))); rintro e w23 ⟨rfl, hb⟩; have n0_ := Aside0.mk (Kd.R_below (by (with_reducible repeat (first | apply Kd.R_alloc | apply Kd.R_drewN | apply Kd.R_drew)); exact (Kd.R_elderB HO_4.out w20.heap.size (Nat.le_refl _))) hb); have n1_ := Aside0.mk (blk_below (g := w20.heap.size) (o := .cells #[.int .i64 t330, .int .i64 t331, .int .i64 t332, .int .i64 t333, .int .i64 t334, .int .i64 t335, .int .i64 t336, .int .i64 t337, .int .i64 t338] 41 (0, 0)) (by (with_reducible repeat (first | refine blk_drewN ?_ _ | refine blk_drew ?_)); exact blk_new w20 _) hb); have n2_ := Aside0.mk (below_step (by repeat (first | (with_reducible first | exact HB.out | apply below_alloc | apply pw_below_drewN | apply below_drew1 | refine below_set ?_ GE340.out) | exact HB.out)) hb); clear HO_4; clear HB; have HO_4 := n0_; have BK340 := n1_; have HB := n2_; clear n0_ n1_ n2_; (try clear hb); (try clear hb2); (try clear hk); (try clear hi); have hcz24_0 : w23.cell? ⟨w20.heap.size, 0, none⟩ = some (.int .i64 t330) := (blk_cell BK340.out 0).trans rfl; have hcz24_1 : w23.cell? ⟨w20.heap.size, 1, none⟩ = some (.int .i64 t331) := (blk_cell BK340.out 1).trans rfl; have hcz24_2 : w23.cell? ⟨w20.heap.size, 2, none⟩ = some (.int .i64 t332) := (blk_cell BK340.out 2).trans rfl; have hcz24_3 : w23.cell? ⟨w20.heap.size, 3, none⟩ = some (.int .i64 t333) := (blk_cell BK340.out 3).trans rfl; have hcz24_4 : w23.cell? ⟨w20.heap.size, 4, none⟩ = some (.int .i64 t334) := (blk_cell BK340.out 4).trans rfl; have hcz24_5 : w23.cell? ⟨w20.heap.size, 5, none⟩ = some (.int .i64 t335) := (blk_cell BK340.out 5).trans rfl; have hcz24_6 : w23.cell? ⟨w20.heap.size, 6, none⟩ = some (.int .i64 t336) := (blk_cell BK340.out 6).trans rfl; have hcz24_7 : w23.cell? ⟨w20.heap.size, 7, none⟩ = some (.int .i64 t337) := (blk_cell BK340.out 7).trans rfl; have hcz24_8 : w23.cell? ⟨w20.heap.size, 8, none⟩ = some (.int .i64 t338) := (blk_cell BK340.out 8).trans rfl; have hfz24_0 := blk_frozen BK340.out 0; have hfz24_1 := blk_frozen BK340.out 1; have hfz24_2 := blk_frozen BK340.out 2; have hfz24_3 := blk_frozen BK340.out 3; have hfz24_4 := blk_frozen BK340.out 4; have hfz24_5 := blk_frozen BK340.out 5; have hfz24_6 := blk_frozen BK340.out 6; have hfz24_7 := blk_frozen BK340.out 7; have hfz24_8 := blk_frozen BK340.out 8) | ((with_reducible refine gate_builtin (b := .append) (xs := #[.tmp 58, .tmp 60]) rfl ?_); at_builtin; refine Kd.R_append k41 (w0 := w) w.heap.size rfl (.tmp 58) (.tmp 60) 47 41 (.agg #[(.int .i64 0), (.int .i64 0), (.int .i64 0), (.int .i64 0), (.int .i64 0), (.int .i64 0), (.int .i64 0), (.int .i64 0), (.int .i64 0)]) 72 rfl Tryd.underlying47 info41 rfl (by decide) (by omega) (.slice Ao17 x4_1.length co17) x4_1 (⟨t330, t331, t332, t333, (⟨t334, t335⟩ : S39), t336, t337, t338⟩ : S41) [.int .i64 t330, .int .i64 t331, .int .i64 t332, .int .i64 t333, .int .i64 t334, .int .i64 t335, .int .i64 t336, .int .i64 t337, .int .i64 t338] (fun k_ => k_ ≠ w20.heap.size) (fun _ => False) rfl rfl ?aP (fun _ hk => hk.elim) ?aF ?aO ?aB ?aS ?aL ?_; (case aP => exact k41_mkM _ _ _ (⟨t330, t331, t332, t333, (⟨t334, t335⟩ : S39), t336, t337, t338⟩ : S41)); (case aB => exact (by repeat (first | (with_reducible first | exact HB.out | apply below_alloc | apply pw_below_drewN | apply below_drew1 | refine below_set ?_ GE340.out) | exact HB.out))); (case aF => exact (fun k_ hk => Kd.freshB (g := w20.heap.size) (o := .cells #[.int .i64 t330, .int .i64 t331, .int .i64 t332, .int .i64 t333, .int .i64 t334, .int .i64 t335, .int .i64 t336, .int .i64 t337, .int .i64 t338] 41 (0, 0)) (by (with_reducible repeat (first | refine blk_drewN ?_ _ | refine blk_drew ?_ | refine blk_alloc ?_ _)); exact BK340.out) k_ hk)); (case aO => exact (by (with_reducible repeat (first | apply Kd.R_alloc | apply Kd.R_drewN | apply Kd.R_drew)); exact Kd.R_mono HO_4.out (fun _ hk => hk.2))); (case aS => exact (below_size (by repeat (first | (with_reducible first | exact HB.out | apply below_alloc | apply pw_below_drewN | apply below_drew1 | refine below_set ?_ GE340.out) | exact HB.out)))); (case aL => have := LMc16.out; omega); intro v344 w25 ho hb hg hat; rw [← Ny343.out] at ho; have n0_ := Aside0.mk (blk_grown (g := w20.heap.size) (o := .cells #[.int .i64 t330, .int .i64 t331, .int .i64 t332, .int .i64 t333, .int .i64 t334, .int .i64 t335, .int .i64 t336, .int .i64 t337, .int .i64 t338] 41 (0, 0)) (by (with_reducible repeat (first | refine blk_drewN ?_ _ | refine blk_drew ?_ | refine blk_alloc ?_ _)); exact BK340.out) hg (Kd.R_away HO_4.out (fun _ hk => hk.2))); have n1_ := Aside0.mk (hb); have n2_ := Aside0.mk (ho); clear BK340; clear HB; clear HO_4; have BK340 := n0_; have HB := n1_; have HO345 := n2_; clear n0_ n1_ n2_; clear ho hb hg hat))
                      go_roundg k1
                      case measure => have := HK1.out; omega
                      case rel => exact ⟨(y343), (t341), (wrap64 ((wrap64 (x6_1 + (t324.size : Int))) + 1)), (by first | rfl | (simp; done) | (simp [*]; done)), (by first | rfl | (simp; done) | (simp [*]; done)), H', ⟨by have := HK1.out; omega⟩, ⟨by (with_reducible repeat (first | apply Kd.R_alloc | apply Kd.R_drewN | apply Kd.R_drew)); exact Kd.R_mono HO345.out (fun _ hk => trivial)⟩, ⟨by repeat (first | (with_reducible first | exact HB.out | apply below_alloc | apply pw_below_drewN | apply below_drew1 | refine below_set ?_ GE340.out) | exact HB.out)⟩⟩
                    · rw [if_neg c16] at H
                      exact absurd H (by simp)
                  · rw [if_neg c15] at H
                    have c15b0 : (t327.toList == t342.toList) = false := beq_eq_false_iff_ne.mpr c15
                    have c15b1 : (t327.toList != t342.toList) = true := bne_iff_ne.mpr c15
                    simp only [Option.some.injEq, Prod.mk.injEq] at H
                    obtain ⟨rfl, rfl⟩ := H
                    obtain ⟨Ao26, co26, eo26⟩ := Kd.R_slice HO_4.out
                    subst eo26
                    go_wp2_with (first | ((with_reducible refine gate_callee (f := 89) rfl ?_); refine goesL_ (some 24) rfl rfl Tryd.func89 (by kernel_rfl) rfl #[.string (a0.extract (x6_1 : Int).toNat a0.size), .string (⟨#[10]⟩ : ByteArray)] rfl (by (try simp only [List.map_toArray, List.map_cons, List.map_nil]); first | done | rfl | (simp only [List.length_drop, List.length_take]; rfl)) ?_; (with_reducible refine (strings_Cut.calls (a0.extract (x6_1 : Int).toNat a0.size) (⟨#[10]⟩ : ByteArray) t324 t325 true _ ?side1 A7.out).mono ?_); (case side1 => first | exact Tb.TC.tb (HT.out) | exact Tb.TC.tb (Tb.TC.below HT.out (by repeat (first | (with_reducible first | exact HB.out | apply below_alloc | apply pw_below_drewN | apply below_drew1) | exact HB.out)))); rintro e w27 ⟨rfl, hb⟩; refine ⟨_, rfl, ?_⟩; have n0_ := Aside0.mk (Kd.R_below (by (with_reducible repeat (first | apply Kd.R_alloc | apply Kd.R_drewN | apply Kd.R_drew)); exact HO_4.out) hb); have n1_ := Aside0.mk (below_step (by repeat (first | (with_reducible first | exact HB.out | apply below_alloc | apply pw_below_drewN | apply below_drew1) | exact HB.out)) hb); clear HO_4; clear HB; have HO_4 := n0_; have HB := n1_; clear n0_ n1_; (try clear hb); (try clear hb2); (try clear hk); (try clear hi)) | ((with_reducible refine gate_callee (f := 89) rfl ?_); refine goesL_ (some 30) rfl rfl Tryd.func89 (by kernel_rfl) rfl #[.string t324, .string (⟨#[32]⟩ : ByteArray)] rfl (by (try simp only [List.map_toArray, List.map_cons, List.map_nil]); first | done | rfl | (simp only [List.length_drop, List.length_take]; rfl)) ?_; (with_reducible refine (strings_Cut.calls t324 (⟨#[32]⟩ : ByteArray) t327 t328 true _ ?side1 A8.out).mono ?_); (case side1 => first | exact Tb.TC.tb (HT.out) | exact Tb.TC.tb (Tb.TC.below HT.out (by repeat (first | (with_reducible first | exact HB.out | apply below_alloc | apply pw_below_drewN | apply below_drew1) | exact HB.out)))); rintro e w28 ⟨rfl, hb⟩; refine ⟨_, rfl, ?_⟩; have n0_ := Aside0.mk (Kd.R_below (by (with_reducible repeat (first | apply Kd.R_alloc | apply Kd.R_drewN | apply Kd.R_drew)); exact HO_4.out) hb); have n1_ := Aside0.mk (below_step (by repeat (first | (with_reducible first | exact HB.out | apply below_alloc | apply pw_below_drewN | apply below_drew1) | exact HB.out)) hb); clear HO_4; clear HB; have HO_4 := n0_; have HB := n1_; clear n0_ n1_; (try clear hb); (try clear hb2); (try clear hk); (try clear hi)) | ((with_reducible refine gate_callee (f := 61) rfl ?_); refine goesL_ (some 36) rfl rfl Tryd.func61 (by kernel_rfl) rfl #[.string t328] rfl (by (try simp only [List.map_toArray, List.map_cons, List.map_nil]); first | done | rfl | (simp only [List.length_drop, List.length_take]; rfl)) ?_; (with_reducible refine (impl_readDeed.calls t328 t330 t331 t332 t333 t334 t335 t336 t337 t338 true _ ?side1 A9.out).mono ?_); (case side1 => first | exact HT.out | exact Tb.TC.below HT.out (by repeat (first | (with_reducible first | exact HB.out | apply below_alloc | apply pw_below_drewN | apply below_drew1) | exact HB.out))); rintro e w29 ⟨rfl, hb⟩; refine ⟨_, rfl, ?_⟩; have n0_ := Aside0.mk (Kd.R_below (by (with_reducible repeat (first | apply Kd.R_alloc | apply Kd.R_drewN | apply Kd.R_drew)); exact HO_4.out) hb); have n1_ := Aside0.mk (below_step (by repeat (first | (with_reducible first | exact HB.out | apply below_alloc | apply pw_below_drewN | apply below_drew1) | exact HB.out)) hb); clear HO_4; clear HB; have HO_4 := n0_; have HB := n1_; clear n0_ n1_; (try clear hb); (try clear hb2); (try clear hk); (try clear hi)) | ((with_reducible refine gate_callee (f := 51) rfl ?_); refine goesL_ (some 41) rfl rfl Tryd.func51 (by kernel_rfl) rfl #[.int .i64 x5_1, .string t328] rfl (by (try simp only [List.map_toArray, List.map_cons, List.map_nil]); first | done | rfl | (simp only [List.length_drop, List.length_take]; rfl)) ?_; (with_reducible refine (impl_check.calls k1 x5_1 t328 t341 _ A10.out).mono ?_); rintro e w' ⟨rfl, ⟨nd, rfl⟩⟩; refine ⟨_, rfl, ?_⟩) | (go_at_call 41; (with_reducible refine (impl_Decimal.calls t341 t342 _ ?side1 A14.out).mono ?_); (case side1 => first | exact Tb.TC.tb (HT.out) | exact Tb.TC.tb (Tb.TC.below HT.out (by repeat (first | (with_reducible first | exact HB.out | apply below_alloc | apply pw_below_drewN | apply below_drew1 | refine below_set ?_ GE340.out) | exact HB.out)))); rintro e w32 ⟨rfl, hb⟩; have n0_ := Aside0.mk (Kd.R_below (by (with_reducible repeat (first | apply Kd.R_alloc | apply Kd.R_drewN | apply Kd.R_drew)); exact (Kd.R_elderB HO_4.out w29.heap.size (Nat.le_refl _))) hb); have n1_ := Aside0.mk (blk_below (g := w29.heap.size) (o := .cells #[.int .i64 t330, .int .i64 t331, .int .i64 t332, .int .i64 t333, .int .i64 t334, .int .i64 t335, .int .i64 t336, .int .i64 t337, .int .i64 t338] 41 (0, 0)) (by (with_reducible repeat (first | refine blk_drewN ?_ _ | refine blk_drew ?_)); exact blk_new w29 _) hb); have n2_ := Aside0.mk (below_step (by repeat (first | (with_reducible first | exact HB.out | apply below_alloc | apply pw_below_drewN | apply below_drew1 | refine below_set ?_ GE340.out) | exact HB.out)) hb); clear HO_4; clear HB; have HO_4 := n0_; have BK340 := n1_; have HB := n2_; clear n0_ n1_ n2_; (try clear hb); (try clear hb2); (try clear hk); (try clear hi)))
                    go_ret2
                    exact ⟨_, by first | rfl | (simp [errW_none, errW_some] <;> rfl) | (simp [*, errW_none, errW_some] <;> rfl), by (with_reducible repeat (first | apply Kd.R_alloc | apply Kd.R_drewN | apply Kd.R_drew)); exact Kd.R_mono HO_4.out (fun _ hk => trivial), by repeat (first | (with_reducible first | exact HB.out | apply below_alloc | apply pw_below_drewN | apply below_drew1 | refine below_set ?_ GE340.out) | exact HB.out)⟩
                · replace c13 := Bool.eq_false_iff.mpr c13
                  subst c13
                  have H1 : (some (x4_1, x6_1)) = some (r1, r2) := by rw [if_neg (show ¬ (false = true) by decide)] at H; exact H
                  clear H
                  have H := H1
                  clear H1
                  simp only [Option.some.injEq, Prod.mk.injEq] at H
                  obtain ⟨rfl, rfl⟩ := H
                  obtain ⟨Ao33, co33, eo33⟩ := Kd.R_slice HO_4.out
                  subst eo33
                  go_wp2_with (first | ((with_reducible refine gate_callee (f := 89) rfl ?_); refine goesL_ (some 24) rfl rfl Tryd.func89 (by kernel_rfl) rfl #[.string (a0.extract (x6_1 : Int).toNat a0.size), .string (⟨#[10]⟩ : ByteArray)] rfl (by (try simp only [List.map_toArray, List.map_cons, List.map_nil]); first | done | rfl | (simp only [List.length_drop, List.length_take]; rfl)) ?_; (with_reducible refine (strings_Cut.calls (a0.extract (x6_1 : Int).toNat a0.size) (⟨#[10]⟩ : ByteArray) t324 t325 true _ ?side1 A7.out).mono ?_); (case side1 => first | exact Tb.TC.tb (HT.out) | exact Tb.TC.tb (Tb.TC.below HT.out (by repeat (first | (with_reducible first | exact HB.out | apply below_alloc | apply pw_below_drewN | apply below_drew1) | exact HB.out)))); rintro e w34 ⟨rfl, hb⟩; refine ⟨_, rfl, ?_⟩; have n0_ := Aside0.mk (Kd.R_below (by (with_reducible repeat (first | apply Kd.R_alloc | apply Kd.R_drewN | apply Kd.R_drew)); exact HO_4.out) hb); have n1_ := Aside0.mk (below_step (by repeat (first | (with_reducible first | exact HB.out | apply below_alloc | apply pw_below_drewN | apply below_drew1) | exact HB.out)) hb); clear HO_4; clear HB; have HO_4 := n0_; have HB := n1_; clear n0_ n1_; (try clear hb); (try clear hb2); (try clear hk); (try clear hi)) | ((with_reducible refine gate_callee (f := 89) rfl ?_); refine goesL_ (some 30) rfl rfl Tryd.func89 (by kernel_rfl) rfl #[.string t324, .string (⟨#[32]⟩ : ByteArray)] rfl (by (try simp only [List.map_toArray, List.map_cons, List.map_nil]); first | done | rfl | (simp only [List.length_drop, List.length_take]; rfl)) ?_; (with_reducible refine (strings_Cut.calls t324 (⟨#[32]⟩ : ByteArray) t327 t328 true _ ?side1 A8.out).mono ?_); (case side1 => first | exact Tb.TC.tb (HT.out) | exact Tb.TC.tb (Tb.TC.below HT.out (by repeat (first | (with_reducible first | exact HB.out | apply below_alloc | apply pw_below_drewN | apply below_drew1) | exact HB.out)))); rintro e w35 ⟨rfl, hb⟩; refine ⟨_, rfl, ?_⟩; have n0_ := Aside0.mk (Kd.R_below (by (with_reducible repeat (first | apply Kd.R_alloc | apply Kd.R_drewN | apply Kd.R_drew)); exact HO_4.out) hb); have n1_ := Aside0.mk (below_step (by repeat (first | (with_reducible first | exact HB.out | apply below_alloc | apply pw_below_drewN | apply below_drew1) | exact HB.out)) hb); clear HO_4; clear HB; have HO_4 := n0_; have HB := n1_; clear n0_ n1_; (try clear hb); (try clear hb2); (try clear hk); (try clear hi)) | ((with_reducible refine gate_callee (f := 61) rfl ?_); refine goesL_ (some 36) rfl rfl Tryd.func61 (by kernel_rfl) rfl #[.string t328] rfl (by (try simp only [List.map_toArray, List.map_cons, List.map_nil]); first | done | rfl | (simp only [List.length_drop, List.length_take]; rfl)) ?_; (with_reducible refine (impl_readDeed.calls t328 t330 t331 t332 t333 t334 t335 t336 t337 t338 false _ ?side1 A9.out).mono ?_); (case side1 => first | exact HT.out | exact Tb.TC.below HT.out (by repeat (first | (with_reducible first | exact HB.out | apply below_alloc | apply pw_below_drewN | apply below_drew1) | exact HB.out))); rintro e w36 ⟨rfl, hb⟩; refine ⟨_, rfl, ?_⟩; have n0_ := Aside0.mk (Kd.R_below (by (with_reducible repeat (first | apply Kd.R_alloc | apply Kd.R_drewN | apply Kd.R_drew)); exact HO_4.out) hb); have n1_ := Aside0.mk (below_step (by repeat (first | (with_reducible first | exact HB.out | apply below_alloc | apply pw_below_drewN | apply below_drew1) | exact HB.out)) hb); clear HO_4; clear HB; have HO_4 := n0_; have HB := n1_; clear n0_ n1_; (try clear hb); (try clear hb2); (try clear hk); (try clear hi)) | ((with_reducible refine gate_callee (f := 51) rfl ?_); refine goesL_ (some 41) rfl rfl Tryd.func51 (by kernel_rfl) rfl #[.int .i64 x5_1, .string t328] rfl (by (try simp only [List.map_toArray, List.map_cons, List.map_nil]); first | done | rfl | (simp only [List.length_drop, List.length_take]; rfl)) ?_; (with_reducible refine (impl_check.calls k1 x5_1 t328 t341 _ A10.out).mono ?_); rintro e w' ⟨rfl, ⟨nd, rfl⟩⟩; refine ⟨_, rfl, ?_⟩))
                  go_ret2
                  exact ⟨_, by first | rfl | (simp [errW_none, errW_some] <;> rfl) | (simp [*, errW_none, errW_some] <;> rfl), by (with_reducible repeat (first | apply Kd.R_alloc | apply Kd.R_drewN | apply Kd.R_drew)); first | exact HO_4.out | exact Kd.R_mono HO_4.out (fun _ _ => trivial), by repeat (first | (with_reducible first | exact HB.out | apply below_alloc | apply pw_below_drewN | apply below_drew1 | refine below_set ?_ GE340.out) | exact HB.out)⟩
              · replace c12 := Bool.eq_false_iff.mpr c12
                subst c12
                have H1 : (some (x4_1, x6_1)) = some (r1, r2) := by rw [if_neg (show ¬ (false = true) by decide)] at H; exact H
                clear H
                have H := H1
                clear H1
                simp only [Option.some.injEq, Prod.mk.injEq] at H
                obtain ⟨rfl, rfl⟩ := H
                obtain ⟨Ao39, co39, eo39⟩ := Kd.R_slice HO_4.out
                subst eo39
                go_wp2_with (first | ((with_reducible refine gate_callee (f := 89) rfl ?_); refine goesL_ (some 24) rfl rfl Tryd.func89 (by kernel_rfl) rfl #[.string (a0.extract (x6_1 : Int).toNat a0.size), .string (⟨#[10]⟩ : ByteArray)] rfl (by (try simp only [List.map_toArray, List.map_cons, List.map_nil]); first | done | rfl | (simp only [List.length_drop, List.length_take]; rfl)) ?_; (with_reducible refine (strings_Cut.calls (a0.extract (x6_1 : Int).toNat a0.size) (⟨#[10]⟩ : ByteArray) t324 t325 true _ ?side1 A7.out).mono ?_); (case side1 => first | exact Tb.TC.tb (HT.out) | exact Tb.TC.tb (Tb.TC.below HT.out (by repeat (first | (with_reducible first | exact HB.out | apply below_alloc | apply pw_below_drewN | apply below_drew1) | exact HB.out)))); rintro e w40 ⟨rfl, hb⟩; refine ⟨_, rfl, ?_⟩; have n0_ := Aside0.mk (Kd.R_below (by (with_reducible repeat (first | apply Kd.R_alloc | apply Kd.R_drewN | apply Kd.R_drew)); exact HO_4.out) hb); have n1_ := Aside0.mk (below_step (by repeat (first | (with_reducible first | exact HB.out | apply below_alloc | apply pw_below_drewN | apply below_drew1) | exact HB.out)) hb); clear HO_4; clear HB; have HO_4 := n0_; have HB := n1_; clear n0_ n1_; (try clear hb); (try clear hb2); (try clear hk); (try clear hi)) | ((with_reducible refine gate_callee (f := 89) rfl ?_); refine goesL_ (some 30) rfl rfl Tryd.func89 (by kernel_rfl) rfl #[.string t324, .string (⟨#[32]⟩ : ByteArray)] rfl (by (try simp only [List.map_toArray, List.map_cons, List.map_nil]); first | done | rfl | (simp only [List.length_drop, List.length_take]; rfl)) ?_; (with_reducible refine (strings_Cut.calls t324 (⟨#[32]⟩ : ByteArray) t327 t328 false _ ?side1 A8.out).mono ?_); (case side1 => first | exact Tb.TC.tb (HT.out) | exact Tb.TC.tb (Tb.TC.below HT.out (by repeat (first | (with_reducible first | exact HB.out | apply below_alloc | apply pw_below_drewN | apply below_drew1) | exact HB.out)))); rintro e w41 ⟨rfl, hb⟩; refine ⟨_, rfl, ?_⟩; have n0_ := Aside0.mk (Kd.R_below (by (with_reducible repeat (first | apply Kd.R_alloc | apply Kd.R_drewN | apply Kd.R_drew)); exact HO_4.out) hb); have n1_ := Aside0.mk (below_step (by repeat (first | (with_reducible first | exact HB.out | apply below_alloc | apply pw_below_drewN | apply below_drew1) | exact HB.out)) hb); clear HO_4; clear HB; have HO_4 := n0_; have HB := n1_; clear n0_ n1_; (try clear hb); (try clear hb2); (try clear hk); (try clear hi)) | ((with_reducible refine gate_callee (f := 61) rfl ?_); refine goesL_ (some 36) rfl rfl Tryd.func61 (by kernel_rfl) rfl #[.string t328] rfl (by (try simp only [List.map_toArray, List.map_cons, List.map_nil]); first | done | rfl | (simp only [List.length_drop, List.length_take]; rfl)) ?_; (with_reducible refine (impl_readDeed.calls t328 t330 t331 t332 t333 t334 t335 t336 t337 t338 t339 _ ?side1 A9.out).mono ?_); (case side1 => first | exact HT.out | exact Tb.TC.below HT.out (by repeat (first | (with_reducible first | exact HB.out | apply below_alloc | apply pw_below_drewN | apply below_drew1) | exact HB.out))); rintro e w42 ⟨rfl, hb⟩; refine ⟨_, rfl, ?_⟩; have n0_ := Aside0.mk (Kd.R_below (by (with_reducible repeat (first | apply Kd.R_alloc | apply Kd.R_drewN | apply Kd.R_drew)); exact HO_4.out) hb); have n1_ := Aside0.mk (below_step (by repeat (first | (with_reducible first | exact HB.out | apply below_alloc | apply pw_below_drewN | apply below_drew1) | exact HB.out)) hb); clear HO_4; clear HB; have HO_4 := n0_; have HB := n1_; clear n0_ n1_; (try clear hb); (try clear hb2); (try clear hk); (try clear hi)) | ((with_reducible refine gate_callee (f := 51) rfl ?_); refine goesL_ (some 41) rfl rfl Tryd.func51 (by kernel_rfl) rfl #[.int .i64 x5_1, .string t328] rfl (by (try simp only [List.map_toArray, List.map_cons, List.map_nil]); first | done | rfl | (simp only [List.length_drop, List.length_take]; rfl)) ?_; (with_reducible refine (impl_check.calls k1 x5_1 t328 t341 _ A10.out).mono ?_); rintro e w' ⟨rfl, ⟨nd, rfl⟩⟩; refine ⟨_, rfl, ?_⟩))
                go_ret2
                exact ⟨_, by first | rfl | (simp [errW_none, errW_some] <;> rfl) | (simp [*, errW_none, errW_some] <;> rfl), by (with_reducible repeat (first | apply Kd.R_alloc | apply Kd.R_drewN | apply Kd.R_drew)); first | exact HO_4.out | exact Kd.R_mono HO_4.out (fun _ _ => trivial), by repeat (first | (with_reducible first | exact HB.out | apply below_alloc | apply pw_below_drewN | apply below_drew1 | refine below_set ?_ GE340.out) | exact HB.out)⟩
            · replace c11 := Bool.eq_false_iff.mpr c11
              subst c11
              have H1 : (some (x4_1, x6_1)) = some (r1, r2) := by rw [if_neg (show ¬ (false = true) by decide)] at H; exact H
              clear H
              have H := H1
              clear H1
              simp only [Option.some.injEq, Prod.mk.injEq] at H
              obtain ⟨rfl, rfl⟩ := H
              obtain ⟨Ao45, co45, eo45⟩ := Kd.R_slice HO_4.out
              subst eo45
              go_wp2_with (first | ((with_reducible refine gate_callee (f := 89) rfl ?_); refine goesL_ (some 24) rfl rfl Tryd.func89 (by kernel_rfl) rfl #[.string (a0.extract (x6_1 : Int).toNat a0.size), .string (⟨#[10]⟩ : ByteArray)] rfl (by (try simp only [List.map_toArray, List.map_cons, List.map_nil]); first | done | rfl | (simp only [List.length_drop, List.length_take]; rfl)) ?_; (with_reducible refine (strings_Cut.calls (a0.extract (x6_1 : Int).toNat a0.size) (⟨#[10]⟩ : ByteArray) t324 t325 false _ ?side1 A7.out).mono ?_); (case side1 => first | exact Tb.TC.tb (HT.out) | exact Tb.TC.tb (Tb.TC.below HT.out (by repeat (first | (with_reducible first | exact HB.out | apply below_alloc | apply pw_below_drewN | apply below_drew1) | exact HB.out)))); rintro e w46 ⟨rfl, hb⟩; refine ⟨_, rfl, ?_⟩; have n0_ := Aside0.mk (Kd.R_below (by (with_reducible repeat (first | apply Kd.R_alloc | apply Kd.R_drewN | apply Kd.R_drew)); exact HO_4.out) hb); have n1_ := Aside0.mk (below_step (by repeat (first | (with_reducible first | exact HB.out | apply below_alloc | apply pw_below_drewN | apply below_drew1) | exact HB.out)) hb); clear HO_4; clear HB; have HO_4 := n0_; have HB := n1_; clear n0_ n1_; (try clear hb); (try clear hb2); (try clear hk); (try clear hi)) | ((with_reducible refine gate_callee (f := 89) rfl ?_); refine goesL_ (some 30) rfl rfl Tryd.func89 (by kernel_rfl) rfl #[.string t324, .string (⟨#[32]⟩ : ByteArray)] rfl (by (try simp only [List.map_toArray, List.map_cons, List.map_nil]); first | done | rfl | (simp only [List.length_drop, List.length_take]; rfl)) ?_; (with_reducible refine (strings_Cut.calls t324 (⟨#[32]⟩ : ByteArray) t327 t328 t329 _ ?side1 A8.out).mono ?_); (case side1 => first | exact Tb.TC.tb (HT.out) | exact Tb.TC.tb (Tb.TC.below HT.out (by repeat (first | (with_reducible first | exact HB.out | apply below_alloc | apply pw_below_drewN | apply below_drew1) | exact HB.out)))); rintro e w47 ⟨rfl, hb⟩; refine ⟨_, rfl, ?_⟩; have n0_ := Aside0.mk (Kd.R_below (by (with_reducible repeat (first | apply Kd.R_alloc | apply Kd.R_drewN | apply Kd.R_drew)); exact HO_4.out) hb); have n1_ := Aside0.mk (below_step (by repeat (first | (with_reducible first | exact HB.out | apply below_alloc | apply pw_below_drewN | apply below_drew1) | exact HB.out)) hb); clear HO_4; clear HB; have HO_4 := n0_; have HB := n1_; clear n0_ n1_; (try clear hb); (try clear hb2); (try clear hk); (try clear hi)) | ((with_reducible refine gate_callee (f := 61) rfl ?_); refine goesL_ (some 36) rfl rfl Tryd.func61 (by kernel_rfl) rfl #[.string t328] rfl (by (try simp only [List.map_toArray, List.map_cons, List.map_nil]); first | done | rfl | (simp only [List.length_drop, List.length_take]; rfl)) ?_; (with_reducible refine (impl_readDeed.calls t328 t330 t331 t332 t333 t334 t335 t336 t337 t338 t339 _ ?side1 A9.out).mono ?_); (case side1 => first | exact HT.out | exact Tb.TC.below HT.out (by repeat (first | (with_reducible first | exact HB.out | apply below_alloc | apply pw_below_drewN | apply below_drew1) | exact HB.out))); rintro e w48 ⟨rfl, hb⟩; refine ⟨_, rfl, ?_⟩; have n0_ := Aside0.mk (Kd.R_below (by (with_reducible repeat (first | apply Kd.R_alloc | apply Kd.R_drewN | apply Kd.R_drew)); exact HO_4.out) hb); have n1_ := Aside0.mk (below_step (by repeat (first | (with_reducible first | exact HB.out | apply below_alloc | apply pw_below_drewN | apply below_drew1) | exact HB.out)) hb); clear HO_4; clear HB; have HO_4 := n0_; have HB := n1_; clear n0_ n1_; (try clear hb); (try clear hb2); (try clear hk); (try clear hi)) | ((with_reducible refine gate_callee (f := 51) rfl ?_); refine goesL_ (some 41) rfl rfl Tryd.func51 (by kernel_rfl) rfl #[.int .i64 x5_1, .string t328] rfl (by (try simp only [List.map_toArray, List.map_cons, List.map_nil]); first | done | rfl | (simp only [List.length_drop, List.length_take]; rfl)) ?_; (with_reducible refine (impl_check.calls k1 x5_1 t328 t341 _ A10.out).mono ?_); rintro e w' ⟨rfl, ⟨nd, rfl⟩⟩; refine ⟨_, rfl, ?_⟩))
              go_ret2
              exact ⟨_, by first | rfl | (simp [errW_none, errW_some] <;> rfl) | (simp [*, errW_none, errW_some] <;> rfl), by (with_reducible repeat (first | apply Kd.R_alloc | apply Kd.R_drewN | apply Kd.R_drew)); first | exact HO_4.out | exact Kd.R_mono HO_4.out (fun _ _ => trivial), by repeat (first | (with_reducible first | exact HB.out | apply below_alloc | apply pw_below_drewN | apply below_drew1 | refine below_set ?_ GE340.out) | exact HB.out)⟩
          · rw [if_neg c6] at H
            exact absurd H (by simp)
        · rw [if_neg c5] at H
          exact absurd H (by simp)
      · rw [if_neg c4] at H
        have c4b0 : decide ((x4_1.length : Int) < 60) = false := decide_eq_false c4
        have c4b1 : decide (x4_1.length < 60) = false := decide_eq_false (by omega)
        clear c4
        simp only [Option.some.injEq, Prod.mk.injEq] at H
        obtain ⟨rfl, rfl⟩ := H
        obtain ⟨Ao51, co51, eo51⟩ := Kd.R_slice HO_4.out
        subst eo51
        go_wp2
        go_ret2
        exact ⟨_, by first | rfl | (simp [errW_none, errW_some] <;> rfl) | (simp [*, errW_none, errW_some] <;> rfl), by (with_reducible repeat (first | apply Kd.R_alloc | apply Kd.R_drewN | apply Kd.R_drew)); exact HO_4.out, by repeat (first | (with_reducible first | exact HB.out | apply below_alloc | apply pw_below_drewN | apply below_drew1) | exact HB.out)⟩

end Go.Proofs.YtkbklocfdoofeaaDoor.Q


-- made by a patched copy of print.sh: this session's own
namespace Go.Proofs.YtkbklocfdoofeaaDoor.Q
open Go.RowKit Go.Proofs.YtkbklocfdoofeaaDoorW.PrintWords Go.Proofs.YtkbklocfdoofeaaDoorW.PrintLast Go.Proofs.YtkbklocfdoofeaaDoorW.PrintMore
attribute [local go_sem] max2_int min2_int max_two min_two max_three min_three max_four min_four   -- for this text's walks alone
set_option linter.unusedVariables false
set_option linter.unusedSimpArgs false

/-! ### impl_RecoverJournal: function 31 -/
def impl_RecoverJournal.f (k : Nat) (a0 : ByteArray) : Option ((List (S41)) × Int × Bool) := if (a0.size : Int) > 4000 then (some (([] : List (S41)), 0, false)) else ((impl_recovered.f k a0).bind fun bt363 => (some (bt363.1, bt363.2, true)))
set_option maxHeartbeats 8000000 in
set_option maxRecDepth 100000 in
theorem impl_RecoverJournal.calls (k : Nat) (a0 : ByteArray) (r1 : List (S41)) (r2 : Int) (r3 : Bool) (w : World) (hT : Tb.TC w) (h : impl_RecoverJournal.f k a0 = some (r1, r2, r3)) :
    Calls Tryd.prog 31 #[.string a0] w fun e w' => ∃ v0_ : Value, e = .returned (.tuple #[v0_, .int .i64 r2, .bool r3]) ∧ Kd.R k41 41 w' w.heap.size (fun _ => True) v0_ r1 ∧ Below w.heap.size w w' := by
  have HT := Aside0.mk hT
  clear hT
  have HB := Aside0.mk (Below.refl w.heap.size w)
  have H : (if (a0.size : Int) > 4000 then (some (([] : List (S41)), 0, false)) else ((impl_recovered.f k a0).bind fun bt363 => (some (bt363.1, bt363.2, true)))) = some (r1, r2, r3) := h
  clear h
  by_cases c2 : (a0.size : Int) > 4000
  · rw [if_pos c2] at H
    have c2b0 : decide (4000 < (a0.size : Int)) = true := decide_eq_true c2
    have c2b1 : decide (4000 < a0.size) = true := decide_eq_true (by omega)
    clear c2
    simp only [Option.some.injEq, Prod.mk.injEq] at H
    obtain ⟨rfl, rfl, rfl⟩ := H
    go_enter Tryd.func31, Tryd.ntmps31
    go_wp2
    go_ret3
    exact ⟨_, by first | rfl | (simp [errW_none, errW_some] <;> rfl) | (simp [*, errW_none, errW_some] <;> rfl), by first | exact Kd.R_nil _ _ _ _ _ | exact Kd.N_nil _ _ _ _ _ | exact Kd.V_nil _ _ _ _ _ | exact Kd.Q_nil _ _ _ _ _ | exact Kd.S_nil _ _ _ _ _, by repeat (first | (with_reducible first | exact HB.out | apply below_alloc | apply pw_below_drewN | apply below_drew1) | exact HB.out)⟩
  · rw [if_neg c2] at H
    have c2b0 : decide (4000 < (a0.size : Int)) = false := decide_eq_false c2
    have c2b1 : decide (4000 < a0.size) = false := decide_eq_false (by omega)
    clear c2
    replace H := Option.bind_eq_some_iff.mp H
    obtain ⟨⟨t363, t364⟩, A30, H⟩ := H
    replace H : (some (t363, t364, true)) = some (r1, r2, r3) := H
    have A3 := Aside0.mk A30
    clear A30
    simp only [Option.some.injEq, Prod.mk.injEq] at H
    obtain ⟨rfl, rfl, rfl⟩ := H
    go_enter Tryd.func31, Tryd.ntmps31
    go_wp2_with (first | ((with_reducible refine gate_callee (f := 64) rfl ?_); refine goesL_ (some 12) rfl rfl Tryd.func64 (by kernel_rfl) rfl #[.string a0] rfl (by (try simp only [List.map_toArray, List.map_cons, List.map_nil]); first | done | rfl | (simp only [List.length_drop, List.length_take]; rfl)) ?_; (with_reducible refine (impl_recovered.calls k a0 t363 t364 _ ?side1 A3.out).mono ?_); (case side1 => first | exact HT.out | exact Tb.TC.below HT.out (by repeat (first | (with_reducible first | exact HB.out | apply below_alloc | apply pw_below_drewN | apply below_drew1) | exact HB.out))); rintro e w4 ⟨v365, rfl, ho0, hb⟩; refine ⟨_, rfl, ?_⟩; have n0_ := Aside0.mk (Kd.R_lower ho0 (below_size (by repeat (first | (with_reducible first | exact HB.out | apply below_alloc | apply pw_below_drewN | apply below_drew1) | exact HB.out)))); have n1_ := Aside0.mk (below_step (by repeat (first | (with_reducible first | exact HB.out | apply below_alloc | apply pw_below_drewN | apply below_drew1) | exact HB.out)) hb); clear HB; have HO366 := n0_; have HB := n1_; clear n0_ n1_; (try clear hb); (try clear hb2); (try clear hk); (try clear hi); (try clear ho0)))
    go_ret3
    exact ⟨_, by first | rfl | (simp [errW_none, errW_some] <;> rfl) | (simp [*, errW_none, errW_some] <;> rfl), by (with_reducible repeat (first | apply Kd.R_alloc | apply Kd.R_drewN | apply Kd.R_drew)); exact HO366.out, by repeat (first | (with_reducible first | exact HB.out | apply below_alloc | apply pw_below_drewN | apply below_drew1) | exact HB.out)⟩

end Go.Proofs.YtkbklocfdoofeaaDoor.Q

-- made by a patched copy of print.sh: this session's own
namespace Go.Proofs.YtkbklocfdoofeaaDoor.Q
open Go.RowKit Go.Proofs.YtkbklocfdoofeaaDoorW.PrintWords Go.Proofs.YtkbklocfdoofeaaDoorW.PrintLast Go.Proofs.YtkbklocfdoofeaaDoorW.PrintMore
attribute [local go_sem] max2_int min2_int max_two min_two max_three min_three max_four min_four   -- for this text's walks alone
set_option linter.unusedVariables false
set_option linter.unusedSimpArgs false

/-! ### laws_eqRing: function 62 -/
def laws_eqRing.f (a0_0 : Int) (a0_1 : Int) (a1_0 : Int) (a1_1 : Int) : Option (Bool) := if a0_0 = a1_0 then (if a0_1 = a1_1 then (some true) else (some false)) else (some false)
set_option maxHeartbeats 8000000 in
set_option maxRecDepth 100000 in
theorem laws_eqRing.calls (a0_0 : Int) (a0_1 : Int) (a1_0 : Int) (a1_1 : Int) (r : Bool) (w : World) (h : laws_eqRing.f a0_0 a0_1 a1_0 a1_1 = some r) :
    Calls Tryd.prog 62 #[.agg #[.int .i64 a0_0, .int .i64 a0_1], .agg #[.int .i64 a1_0, .int .i64 a1_1]] w fun e w' => e = .returned (.bool r) ∧ Below w.heap.size w w' := by
  have hu39 := Tryd.underlying39
  have HB := Aside0.mk (Below.refl w.heap.size w)
  have H : (if a0_0 = a1_0 then (if a0_1 = a1_1 then (some true) else (some false)) else (some false)) = some r := h
  clear h
  by_cases c3 : a0_0 = a1_0
  · rw [if_pos c3] at H
    have c3b0 : (a0_0 == a1_0) = true := beq_iff_eq.mpr c3
    have c3b1 : (a0_0 != a1_0) = false := bne_eq_false_iff_eq.mpr c3
    clear c3
    by_cases c4 : a0_1 = a1_1
    · rw [if_pos c4] at H
      have c4b0 : (a0_1 == a1_1) = true := beq_iff_eq.mpr c4
      have c4b1 : (a0_1 != a1_1) = false := bne_eq_false_iff_eq.mpr c4
      clear c4
      obtain rfl := Option.some.inj H
      go_enter Tryd.func62, Tryd.ntmps62
      go_wp2_with (first | ((with_reducible refine gate_dst (N := 2) rfl ?_); refine box_event ?hg (N := 2) ?hd (cs := #[.int .i64 a0_0, .int .i64 a0_1]) (t := 39) ?hr ?_; (case hd => rfl); (case hg => rfl); (case hr => first | (go_simp; done) | (go_simp; rfl)); intro gb345 hg w5 hbox hb; have n0_ := Aside0.mk (below_step (by repeat (first | (with_reducible first | exact HB.out | apply below_alloc | apply pw_below_drewN | apply below_drew1) | exact HB.out)) hb); have n1_ := Aside0.mk (hbox); have n2_ := Aside0.mk ((by rw [hg]; exact (below_size (by repeat (first | (with_reducible first | exact HB.out | apply below_alloc | apply pw_below_drewN | apply below_drew1) | exact HB.out))) : w.heap.size ≤ gb345)); have n3_ := Aside0.mk ((by rw [hg]; exact (below_size (by repeat (first | (with_reducible first | exact HB.out | apply below_alloc | apply pw_below_drewN | apply below_drew1) | exact HB.out))) : w.heap.size ≤ gb345)); clear HB; have HB := n0_; have BK345 := n1_; have GW345 := n2_; have GE345 := n3_; clear n0_ n1_ n2_ n3_; clear hb hbox hg) | ((with_reducible refine gate_dst (N := 3) rfl ?_); refine box_event ?hg (N := 3) ?hd (cs := #[.int .i64 a1_0, .int .i64 a1_1]) (t := 39) ?hr ?_; (case hd => rfl); (case hg => rfl); (case hr => first | (go_simp; done) | (go_simp; rfl)); intro gb346 hg w6 hbox hb; have n0_ := Aside0.mk (blk_below (g := gb345) (o := .cells #[.int .i64 a0_0, .int .i64 a0_1] 39 (0, 0)) (by (with_reducible repeat (first | refine blk_drewN ?_ _ | refine blk_drew ?_ | refine blk_alloc ?_ _)); exact BK345.out) hb); have n1_ := Aside0.mk (below_step (by repeat (first | (with_reducible first | exact HB.out | apply below_alloc | apply pw_below_drewN | apply below_drew1 | refine below_set ?_ GE345.out) | exact HB.out)) hb); have n2_ := Aside0.mk (hbox); have n3_ := Aside0.mk ((by rw [hg]; exact (below_size (by repeat (first | (with_reducible first | exact HB.out | apply below_alloc | apply pw_below_drewN | apply below_drew1 | refine below_set ?_ GE345.out) | exact HB.out))) : w.heap.size ≤ gb346)); have n4_ := Aside0.mk ((by rw [hg]; exact (below_size (by repeat (first | (with_reducible first | exact HB.out | apply below_alloc | apply pw_below_drewN | apply below_drew1 | refine below_set ?_ GE345.out) | exact HB.out))) : w.heap.size ≤ gb346)); have n5_ := Aside0.mk ((by rw [hg]; exact Nat.ne_of_lt (blk_lt (g := gb345) (o := .cells #[.int .i64 a0_0, .int .i64 a0_1] 39 (0, 0)) (by (with_reducible repeat (first | refine blk_drewN ?_ _ | refine blk_drew ?_ | refine blk_alloc ?_ _)); exact BK345.out)) : gb345 ≠ gb346)); have n6_ := Aside0.mk ((by rw [hg]; exact Nat.ne_of_gt (blk_lt (g := gb345) (o := .cells #[.int .i64 a0_0, .int .i64 a0_1] 39 (0, 0)) (by (with_reducible repeat (first | refine blk_drewN ?_ _ | refine blk_drew ?_ | refine blk_alloc ?_ _)); exact BK345.out)) : gb346 ≠ gb345)); clear BK345; clear HB; have BK345 := n0_; have HB := n1_; have BK346 := n2_; have GW346 := n3_; have GE346 := n4_; have NB345_346 := n5_; have NB346_345 := n6_; clear n0_ n1_ n2_ n3_ n4_ n5_ n6_; clear hb hbox hg; have hnb7 := NB345_346.out; have hnc7 := NB346_345.out; have hcz8_0 : w6.cell? ⟨gb345, 0, none⟩ = some (.int .i64 a0_0) := (blk_cell BK345.out 0).trans rfl; have hcz8_1 : w6.cell? ⟨gb345, 1, none⟩ = some (.int .i64 a0_1) := (blk_cell BK345.out 1).trans rfl; have hfz8_0 := blk_frozen BK345.out 0; have hfz8_1 := blk_frozen BK345.out 1; have hcz9_0 : w6.cell? ⟨gb346, 0, none⟩ = some (.int .i64 a1_0) := (blk_cell BK346.out 0).trans rfl; have hcz9_1 : w6.cell? ⟨gb346, 1, none⟩ = some (.int .i64 a1_1) := (blk_cell BK346.out 1).trans rfl; have hfz9_0 := blk_frozen BK346.out 0; have hfz9_1 := blk_frozen BK346.out 1))
      go_ret
      exact ⟨by first | rfl | (simp [errW_none, errW_some] <;> rfl) | (simp [*, errW_none, errW_some] <;> rfl), by repeat (first | (with_reducible first | exact HB.out | apply below_alloc | apply pw_below_drewN | apply below_drew1 | refine below_set ?_ GE345.out | refine below_set ?_ GE346.out) | exact HB.out)⟩
    · rw [if_neg c4] at H
      have c4b0 : (a0_1 == a1_1) = false := beq_eq_false_iff_ne.mpr c4
      have c4b1 : (a0_1 != a1_1) = true := bne_iff_ne.mpr c4
      obtain rfl := Option.some.inj H
      go_enter Tryd.func62, Tryd.ntmps62
      go_wp2_with (first | ((with_reducible refine gate_dst (N := 2) rfl ?_); refine box_event ?hg (N := 2) ?hd (cs := #[.int .i64 a0_0, .int .i64 a0_1]) (t := 39) ?hr ?_; (case hd => rfl); (case hg => rfl); (case hr => first | (go_simp; done) | (go_simp; rfl)); intro gb345 hg w10 hbox hb; have n0_ := Aside0.mk (below_step (by repeat (first | (with_reducible first | exact HB.out | apply below_alloc | apply pw_below_drewN | apply below_drew1) | exact HB.out)) hb); have n1_ := Aside0.mk (hbox); have n2_ := Aside0.mk ((by rw [hg]; exact (below_size (by repeat (first | (with_reducible first | exact HB.out | apply below_alloc | apply pw_below_drewN | apply below_drew1) | exact HB.out))) : w.heap.size ≤ gb345)); have n3_ := Aside0.mk ((by rw [hg]; exact (below_size (by repeat (first | (with_reducible first | exact HB.out | apply below_alloc | apply pw_below_drewN | apply below_drew1) | exact HB.out))) : w.heap.size ≤ gb345)); clear HB; have HB := n0_; have BK345 := n1_; have GW345 := n2_; have GE345 := n3_; clear n0_ n1_ n2_ n3_; clear hb hbox hg) | ((with_reducible refine gate_dst (N := 3) rfl ?_); refine box_event ?hg (N := 3) ?hd (cs := #[.int .i64 a1_0, .int .i64 a1_1]) (t := 39) ?hr ?_; (case hd => rfl); (case hg => rfl); (case hr => first | (go_simp; done) | (go_simp; rfl)); intro gb346 hg w11 hbox hb; have n0_ := Aside0.mk (blk_below (g := gb345) (o := .cells #[.int .i64 a0_0, .int .i64 a0_1] 39 (0, 0)) (by (with_reducible repeat (first | refine blk_drewN ?_ _ | refine blk_drew ?_ | refine blk_alloc ?_ _)); exact BK345.out) hb); have n1_ := Aside0.mk (below_step (by repeat (first | (with_reducible first | exact HB.out | apply below_alloc | apply pw_below_drewN | apply below_drew1 | refine below_set ?_ GE345.out) | exact HB.out)) hb); have n2_ := Aside0.mk (hbox); have n3_ := Aside0.mk ((by rw [hg]; exact (below_size (by repeat (first | (with_reducible first | exact HB.out | apply below_alloc | apply pw_below_drewN | apply below_drew1 | refine below_set ?_ GE345.out) | exact HB.out))) : w.heap.size ≤ gb346)); have n4_ := Aside0.mk ((by rw [hg]; exact (below_size (by repeat (first | (with_reducible first | exact HB.out | apply below_alloc | apply pw_below_drewN | apply below_drew1 | refine below_set ?_ GE345.out) | exact HB.out))) : w.heap.size ≤ gb346)); have n5_ := Aside0.mk ((by rw [hg]; exact Nat.ne_of_lt (blk_lt (g := gb345) (o := .cells #[.int .i64 a0_0, .int .i64 a0_1] 39 (0, 0)) (by (with_reducible repeat (first | refine blk_drewN ?_ _ | refine blk_drew ?_ | refine blk_alloc ?_ _)); exact BK345.out)) : gb345 ≠ gb346)); have n6_ := Aside0.mk ((by rw [hg]; exact Nat.ne_of_gt (blk_lt (g := gb345) (o := .cells #[.int .i64 a0_0, .int .i64 a0_1] 39 (0, 0)) (by (with_reducible repeat (first | refine blk_drewN ?_ _ | refine blk_drew ?_ | refine blk_alloc ?_ _)); exact BK345.out)) : gb346 ≠ gb345)); clear BK345; clear HB; have BK345 := n0_; have HB := n1_; have BK346 := n2_; have GW346 := n3_; have GE346 := n4_; have NB345_346 := n5_; have NB346_345 := n6_; clear n0_ n1_ n2_ n3_ n4_ n5_ n6_; clear hb hbox hg; have hnb12 := NB345_346.out; have hnc12 := NB346_345.out; have hcz13_0 : w11.cell? ⟨gb345, 0, none⟩ = some (.int .i64 a0_0) := (blk_cell BK345.out 0).trans rfl; have hcz13_1 : w11.cell? ⟨gb345, 1, none⟩ = some (.int .i64 a0_1) := (blk_cell BK345.out 1).trans rfl; have hfz13_0 := blk_frozen BK345.out 0; have hfz13_1 := blk_frozen BK345.out 1; have hcz14_0 : w11.cell? ⟨gb346, 0, none⟩ = some (.int .i64 a1_0) := (blk_cell BK346.out 0).trans rfl; have hcz14_1 : w11.cell? ⟨gb346, 1, none⟩ = some (.int .i64 a1_1) := (blk_cell BK346.out 1).trans rfl; have hfz14_0 := blk_frozen BK346.out 0; have hfz14_1 := blk_frozen BK346.out 1))
      go_ret
      exact ⟨by first | rfl | (simp [errW_none, errW_some] <;> rfl) | (simp [*, errW_none, errW_some] <;> rfl), by repeat (first | (with_reducible first | exact HB.out | apply below_alloc | apply pw_below_drewN | apply below_drew1 | refine below_set ?_ GE345.out | refine below_set ?_ GE346.out) | exact HB.out)⟩
  · rw [if_neg c3] at H
    have c3b0 : (a0_0 == a1_0) = false := beq_eq_false_iff_ne.mpr c3
    have c3b1 : (a0_0 != a1_0) = true := bne_iff_ne.mpr c3
    obtain rfl := Option.some.inj H
    go_enter Tryd.func62, Tryd.ntmps62
    go_wp2_with (first | ((with_reducible refine gate_dst (N := 2) rfl ?_); refine box_event ?hg (N := 2) ?hd (cs := #[.int .i64 a0_0, .int .i64 a0_1]) (t := 39) ?hr ?_; (case hd => rfl); (case hg => rfl); (case hr => first | (go_simp; done) | (go_simp; rfl)); intro gb345 hg w15 hbox hb; have n0_ := Aside0.mk (below_step (by repeat (first | (with_reducible first | exact HB.out | apply below_alloc | apply pw_below_drewN | apply below_drew1) | exact HB.out)) hb); have n1_ := Aside0.mk (hbox); have n2_ := Aside0.mk ((by rw [hg]; exact (below_size (by repeat (first | (with_reducible first | exact HB.out | apply below_alloc | apply pw_below_drewN | apply below_drew1) | exact HB.out))) : w.heap.size ≤ gb345)); have n3_ := Aside0.mk ((by rw [hg]; exact (below_size (by repeat (first | (with_reducible first | exact HB.out | apply below_alloc | apply pw_below_drewN | apply below_drew1) | exact HB.out))) : w.heap.size ≤ gb345)); clear HB; have HB := n0_; have BK345 := n1_; have GW345 := n2_; have GE345 := n3_; clear n0_ n1_ n2_ n3_; clear hb hbox hg) | ((with_reducible refine gate_dst (N := 3) rfl ?_); refine box_event ?hg (N := 3) ?hd (cs := #[.int .i64 a1_0, .int .i64 a1_1]) (t := 39) ?hr ?_; (case hd => rfl); (case hg => rfl); (case hr => first | (go_simp; done) | (go_simp; rfl)); intro gb346 hg w16 hbox hb; have n0_ := Aside0.mk (blk_below (g := gb345) (o := .cells #[.int .i64 a0_0, .int .i64 a0_1] 39 (0, 0)) (by (with_reducible repeat (first | refine blk_drewN ?_ _ | refine blk_drew ?_ | refine blk_alloc ?_ _)); exact BK345.out) hb); have n1_ := Aside0.mk (below_step (by repeat (first | (with_reducible first | exact HB.out | apply below_alloc | apply pw_below_drewN | apply below_drew1 | refine below_set ?_ GE345.out) | exact HB.out)) hb); have n2_ := Aside0.mk (hbox); have n3_ := Aside0.mk ((by rw [hg]; exact (below_size (by repeat (first | (with_reducible first | exact HB.out | apply below_alloc | apply pw_below_drewN | apply below_drew1 | refine below_set ?_ GE345.out) | exact HB.out))) : w.heap.size ≤ gb346)); have n4_ := Aside0.mk ((by rw [hg]; exact (below_size (by repeat (first | (with_reducible first | exact HB.out | apply below_alloc | apply pw_below_drewN | apply below_drew1 | refine below_set ?_ GE345.out) | exact HB.out))) : w.heap.size ≤ gb346)); have n5_ := Aside0.mk ((by rw [hg]; exact Nat.ne_of_lt (blk_lt (g := gb345) (o := .cells #[.int .i64 a0_0, .int .i64 a0_1] 39 (0, 0)) (by (with_reducible repeat (first | refine blk_drewN ?_ _ | refine blk_drew ?_ | refine blk_alloc ?_ _)); exact BK345.out)) : gb345 ≠ gb346)); have n6_ := Aside0.mk ((by rw [hg]; exact Nat.ne_of_gt (blk_lt (g := gb345) (o := .cells #[.int .i64 a0_0, .int .i64 a0_1] 39 (0, 0)) (by (with_reducible repeat (first | refine blk_drewN ?_ _ | refine blk_drew ?_ | refine blk_alloc ?_ _)); exact BK345.out)) : gb346 ≠ gb345)); clear BK345; clear HB; have BK345 := n0_; have HB := n1_; have BK346 := n2_; have GW346 := n3_; have GE346 := n4_; have NB345_346 := n5_; have NB346_345 := n6_; clear n0_ n1_ n2_ n3_ n4_ n5_ n6_; clear hb hbox hg; have hnb17 := NB345_346.out; have hnc17 := NB346_345.out; have hcz18_0 : w16.cell? ⟨gb345, 0, none⟩ = some (.int .i64 a0_0) := (blk_cell BK345.out 0).trans rfl; have hcz18_1 : w16.cell? ⟨gb345, 1, none⟩ = some (.int .i64 a0_1) := (blk_cell BK345.out 1).trans rfl; have hfz18_0 := blk_frozen BK345.out 0; have hfz18_1 := blk_frozen BK345.out 1; have hcz19_0 : w16.cell? ⟨gb346, 0, none⟩ = some (.int .i64 a1_0) := (blk_cell BK346.out 0).trans rfl; have hcz19_1 : w16.cell? ⟨gb346, 1, none⟩ = some (.int .i64 a1_1) := (blk_cell BK346.out 1).trans rfl; have hfz19_0 := blk_frozen BK346.out 0; have hfz19_1 := blk_frozen BK346.out 1))
    go_ret
    exact ⟨by first | rfl | (simp [errW_none, errW_some] <;> rfl) | (simp [*, errW_none, errW_some] <;> rfl), by repeat (first | (with_reducible first | exact HB.out | apply below_alloc | apply pw_below_drewN | apply below_drew1 | refine below_set ?_ GE345.out | refine below_set ?_ GE346.out) | exact HB.out)⟩

end Go.Proofs.YtkbklocfdoofeaaDoor.Q

