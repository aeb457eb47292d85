/- Parts of the proof that the law of this seat holds: Ds, Dr, Q1, Lg, Ex3, Op, OpB, OpS. -/
import Derived.Test.YtkafbmanmffliaaGLpo
import Derived.Test.YtkafbmanmffliaaGLpk
import Derived.Test.YtkafbmanmffliaaGLpa
import Derived.Test.YtkafbmanmffliaaGLpm
import Derived.Test.YtkafbmanmffliaaGLpn
import Derived.Test.YtkafbmanmffliaaGLwa
import Derived.WalkKit
import Derived.ProofKit
import Derived.OpenShut
import Derived.ShutString
import Derived.ChangeOld
import Derived.Below
import Derived.SizedLaws
import Derived.Test.YtkafbmanmffliaaProg
set_option linter.unusedVariables false
set_option linter.unusedSimpArgs false
/- The reference's l10DrawOk: a survey, often with errors. -/
namespace Go.Proofs.Ytkafbmanmffliaa.Ds
open Go Go.RowKit YtkafbmanmffliaaW.PrintWords YtkafbmanmffliaaW.PrintLast YtkafbmanmffliaaW.PrintMore Q Hc Gd Ge Gi Dw Dg
structure So (w0 W wz : World) (g bv : Nat) (p : Int) (v : Value) (l : List S32) (N : Int) : Prop where
  src : Sr w0 wz g N
  r0 : wz.heap[W.heap.size]? = some (.cells #[.int .i64 0, .slice none 0 0] 26 (0, 0))
  vb : wz.heap[bv]? = some (.cells #[.int .i64 p, v] 26 (0, 0))
  vg : W.heap.size < bv
  ts : TG w0 W wz v l
  be : Below w0.heap.size w0 wz
  kb : KeepBut W wz g none
  gl : g < W.heap.size
  wl : w0.heap.size ≤ W.heap.size
section
variable {w0 W wz w1 : World} {g bv go cv q i : Nat} {p x : Int} {v : Value} {l : List S32} {N M : Int}
theorem So.call (h : So w0 W wz g bv p v l N) (hs' : Sr w0 w1 g M) (hb : Below w0.heap.size w0 w1) (hk : KeepBut wz w1 g none) : So w0 W w1 g bv p v l M := by
  have h1 := h.gl
  have h2 := h.vg
  exact ⟨hs', hk.blk h.r0 (by omega) (by simp), hk.blk h.vb (by omega) (by simp), h2, Kd.R_keep h.ts hk (fun k hk => by omega), hb, h.kb.trans hk (.inl rfl), h1, h.wl⟩
theorem So.below (h : So w0 W wz g bv p v l N) (hb : Below wz.heap.size wz w1) : So w0 W w1 g bv p v l N :=
  ⟨h.src.below hb, blk_below h.r0 hb, blk_below h.vb hb, h.vg, Kd.R_below h.ts hb, below_step h.be hb, h.kb.trans (KeepBut.of_below hb g none) (.inl rfl), h.gl, h.wl⟩
theorem So.le (h : So w0 W wz g bv p v l N) (hm : N ≤ M) : So w0 W wz g bv p v l M := ⟨h.src.le hm, h.r0, h.vb, h.vg, h.ts, h.be, h.kb, h.gl, h.wl⟩
theorem So.cell2 (h : So w0 W wz g bv p (.slice (some ⟨go, 0, none⟩) l.length cv) l N) (i : Nat) (hi : i < l.length) : wz.cell? ⟨go, i * 4 + 2, none⟩ = some (.int .i64 (rd_T32 l i).f2) ∧ wz.frozen? ⟨go, i * 4 + 2, none⟩ = false := by
  obtain ⟨c, hcl, hM, hcc, hfr⟩ := Kd.R_elem h.ts z32 (i : Int) (by omega) (by omega)
  have hcl2 := k32_openM hM
  have h2 := hcc 2 (.int .i64 (rd_T32 l i).f2) (by rw [hcl2]; rfl)
  have h3 := hfr 2
  rw [Int.toNat_natCast] at h2 h3
  exact ⟨h2, h3⟩
theorem So.put (h : So w0 W wz g bv p (.slice (some ⟨go, 0, none⟩) l.length cv) l N) (i : Nat) (hi : i < l.length) (x : Int) :
    So w0 W (wz.setCell ⟨go, i * 4 + 2, none⟩ (.int .i64 x)) g bv p (.slice (some ⟨go, 0, none⟩) (l.set i ⟨(rd_T32 l i).f0, (rd_T32 l i).f1, x, (rd_T32 l i).f3⟩).length cv) (l.set i ⟨(rd_T32 l i).f0, (rd_T32 l i).f1, x, (rd_T32 l i).f3⟩) N := by
  have g1 := h.gl
  have g2 := h.vg
  have g5 := h.wl
  obtain ⟨c, hcl, hM, hcc, hfr⟩ := Kd.R_elem h.ts z32 (i : Int) (by omega) (by omega)
  have hcl2 := k32_openM hM
  have hS := (Kd.R_seg h.ts (i : Int) (by omega) (by omega) (seg := [.int .i64 x]) (j := 2) hcl hcc (show 3 ≤ 4 by decide) (x' := (⟨(rd_T32 l i).f0, (rd_T32 l i).f1, x, (rd_T32 l i).f3⟩ : S32)) (by rw [hcl2]; exact k32_mkM _ _ _ (⟨(rd_T32 l i).f0, (rd_T32 l i).f1, x, (rd_T32 l i).f3⟩ : S32)) (fun _ hk => hk)).1
  have hgo : W.heap.size ≤ go := h.ts.1 go rfl
  obtain ⟨ls, a_, s_, hI, hI2⟩ := h.src
  have n1 : g ≠ go := fun e => hI.own_ne h.ts (by decide) (by rw [e]; rfl)
  have n2 : W.heap.size ≠ go := fun e => Kd.R_ne h.ts h.r0 (by decide) (by rw [e]; rfl)
  have n3 : bv ≠ go := fun e => Kd.R_ne h.ts h.vb (by decide) (by rw [e]; rfl)
  have e2 : wz.setCells go ((i : Int).toNat * 4 + 2) [.int .i64 x] = wz.setCell ⟨go, i * 4 + 2, none⟩ (.int .i64 x) := by rw [Int.toNat_natCast]; rfl
  have hS2 : TG w0 W (wz.setCell ⟨go, i * 4 + 2, none⟩ (.int .i64 x)) (.slice (some ⟨go, 0, none⟩) l.length cv) (l.set i ⟨(rd_T32 l i).f0, (rd_T32 l i).f1, x, (rd_T32 l i).f3⟩) := by
    rw [← e2]
    rw [Int.toNat_natCast] at hS
    exact hS
  rw [List.length_set]
  exact ⟨Sr.far (p := ⟨go, i * 4 + 2, none⟩) h.src n1 _, blk_far h.r0 n2 _, blk_far h.vb n3 _, g2, hS2, h.be.setCell (p := ⟨go, i * 4 + 2, none⟩) (by show w0.heap.size ≤ go; omega) _, keep_far h.kb (by show W.heap.size ≤ go; omega) _, g1, g5⟩
theorem So.fin {A : Option Addr} (h : So w0 W wz g bv (q : Int) (.slice A l.length cv) l N) :
    ((wz.setCell ⟨W.heap.size, 0, none⟩ (.int .i64 (q : Int))).setCell ⟨W.heap.size, 1, none⟩ (.slice A l.length cv)).heap[W.heap.size]? = some (.cells #[.int .i64 (q : Int), .slice A l.length cv] 26 (0, 0)) ∧
    TG w0 W ((wz.setCell ⟨W.heap.size, 0, none⟩ (.int .i64 (q : Int))).setCell ⟨W.heap.size, 1, none⟩ (.slice A l.length cv)) (.slice A l.length cv) l ∧
    Sr w0 ((wz.setCell ⟨W.heap.size, 0, none⟩ (.int .i64 (q : Int))).setCell ⟨W.heap.size, 1, none⟩ (.slice A l.length cv)) g N ∧
    Below w0.heap.size w0 ((wz.setCell ⟨W.heap.size, 0, none⟩ (.int .i64 (q : Int))).setCell ⟨W.heap.size, 1, none⟩ (.slice A l.length cv)) ∧
    KeepBut W ((wz.setCell ⟨W.heap.size, 0, none⟩ (.int .i64 (q : Int))).setCell ⟨W.heap.size, 1, none⟩ (.slice A l.length cv)) g none :=
  ⟨blk_put (blk_put h.r0 0 (.int .i64 (q : Int)) rfl) 1 (.slice A l.length cv) rfl,
   Kd.R_set (Kd.R_set h.ts h.r0 (by decide) 0 (.int .i64 (q : Int))) (blk_put h.r0 0 (.int .i64 (q : Int)) rfl) (by decide) 1 (.slice A l.length cv),
   (h.src.set (j := 0) h.r0 (by decide) (.int .i64 (q : Int))).set (j := 1) (blk_put h.r0 0 (.int .i64 (q : Int)) rfl) (by decide) (.slice A l.length cv),
   (h.be.setCell (p := ⟨W.heap.size, 0, none⟩) h.wl (.int .i64 (q : Int))).setCell (p := ⟨W.heap.size, 1, none⟩) h.wl (.slice A l.length cv),
   keep_far (keep_far h.kb (p := ⟨W.heap.size, 0, none⟩) (Nat.le_refl _) (.int .i64 (q : Int))) (p := ⟨W.heap.size, 1, none⟩) (Nat.le_refl _) (.slice A l.length cv)⟩
end
def OkEnd (w0 W : World) (g : Nat) (N : Int) (e : Ending) (w' : World) : Prop := ∃ (q : Nat) (l : List S32) (v : Value), e = .returned (.agg #[.int .i64 q, v]) ∧ 2 ≤ q ∧ q ≤ 5 ∧ l.length ≤ 8 ∧ TG w0 W w' v l ∧ Sr w0 w' g (N + 60) ∧ Below w0.heap.size w0 w' ∧ KeepBut W w' g none
set_option maxHeartbeats 8000000 in
set_option maxRecDepth 100000 in
theorem ok_any {w0 W : World} {g : Nat} {N : Int} (hN : N ≤ 400) (hs : Sr w0 W g N) (hB : Below w0.heap.size w0 W) :
    Calls Try.prog 57 #[.pointer (some ⟨g, 0, none⟩)] W (OkEnd w0 W g N) := by
  unfold OkEnd
  have hu26 := Try.underlying26
  have hu32 := Try.underlying32
  have hgl := hs.lt
  have hwl : w0.heap.size ≤ W.heap.size := hB.size
  have hc0 := good_any (by omega) (hs.below (below_alloc (Below.refl _ _) R0)) (below_alloc hB R0)
  have K0 := Aside0.mk (keep_alloc (KeepBut.refl W g none) R0)
  have B0 := Aside0.mk (blk_new W R0)
  clear hs hB
  go_enter Try.func57, Try.ntmps57
  go_wp2_with (fail)
  refine hc0.mono ?_
  rintro e w1 ⟨q, l, hs, v, vh, rfl, hq2, hq5, hl8, -, -, -, hts, -, hs1, hb1, hk1⟩
  have hz1 : W.heap.size + 1 ≤ w1.heap.size := by have := hk1.1; simpa using this
  obtain ⟨A0, c0, rfl⟩ := Kd.R_slice hts
  have hsz : W.heap.size ≤ (W.alloc R0).heap.size := by simp
  have HD0 := Aside0.mk (show So w0 W (w1.alloc (.cells #[.int .i64 (q : Int), .slice A0 l.length c0] 26)) g w1.heap.size q (.slice A0 l.length c0) l (N + 40) by
    have hbb := below_alloc (Below.refl w1.heap.size w1) (.cells #[.int .i64 (q : Int), .slice A0 l.length c0] 26)
    exact ⟨hs1.below hbb, blk_below (hk1.blk B0.out (by omega) (by simp)) hbb, blk_new w1 _, by omega, Kd.R_below (Kd.R_mono hts (fun k hk => Nat.le_trans hsz hk)) hbb, below_step hb1 hbb, (K0.out.trans hk1 (.inl rfl)).trans (KeepBut.of_below hbb g none) (.inl rfl), hgl, hwl⟩)
  obtain ⟨bv, hbv⟩ : ∃ bv, bv = w1.heap.size := ⟨_, rfl⟩
  have hz := one_any 4 (by decide) (by decide) (by omega) HD0.out.src HD0.out.be
  have HL8 := Aside0.mk hl8
  clear hs1 hb1 hk1 hc0 K0 B0 hts hl8 hsz
  go_wp2_with (fail)
  refine hz.mono ?_
  rintro e w2 ⟨b, rfl, hs1, hb1, hk2⟩
  have HD := Aside0.mk (HD0.out.call hs1 hb1 hk2)
  rw [← hbv] at HD ⊢
  clear hz hs1 hb1 hk2 HD0 hbv
  cases b with
  | true =>
    have e1 : w2.cell? ⟨bv, 1, none⟩ = some (.slice A0 l.length c0) := (blk_cell HD.out.vb 1).trans rfl
    have e0 : w2.cell? ⟨bv, 0, none⟩ = some (.int .i64 (q : Int)) := (blk_cell HD.out.vb 0).trans rfl
    have r0 : w2.cell? ⟨W.heap.size, 0, none⟩ = some (.int .i64 0) := (blk_cell HD.out.r0 0).trans rfl
    have r1 : w2.cell? ⟨W.heap.size, 1, none⟩ = some (.slice none 0 0) := (blk_cell HD.out.r0 1).trans rfl
    have f0 := blk_frozen HD.out.r0 0
    have f1 := blk_frozen HD.out.r0 1
    have HF := Aside0.mk (HD.out.fin (q := q))
    go_wp2_with (fail)
    refine bodyPost_ret (results_cell_row rfl _ _ W.heap.size 26 #[.int .i64 (q : Int), .slice A0 l.length c0] (0, 0) _ rfl HF.out.1 hu26 rfl (by kernel_rfl)) rfl ?_
    exact ⟨q, l, _, rfl, hq2, hq5, HL8.out, HF.out.2.1, HF.out.2.2.1.le (by omega), HF.out.2.2.2.1, HF.out.2.2.2.2⟩
  | false =>
    have hz := one_any 2 (by decide) (by decide) (by omega) HD.out.src HD.out.be
    go_wp2_with (fail)
    refine hz.mono ?_
    rintro e w3 ⟨b, rfl, hs1, hb1, hk2⟩
    have HD1 := Aside0.mk (HD.out.call hs1 hb1 hk2)
    clear hz hs1 hb1 hk2 HD
    go_wp2_with (fail)
    go_loopw [6] (fun v6 wz => ∃ (i : Nat) (l : List S32) (v : Value), v6 = .int .i64 (i : Int) ∧ i ≤ l.length ∧ Aside0 (l.length ≤ 8) ∧ Aside0 (So w0 W wz g bv q v l (N + 42 + i))) (fun v wz => 8 - (intOf v).toNat)
    case atStart => exact ⟨0, l, _, rfl, by omega, HL8, ⟨HD1.out.le (by omega)⟩⟩
    case round =>
      clear HD1 HL8
      obtain ⟨i, l, v, rfl, hil, HL8, HD⟩ := hrel
      by_cases hlt : i < l.length
      · obtain ⟨go, cv, rfl, -, -, -⟩ := Kd.R_form HD.out.ts (by omega)
        have p1 : decide ((i : Int) < (l.length : Int)) = true := decide_eq_true (by omega)
        have e1 : wr.cell? ⟨bv, 1, none⟩ = some (.slice (some ⟨go, 0, none⟩) l.length cv) := (blk_cell HD.out.vb 1).trans rfl
        have k1 : (0 ≤ (i : Int)) = True := eq_true (by omega)
        have k2 : ((i : Int) < (l.length : Int)) = True := eq_true (by omega)
        by_cases hbi : b = true ∧ 0 < i
        · obtain ⟨rfl, hi0⟩ := hbi
          have p2 : decide ((i : Int) > 0) = true := decide_eq_true (by omega)
          have p3 : decide (0 < (i : Int)) = true := p2
          have hl8 := HL8.out
          have e1 : wr.cell? ⟨bv, 1, none⟩ = some (.slice (some ⟨go, 0, none⟩) l.length cv) := (blk_cell HD.out.vb 1).trans rfl
          have e0 : wr.cell? ⟨bv, 0, none⟩ = some (.int .i64 (q : Int)) := (blk_cell HD.out.vb 0).trans rfl
          have r0 : wr.cell? ⟨W.heap.size, 0, none⟩ = some (.int .i64 0) := (blk_cell HD.out.r0 0).trans rfl
          have r1 : wr.cell? ⟨W.heap.size, 1, none⟩ = some (.slice none 0 0) := (blk_cell HD.out.r0 1).trans rfl
          have f0 := blk_frozen HD.out.r0 0
          have f1 := blk_frozen HD.out.r0 1
          have HF := Aside0.mk (HD.out.fin (q := q))
          go_wp2_with (fail)
          refine bodyPost_ret (results_cell_row rfl _ _ W.heap.size 26 #[.int .i64 (q : Int), .slice (some ⟨go, 0, none⟩) l.length cv] (0, 0) _ rfl HF.out.1 hu26 rfl (by kernel_rfl)) rfl ?_
          exact ⟨q, l, _, rfl, hq2, hq5, HL8.out, HF.out.2.1, HF.out.2.2.1.le (by omega), HF.out.2.2.2.1, HF.out.2.2.2.2⟩
        · have hpk : b = false ∨ (b = true ∧ decide (0 < (i : Int)) = false ∧ decide (0 < i) = false) := by
            cases b with
            | false => exact .inl rfl
            | true => exact .inr ⟨rfl, decide_eq_false (fun h => hbi ⟨rfl, by omega⟩), decide_eq_false (fun h => hbi ⟨rfl, h⟩)⟩
          have HDw := Aside0.mk (HD.out.below (below_drew (Below.refl wr.heap.size wr)))
          have HPI := Aside0.mk (pick_any 7 (by decide) (by decide) (by have := HL8.out; omega) HDw.out.src HDw.out.be)
          obtain ⟨x2, hx2⟩ : ∃ x2, x2 = (rd_T32 l i).f2 := ⟨_, rfl⟩
          have x2e : wr.cell? ⟨go, i * 4 + 2, none⟩ = some (.int .i64 x2) := by rw [hx2]; exact (HD.out.cell2 i hlt).1
          have XE := Aside0.mk (show some (Value.int .i64 (rd_T32 l i).f2) = some (.int .i64 x2) by rw [hx2])
          clear hx2 hbi
          have hi8 : (i : Int) ≤ 8 := by have := HL8.out; omega
          rcases hpk with rfl | ⟨rfl, p3, p4⟩
          all_goals (
            go_wp2_with (fail)
            refine start_ (n:=13) (S := fun w' => w'.cell? ⟨bv, 1, none⟩ = some (.slice (some ⟨go, 0, none⟩) l.length cv) ∧ w'.cell? ⟨go, i * 4 + 2, none⟩ = some (.int .i64 x2)) (ds:=[12]) #[false,false,false,false,false,false,false,false,false,false,false,false,false] (by kernel_rfl) rfl rfl ⟨e1, x2e⟩ (fun hHeld => ?_)
            refine pure_ (i:=0) (N:=some 29) (v:=?_) (a':=?_) #[true,false,false,false,false,false,false,false,false,false,false,false,false] rfl rfl (by kernel_rfl) (fun _ _ _ h => h) (Or.inl ⟨by rfl, ?_⟩) ?_ ?_
            rotate_left
            · intro w'
              go_simp
              with_reducible rfl
            rotate_left
            · go_simp
              rfl
            refine pure_ (i:=2) (N:=some 31) (v:=?_) (a':=?_) #[true,false,true,false,false,false,false,false,false,false,false,false,false] rfl rfl (by kernel_rfl) (fun _ _ _ h => h) (Or.inl ⟨by rfl, ?_⟩) ?_ ?_
            rotate_left
            · intro w'
              go_simp
              with_reducible rfl
            rotate_left
            · go_simp
              rfl
            refine pure_ (i:=6) (N:=some 35) (v:=?_) (a':=?_) #[true,false,true,false,false,false,true,false,false,false,false,false,false] rfl rfl (by kernel_rfl) (fun _ _ _ h => h) (Or.inl ⟨by rfl, ?_⟩) ?_ ?_
            rotate_left
            · intro w'
              go_simp
              with_reducible rfl
            rotate_left
            · go_simp
              rfl
            refine take_ (i:=1) (N:=some 30) (v:=?_) (a':=?_) #[true,true,true,false,false,false,true,false,false,false,false,false,false] rfl rfl (by kernel_rfl) (fun _ _ _ h => h) (Or.inl ⟨by rfl, ?_⟩) hHeld ?_ ?_
            rotate_left
            · rintro w' ⟨s0, s1⟩
              go_simp
              with_reducible rfl
            rotate_left
            · go_simp
              rfl
            refine pure_ (i:=3) (N:=some 32) (v:=?_) (a':=?_) #[true,true,true,true,false,false,true,false,false,false,false,false,false] rfl rfl (by kernel_rfl) (fun _ _ _ h => h) (Or.inl ⟨by rfl, ?_⟩) ?_ ?_
            rotate_left
            · intro w'
              go_simp
              with_reducible rfl
            rotate_left
            · go_simp
              rfl
            refine pure_ (i:=4) (N:=some 33) (v:=?_) (a':=?_) #[true,true,true,true,true,false,true,false,false,false,false,false,false] rfl rfl (by kernel_rfl) (fun _ _ _ h => h) (Or.inl ⟨by rfl, ?_⟩) ?_ ?_
            rotate_left
            · intro w'
              go_simp
              with_reducible rfl
            rotate_left
            · go_simp
              rfl
            refine take_ (i:=5) (N:=some 34) (v:=?_) (a':=?_) #[true,true,true,true,true,true,true,false,false,false,false,false,false] rfl rfl (by kernel_rfl) (fun _ _ _ h => h) (Or.inl ⟨by rfl, ?_⟩) hHeld ?_ ?_
            rotate_left
            · rintro w' ⟨s0, s1⟩
              go_simp
              with_reducible rfl
            rotate_left
            · go_simp
              rfl
            refine one_ (i:=7) (N:=some 36) #[true,true,true,true,true,true,true,true,false,false,false,false,false] rfl rfl (by kernel_rfl) (by decide) (fun K_ hK => ?_)
            refine goes_ Try.func97 (by kernel_rfl) rfl #[.pointer (some ⟨g, 0, none⟩), .int .i64 7] (by rfl) rfl rfl (by (try simp only [List.map_toArray, List.map_cons, List.map_nil]); first | done | rfl) ?_
            refine HPI.out.mono ?_
            rintro e w5 ⟨y, rfl, y0, y1, hs5, hb5, hk5⟩
            have HD5 := Aside0.mk (HDw.out.call hs5 hb5 hk5)
            clear hs5 hb5 hk5
            have hfz := HD5.out.cell2 i hlt
            have hfy := hfz.2
            refine ⟨_, rfl, ?_⟩
            refine hK.out _ _ ⟨(blk_cell HD5.out.vb 1).trans rfl, hfz.1.trans XE.out⟩ (fun hHeld => ?_)
            clear hK K_ hfz
            refine norm_ (a':=?_) ?_ ?_
            rotate_left
            · show Act.put _ (some 36) _ = _
              go_simp
              rfl
            refine pure_ (i:=8) (N:=some 37) (v:=?_) (a':=?_) #[true,true,true,true,true,true,true,true,true,false,false,false,false] rfl rfl (by kernel_rfl) (fun _ _ _ h => h) (Or.inl ⟨by rfl, ?_⟩) ?_ ?_
            rotate_left
            · intro w'
              go_simp
              with_reducible rfl
            rotate_left
            · go_simp
              rfl
            refine pure_ (i:=9) (N:=some 38) (v:=?_) (a':=?_) #[true,true,true,true,true,true,true,true,true,true,false,false,false] rfl rfl (by kernel_rfl) (fun _ _ _ h => h) (Or.inl ⟨by rfl, ?_⟩) ?_ ?_
            rotate_left
            · intro w'
              go_simp
              with_reducible rfl
            rotate_left
            · go_simp
              rfl
            refine pure_ (i:=10) (N:=some 39) (v:=?_) (a':=?_) #[true,true,true,true,true,true,true,true,true,true,true,false,false] rfl rfl (by kernel_rfl) (fun _ _ _ h => h) (Or.inl ⟨by rfl, ?_⟩) ?_ ?_
            rotate_left
            · intro w'
              go_simp
              with_reducible rfl
            rotate_left
            · go_simp
              rfl
            refine pure_ (i:=11) (N:=some 40) (v:=?_) (a':=?_) #[true,true,true,true,true,true,true,true,true,true,true,true,false] rfl rfl (by kernel_rfl) (fun _ _ _ h => h) (Or.inl ⟨by rfl, ?_⟩) ?_ ?_
            rotate_left
            · intro w'
              go_simp
              with_reducible rfl
            rotate_left
            · go_simp
              rfl
            refine last_ (i:=12) (N:=none) #[true,true,true,true,true,true,true,true,true,true,true,true,true] rfl rfl (by kernel_rfl) (by decide) (fun K_ hK => ?_)
            refine skip_ (w1 := ?_) (by rfl) rfl ?_ ?_
            rotate_left
            · go_simp
              rfl
            refine hK.out _ _ ?_
            clear hK K_
            refine done_ (by kernel_rfl) ?_
            clear hHeld
            go_wp2_with (fail)
            go_roundw
            case rel => exact ⟨i + 1, _, _, by go_num, by simp; omega, ⟨by have := HL8.out; simpa using this⟩, ⟨(HD5.out.put i hlt _).le (by omega)⟩⟩
            case measure => have := HL8.out; simp [intOf]; omega)
      · obtain rfl : i = l.length := by omega
        have p1 : decide ((l.length : Int) < (l.length : Int)) = false := decide_eq_false (by omega)
        have hl8 := HL8.out
        obtain ⟨Az, cz, rfl⟩ := Kd.R_slice HD.out.ts
        have e1 : wr.cell? ⟨bv, 1, none⟩ = some (.slice Az l.length cz) := (blk_cell HD.out.vb 1).trans rfl
        have e0 : wr.cell? ⟨bv, 0, none⟩ = some (.int .i64 (q : Int)) := (blk_cell HD.out.vb 0).trans rfl
        have r0 : wr.cell? ⟨W.heap.size, 0, none⟩ = some (.int .i64 0) := (blk_cell HD.out.r0 0).trans rfl
        have r1 : wr.cell? ⟨W.heap.size, 1, none⟩ = some (.slice none 0 0) := (blk_cell HD.out.r0 1).trans rfl
        have f0 := blk_frozen HD.out.r0 0
        have f1 := blk_frozen HD.out.r0 1
        have HF := Aside0.mk (HD.out.fin (q := q))
        go_wp2_with (fail)
        refine bodyPost_ret (results_cell_row rfl _ _ W.heap.size 26 #[.int .i64 (q : Int), .slice Az l.length cz] (0, 0) _ rfl HF.out.1 hu26 rfl (by kernel_rfl)) rfl ?_
        exact ⟨q, l, _, rfl, hq2, hq5, HL8.out, HF.out.2.1, HF.out.2.2.1.le (by omega), HF.out.2.2.2.1, HF.out.2.2.2.2⟩
end Go.Proofs.Ytkafbmanmffliaa.Ds

/- The laws' surveys: valid and connected. -/
namespace Go.Proofs.Ytkafbmanmffliaa.Dr
open Go Go.RowKit YtkafbmanmffliaaW.PrintWords YtkafbmanmffliaaW.PrintLast YtkafbmanmffliaaW.PrintMore Q Hc Hf Gd Ge Gi Dw Dg Ds
set_option maxHeartbeats 4000000 in
theorem whole_any (g : Nat) (pts : Int) (A : Option Addr) (c : Nat) (l : List S32) (w : World) (hb : w.heap[g]? = some (.cells #[.int .i64 pts, .slice A l.length c] 26 (0, 0))) (hr : Kd.C k32 w A l.length l) :
  Calls Try.prog 58 #[.pointer (some ⟨g, 0, none⟩)] w fun e w' => e = .returned (.bool (Gm.connB pts l)) ∧ Below w.heap.size w w' := by
 have hc0 := Hb.l10Is_any g pts A c l w hb hr
 have HR := Aside0.mk hr
 have HB := Aside0.mk hb
 clear hr hb
 by_cases hv : Hb.surveyB pts l = true
 ·have HC := Aside0.mk (show Gm.connB pts l = (Hd.treeS pts l).part.all (· == 0) by unfold Gm.connB; rw [hv, Bool.true_and])
  have HV := Aside0.mk hv
  rw [hv] at hc0
  rw [HC.out]
  clear hv
  go_enter Try.func58, Try.ntmps58
  go_wp2_with (fail)
  refine hc0.mono ?_
  rintro e w1 ⟨rfl, hb1⟩
  have hz := Hd.l10Tree_any g pts A c l w1 (blk_below HB.out hb1) (Kd.C_below HR.out hb1) HV.out
  have HB1 := Aside0.mk hb1
  clear hc0 hb1
  go_wp2_with (fail)
  refine hz.mono ?_
  rintro e w2 ⟨v0, v1, ok, rfl, hok, -, -, -, hb2⟩
  have HB2 := Aside0.mk (below_step HB1.out hb2)
  clear hz hb2
  go_wp2_with (fail)
  go_ret
  exact ⟨rfl, HB2.out⟩
 ·have hv' : Hb.surveyB pts l = false := by simpa using hv
  have HC := Aside0.mk (show Gm.connB pts l = false by unfold Gm.connB; rw [hv', Bool.false_and])
  rw [hv'] at hc0
  rw [HC.out]
  clear hv hv'
  go_enter Try.func58, Try.ntmps58
  go_wp2_with (fail)
  refine hc0.mono ?_
  rintro e w1 ⟨rfl, hb1⟩
  have HB1 := Aside0.mk hb1
  clear hc0 hb1
  go_wp2_with (fail)
  go_ret
  exact ⟨rfl, HB1.out⟩
def star (f : Nat → Int) (x : Int) (m : Nat) : List S32 := (List.range m).map fun j : Nat => ⟨0, (j : Int) + 1, f (j + 1), x⟩
theorem star_len (f : Nat → Int) (x : Int) (m : Nat) : (star f x m).length = m := by simp [star]
theorem star_succ (f : Nat → Int) (x : Int) (m : Nat) : star f x (m + 1) = star f x m ++ [⟨0, (m : Int) + 1, f (m + 1), x⟩] := by simp [star, List.range_succ]
theorem star_part (f : Nat → Int) (x : Int) (q : Nat) (h2 : 2 ≤ q) (h5 : q ≤ 5) : (Hd.treeS (q : Int) (star f x (q - 1))).part.all (· == 0) = true := by
 have hq : q = 2 ∨ q = 3 ∨ q = 4 ∨ q = 5 := by omega
 rcases hq with rfl | rfl | rfl | rfl <;> rfl
theorem star_conn (f : Nat → Int) (x : Int) (q : Nat) (h2 : 2 ≤ q) (h5 : q ≤ 5) (hf : ∀ j, -100 ≤ f j ∧ f j ≤ 100) (hx : 1 ≤ x) (hx3 : x ≤ 3) : Gm.connB (q : Int) (star f x (q - 1)) = true := by
 unfold Gm.connB
 rw [star_part f x q h2 h5, Bool.and_true]
 unfold Hb.surveyB
 rw [star_len]
 simp only [Bool.and_eq_true, decide_eq_true_eq, List.all_eq_true]
 refine ⟨⟨by unfold Ha.inB; simp; omega, by omega⟩, fun s hs => ?_⟩
 obtain ⟨j, hj, rfl⟩ := List.mem_map.1 hs
 have hj := List.mem_range.1 hj
 have hfj := hf (j + 1)
 have hw : wrap64 ((q : Int) - 1) = q - 1 := wrap_id (by omega) (by omega)
 unfold Hb.sightB
 rw [hw]
 simp [Ha.inB]
 omega
structure Sk (w wz : World) (bv : Nat) (p : Int) (v : Value) (l : List S32) : Prop where
 r0 : wz.heap[w.heap.size]? = some (.cells #[.int .i64 0, .slice none 0 0] 26 (0, 0))
 vb : wz.heap[bv]? = some (.cells #[.int .i64 p, v] 26 (0, 0))
 vg : w.heap.size < bv
 ts : TS w.heap.size wz v l
 be : Below w.heap.size w wz
section
variable {w wz w1 w2 : World} {bv cv q : Nat} {p : Int} {v v1 : Value} {l : List S32} {s : S32}
theorem Sk.below (h : Sk w wz bv p v l) (hb : Below wz.heap.size wz w1) : Sk w w1 bv p v l :=
 ⟨blk_below h.r0 hb, blk_below h.vb hb, h.vg, Kd.R_below h.ts hb, below_step h.be hb⟩
theorem Sk.push (h : Sk w wz bv p v l) (h1 : TS w.heap.size w2 v1 (l ++ [s])) (hg : wz.grownBy w2 v.ownBlock) : Sk w (w2.setCell ⟨bv, 1, none⟩ v1) bv p v1 (l ++ [s]) := by
 have g2 := h.vg
 have vb := blk_grown h.vb hg (Kd.R_ne h.ts h.vb (by decide))
 have hbe : Below w.heap.size w w2 := by
  cases hv : v.ownBlock with
  | none => rw [hv] at hg; exact below_step h.be ⟨hg.os, hg.tape, hg.output, hg.size, fun k hk => hg.block k hk (by simp)⟩
  | some b => rw [hv] at hg; exact below_grownB h.be (Nat.le_refl _) hg ((Kd.R_bound h.ts).1 b hv).2.1
 exact ⟨blk_far (blk_grown h.r0 hg (Kd.R_ne h.ts h.r0 (by decide))) (by show w.heap.size ≠ bv; omega) _, blk_put vb 1 v1 rfl, g2, Kd.R_set h1 vb (by decide) 1 v1, hbe.setCell (p := ⟨bv, 1, none⟩) (by show w.heap.size ≤ bv; omega) _⟩
theorem Sk.put (h : Sk w wz bv p v l) (l1 : List S32) (h1 : TS w.heap.size wz v1 l1) : Sk w (wz.setCell ⟨bv, 1, none⟩ v1) bv p v1 l1 := by
 have g2 := h.vg
 exact ⟨blk_far h.r0 (by show w.heap.size ≠ bv; omega) _, blk_put h.vb 1 v1 rfl, g2, Kd.R_set h1 h.vb (by decide) 1 v1, h.be.setCell (p := ⟨bv, 1, none⟩) (by show w.heap.size ≤ bv; omega) _⟩
theorem Sk.fin {A : Option Addr} (h : Sk w wz bv (q : Int) (.slice A l.length cv) l) :
  ((wz.setCell ⟨w.heap.size, 0, none⟩ (.int .i64 (q : Int))).setCell ⟨w.heap.size, 1, none⟩ (.slice A l.length cv)).heap[w.heap.size]? = some (.cells #[.int .i64 (q : Int), .slice A l.length cv] 26 (0, 0)) ∧
  TS w.heap.size ((wz.setCell ⟨w.heap.size, 0, none⟩ (.int .i64 (q : Int))).setCell ⟨w.heap.size, 1, none⟩ (.slice A l.length cv)) (.slice A l.length cv) l ∧
  Below w.heap.size w ((wz.setCell ⟨w.heap.size, 0, none⟩ (.int .i64 (q : Int))).setCell ⟨w.heap.size, 1, none⟩ (.slice A l.length cv)) :=
 ⟨blk_put (blk_put h.r0 0 (.int .i64 (q : Int)) rfl) 1 (.slice A l.length cv) rfl,
  Kd.R_set (Kd.R_set h.ts h.r0 (by decide) 0 (.int .i64 (q : Int))) (blk_put h.r0 0 (.int .i64 (q : Int)) rfl) (by decide) 1 (.slice A l.length cv),
  (h.be.setCell (p := ⟨w.heap.size, 0, none⟩) (Nat.le_refl _) (.int .i64 (q : Int))).setCell (p := ⟨w.heap.size, 1, none⟩) (Nat.le_refl _) (.slice A l.length cv)⟩
theorem ts_nil (hB : w.heap.size ≤ w1.heap.size) : TS w.heap.size (w1.alloc (.cells #[] 32)) (.slice (some ⟨w1.heap.size, 0, none⟩) 0 0) [] := Kd.R_mono (tg_nil (w0 := w) (W := w) w1 hB hB) (fun _ _ => trivial)
end
def SurveyEnd (w : World) (e : Ending) (w' : World) : Prop := ∃ (p : Int) (l : List S32) (v : Value), e = .returned (.agg #[.int .i64 p, v]) ∧ Gm.connB p l = true ∧ TS w.heap.size w' v l ∧ Below w.heap.size w w'
set_option maxHeartbeats 8000000 in
set_option maxRecDepth 100000 in
theorem survey_any (code : List Int) (hb : ∀ b ∈ code, 0 ≤ b ∧ b ≤ 255) (A : Option Addr) (c : Nat) (w : World) (hr : Kd.C (Kd.int .u8) w A code.length code) (hc : code.length ≤ c) :
  Calls Try.prog 18 #[.slice A code.length c] w (SurveyEnd w) := by
 unfold SurveyEnd
 have hu26 := Try.underlying26
 have hu32 := Try.underlying32
 have hc0 := spec_l00From.calls A c code code 0 0 w (w.alloc R0) (below_alloc (Below.refl _ _) R0) hr hc rfl
 have B0 := Aside0.mk (blk_new w R0)
 have HBY := Aside0.mk hb
 clear hr hc hb
 go_enter Try.func18, Try.ntmps18
 go_wp2_with (fail)
 refine hc0.mono ?_
 rintro e w1 ⟨g, rfl, hI, hb1, hb2⟩
 have hsr : Sr w w1 g 0 := ⟨code, 0, 0, hI, HBY.out, Int.le_refl _, Int.le_refl _⟩
 have B1 := Aside0.mk (blk_below B0.out hb2)
 have hne : g ≠ w.heap.size := hsr.ne_blk B1.out (by decide)
 have hz := ok_any (by decide) hsr hb1
 have HB1 := Aside0.mk hb1
 clear hc0 hI hb1 hb2 B0 hsr
 go_wp2_with (fail)
 refine hz.mono ?_
 rintro e w2 ⟨q, l, v, rfl, hq2, hq5, hl8, hts, -, hb2, hk2⟩
 have hts2 : TS w.heap.size w2 v l := Kd.R_mono hts (fun _ _ => trivial)
 have B2 := hk2.blk B1.out (fun e => hne e.symm) (by simp)
 have hlt := blk_lt B2
 obtain ⟨A0, c0, rfl⟩ := Kd.R_slice hts2
 have HD := Aside0.mk (show Sk w (w2.alloc (.cells #[.int .i64 (q : Int), .slice A0 l.length c0] 26)) w2.heap.size q (.slice A0 l.length c0) l by
  have hbb := below_alloc (Below.refl w2.heap.size w2) (.cells #[.int .i64 (q : Int), .slice A0 l.length c0] 26)
  exact ⟨blk_below B2 hbb, blk_new w2 _, hlt, Kd.R_below hts2 hbb, below_step hb2 hbb⟩)
 have hw := whole_any w2.heap.size (q : Int) A0 c0 l _ HD.out.vb (Kd.R_reads' HD.out.ts).2.2
 obtain ⟨bv, hbv⟩ : ∃ bv, bv = w2.heap.size := ⟨_, rfl⟩
 clear hz hts hts2 hb2 hk2 B1 B2 hne hlt HB1
 go_wp2_with (fail)
 refine hw.mono ?_
 rintro e w3 ⟨rfl, hb3⟩
 have HD1 := Aside0.mk (HD.out.below hb3)
 rw [← hbv] at HD1 ⊢
 clear hb3 HD hw hbv
 obtain ⟨cb, hcb⟩ : ∃ cb, cb = Gm.connB (q : Int) l := ⟨_, rfl⟩
 rw [← hcb]
 have HCB := Aside0.mk hcb
 clear hcb
 cases cb with
 | true =>
  have HF := Aside0.mk HD1.out.fin
  have e1 : w3.cell? ⟨bv, 1, none⟩ = some (.slice A0 l.length c0) := (blk_cell HD1.out.vb 1).trans rfl
  have e0 : w3.cell? ⟨bv, 0, none⟩ = some (.int .i64 (q : Int)) := (blk_cell HD1.out.vb 0).trans rfl
  have r0 : w3.cell? ⟨w.heap.size, 0, none⟩ = some (.int .i64 0) := (blk_cell HD1.out.r0 0).trans rfl
  have r1 : w3.cell? ⟨w.heap.size, 1, none⟩ = some (.slice none 0 0) := (blk_cell HD1.out.r0 1).trans rfl
  have f0 := blk_frozen HD1.out.r0 0
  have f1 := blk_frozen HD1.out.r0 1
  go_wp2_with (fail)
  refine bodyPost_ret (results_cell_row rfl _ _ w.heap.size 26 #[.int .i64 (q : Int), .slice A0 l.length c0] (0, 0) _ rfl HF.out.1 hu26 rfl (by kernel_rfl)) rfl ?_
  exact ⟨q, l, _, rfl, HCB.out.symm, HF.out.2.1, HF.out.2.2⟩
 | false =>
  have HD2 := Aside0.mk ((HD1.out.below (below_alloc (Below.refl _ _) (.cells #[] 32))).put [] (ts_nil HD1.out.be.size))
  have e1 : w3.cell? ⟨bv, 1, none⟩ = some (.slice A0 l.length c0) := (blk_cell HD1.out.vb 1).trans rfl
  have f1 := blk_frozen HD1.out.vb 1
  have hlt := blk_lt HD1.out.vb
  rw [World.setCell_alloc_past _ _ _ _ hlt] at HD2
  clear HD1
  go_wp2_with (fail)
  clear e1 f1
  go_loopw [5] (fun v5 wz => ∃ (k : Nat) (v : Value), v5 = .int .i64 ((k : Int) + 1) ∧ k + 1 ≤ q ∧ Aside0 (Sk w wz bv q v (star (fun j => (j : Int)) 1 k))) (fun v _ => q - (intOf v).toNat)
  case atStart => exact ⟨0, _, rfl, by omega, HD2⟩
  case round =>
   clear HD2 hlt
   obtain ⟨k, v, rfl, hkq, HD⟩ := hrel
   obtain ⟨Av, cv, rfl⟩ := Kd.R_slice HD.out.ts
   have e0 : wr.cell? ⟨bv, 0, none⟩ = some (.int .i64 (q : Int)) := (blk_cell HD.out.vb 0).trans rfl
   have e1 : wr.cell? ⟨bv, 1, none⟩ = some (.slice Av (star (fun j => (j : Int)) 1 k).length cv) := (blk_cell HD.out.vb 1).trans rfl
   have hlen := star_len (fun j => (j : Int)) 1 k
   obtain ⟨ls, hls⟩ : ∃ ls, ls = star (fun j => (j : Int)) 1 k := ⟨_, rfl⟩
   have HS := Aside0.mk (show star (fun j => (j : Int)) 1 (k + 1) = star (fun j => (j : Int)) 1 k ++ [⟨0, (k : Int) + 1, (k : Int) + 1, 1⟩] from star_succ (fun j => (j : Int)) 1 k)
   rw [← hls] at HD e1 hlen HS
   have HLS := Aside0.mk hls
   have HLN := Aside0.mk (show (ls.length + 1) * 32 ≤ 140737488355328 by omega)
   clear hls hlen
   by_cases hlt : k + 1 < q
   ·have p1 : decide ((k : Int) + 1 < (q : Int)) = true := decide_eq_true (by omega)
    go_wp2_with ((with_reducible refine gate_builtin (b := .append) (xs := #[.tmp 21, .tmp 25]) rfl ?_); at_builtin; refine Kd.R_append k32 (w0 := w) w.heap.size rfl (.tmp 21) (.tmp 25) 24 32 (.agg #[.int .i64 0, .int .i64 0, .int .i64 0, .int .i64 0]) 32 rfl Try.underlying24 info32 rfl (by decide) (by decide) (.slice Av ls.length cv) ls ⟨0, (k : Int) + 1, (k : Int) + 1, 1⟩ [.int .i64 0, .int .i64 ((k : Int) + 1), .int .i64 ((k : Int) + 1), .int .i64 1] (fun _ => True) (fun _ => False) rfl rfl (k32_mkM _ _ _ _) (fun _ hk => hk.elim) (fun _ hk => trivial) HD.out.ts HD.out.be HD.out.be.size HLN.out ?_; intro v1 w5 h1 h2 h3 h4; obtain ⟨A1, c1, rfl⟩ := Kd.R_slice h1; have HD7 := Aside0.mk (HD.out.push h1 h3); have VB7 := blk_grown HD.out.vb h3 (Kd.R_ne HD.out.ts HD.out.vb (by decide)); have q1 : w5.cell? ⟨bv, 1, none⟩ = some (.slice Av ls.length cv) := (blk_cell VB7 1).trans rfl; have q2 := blk_frozen VB7 1; clear h1 h2 h3 h4 VB7 e0 e1)
    go_roundw
    case rel => exact ⟨k + 1, _, by go_num, by omega, ⟨by have h := HD7.out; rw [List.length_append, List.length_singleton] at h; rw [HS.out]; exact h⟩⟩
    case measure => simp [intOf]; omega
   ·have p1 : decide ((k : Int) + 1 < (q : Int)) = false := decide_eq_false (by omega)
    have hkq2 : k = q - 1 := by omega
    have hcn := star_conn (fun j => if j ≤ 100 then (j : Int) else 0) 1 q hq2 hq5 (fun j => by show -100 ≤ (if j ≤ 100 then (j : Int) else 0) ∧ (if j ≤ 100 then (j : Int) else 0) ≤ 100; split <;> omega) (by decide) (by decide)
    have HCN := Aside0.mk (show Gm.connB (q : Int) ls = true by
     rw [HLS.out, hkq2]
     have e : star (fun j => (j : Int)) 1 (q - 1) = star (fun j => if j ≤ 100 then (j : Int) else 0) 1 (q - 1) := by
      unfold star
      refine List.map_congr_left (fun j hj => ?_)
      have := List.mem_range.1 hj
      show (⟨0, (j : Int) + 1, ((j + 1 : Nat) : Int), 1⟩ : S32) = ⟨0, (j : Int) + 1, if j + 1 ≤ 100 then ((j + 1 : Nat) : Int) else 0, 1⟩
      rw [if_pos (by omega)]
     rw [e]
     exact hcn)
    have HF := Aside0.mk HD.out.fin
    have r0 : wr.cell? ⟨w.heap.size, 0, none⟩ = some (.int .i64 0) := (blk_cell HD.out.r0 0).trans rfl
    have r1 : wr.cell? ⟨w.heap.size, 1, none⟩ = some (.slice none 0 0) := (blk_cell HD.out.r0 1).trans rfl
    have f0 := blk_frozen HD.out.r0 0
    have f1 := blk_frozen HD.out.r0 1
    clear hkq2 hcn
    go_wp2_with (fail)
    refine bodyPost_ret (results_cell_row rfl _ _ w.heap.size 26 #[.int .i64 (q : Int), .slice Av ls.length cv] (0, 0) _ rfl HF.out.1 hu26 rfl (by kernel_rfl)) rfl ?_
    exact ⟨q, ls, _, rfl, HCN.out, HF.out.2.1, HF.out.2.2⟩
end Go.Proofs.Ytkafbmanmffliaa.Dr

namespace Go.Proofs.Ytkafbmanmffliaa.Q
open Go.RowKit YtkafbmanmffliaaW.PrintWords YtkafbmanmffliaaW.PrintLast YtkafbmanmffliaaW.PrintMore
attribute [local go_sem] max2_int min2_int max_two min_two max_three min_three max_four min_four
def laws_r8Long.f (l0 : List Int) (l1 : List Int) : Option (Bool) := if (l0.length : Int) > 48 then (some true) else (some (decide ((l1.length : Int) > 48)))
set_option maxHeartbeats 8000000 in
set_option maxRecDepth 100000 in
theorem laws_r8Long.calls (A0 : Option Addr) (c0 : Nat) (l0 : List Int) (A1 : Option Addr) (c1 : Nat) (l1 : List Int) (r : Bool) (w : World) (hr0 : Kd.C (Kd.int .u8) w A0 l0.length l0) (hc0 : l0.length ≤ c0) (hr1 : Kd.C (Kd.int .u8) w A1 l1.length l1) (hc1 : l1.length ≤ c1) (h : laws_r8Long.f l0 l1 = some r) :
  Calls Try.prog 17 #[.slice A0 l0.length c0, .slice A1 l1.length c1] w fun e w' => e = .returned (.bool r) ∧ Drawn0 w w' := by
 have HR0 := Aside0.mk hr0
 have HC0 := Aside0.mk hc0
 clear hr0 hc0
 have HR1 := Aside0.mk hr1
 have HC1 := Aside0.mk hc1
 clear hr1 hc1
 have H : (if (l0.length : Int) > 48 then (some true) else (some (decide ((l1.length : Int) > 48)))) = some r := h
 clear h
 by_cases c3 : (l0.length : Int) > 48
 ·rw [if_pos c3] at H
  have c3b0 : decide (48 < (l0.length : Int)) = true := decide_eq_true c3
  have c3b1 : decide (48 < l0.length) = true := decide_eq_true (by omega)
  clear c3
  obtain rfl := Option.some.inj H
  go_enter Try.func17, Try.ntmps17
  go_wp2
  go_ret
  exact ⟨by first | rfl | (simp; done) | (simp [*]; done), by repeat (first | exact Drawn0.refl _ | apply Drawn0.step)⟩
 ·rw [if_neg c3] at H
  have c3b0 : decide (48 < (l0.length : Int)) = false := decide_eq_false c3
  have c3b1 : decide (48 < l0.length) = false := decide_eq_false (by omega)
  clear c3
  obtain rfl := Option.some.inj H
  go_enter Try.func17, Try.ntmps17
  go_wp2
  go_ret
  exact ⟨by first | rfl | (simp; done) | (simp [*]; done), by repeat (first | exact Drawn0.refl _ | apply Drawn0.step)⟩
end Go.Proofs.Ytkafbmanmffliaa.Q

/- What the laws over drawn surveys share. -/
namespace Go.Proofs.Ytkafbmanmffliaa.Lg
open Go Go.RowKit YtkafbmanmffliaaW.PrintWords YtkafbmanmffliaaW.PrintLast YtkafbmanmffliaaW.PrintMore Q Hc
theorem long_any (A : Option Addr) (c : Nat) (code : List Int) (A2 : Option Addr) (c2 : Nat) (more : List Int) (w : World) (hr : Kd.C (Kd.int .u8) w A code.length code) (hc : code.length ≤ c) (hr2 : Kd.C (Kd.int .u8) w A2 more.length more) (hc2 : more.length ≤ c2) :
  ∃ b : Bool, (b = false → code.length ≤ 48 ∧ more.length ≤ 48) ∧ Calls Try.prog 17 #[.slice A code.length c, .slice A2 more.length c2] w fun e w' => e = .returned (.bool b) ∧ Drawn0 w w' := by
 by_cases h : (code.length : Int) > 48
 ·exact ⟨true, (fun e => by cases e), laws_r8Long.calls A c code A2 c2 more true w hr hc hr2 hc2 (by unfold laws_r8Long.f; rw [if_pos h])⟩
 ·exact ⟨decide ((more.length : Int) > 48), (fun e => by have := of_decide_eq_false e; omega), laws_r8Long.calls A c code A2 c2 more _ w hr hc hr2 hc2 (by unfold laws_r8Long.f; rw [if_neg h])⟩
theorem T.formn {B : Nat} {W : World} {v : Value} {xs : List Int} {m : Nat} (h : T B W v xs) (hm : xs.length = m) (h0 : 0 < m) : ∃ g cap, v = .slice (some ⟨g, 0, none⟩) m cap := by
 obtain ⟨g, cap, he, -, -⟩ := T.form h (by omega)
 exact ⟨g, cap, by rw [he, hm]⟩
end Go.Proofs.Ytkafbmanmffliaa.Lg

/- The program's SquareSumOf: what it returns. -/
namespace Go.Proofs.Ytkafbmanmffliaa.Ex3
open Go Go.RowKit YtkafbmanmffliaaW.PrintWords YtkafbmanmffliaaW.PrintLast YtkafbmanmffliaaW.PrintMore Q Bg Ka Gz
def part (n : Nat) (l : List S32) (i : Nat) : Rat := sm (sqr n l) (l.take i)
end Go.Proofs.Ytkafbmanmffliaa.Ex3

/- How a value that came in is told by the kinds (Kd): what its reading as data says of its cells. -/
namespace Go.Proofs.Ytkafbmanmffliaa.Op
open Go.RowKit Go.ChangeShapes Go.WideShapes Go.ChangeAt YtkafbmanmffliaaW.PrintWords
def Opens {α : Type} (P : Program) (w : World) (t : TypeId) (d : Kd α) (Ok : α → Prop) : Prop :=
 ∀ (H : Type) (enc : TypeId × Value → H) (fuel : Nat) (cs : List Value) (x : DataW H × List MemPlace), DataW.trod enc P w 0 (fun _ => true) true fuel t cs = some x → ∃ a, d.K w a cs ∧ Ok a
def In64 (n : Int) : Prop := -9223372036854775808 ≤ n ∧ n ≤ 9223372036854775807
variable {P : Program} {w : World} {t e : TypeId} {α β : Type} {d : Kd α} {d2 : Kd β} {Ok : α → Prop} {Ok2 : β → Prop}
theorem mapM_cells {w : World} {a : Addr} : ∀ (n k : Nat) (cs : List Value), ((List.range' k n).mapM fun i => w.cell? (a.add i)) = some cs → cs.length = n ∧ ∀ i u, cs[i]? = some u → w.cell? (a.add (k + i)) = some u := by
 intro n
 induction n with
 | zero => intro k cs h; simp at h; subst h; simp
 | succ n ih =>
  intro k cs h
  rw [List.range'_succ, List.mapM_cons] at h
  simp only [bind, Option.bind_eq_some_iff, pure, Option.some.injEq] at h
  obtain ⟨u, hu, us, hus, rfl⟩ := h
  obtain ⟨h1, h2⟩ := ih (k + 1) us hus
  refine ⟨by simp [h1], ?_⟩
  intro i v hv
  cases i with
  | zero => simp at hv; subst hv; simpa using hu
  | succ i => rw [show k + (i + 1) = k + 1 + i by omega]; exact h2 i v (by simpa using hv)
theorem cells_get {w : World} {b n : Nat} {a : Addr} {cs : List Value} (h : w.cells? b a n = some cs) : cs.length = n ∧ ∀ i u, cs[i]? = some u → w.cell? (a.add i) = some u := by
 unfold World.cells? at h
 split at h
 ·rw [List.range_eq_range'] at h
  obtain ⟨h1, h2⟩ := mapM_cells n 0 cs h
  exact ⟨h1, fun i u hu => by have := h2 i u hu; rwa [Nat.zero_add] at this⟩
 ·simp at h
theorem choose_list {α : Type} {R : Nat → α → Prop} : ∀ n : Nat, (∀ j, j < n → ∃ a, R j a) → ∃ l : List α, l.length = n ∧ ∀ j a, l[j]? = some a → R j a := by
 intro n
 induction n with
 | zero => intro _; exact ⟨[], rfl, by simp⟩
 | succ n ih =>
  intro h
  obtain ⟨l, hl, hR⟩ := ih fun j hj => h j (by omega)
  obtain ⟨a, ha⟩ := h n (by omega)
  refine ⟨l ++ [a], by simp [hl], ?_⟩
  intro j b hb
  by_cases hj : j < n
  ·rw [List.getElem?_append_left (by omega)] at hb; exact hR j b hb
  ·rw [List.getElem?_append_right (by omega)] at hb
   have : j = n := by
    have := (List.getElem?_eq_some_iff.1 hb).1
    simp at this; omega
   subst this
   rw [hl, Nat.sub_self] at hb
   simp at hb; subst hb; exact ha
theorem add_add' (a : Addr) (i j : Nat) : (a.add i).add j = a.add (i + j) := by
 simp only [Addr.add]
 split <;> split <;> simp_all [Nat.add_assoc]
theorem opens_slice (ht : P.underlying t = some (.slice e)) (he : Opens P w e d Ok) (hs : d.sz = P.cellsOf e) : Opens P w t (Kd.slice e d) (fun xs => (∀ a ∈ xs, Ok a) ∧ xs.length ≤ maxLen) := by
 intro H enc fuel cs x h
 rcases DataW.trod_slice ht h with ⟨rfl, _⟩ | ⟨a, len, cap, elems, rest, n, _, rfl, _, _, hl, hm, hlen, hel, _, _⟩
 ·exact ⟨[], ⟨none, 0, rfl, Nat.le_refl _, Kd.C_nil _ _⟩, by simp, by simp⟩
 ·have each : ∀ j, j < len → ∃ b, (∃ c : List Value, c.length = d.sz ∧ d.K w b c ∧ ∀ i u, c[i]? = some u → w.cell? (a.add (j * d.sz + i)) = some u) ∧ Ok b := by
   intro j hj
   have h1 := hel j hj
   rw [List.getElem?_eq_getElem (by omega), Option.bind_eq_some_iff] at h1
   obtain ⟨c, hc, hx⟩ := h1
   obtain ⟨hcl, hcell⟩ := cells_get hc
   obtain ⟨b, hb, hok⟩ := he H enc n c _ hx
   refine ⟨b, ⟨c, by rw [hs, hcl], hb, fun i u hu => ?_⟩, hok⟩
   have := hcell i u hu
   rwa [add_add', ← hs] at this
  obtain ⟨l, hll, hR⟩ := choose_list len each
  have hm' : cap ≤ 9223372036854775807 := by unfold maxLen at hm; exact hm
  refine ⟨l, ⟨some a, cap, by rw [hll], by omega, by omega, by omega, fun _ => ⟨a, rfl, fun j p hp => (hR j p hp).1⟩⟩, fun b hb => ?_, by omega⟩
  obtain ⟨j, hj, rfl⟩ := List.getElem_of_mem hb
  exact (hR j _ (List.getElem?_eq_getElem hj)).2
def OpensL {α : Type} (P : Program) (w : World) (fs : List Field) (off : Nat) (d : Kd α) (Ok : α → Prop) : Prop :=
 ∀ (H : Type) (enc : TypeId × Value → H) (fuel : Nat) (cs : List Value), cs.length = off + d.sz → (∀ f ∈ fs, ∃ x, DataW.trod enc P w 0 (fun _ => true) true fuel f.type ((cs.drop f.offset).take (P.cellsOf f.type)) = some x) → ∃ a, d.K w a (cs.drop off) ∧ Ok a
theorem opens_imp {Ok' : α → Prop} (h : Opens P w t d Ok) (hi : ∀ a, Ok a → Ok' a) : Opens P w t d Ok' := by
 intro H enc fuel cs x hx
 obtain ⟨a, ha, hok⟩ := h H enc fuel cs x hx
 exact ⟨a, ha, hi a hok⟩
theorem open_slice_arg {H : Type} {enc : TypeId × Value → H} {r : Reach} {base : Nat} {v : Value} {y : DataW H} {p : List MemPlace} {Ok' : List α → Prop} (ht : P.underlying t = some (.slice e)) (ho : Opens P w t (Kd.slice e d) Ok') (hv : Value.okWide P w r base t v)
  (h : DataW.Trod enc P w 0 (fun _ => true) true t v y p) : ∃ (A : Option Addr) (c : Nat) (l : List α), v = .slice A l.length c ∧ l.length ≤ c ∧ d.C w A l.length l ∧ Ok' l := by
 obtain ⟨a, len, cap, rfl⟩ := okWide_slice ht hv
 obtain ⟨fuel, hf⟩ := h
 obtain ⟨l, ⟨A, c, hc, hl, hr⟩, hok⟩ := ho H enc fuel _ _ hf
 simp [Value.cells] at hc
 obtain ⟨rfl, rfl, rfl⟩ := hc
 exact ⟨_, _, l, rfl, hl, hr, hok⟩
end Go.Proofs.Ytkafbmanmffliaa.Op

/- (a part of its own) A yard, and moves, that came in as arguments. -/
namespace Go.Proofs.Ytkafbmanmffliaa.Op
open Go.RowKit Go.ChangeShapes Go.WideShapes Go.ChangeAt YtkafbmanmffliaaW.PrintWords
theorem opens_u8 {P : Program} {w : World} {t : TypeId} (ht : P.underlying t = some (.int .u8)) : Opens P w t (Kd.int .u8) (fun n => 0 ≤ n ∧ n ≤ 255) := by
 intro H enc fuel cs x h
 obtain ⟨n, rfl, _, hw⟩ := DataW.trod_int ht h
 refine ⟨n, rfl, ?_⟩
 have h2 := hw
 simp [Lit.wf, IntKind.min, IntKind.max, IntKind.signed, IntKind.bits] at h2
 exact h2
theorem opens_bytes (w : World) : Opens Try.prog w 22 (Kd.slice 5 (Kd.int .u8)) (fun x => x.length ≤ maxLen ∧ ∀ b ∈ x, 0 ≤ b ∧ b ≤ 255) := by
 have l := opens_slice (d := Kd.int .u8) (w := w) Try.underlying22 (opens_u8 (w := w) Try.underlying5) (by kernel_rfl)
 exact opens_imp l (fun _ h => ⟨h.2, h.1⟩)
end Go.Proofs.Ytkafbmanmffliaa.Op

/- A survey that came in as an argument: its value and what its sights' cells hold. -/
namespace Go.Proofs.Ytkafbmanmffliaa.Op
open Go.RowKit Go.ChangeShapes Go.WideShapes Go.ChangeAt YtkafbmanmffliaaW.PrintWords Q
abbrev kSurvey : Kd (Int × List S121) := Kd.pair (Kd.int .i64) (Kd.slice 121 k121)
end Go.Proofs.Ytkafbmanmffliaa.Op

