/- Parts of the proof that the law of this seat holds: Dg, Ds, Dr, Q1, Lg, Hg, Hh, Ud, Ex3, Op, OpB, OpS. -/
import Derived.Test.YtkafbmanmffliaaGRpn
import Derived.Test.YtkafbmanmffliaaGRph
import Derived.Test.YtkafbmanmffliaaGRpl
import Derived.Deep.CutRange
import Derived.Deep.DeepCutAuto
import Derived.Test.YtkafbmanmffliaaGRpk
import Derived.Test.YtkafbmanmffliaaGRpa
import Derived.Lib.SliceRun
import Derived.Deep.RegionLaw
import Derived.Deep.RegionWith
import Derived.Test.YtkafbmanmffliaaGRpm
import Derived.Test.YtkafbmanmffliaaGRwa
import Derived.WalkKit
import Derived.ProofKit
import Derived.OpenShut
import Derived.ShutString
import Derived.ChangeOld
import Derived.Below
import Derived.SizedLaws
import Derived.Test.YtkafbmanmffliaaProg
set_option linter.unusedVariables false
set_option linter.unusedSimpArgs false
/- The reference's l10DrawGood: a survey whose sights agree with some heights. -/
namespace Go.Proofs.Ytkafbmanmffliaa.Dg
open Go Go.RowKit YtkafbmanmffliaaW.PrintWords YtkafbmanmffliaaW.PrintLast YtkafbmanmffliaaW.PrintMore Q Hc Gd Ge Gi Gv Dw
def TG (w0 W wz : World) (v : Value) (l : List S32) : Prop := Kd.R k32 32 wz w0.heap.size (fun k => W.heap.size ≤ k) v l
theorem tg_nil {w0 W : World} (w1 : World) (h0 : w0.heap.size ≤ w1.heap.size) (h1 : W.heap.size ≤ w1.heap.size) : TG w0 W (w1.alloc (.cells #[] 32)) (.slice (some ⟨w1.heap.size, 0, none⟩) 0 0) [] := by
 have ho := World.ownsRow_lit (base := w0.heap.size) (e := 32) (size := 4) w1 #[] 0 h0 (by simp [maxLen]) (by simp)
 have ho' : (w1.alloc (.cells #[] 32)).ownsRow w0.heap.size 32 4 (.slice (some ⟨w1.heap.size, 0, none⟩) 0 0) 0 [] := by simpa using ho
 exact ⟨fun k hk => by have e : w1.heap.size = k := Option.some.inj hk; omega, [], ho', by constructor <;> simp⟩
structure Dg (w0 W wz : World) (g bv bh ch : Nat) (p : Int) (v : Value) (l : List S32) (hs : List Int) (N : Int) : Prop where
 src : Sr w0 wz g N
 r0 : wz.heap[W.heap.size]? = some (.cells #[.int .i64 0, .slice none 0 0] 26 (0, 0))
 vb : wz.heap[bv]? = some (.cells #[.int .i64 p, v] 26 (0, 0))
 vg : W.heap.size < bv
 hg : W.heap.size < bh
 hc : Cb wz 2 bh ch (hs.map (Value.int .i64))
 ts : TG w0 W wz v l
 be : Below w0.heap.size w0 wz
 kb : KeepBut W wz g none
 gl : g < W.heap.size
 wl : w0.heap.size ≤ W.heap.size
section
variable {w0 W wz w1 w2 : World} {g bv bh ch g1 cap1 : Nat} {p x : Int} {v v1 : Value} {l : List S32} {s : S32} {hs : List Int} {N M : Int}
theorem Dg.call (h : Dg w0 W wz g bv bh ch p v l hs N) (hs' : Sr w0 w1 g M) (hb : Below w0.heap.size w0 w1) (hk : KeepBut wz w1 g none) : Dg w0 W w1 g bv bh ch p v l hs M := by
 have h1 := h.gl
 have h2 := h.vg
 have h3 := h.hg
 exact ⟨hs', hk.blk h.r0 (by omega) (by simp), hk.blk h.vb (by omega) (by simp), h2, h3, h.hc.kept (hk.2 bh h.hc.lt (by omega) (by simp)), Kd.R_keep h.ts hk (fun k hk => by omega), hb, h.kb.trans hk (.inl rfl), h1, h.wl⟩
theorem Dg.below (h : Dg w0 W wz g bv bh ch p v l hs N) (hb : Below wz.heap.size wz w1) : Dg w0 W w1 g bv bh ch p v l hs N :=
 ⟨h.src.below hb, blk_below h.r0 hb, blk_below h.vb hb, h.vg, h.hg, h.hc.below hb, Kd.R_below h.ts hb, below_step h.be hb, h.kb.trans (KeepBut.of_below hb g none) (.inl rfl), h.gl, h.wl⟩
theorem Dg.le (h : Dg w0 W wz g bv bh ch p v l hs N) (hm : N ≤ M) : Dg w0 W wz g bv bh ch p v l hs M := ⟨h.src.le hm, h.r0, h.vb, h.vg, h.hg, h.hc, h.ts, h.be, h.kb, h.gl, h.wl⟩
theorem Dg.height (h : Dg w0 W wz g bv bh ch p v l hs N) (h1 : Cb w2 2 g1 cap1 (hs.map (Value.int .i64) ++ [.int .i64 x])) (hat : g1 = bh ∨ wz.heap.size ≤ g1) (hg : wz.grownBy w2 (some bh)) : Dg w0 W w2 g bv g1 cap1 p v l (hs ++ [x]) N := by
 have g1' := h.gl
 have g2 := h.vg
 have g3 := h.hg
 have g4 := h.kb.1
 have g5 := h.wl
 have g6 := blk_lt h.r0
 obtain ⟨cs, hcs, -⟩ := h.hc
 have ne1 : g ≠ bh := by omega
 have ne2 : bv ≠ bh := blk_ne h.vb hcs (by decide)
 refine ⟨h.src.grown hg (fun e => ne1 (Option.some.inj e)), blk_grown h.r0 hg (fun e => by have := Option.some.inj e; omega), blk_grown h.vb hg (fun e => ne2 (Option.some.inj e)), g2, ?_, by rw [List.map_append]; exact h1,
  Kd.R_mono (Kd.R_grown (Kd.R_types h.ts hcs (by decide)) hg (fun k hk e => hk.2 (Option.some.inj e))) (fun _ hk => hk.1), below_grownB h.be (Nat.le_refl _) hg (by omega), h.kb.trans (KeepBut.of_grown hg g) (.inr ⟨bh, rfl, by omega⟩), g1', g5⟩
 rcases hat with e | e <;> omega
theorem Dg.push (h : Dg w0 W wz g bv bh ch p v l hs N) (h1 : TG w0 W w2 v1 (l ++ [s])) (hg : wz.grownBy w2 v.ownBlock) : Dg w0 W (w2.setCell ⟨bv, 1, none⟩ v1) g bv bh ch p v1 (l ++ [s]) hs N := by
 have g1' := h.gl
 have g2 := h.vg
 have g3 := h.hg
 have g4 := h.kb.1
 have g5 := h.wl
 obtain ⟨cs, hcs, hcr⟩ := h.hc
 have ne2 : bv ≠ bh := blk_ne h.vb hcs (by decide)
 obtain ⟨ls, a_, s_, hI, hI2⟩ := h.src
 have n1 : some g ≠ v.ownBlock := hI.own_ne h.ts (by decide)
 have vb := blk_grown h.vb hg (Kd.R_ne h.ts h.vb (by decide))
 have hsr : Sr w0 w2 g N := Sr.grown (N := N) ⟨ls, a_, s_, hI, hI2⟩ hg n1
 have hkb : KeepBut W w2 g none := h.kb.trans (KeepBut.of_grown hg g) (by
  cases hv : v.ownBlock with
  | none => exact .inl rfl
  | some b => exact .inr ⟨b, rfl, h.ts.1 b hv⟩)
 have hbe : Below w0.heap.size w0 w2 := by
  cases hv : v.ownBlock with
  | none => rw [hv] at hg; exact below_step h.be ⟨hg.os, hg.tape, hg.output, hg.size, fun k hk => hg.block k hk (by simp)⟩
  | some b => rw [hv] at hg; exact below_grownB h.be (Nat.le_refl _) hg (Nat.le_trans h.wl (h.ts.1 b hv))
 refine ⟨hsr.set vb (by decide) v1, blk_far (blk_grown h.r0 hg (Kd.R_ne h.ts h.r0 (by decide))) (by show W.heap.size ≠ bv; omega) _, blk_put vb 1 v1 rfl, g2, g3, ?_, Kd.R_set h1 vb (by decide) 1 v1, hbe.setCell (p := ⟨bv, 1, none⟩) (by show w0.heap.size ≤ bv; omega) _, keep_far hkb (by show W.heap.size ≤ bv; omega) _, g1', g5⟩
 have hb2 := blk_grown hcs hg (Kd.R_ne h.ts hcs (by decide))
 exact ⟨cs, blk_far hb2 (fun e => ne2 e.symm) _, hcr⟩
theorem Dg.setx (h : Dg w0 W wz g bv bh ch p v l hs N) {X : Nat} (hx : ∀ k, v.ownBlock = some k → k ≠ X) (h1 : X ≠ g) (h2 : W.heap.size < X) (h3 : X ≠ bv) (h4 : X ≠ bh) (j : Nat) (u : Value) : Dg w0 W (wz.setCell ⟨X, j, none⟩ u) g bv bh ch p v l hs N := by
 have g5 := h.wl
 refine ⟨h.src.far (p := ⟨X, j, none⟩) (fun e => h1 e.symm) u, blk_far h.r0 (by show W.heap.size ≠ X; omega) _, blk_far h.vb (fun e => h3 e.symm) _, h.vg, h.hg, h.hc.kept (Below.heap_setCell wz ⟨X, j, none⟩ u bh (fun e => h4 e.symm)), ?_, h.be.setCell (p := ⟨X, j, none⟩) (by show w0.heap.size ≤ X; omega) u, keep_far h.kb (by show W.heap.size ≤ X; omega) u, h.gl, g5⟩
 exact Kd.R_mono (Kd.R_far (p := ⟨X, j, none⟩) (Kd.R_tight2 rfl h.ts) (fun k hk => hx k hk.1.symm) u) (fun k hk => hk.2)
theorem Dg.hcell (h : Dg w0 W wz g bv bh ch p v l hs N) (i : Nat) (hi : i < hs.length) : wz.cell? ⟨bh, i, none⟩ = some (.int .i64 (rd hs i)) :=
 (h.hc.at_ i _ (by rw [List.getElem?_map, List.getElem?_eq_getElem hi]; simp [rd, List.getD_eq_getElem?_getD, hi])).1
theorem Dg.own (h : Dg w0 W wz g bv bh ch p v l hs N) : ∀ k, v.ownBlock = some k → k < wz.heap.size := Kd.R_lt h.ts
end
def Hok (hs : List Int) : Prop := rd hs 0 = 0 ∧ ∀ h ∈ hs, -20 ≤ h ∧ h ≤ 20
theorem Hok.push {hs : List Int} {x : Int} (h : Hok hs) (h0 : 0 < hs.length) (hx0 : -20 ≤ x) (hx1 : x ≤ 20) : Hok (hs ++ [x]) := by
 refine ⟨?_, fun y hy => ?_⟩
 ·refine Eq.trans ?_ h.1
  cases hs with
  | nil => simp at h0
  | cons a t => rfl
 ·rcases List.mem_append.1 hy with hy | hy
  ·exact h.2 y hy
  ·rw [List.mem_singleton.1 hy]; exact ⟨hx0, hx1⟩
def Gall (q : Nat) (hs : List Int) (l : List S32) : Prop := ∀ s ∈ l, Fits q hs s
theorem Gall.push {q : Nat} {hs : List Int} {l : List S32} {s : S32} (h : Gall q hs l) (hs' : Fits q hs s) : Gall q hs (l ++ [s]) := fun t ht => by
 rcases List.mem_append.1 ht with ht | ht
 ·exact h t ht
 ·rw [List.mem_singleton.1 ht]; exact hs'
def GoodEnd (w0 W : World) (g : Nat) (N : Int) (e : Ending) (w' : World) : Prop := ∃ (q : Nat) (l : List S32) (hs : List Int) (v vh : Value), e = .returned (.tuple #[.agg #[.int .i64 q, v], vh]) ∧ 2 ≤ q ∧ q ≤ 5 ∧ l.length ≤ 8 ∧ hs.length = q ∧ Hok hs ∧ Gall q hs l ∧ TG w0 W w' v l ∧ T w0.heap.size w' vh hs ∧ Sr w0 w' g (N + 40) ∧ Below w0.heap.size w0 w' ∧ KeepBut W w' g none
abbrev R0 : Obj := .cells #[.int .i64 0, .slice none 0 0] 26
set_option maxHeartbeats 8000000 in
set_option maxRecDepth 100000 in
theorem good_any {w0 W : World} {g : Nat} {N : Int} (hN : N ≤ 500) (hs : Sr w0 W g N) (hB : Below w0.heap.size w0 W) :
  Calls Try.prog 90 #[.pointer (some ⟨g, 0, none⟩)] W (GoodEnd w0 W g N) := by
 unfold GoodEnd
 have hu26 := Try.underlying26
 have hu32 := Try.underlying32
 have hu24 := Try.underlying24
 have hgl := hs.lt
 have hwl : w0.heap.size ≤ W.heap.size := hB.size
 have hc0 := pick_any 4 (by decide) (by decide) (by omega) (hs.below (below_alloc (Below.refl _ _) R0)) (below_alloc hB R0)
 have K0 := Aside0.mk (keep_alloc (KeepBut.refl W g none) R0)
 have B0 := Aside0.mk (blk_new W R0)
 clear hs hB
 go_enter Try.func90, Try.ntmps90
 go_wp2_with (fail)
 refine hc0.mono ?_
 rintro e w1 ⟨x, rfl, x0, x1, hs1, hb1, hk1⟩
 have hz1 : W.heap.size + 1 ≤ w1.heap.size := by have := hk1.1; simpa using this
 obtain ⟨q, hq⟩ : ∃ q : Nat, 2 + x = (q : Int) := ⟨(2 + x).toNat, by omega⟩
 have hq2 : 2 ≤ q := by omega
 have hq5 : q ≤ 5 := by omega
 have HD0 := Aside0.mk (show Dg w0 W (((w1.alloc (.cells #[] 32)).alloc (.cells #[.int .i64 (q : Int), .slice (some ⟨w1.heap.size, 0, none⟩) 0 0] 26)).alloc (.cells #[.int .i64 0] 2)) g (w1.heap.size + 1) (w1.heap.size + 1 + 1) 1 q (.slice (some ⟨w1.heap.size, 0, none⟩) 0 0) [] [0] (N + 1) by
  have hbb := below_alloc (below_alloc (below_alloc (Below.refl w1.heap.size w1) (.cells #[] 32)) (.cells #[.int .i64 (q : Int), .slice (some ⟨w1.heap.size, 0, none⟩) 0 0] 26)) (.cells #[.int .i64 0] 2)
  have b1 := blk_alloc (blk_new (w1.alloc (.cells #[] 32)) (.cells #[.int .i64 (q : Int), .slice (some ⟨w1.heap.size, 0, none⟩) 0 0] 26)) (.cells #[.int .i64 0] 2)
  rw [World.size_alloc] at b1
  have c1 := Cb.one_new ((w1.alloc (.cells #[] 32)).alloc (.cells #[.int .i64 (q : Int), .slice (some ⟨w1.heap.size, 0, none⟩) 0 0] 26)) 2 (.int .i64 0) (Pv.i64 _)
  rw [World.size_alloc, World.size_alloc] at c1
  exact ⟨hs1.below hbb, blk_below (hk1.blk B0.out (by omega) (by simp)) hbb, b1, by omega, by omega, c1, Kd.R_below (tg_nil w1 (by omega) (by omega)) (below_alloc (below_alloc (Below.refl _ _) _) _), below_step hb1 hbb, (K0.out.trans hk1 (.inl rfl)).trans (KeepBut.of_below hbb g none) (.inl rfl), hgl, hwl⟩)
 clear hs1 hb1 hk1 hc0 K0 B0
 go_wp2_with (fail)
 clear x0 x1 hq
 go_loopw [5, 6] (fun v5 v6 wz => ∃ (k bh ch : Nat) (hs : List Int), v5 = .slice (some ⟨bh, 0, none⟩) k ch ∧ v6 = .int .i64 (k : Int) ∧ 1 ≤ k ∧ k ≤ q ∧ Aside0 (hs.length = k) ∧ Aside0 (Hok hs) ∧ Aside0 (Dg w0 W wz g (w1.heap.size + 1) bh ch q (.slice (some ⟨w1.heap.size, 0, none⟩) 0 0) [] hs (N + k))) (fun _ v _ => q - (intOf v).toNat)
 case atStart => exact ⟨1, _, 1, [0], rfl, rfl, by omega, by omega, ⟨rfl⟩, ⟨⟨rfl, fun h hh => by rw [List.mem_singleton.1 hh]; omega⟩⟩, HD0⟩
 case round =>
  clear HD0
  obtain ⟨k, bh, ch, hs, rfl, rfl, hk1, hkq, HL, HO, HD⟩ := hrel
  have e0 : wr.cell? ⟨w1.heap.size + 1, 0, none⟩ = some (.int .i64 (q : Int)) := (blk_cell HD.out.vb 0).trans rfl
  by_cases hlt : k < q
  ·have p1 : decide ((k : Int) < (q : Int)) = true := decide_eq_true (by omega)
   have hz := pick_any 41 (by decide) (by decide) (by omega) HD.out.src HD.out.be
   go_wp2_with (fail)
   refine hz.mono ?_
   rintro e w2 ⟨y, rfl, y0, y1, hs1, hb1, hk2⟩
   have HD1 := Aside0.mk (HD.out.call hs1 hb1 hk2)
   clear hz hs1 hb1 hk2 e0
   go_wp2_with ((with_reducible refine gate_builtin (b := .append) (xs := #[.tmp 22, .tmp 26]) rfl ?_); at_builtin; refine Cb.append rfl (.tmp 22) (.tmp 26) 28 2 (.int .i64 0) 8 rfl Try.underlying28 info2 rfl (Pv.i64 _) (by decide) bh ch k _ (.int .i64 (y - 20)) (by rw [List.length_map, HL.out]) rfl rfl rfl (Pv.i64 _) HD1.out.hc (by rw [List.length_map, HL.out]; omega) ?_; intro g1 cap1 w3 h1 h2 h3; have HD2 := Aside0.mk (HD1.out.height h1 h2 h3); clear h1 h2 h3)
   go_roundw
   case rel => exact ⟨k + 1, g1, cap1, hs ++ [y - 20], by go_num, by go_num, by omega, by omega, ⟨by have := HL.out; simp [this]⟩, ⟨HO.out.push (by have := HL.out; omega) (by omega) (by omega)⟩, ⟨HD2.out.le (by omega)⟩⟩
   case measure => simp [intOf]; omega
  ·obtain rfl : q = k := by omega
   have p1 : decide ((q : Int) < (q : Int)) = false := decide_eq_false (by omega)
   have hz := one_any 8 (by decide) (by decide) (by omega) HD.out.src HD.out.be
   go_wp2_with (fail)
   refine hz.mono ?_
   rintro e w2 ⟨b, rfl, hs1, hb1, hk2⟩
   have HD1 := Aside0.mk (HD.out.call hs1 hb1 hk2)
   obtain ⟨bv, hbv⟩ : ∃ bv, bv = w1.heap.size + 1 := ⟨_, rfl⟩
   rw [← hbv] at HD1 ⊢
   clear hz hs1 hb1 hk2 e0 HD hbv
   go_upto_if 30 with (fail)
   go_cut [5] (fun v5 wz => v5 = .slice (some ⟨bh, 0, none⟩) q ch ∧ ∃ (l : List S32) (v : Value), l.length ≤ 4 ∧ Aside0 (Gall q hs l) ∧ Aside0 (Dg w0 W wz g bv bh ch q v l hs (N + 20)))
   case first =>
    cases b with
    | true =>
     simp only [Bool.not_true]
     go_wp2_with (fail)
     go_meet
     case rel => exact ⟨rfl, [], _, by simp, ⟨fun s hs => by simp at hs⟩, ⟨HD1.out.le (by omega)⟩⟩
    | false =>
     simp only [Bool.not_false]
     go_wp2_with (fail)
     go_loopw [7] (fun v7 wz => ∃ (k : Nat) (l : List S32) (v : Value), v7 = .int .i64 (k : Int) ∧ 1 ≤ k ∧ k ≤ q ∧ Aside0 (l.length + 1 = k) ∧ Aside0 (Gall q hs l) ∧ Aside0 (Dg w0 W wz g bv bh ch q v l hs (N + 6 + 2 * k))) (fun v _ => q - (intOf v).toNat)
     case atStart => exact ⟨1, [], _, rfl, by omega, by omega, ⟨rfl⟩, ⟨fun s hs => by simp at hs⟩, ⟨HD1.out.le (by omega)⟩⟩
     case round =>
      clear HD1
      obtain ⟨k, l, v, rfl, hk1, hkq, HKL, HG, HD⟩ := hrel
      have e0 : wr.cell? ⟨bv, 0, none⟩ = some (.int .i64 (q : Int)) := (blk_cell HD.out.vb 0).trans rfl
      by_cases hlt : k < q
      ·have p1 : decide ((k : Int) < (q : Int)) = true := decide_eq_true (by omega)
       have hz := pick_any (k : Int) (by omega) (by omega) (by omega) HD.out.src HD.out.be
       go_wp2_with (fail)
       refine hz.mono ?_
       rintro e w3 ⟨a, rfl, a0, a1, hs1, hb1, hk2⟩
       obtain ⟨a, rfl⟩ : ∃ a' : Nat, a = a' := ⟨a.toNat, by omega⟩
       have HD1 := Aside0.mk (HD.out.call hs1 hb1 hk2)
       have HD2 := Aside0.mk (HD1.out.below (below_alloc (Below.refl _ _) (.cells #[.int .i64 (a : Int), .int .i64 (k : Int), .int .i64 0, .int .i64 0] 32)))
       have XB := Aside0.mk (blk_new w3 (.cells #[.int .i64 (a : Int), .int .i64 (k : Int), .int .i64 0, .int .i64 0] 32))
       have HX := Aside0.mk (show (∀ j, v.ownBlock = some j → j ≠ w3.heap.size) ∧ w3.heap.size ≠ g ∧ W.heap.size < w3.heap.size ∧ w3.heap.size ≠ bv ∧ w3.heap.size ≠ bh from ⟨fun j hj => Nat.ne_of_lt (HD1.out.own j hj), Nat.ne_of_gt HD1.out.src.lt, Nat.lt_trans HD1.out.vg (blk_lt HD1.out.vb), Nat.ne_of_gt (blk_lt HD1.out.vb), Nat.ne_of_gt HD1.out.hc.lt⟩)
       have hz := pick_any 3 (by decide) (by decide) (by omega) HD2.out.src HD2.out.be
       clear hs1 hb1 hk2 e0
       go_wp2_with (fail)
       refine hz.mono ?_
       rintro e w4 ⟨b, rfl, b0, b1, hs1, hb1, hk2⟩
       have HD3 := Aside0.mk (HD2.out.call hs1 hb1 hk2)
       have XB3 := hk2.blk XB.out HX.out.2.1 (by simp)
       have f3 := blk_frozen XB3 3
       have e3 : w4.cell? ⟨w3.heap.size, 3, none⟩ = some (.int .i64 0) := (blk_cell XB3 3).trans rfl
       have HD4 := Aside0.mk (HD3.out.setx HX.out.1 HX.out.2.1 HX.out.2.2.1 HX.out.2.2.2.1 HX.out.2.2.2.2 3 (.int .i64 (1 + b)))
       have XB4 := blk_put XB3 3 (.int .i64 (1 + b)) rfl
       have f2 := blk_frozen XB4 2
       have x0 : (w4.setCell ⟨w3.heap.size, 3, none⟩ (.int .i64 (1 + b))).cell? ⟨w3.heap.size, 0, none⟩ = some (.int .i64 (a : Int)) := (blk_cell XB4 0).trans rfl
       have x2 : (w4.setCell ⟨w3.heap.size, 3, none⟩ (.int .i64 (1 + b))).cell? ⟨w3.heap.size, 2, none⟩ = some (.int .i64 0) := (blk_cell XB4 2).trans rfl
       have y0 := HD4.out.hcell k (by have := HL.out; omega)
       have y1 := HD4.out.hcell a (by have := HL.out; omega)
       have XB4 := Aside0.mk XB4
       have r0 := rd_le HO.out.2 (k : Int) (by omega) (by have := HL.out; omega)
       have r1 := rd_le HO.out.2 (a : Int) (by omega) (by have := HL.out; omega)
       clear hz hs1 hb1 hk2 XB3
       go_wp2_with (fail)
       go_region
       have HD5 := Aside0.mk (HD4.out.setx HX.out.1 HX.out.2.1 HX.out.2.2.1 HX.out.2.2.2.1 HX.out.2.2.2.2 2 (.int .i64 (rd hs (k : Int) - rd hs (a : Int))))
       have XB5 := blk_put XB4.out 2 (.int .i64 (rd hs (k : Int) - rd hs (a : Int))) rfl
       have HD6 := Aside0.mk (HD5.out.below (below_drew (Below.refl _ _)))
       have XB6 := blk_drew XB5
       obtain ⟨wq, hwq⟩ : ∃ wq : World, wq = ((w4.setCell ⟨w3.heap.size, 3, none⟩ (.int .i64 (1 + b))).setCell ⟨w3.heap.size, 2, none⟩ (.int .i64 (rd hs (k : Int) - rd hs (a : Int)))).drew := ⟨_, rfl⟩
       rw [← hwq] at HD6 XB6 ⊢
       clear hwq
       obtain ⟨Av, cv, rfl⟩ := Kd.R_slice HD6.out.ts
       have x0 : wq.cell? ⟨w3.heap.size, 0, none⟩ = some (.int .i64 (a : Int)) := (blk_cell XB6 0).trans rfl
       have x1 : wq.cell? ⟨w3.heap.size, 1, none⟩ = some (.int .i64 (k : Int)) := (blk_cell XB6 1).trans rfl
       have x2 : wq.cell? ⟨w3.heap.size, 2, none⟩ = some (.int .i64 (rd hs (k : Int) - rd hs (a : Int))) := (blk_cell XB6 2).trans rfl
       have x3 : wq.cell? ⟨w3.heap.size, 3, none⟩ = some (.int .i64 (1 + b)) := (blk_cell XB6 3).trans rfl
       have z1 : wq.cell? ⟨bv, 1, none⟩ = some (.slice Av l.length cv) := (blk_cell HD6.out.vb 1).trans rfl
       have hfit := Aside0.mk (show Fits q hs ⟨(a : Int), (k : Int), rd hs (k : Int) - rd hs (a : Int), 1 + b⟩ from ⟨by show 0 ≤ (a : Int); omega, by show (a : Int) < q; omega, by show 0 ≤ (k : Int); omega, by show (k : Int) < q; omega, by show (a : Int) ≠ k; omega, rfl, by show 1 ≤ 1 + b; omega, by show 1 + b ≤ 3; omega⟩)
       clear XB5 XB6 r0 r1 y0 y1 f2 f3
       go_wp2_with ((with_reducible refine gate_builtin (b := .append) (xs := #[.tmp 58, .tmp 60]) rfl ?_); at_builtin; refine Kd.R_append k32 (w0 := w0) w0.heap.size rfl (.tmp 58) (.tmp 60) 24 32 (.agg #[.int .i64 0, .int .i64 0, .int .i64 0, .int .i64 0]) 32 rfl Try.underlying24 info32 rfl (by decide) (by decide) (.slice Av l.length cv) l ⟨(a : Int), (k : Int), rd hs (k : Int) - rd hs (a : Int), 1 + b⟩ [.int .i64 (a : Int), .int .i64 (k : Int), .int .i64 (rd hs (k : Int) - rd hs (a : Int)), .int .i64 (1 + b)] (fun k => W.heap.size ≤ k) (fun _ => False) rfl rfl (k32_mkM _ _ _ _) (fun _ hk => hk.elim) (fun _ hk => Nat.le_trans HD6.out.kb.1 hk) HD6.out.ts HD6.out.be HD6.out.be.size (by have := HKL.out; omega) ?_; intro v1 w5 h1 h2 h3 h4; obtain ⟨A1, c1, rfl⟩ := Kd.R_slice h1; have HD7 := Aside0.mk (HD6.out.push h1 h3); have VB7 := blk_grown HD6.out.vb h3 (Kd.R_ne HD6.out.ts HD6.out.vb (by decide)); have q1 : w5.cell? ⟨bv, 1, none⟩ = some (.slice Av l.length cv) := (blk_cell VB7 1).trans rfl; have q2 := blk_frozen VB7 1; clear h1 h2 h3 h4 VB7 x0 x1 x2 x3)
       go_roundw
       case rel => exact ⟨k + 1, _, _, by go_num, by omega, by omega, ⟨by have := HKL.out; simp; omega⟩, ⟨HG.out.push hfit.out⟩, ⟨by have := HD7.out.le (M := N + 6 + 2 * ((k + 1 : Nat) : Int)) (by omega); simpa using this⟩⟩
       case measure => simp [intOf]; omega
      ·have p1 : decide ((k : Int) < (q : Int)) = false := decide_eq_false (by omega)
       have HD1 := Aside0.mk (HD.out.le (M := N + 20) (by omega))
       go_wp2_with (fail)
       go_meet
       case rel => exact ⟨rfl, l, v, by have := HKL.out; omega, HG, HD1⟩
   case rest =>
    obtain ⟨rfl, l, v, hl4, HG, HD⟩ := hcut
    have hz := pick_any 5 (by decide) (by decide) (by omega) HD.out.src HD.out.be
    go_wp2_with (fail)
    refine hz.mono ?_
    rintro e w3 ⟨x, rfl, x0, x1, hs1, hb1, hk2⟩
    obtain ⟨m, rfl⟩ : ∃ m : Nat, x = m := ⟨x.toNat, by omega⟩
    have HD1 := Aside0.mk ((HD.out.call hs1 hb1 hk2).le (M := N + 21 + (12 - 3 * m)) (by omega))
    clear hz hs1 hb1 hk2 HD
    go_wp2_with (fail)
    go_loopw [9] (fun v9 wz => ∃ (n : Nat) (l : List S32) (v : Value), v9 = .int .i64 (n : Int) ∧ l.length + n ≤ 8 ∧ n ≤ 4 ∧ Aside0 (Gall q hs l) ∧ Aside0 (Dg w0 W wz g bv bh ch q v l hs (N + 21 + (12 - 3 * n)))) (fun v _ => (intOf v).toNat)
    case atStart => exact ⟨m, l, v, rfl, by omega, by omega, HG, HD1⟩
    case round =>
     clear HD1 HG
     obtain ⟨n, l, v, rfl, hln, hn4, HG, HD⟩ := hrel
     by_cases hn0 : 0 < n
     ·have p1 : decide (0 < (n : Int)) = true := decide_eq_true (by omega)
      have p2 : decide ((n : Int) > 0) = true := p1
      obtain ⟨Av, cv, rfl⟩ := Kd.R_slice HD.out.ts
      have e1 : wr.cell? ⟨bv, 1, none⟩ = some (.slice Av l.length cv) := (blk_cell HD.out.vb 1).trans rfl
      have e0 : wr.cell? ⟨bv, 0, none⟩ = some (.int .i64 (q : Int)) := (blk_cell HD.out.vb 0).trans rfl
      have HDw := Aside0.mk (HD.out.below (below_drew (Below.refl wr.heap.size wr)))
      have HLN := Aside0.mk (show (l.length + 1) * 32 ≤ 140737488355328 by omega)
      have HSI := Aside0.mk (show Calls Try.prog 123 #[.pointer (some ⟨g, 0, none⟩), .int .i64 (q : Int), .slice (some ⟨bh, 0, none⟩) q ch] wr.drew (fun e w' => ∃ s : S32, e = .returned (.agg #[.int .i64 s.f0, .int .i64 s.f1, .int .i64 s.f2, .int .i64 s.f3]) ∧ Fits q hs s ∧ Sr w0 w' g (N + 21 + (12 - 3 * n) + 3) ∧ Below w0.heap.size w0 w' ∧ KeepBut wr.drew w' g none) by
       have hT := T.of_cb (B := w0.heap.size) HDw.out.hc (Nat.le_trans HDw.out.wl (Nat.le_of_lt HDw.out.hg))
       have h := sight_any (q : Int) hs (some ⟨bh, 0, none⟩) ch (by omega) (by omega) (by have := HL.out; omega) HO.out.2 (by omega) HDw.out.src HDw.out.be (Kd.R_reads' hT).2.2 (Kd.R_reads' hT).2.1 (fun ad e _ => by
        have e := Option.some.inj e
        subst e
        have := HDw.out.hg
        have := HDw.out.gl
        show bh ≠ g
        omega)
       rw [HL.out] at h
       exact h)
      go_wp2_with (fail)
      refine start_ (n:=11) (S := fun w' => w'.cell? ⟨bv, 1, none⟩ = some (.slice Av l.length cv) ∧ w'.cell? ⟨bv, 0, none⟩ = some (.int .i64 (q : Int))) (ds:=[10]) #[false,false,false,false,false,false,false,false,false,false,false] (by kernel_rfl) rfl rfl ⟨e1, e0⟩ (fun hHeld => ?_)
      refine pure_ (i:=0) (N:=some 69) (v:=?_) (a':=?_) #[true,false,false,false,false,false,false,false,false,false,false] rfl rfl (by kernel_rfl) (fun _ _ _ h => h) (Or.inl ⟨by rfl, ?_⟩) ?_ ?_
      rotate_left
      ·intro w'
       go_simp
       with_reducible rfl
      rotate_left
      ·go_simp
       rfl
      refine pure_ (i:=2) (N:=some 71) (v:=?_) (a':=?_) #[true,false,true,false,false,false,false,false,false,false,false] rfl rfl (by kernel_rfl) (fun _ _ _ h => h) (Or.inl ⟨by rfl, ?_⟩) ?_ ?_
      rotate_left
      ·intro w'
       go_simp
       with_reducible rfl
      rotate_left
      ·go_simp
       rfl
      refine pure_ (i:=3) (N:=some 72) (v:=?_) (a':=?_) #[true,false,true,true,false,false,false,false,false,false,false] rfl rfl (by kernel_rfl) (fun _ _ _ h => h) (Or.inl ⟨by rfl, ?_⟩) ?_ ?_
      rotate_left
      ·intro w'
       go_simp
       with_reducible rfl
      rotate_left
      ·go_simp
       rfl
      refine pure_ (i:=5) (N:=some 74) (v:=?_) (a':=?_) #[true,false,true,true,false,true,false,false,false,false,false] rfl rfl (by kernel_rfl) (fun _ _ _ h => h) (Or.inl ⟨by rfl, ?_⟩) ?_ ?_
      rotate_left
      ·intro w'
       go_simp
       with_reducible rfl
      rotate_left
      ·go_simp
       rfl
      refine take_ (i:=1) (N:=some 70) (v:=?_) (a':=?_) #[true,true,true,true,false,true,false,false,false,false,false] rfl rfl (by kernel_rfl) (fun _ _ _ h => h) (Or.inl ⟨by rfl, ?_⟩) hHeld ?_ ?_
      rotate_left
      ·rintro w' ⟨s0, s1⟩
       go_simp
       with_reducible rfl
      rotate_left
      ·go_simp
       rfl
      refine take_ (i:=4) (N:=some 73) (v:=?_) (a':=?_) #[true,true,true,true,true,true,false,false,false,false,false] rfl rfl (by kernel_rfl) (fun _ _ _ h => h) (Or.inl ⟨by rfl, ?_⟩) hHeld ?_ ?_
      rotate_left
      ·rintro w' ⟨s0, s1⟩
       go_simp
       with_reducible rfl
      rotate_left
      ·go_simp
       rfl
      refine one_ (i:=6) (N:=some 75) #[true,true,true,true,true,true,true,false,false,false,false] rfl rfl (by kernel_rfl) (by decide) (fun K_ hK => ?_)
      refine goes_ Try.func123 (by kernel_rfl) rfl #[.pointer (some ⟨g, 0, none⟩), .int .i64 (q : Int), .slice (some ⟨bh, 0, none⟩) q ch] (by rfl) rfl rfl (by (try simp only [List.map_toArray, List.map_cons, List.map_nil]); first | done | rfl) ?_
      refine HSI.out.mono ?_
      rintro e w5 ⟨s, rfl, hgood, hs5, hb5, hk5⟩
      have HD5 := Aside0.mk (HDw.out.call hs5 hb5 hk5)
      have HGO := Aside0.mk hgood
      clear hs5 hb5 hk5 hgood
      refine ⟨_, rfl, ?_⟩
      refine hK.out _ _ ⟨(blk_cell HD5.out.vb 1).trans rfl, (blk_cell HD5.out.vb 0).trans rfl⟩ (fun hHeld => ?_)
      clear hK K_
      refine norm_ (a':=?_) ?_ ?_
      rotate_left
      ·show Act.put _ (some 75) _ = _
       go_simp
       rfl
      refine one_ (i:=7) (N:=some 76) #[true,true,true,true,true,true,true,true,false,false,false] rfl rfl (by kernel_rfl) (by decide) (fun K_ hK => ?_)
      refine value_ (v := .slice (some ⟨w5.heap.size, 0, none⟩) 1 1) (w1 := w5.alloc (.cells #[.int .i64 s.f0, .int .i64 s.f1, .int .i64 s.f2, .int .i64 s.f3] 32)) (by rfl) rfl ?_ ?_
      ·go_simp
       first | done | exact ⟨rfl, rfl⟩ | rfl
      refine hK.out _ _ ⟨(blk_cell (blk_alloc HD5.out.vb _) 1).trans rfl, (blk_cell (blk_alloc HD5.out.vb _) 0).trans rfl⟩ (fun hHeld => ?_)
      clear hK K_
      refine norm_ (a':=?_) ?_ ?_
      rotate_left
      ·go_simp
       rfl
      refine one_ (i:=8) (N:=some 77) #[true,true,true,true,true,true,true,true,true,false,false] rfl rfl (by kernel_rfl) (by decide) (fun K_ hK => ?_)
      refine Kd.R_append_step k32 (w0 := w0) w0.heap.size (by rfl) (.tmp 70) (.tmp 76) 24 32 (.agg #[.int .i64 0, .int .i64 0, .int .i64 0, .int .i64 0]) 32 rfl Try.underlying24 info32 rfl (by decide) (by omega) (.slice Av l.length cv) l s [.int .i64 s.f0, .int .i64 s.f1, .int .i64 s.f2, .int .i64 s.f3] (fun k => W.heap.size ≤ k) (fun _ => False) rfl rfl (k32_mkM _ _ _ _) (fun _ hk => hk.elim) (fun _ hk => Nat.le_trans HD5.out.kb.1 hk) HD5.out.ts HD5.out.be HD5.out.be.size HLN.out ?_
      intro v1 w6 h1 Hb2 h3 h4
      obtain ⟨A1, c1, rfl⟩ := Kd.R_slice h1
      have HD6 := Aside0.mk (HD5.out.push h1 h3)
      have VB6 := blk_grown HD5.out.vb h3 (Kd.R_ne HD5.out.ts HD5.out.vb (by decide))
      have q1 : w6.cell? ⟨bv, 1, none⟩ = some (.slice Av l.length cv) := (blk_cell VB6 1).trans rfl
      have q0 : w6.cell? ⟨bv, 0, none⟩ = some (.int .i64 (q : Int)) := (blk_cell VB6 0).trans rfl
      have q2 := blk_frozen VB6 1
      clear h1 h3 h4 VB6
      refine hK.out _ _ ⟨q1, q0⟩ (fun hHeld => ?_)
      clear hK K_
      refine norm_ (a':=?_) ?_ ?_
      rotate_left
      ·go_simp
       rfl
      refine pure_ (i:=9) (N:=some 78) (v:=?_) (a':=?_) #[true,true,true,true,true,true,true,true,true,true,false] rfl rfl (by kernel_rfl) (fun _ _ _ h => h) (Or.inl ⟨by rfl, ?_⟩) ?_ ?_
      rotate_left
      ·intro w'
       go_simp
       with_reducible rfl
      rotate_left
      ·go_simp
       rfl
      refine last_ (i:=10) (N:=none) #[true,true,true,true,true,true,true,true,true,true,true] rfl rfl (by kernel_rfl) (by decide) (fun K_ hK => ?_)
      refine skip_ (w1 := ?_) (by rfl) rfl ?_ ?_
      rotate_left
      ·go_simp
       rfl
      refine hK.out _ _ ?_
      clear hK K_
      refine done_ (by kernel_rfl) ?_
      clear hHeld
      go_wp2_with (fail)
      go_roundw
      case rel => exact ⟨n - 1, l ++ [s], _, by go_num, by simp; omega, by omega, ⟨HG.out.push HGO.out⟩, ⟨by have := HD6.out.le (M := N + 21 + (12 - 3 * ((n - 1 : Nat) : Int))) (by omega); simpa using this⟩⟩
      case measure => simp [intOf]; omega
     ·obtain rfl : n = 0 := by omega
      have p1 : decide (0 < ((0 : Nat) : Int)) = false := rfl
      obtain ⟨Av, cv, rfl⟩ := Kd.R_slice HD.out.ts
      have e1 : wr.cell? ⟨bv, 1, none⟩ = some (.slice Av l.length cv) := (blk_cell HD.out.vb 1).trans rfl
      have e0 : wr.cell? ⟨bv, 0, none⟩ = some (.int .i64 (q : Int)) := (blk_cell HD.out.vb 0).trans rfl
      have r0 : wr.cell? ⟨W.heap.size, 0, none⟩ = some (.int .i64 0) := (blk_cell HD.out.r0 0).trans rfl
      have r1 : wr.cell? ⟨W.heap.size, 1, none⟩ = some (.slice none 0 0) := (blk_cell HD.out.r0 1).trans rfl
      have f0 := blk_frozen HD.out.r0 0
      have f1 := blk_frozen HD.out.r0 1
      have HZ := Aside0.mk (blk_put (blk_put HD.out.r0 0 (.int .i64 (q : Int)) rfl) 1 (.slice Av l.length cv) rfl)
      have hT := T.of_cb (B := w0.heap.size) HD.out.hc (Nat.le_trans HD.out.wl (Nat.le_of_lt HD.out.hg))
      have HT2 := Aside0.mk (Kd.R_set (Kd.R_set hT HD.out.r0 (by decide) 0 (.int .i64 (q : Int))) (blk_put HD.out.r0 0 (.int .i64 (q : Int)) rfl) (by decide) 1 (.slice Av l.length cv))
      have HS2 := Aside0.mk (Kd.R_set (Kd.R_set HD.out.ts HD.out.r0 (by decide) 0 (.int .i64 (q : Int))) (blk_put HD.out.r0 0 (.int .i64 (q : Int)) rfl) (by decide) 1 (.slice Av l.length cv))
      have HSR := Aside0.mk (((HD.out.src.set (j := 0) HD.out.r0 (by decide) (.int .i64 (q : Int))).set (j := 1) (blk_put HD.out.r0 0 (.int .i64 (q : Int)) rfl) (by decide) (.slice Av l.length cv)).le (M := N + 40) (by omega))
      have HBE := Aside0.mk ((HD.out.be.setCell (p := ⟨W.heap.size, 0, none⟩) hwl (.int .i64 (q : Int))).setCell (p := ⟨W.heap.size, 1, none⟩) hwl (.slice Av l.length cv))
      have HKB := Aside0.mk (keep_far (keep_far HD.out.kb (p := ⟨W.heap.size, 0, none⟩) (Nat.le_refl _) (.int .i64 (q : Int))) (p := ⟨W.heap.size, 1, none⟩) (Nat.le_refl _) (.slice Av l.length cv))
      rw [HL.out] at HT2
      go_wp2_with (fail)
      refine bodyPost_ret (results_ct rfl _ _ W.heap.size 26 #[.int .i64 (q : Int), .slice Av l.length cv] (0, 0) _ rfl HZ.out hu26 rfl (by kernel_rfl)) rfl ?_
      exact ⟨q, l, hs, _, _, rfl, hq2, hq5, by omega, HL.out, HO.out, HG.out, HS2.out, HT2.out, HSR.out, HBE.out, HKB.out⟩
end Go.Proofs.Ytkafbmanmffliaa.Dg

/- The reference's l10DrawOk: a survey, often with errors. -/
namespace Go.Proofs.Ytkafbmanmffliaa.Ds
open Go Go.RowKit YtkafbmanmffliaaW.PrintWords YtkafbmanmffliaaW.PrintLast YtkafbmanmffliaaW.PrintMore Q Hc Gd Ge Gi Dw Dg
structure So (w0 W wz : World) (g bv : Nat) (p : Int) (v : Value) (l : List S32) (N : Int) : Prop where
  src : Sr w0 wz g N
  r0 : wz.heap[W.heap.size]? = some (.cells #[.int .i64 0, .slice none 0 0] 26 (0, 0))
  vb : wz.heap[bv]? = some (.cells #[.int .i64 p, v] 26 (0, 0))
  vg : W.heap.size < bv
  ts : TG w0 W wz v l
  be : Below w0.heap.size w0 wz
  kb : KeepBut W wz g none
  gl : g < W.heap.size
  wl : w0.heap.size ≤ W.heap.size
section
variable {w0 W wz w1 : World} {g bv go cv q i : Nat} {p x : Int} {v : Value} {l : List S32} {N M : Int}
theorem So.call (h : So w0 W wz g bv p v l N) (hs' : Sr w0 w1 g M) (hb : Below w0.heap.size w0 w1) (hk : KeepBut wz w1 g none) : So w0 W w1 g bv p v l M := by
  have h1 := h.gl
  have h2 := h.vg
  exact ⟨hs', hk.blk h.r0 (by omega) (by simp), hk.blk h.vb (by omega) (by simp), h2, Kd.R_keep h.ts hk (fun k hk => by omega), hb, h.kb.trans hk (.inl rfl), h1, h.wl⟩
theorem So.below (h : So w0 W wz g bv p v l N) (hb : Below wz.heap.size wz w1) : So w0 W w1 g bv p v l N :=
  ⟨h.src.below hb, blk_below h.r0 hb, blk_below h.vb hb, h.vg, Kd.R_below h.ts hb, below_step h.be hb, h.kb.trans (KeepBut.of_below hb g none) (.inl rfl), h.gl, h.wl⟩
theorem So.le (h : So w0 W wz g bv p v l N) (hm : N ≤ M) : So w0 W wz g bv p v l M := ⟨h.src.le hm, h.r0, h.vb, h.vg, h.ts, h.be, h.kb, h.gl, h.wl⟩
theorem So.cell2 (h : So w0 W wz g bv p (.slice (some ⟨go, 0, none⟩) l.length cv) l N) (i : Nat) (hi : i < l.length) : wz.cell? ⟨go, i * 4 + 2, none⟩ = some (.int .i64 (rd_T32 l i).f2) ∧ wz.frozen? ⟨go, i * 4 + 2, none⟩ = false := by
  obtain ⟨c, hcl, hM, hcc, hfr⟩ := Kd.R_elem h.ts z32 (i : Int) (by omega) (by omega)
  have hcl2 := k32_openM hM
  have h2 := hcc 2 (.int .i64 (rd_T32 l i).f2) (by rw [hcl2]; rfl)
  have h3 := hfr 2
  rw [Int.toNat_natCast] at h2 h3
  exact ⟨h2, h3⟩
theorem So.put (h : So w0 W wz g bv p (.slice (some ⟨go, 0, none⟩) l.length cv) l N) (i : Nat) (hi : i < l.length) (x : Int) :
    So w0 W (wz.setCell ⟨go, i * 4 + 2, none⟩ (.int .i64 x)) g bv p (.slice (some ⟨go, 0, none⟩) (l.set i ⟨(rd_T32 l i).f0, (rd_T32 l i).f1, x, (rd_T32 l i).f3⟩).length cv) (l.set i ⟨(rd_T32 l i).f0, (rd_T32 l i).f1, x, (rd_T32 l i).f3⟩) N := by
  have g1 := h.gl
  have g2 := h.vg
  have g5 := h.wl
  obtain ⟨c, hcl, hM, hcc, hfr⟩ := Kd.R_elem h.ts z32 (i : Int) (by omega) (by omega)
  have hcl2 := k32_openM hM
  have hS := (Kd.R_seg h.ts (i : Int) (by omega) (by omega) (seg := [.int .i64 x]) (j := 2) hcl hcc (show 3 ≤ 4 by decide) (x' := (⟨(rd_T32 l i).f0, (rd_T32 l i).f1, x, (rd_T32 l i).f3⟩ : S32)) (by rw [hcl2]; exact k32_mkM _ _ _ (⟨(rd_T32 l i).f0, (rd_T32 l i).f1, x, (rd_T32 l i).f3⟩ : S32)) (fun _ hk => hk)).1
  have hgo : W.heap.size ≤ go := h.ts.1 go rfl
  obtain ⟨ls, a_, s_, hI, hI2⟩ := h.src
  have n1 : g ≠ go := fun e => hI.own_ne h.ts (by decide) (by rw [e]; rfl)
  have n2 : W.heap.size ≠ go := fun e => Kd.R_ne h.ts h.r0 (by decide) (by rw [e]; rfl)
  have n3 : bv ≠ go := fun e => Kd.R_ne h.ts h.vb (by decide) (by rw [e]; rfl)
  have e2 : wz.setCells go ((i : Int).toNat * 4 + 2) [.int .i64 x] = wz.setCell ⟨go, i * 4 + 2, none⟩ (.int .i64 x) := by rw [Int.toNat_natCast]; rfl
  have hS2 : TG w0 W (wz.setCell ⟨go, i * 4 + 2, none⟩ (.int .i64 x)) (.slice (some ⟨go, 0, none⟩) l.length cv) (l.set i ⟨(rd_T32 l i).f0, (rd_T32 l i).f1, x, (rd_T32 l i).f3⟩) := by
    rw [← e2]
    rw [Int.toNat_natCast] at hS
    exact hS
  rw [List.length_set]
  exact ⟨Sr.far (p := ⟨go, i * 4 + 2, none⟩) h.src n1 _, blk_far h.r0 n2 _, blk_far h.vb n3 _, g2, hS2, h.be.setCell (p := ⟨go, i * 4 + 2, none⟩) (by show w0.heap.size ≤ go; omega) _, keep_far h.kb (by show W.heap.size ≤ go; omega) _, g1, g5⟩
theorem So.fin {A : Option Addr} (h : So w0 W wz g bv (q : Int) (.slice A l.length cv) l N) :
    ((wz.setCell ⟨W.heap.size, 0, none⟩ (.int .i64 (q : Int))).setCell ⟨W.heap.size, 1, none⟩ (.slice A l.length cv)).heap[W.heap.size]? = some (.cells #[.int .i64 (q : Int), .slice A l.length cv] 26 (0, 0)) ∧
    TG w0 W ((wz.setCell ⟨W.heap.size, 0, none⟩ (.int .i64 (q : Int))).setCell ⟨W.heap.size, 1, none⟩ (.slice A l.length cv)) (.slice A l.length cv) l ∧
    Sr w0 ((wz.setCell ⟨W.heap.size, 0, none⟩ (.int .i64 (q : Int))).setCell ⟨W.heap.size, 1, none⟩ (.slice A l.length cv)) g N ∧
    Below w0.heap.size w0 ((wz.setCell ⟨W.heap.size, 0, none⟩ (.int .i64 (q : Int))).setCell ⟨W.heap.size, 1, none⟩ (.slice A l.length cv)) ∧
    KeepBut W ((wz.setCell ⟨W.heap.size, 0, none⟩ (.int .i64 (q : Int))).setCell ⟨W.heap.size, 1, none⟩ (.slice A l.length cv)) g none :=
  ⟨blk_put (blk_put h.r0 0 (.int .i64 (q : Int)) rfl) 1 (.slice A l.length cv) rfl,
   Kd.R_set (Kd.R_set h.ts h.r0 (by decide) 0 (.int .i64 (q : Int))) (blk_put h.r0 0 (.int .i64 (q : Int)) rfl) (by decide) 1 (.slice A l.length cv),
   (h.src.set (j := 0) h.r0 (by decide) (.int .i64 (q : Int))).set (j := 1) (blk_put h.r0 0 (.int .i64 (q : Int)) rfl) (by decide) (.slice A l.length cv),
   (h.be.setCell (p := ⟨W.heap.size, 0, none⟩) h.wl (.int .i64 (q : Int))).setCell (p := ⟨W.heap.size, 1, none⟩) h.wl (.slice A l.length cv),
   keep_far (keep_far h.kb (p := ⟨W.heap.size, 0, none⟩) (Nat.le_refl _) (.int .i64 (q : Int))) (p := ⟨W.heap.size, 1, none⟩) (Nat.le_refl _) (.slice A l.length cv)⟩
end
def OkEnd (w0 W : World) (g : Nat) (N : Int) (e : Ending) (w' : World) : Prop := ∃ (q : Nat) (l : List S32) (v : Value), e = .returned (.agg #[.int .i64 q, v]) ∧ 2 ≤ q ∧ q ≤ 5 ∧ l.length ≤ 8 ∧ TG w0 W w' v l ∧ Sr w0 w' g (N + 60) ∧ Below w0.heap.size w0 w' ∧ KeepBut W w' g none
set_option maxHeartbeats 8000000 in
set_option maxRecDepth 100000 in
theorem ok_any {w0 W : World} {g : Nat} {N : Int} (hN : N ≤ 400) (hs : Sr w0 W g N) (hB : Below w0.heap.size w0 W) :
    Calls Try.prog 57 #[.pointer (some ⟨g, 0, none⟩)] W (OkEnd w0 W g N) := by
  unfold OkEnd
  have hu26 := Try.underlying26
  have hu32 := Try.underlying32
  have hgl := hs.lt
  have hwl : w0.heap.size ≤ W.heap.size := hB.size
  have hc0 := good_any (by omega) (hs.below (below_alloc (Below.refl _ _) R0)) (below_alloc hB R0)
  have K0 := Aside0.mk (keep_alloc (KeepBut.refl W g none) R0)
  have B0 := Aside0.mk (blk_new W R0)
  clear hs hB
  go_enter Try.func57, Try.ntmps57
  go_wp2_with (fail)
  refine hc0.mono ?_
  rintro e w1 ⟨q, l, hs, v, vh, rfl, hq2, hq5, hl8, -, -, -, hts, -, hs1, hb1, hk1⟩
  have hz1 : W.heap.size + 1 ≤ w1.heap.size := by have := hk1.1; simpa using this
  obtain ⟨A0, c0, rfl⟩ := Kd.R_slice hts
  have hsz : W.heap.size ≤ (W.alloc R0).heap.size := by simp
  have HD0 := Aside0.mk (show So w0 W (w1.alloc (.cells #[.int .i64 (q : Int), .slice A0 l.length c0] 26)) g w1.heap.size q (.slice A0 l.length c0) l (N + 40) by
    have hbb := below_alloc (Below.refl w1.heap.size w1) (.cells #[.int .i64 (q : Int), .slice A0 l.length c0] 26)
    exact ⟨hs1.below hbb, blk_below (hk1.blk B0.out (by omega) (by simp)) hbb, blk_new w1 _, by omega, Kd.R_below (Kd.R_mono hts (fun k hk => Nat.le_trans hsz hk)) hbb, below_step hb1 hbb, (K0.out.trans hk1 (.inl rfl)).trans (KeepBut.of_below hbb g none) (.inl rfl), hgl, hwl⟩)
  obtain ⟨bv, hbv⟩ : ∃ bv, bv = w1.heap.size := ⟨_, rfl⟩
  have hz := one_any 4 (by decide) (by decide) (by omega) HD0.out.src HD0.out.be
  have HL8 := Aside0.mk hl8
  clear hs1 hb1 hk1 hc0 K0 B0 hts hl8 hsz
  go_wp2_with (fail)
  refine hz.mono ?_
  rintro e w2 ⟨b, rfl, hs1, hb1, hk2⟩
  have HD := Aside0.mk (HD0.out.call hs1 hb1 hk2)
  rw [← hbv] at HD ⊢
  clear hz hs1 hb1 hk2 HD0 hbv
  cases b with
  | true =>
    have e1 : w2.cell? ⟨bv, 1, none⟩ = some (.slice A0 l.length c0) := (blk_cell HD.out.vb 1).trans rfl
    have e0 : w2.cell? ⟨bv, 0, none⟩ = some (.int .i64 (q : Int)) := (blk_cell HD.out.vb 0).trans rfl
    have r0 : w2.cell? ⟨W.heap.size, 0, none⟩ = some (.int .i64 0) := (blk_cell HD.out.r0 0).trans rfl
    have r1 : w2.cell? ⟨W.heap.size, 1, none⟩ = some (.slice none 0 0) := (blk_cell HD.out.r0 1).trans rfl
    have f0 := blk_frozen HD.out.r0 0
    have f1 := blk_frozen HD.out.r0 1
    have HF := Aside0.mk (HD.out.fin (q := q))
    go_wp2_with (fail)
    refine bodyPost_ret (results_cell_row rfl _ _ W.heap.size 26 #[.int .i64 (q : Int), .slice A0 l.length c0] (0, 0) _ rfl HF.out.1 hu26 rfl (by kernel_rfl)) rfl ?_
    exact ⟨q, l, _, rfl, hq2, hq5, HL8.out, HF.out.2.1, HF.out.2.2.1.le (by omega), HF.out.2.2.2.1, HF.out.2.2.2.2⟩
  | false =>
    have hz := one_any 2 (by decide) (by decide) (by omega) HD.out.src HD.out.be
    go_wp2_with (fail)
    refine hz.mono ?_
    rintro e w3 ⟨b, rfl, hs1, hb1, hk2⟩
    have HD1 := Aside0.mk (HD.out.call hs1 hb1 hk2)
    clear hz hs1 hb1 hk2 HD
    go_wp2_with (fail)
    go_loopw [6] (fun v6 wz => ∃ (i : Nat) (l : List S32) (v : Value), v6 = .int .i64 (i : Int) ∧ i ≤ l.length ∧ Aside0 (l.length ≤ 8) ∧ Aside0 (So w0 W wz g bv q v l (N + 42 + i))) (fun v wz => 8 - (intOf v).toNat)
    case atStart => exact ⟨0, l, _, rfl, by omega, HL8, ⟨HD1.out.le (by omega)⟩⟩
    case round =>
      clear HD1 HL8
      obtain ⟨i, l, v, rfl, hil, HL8, HD⟩ := hrel
      by_cases hlt : i < l.length
      · obtain ⟨go, cv, rfl, -, -, -⟩ := Kd.R_form HD.out.ts (by omega)
        have p1 : decide ((i : Int) < (l.length : Int)) = true := decide_eq_true (by omega)
        have e1 : wr.cell? ⟨bv, 1, none⟩ = some (.slice (some ⟨go, 0, none⟩) l.length cv) := (blk_cell HD.out.vb 1).trans rfl
        have k1 : (0 ≤ (i : Int)) = True := eq_true (by omega)
        have k2 : ((i : Int) < (l.length : Int)) = True := eq_true (by omega)
        by_cases hbi : b = true ∧ 0 < i
        · obtain ⟨rfl, hi0⟩ := hbi
          have p2 : decide ((i : Int) > 0) = true := decide_eq_true (by omega)
          have p3 : decide (0 < (i : Int)) = true := p2
          have hl8 := HL8.out
          have e1 : wr.cell? ⟨bv, 1, none⟩ = some (.slice (some ⟨go, 0, none⟩) l.length cv) := (blk_cell HD.out.vb 1).trans rfl
          have e0 : wr.cell? ⟨bv, 0, none⟩ = some (.int .i64 (q : Int)) := (blk_cell HD.out.vb 0).trans rfl
          have r0 : wr.cell? ⟨W.heap.size, 0, none⟩ = some (.int .i64 0) := (blk_cell HD.out.r0 0).trans rfl
          have r1 : wr.cell? ⟨W.heap.size, 1, none⟩ = some (.slice none 0 0) := (blk_cell HD.out.r0 1).trans rfl
          have f0 := blk_frozen HD.out.r0 0
          have f1 := blk_frozen HD.out.r0 1
          have HF := Aside0.mk (HD.out.fin (q := q))
          go_wp2_with (fail)
          refine bodyPost_ret (results_cell_row rfl _ _ W.heap.size 26 #[.int .i64 (q : Int), .slice (some ⟨go, 0, none⟩) l.length cv] (0, 0) _ rfl HF.out.1 hu26 rfl (by kernel_rfl)) rfl ?_
          exact ⟨q, l, _, rfl, hq2, hq5, HL8.out, HF.out.2.1, HF.out.2.2.1.le (by omega), HF.out.2.2.2.1, HF.out.2.2.2.2⟩
        · have hpk : b = false ∨ (b = true ∧ decide (0 < (i : Int)) = false ∧ decide (0 < i) = false) := by
            cases b with
            | false => exact .inl rfl
            | true => exact .inr ⟨rfl, decide_eq_false (fun h => hbi ⟨rfl, by omega⟩), decide_eq_false (fun h => hbi ⟨rfl, h⟩)⟩
          have HDw := Aside0.mk (HD.out.below (below_drew (Below.refl wr.heap.size wr)))
          have HPI := Aside0.mk (pick_any 7 (by decide) (by decide) (by have := HL8.out; omega) HDw.out.src HDw.out.be)
          obtain ⟨x2, hx2⟩ : ∃ x2, x2 = (rd_T32 l i).f2 := ⟨_, rfl⟩
          have x2e : wr.cell? ⟨go, i * 4 + 2, none⟩ = some (.int .i64 x2) := by rw [hx2]; exact (HD.out.cell2 i hlt).1
          have XE := Aside0.mk (show some (Value.int .i64 (rd_T32 l i).f2) = some (.int .i64 x2) by rw [hx2])
          clear hx2 hbi
          have hi8 : (i : Int) ≤ 8 := by have := HL8.out; omega
          rcases hpk with rfl | ⟨rfl, p3, p4⟩
          all_goals (
            go_wp2_with (fail)
            refine start_ (n:=13) (S := fun w' => w'.cell? ⟨bv, 1, none⟩ = some (.slice (some ⟨go, 0, none⟩) l.length cv) ∧ w'.cell? ⟨go, i * 4 + 2, none⟩ = some (.int .i64 x2)) (ds:=[12]) #[false,false,false,false,false,false,false,false,false,false,false,false,false] (by kernel_rfl) rfl rfl ⟨e1, x2e⟩ (fun hHeld => ?_)
            refine pure_ (i:=0) (N:=some 29) (v:=?_) (a':=?_) #[true,false,false,false,false,false,false,false,false,false,false,false,false] rfl rfl (by kernel_rfl) (fun _ _ _ h => h) (Or.inl ⟨by rfl, ?_⟩) ?_ ?_
            rotate_left
            · intro w'
              go_simp
              with_reducible rfl
            rotate_left
            · go_simp
              rfl
            refine pure_ (i:=2) (N:=some 31) (v:=?_) (a':=?_) #[true,false,true,false,false,false,false,false,false,false,false,false,false] rfl rfl (by kernel_rfl) (fun _ _ _ h => h) (Or.inl ⟨by rfl, ?_⟩) ?_ ?_
            rotate_left
            · intro w'
              go_simp
              with_reducible rfl
            rotate_left
            · go_simp
              rfl
            refine pure_ (i:=6) (N:=some 35) (v:=?_) (a':=?_) #[true,false,true,false,false,false,true,false,false,false,false,false,false] rfl rfl (by kernel_rfl) (fun _ _ _ h => h) (Or.inl ⟨by rfl, ?_⟩) ?_ ?_
            rotate_left
            · intro w'
              go_simp
              with_reducible rfl
            rotate_left
            · go_simp
              rfl
            refine take_ (i:=1) (N:=some 30) (v:=?_) (a':=?_) #[true,true,true,false,false,false,true,false,false,false,false,false,false] rfl rfl (by kernel_rfl) (fun _ _ _ h => h) (Or.inl ⟨by rfl, ?_⟩) hHeld ?_ ?_
            rotate_left
            · rintro w' ⟨s0, s1⟩
              go_simp
              with_reducible rfl
            rotate_left
            · go_simp
              rfl
            refine pure_ (i:=3) (N:=some 32) (v:=?_) (a':=?_) #[true,true,true,true,false,false,true,false,false,false,false,false,false] rfl rfl (by kernel_rfl) (fun _ _ _ h => h) (Or.inl ⟨by rfl, ?_⟩) ?_ ?_
            rotate_left
            · intro w'
              go_simp
              with_reducible rfl
            rotate_left
            · go_simp
              rfl
            refine pure_ (i:=4) (N:=some 33) (v:=?_) (a':=?_) #[true,true,true,true,true,false,true,false,false,false,false,false,false] rfl rfl (by kernel_rfl) (fun _ _ _ h => h) (Or.inl ⟨by rfl, ?_⟩) ?_ ?_
            rotate_left
            · intro w'
              go_simp
              with_reducible rfl
            rotate_left
            · go_simp
              rfl
            refine take_ (i:=5) (N:=some 34) (v:=?_) (a':=?_) #[true,true,true,true,true,true,true,false,false,false,false,false,false] rfl rfl (by kernel_rfl) (fun _ _ _ h => h) (Or.inl ⟨by rfl, ?_⟩) hHeld ?_ ?_
            rotate_left
            · rintro w' ⟨s0, s1⟩
              go_simp
              with_reducible rfl
            rotate_left
            · go_simp
              rfl
            refine one_ (i:=7) (N:=some 36) #[true,true,true,true,true,true,true,true,false,false,false,false,false] rfl rfl (by kernel_rfl) (by decide) (fun K_ hK => ?_)
            refine goes_ Try.func97 (by kernel_rfl) rfl #[.pointer (some ⟨g, 0, none⟩), .int .i64 7] (by rfl) rfl rfl (by (try simp only [List.map_toArray, List.map_cons, List.map_nil]); first | done | rfl) ?_
            refine HPI.out.mono ?_
            rintro e w5 ⟨y, rfl, y0, y1, hs5, hb5, hk5⟩
            have HD5 := Aside0.mk (HDw.out.call hs5 hb5 hk5)
            clear hs5 hb5 hk5
            have hfz := HD5.out.cell2 i hlt
            have hfy := hfz.2
            refine ⟨_, rfl, ?_⟩
            refine hK.out _ _ ⟨(blk_cell HD5.out.vb 1).trans rfl, hfz.1.trans XE.out⟩ (fun hHeld => ?_)
            clear hK K_ hfz
            refine norm_ (a':=?_) ?_ ?_
            rotate_left
            · show Act.put _ (some 36) _ = _
              go_simp
              rfl
            refine pure_ (i:=8) (N:=some 37) (v:=?_) (a':=?_) #[true,true,true,true,true,true,true,true,true,false,false,false,false] rfl rfl (by kernel_rfl) (fun _ _ _ h => h) (Or.inl ⟨by rfl, ?_⟩) ?_ ?_
            rotate_left
            · intro w'
              go_simp
              with_reducible rfl
            rotate_left
            · go_simp
              rfl
            refine pure_ (i:=9) (N:=some 38) (v:=?_) (a':=?_) #[true,true,true,true,true,true,true,true,true,true,false,false,false] rfl rfl (by kernel_rfl) (fun _ _ _ h => h) (Or.inl ⟨by rfl, ?_⟩) ?_ ?_
            rotate_left
            · intro w'
              go_simp
              with_reducible rfl
            rotate_left
            · go_simp
              rfl
            refine pure_ (i:=10) (N:=some 39) (v:=?_) (a':=?_) #[true,true,true,true,true,true,true,true,true,true,true,false,false] rfl rfl (by kernel_rfl) (fun _ _ _ h => h) (Or.inl ⟨by rfl, ?_⟩) ?_ ?_
            rotate_left
            · intro w'
              go_simp
              with_reducible rfl
            rotate_left
            · go_simp
              rfl
            refine pure_ (i:=11) (N:=some 40) (v:=?_) (a':=?_) #[true,true,true,true,true,true,true,true,true,true,true,true,false] rfl rfl (by kernel_rfl) (fun _ _ _ h => h) (Or.inl ⟨by rfl, ?_⟩) ?_ ?_
            rotate_left
            · intro w'
              go_simp
              with_reducible rfl
            rotate_left
            · go_simp
              rfl
            refine last_ (i:=12) (N:=none) #[true,true,true,true,true,true,true,true,true,true,true,true,true] rfl rfl (by kernel_rfl) (by decide) (fun K_ hK => ?_)
            refine skip_ (w1 := ?_) (by rfl) rfl ?_ ?_
            rotate_left
            · go_simp
              rfl
            refine hK.out _ _ ?_
            clear hK K_
            refine done_ (by kernel_rfl) ?_
            clear hHeld
            go_wp2_with (fail)
            go_roundw
            case rel => exact ⟨i + 1, _, _, by go_num, by simp; omega, ⟨by have := HL8.out; simpa using this⟩, ⟨(HD5.out.put i hlt _).le (by omega)⟩⟩
            case measure => have := HL8.out; simp [intOf]; omega)
      · obtain rfl : i = l.length := by omega
        have p1 : decide ((l.length : Int) < (l.length : Int)) = false := decide_eq_false (by omega)
        have hl8 := HL8.out
        obtain ⟨Az, cz, rfl⟩ := Kd.R_slice HD.out.ts
        have e1 : wr.cell? ⟨bv, 1, none⟩ = some (.slice Az l.length cz) := (blk_cell HD.out.vb 1).trans rfl
        have e0 : wr.cell? ⟨bv, 0, none⟩ = some (.int .i64 (q : Int)) := (blk_cell HD.out.vb 0).trans rfl
        have r0 : wr.cell? ⟨W.heap.size, 0, none⟩ = some (.int .i64 0) := (blk_cell HD.out.r0 0).trans rfl
        have r1 : wr.cell? ⟨W.heap.size, 1, none⟩ = some (.slice none 0 0) := (blk_cell HD.out.r0 1).trans rfl
        have f0 := blk_frozen HD.out.r0 0
        have f1 := blk_frozen HD.out.r0 1
        have HF := Aside0.mk (HD.out.fin (q := q))
        go_wp2_with (fail)
        refine bodyPost_ret (results_cell_row rfl _ _ W.heap.size 26 #[.int .i64 (q : Int), .slice Az l.length cz] (0, 0) _ rfl HF.out.1 hu26 rfl (by kernel_rfl)) rfl ?_
        exact ⟨q, l, _, rfl, hq2, hq5, HL8.out, HF.out.2.1, HF.out.2.2.1.le (by omega), HF.out.2.2.2.1, HF.out.2.2.2.2⟩
end Go.Proofs.Ytkafbmanmffliaa.Ds

/- The laws' surveys: valid and connected. -/
namespace Go.Proofs.Ytkafbmanmffliaa.Dr
open Go Go.RowKit YtkafbmanmffliaaW.PrintWords YtkafbmanmffliaaW.PrintLast YtkafbmanmffliaaW.PrintMore Q Hc Hf Gd Ge Gi Dw Dg Ds
set_option maxHeartbeats 4000000 in
theorem whole_any (g : Nat) (pts : Int) (A : Option Addr) (c : Nat) (l : List S32) (w : World) (hb : w.heap[g]? = some (.cells #[.int .i64 pts, .slice A l.length c] 26 (0, 0))) (hr : Kd.C k32 w A l.length l) :
  Calls Try.prog 58 #[.pointer (some ⟨g, 0, none⟩)] w fun e w' => e = .returned (.bool (Gm.connB pts l)) ∧ Below w.heap.size w w' := by
 have hc0 := Hb.l10Is_any g pts A c l w hb hr
 have HR := Aside0.mk hr
 have HB := Aside0.mk hb
 clear hr hb
 by_cases hv : Hb.surveyB pts l = true
 ·have HC := Aside0.mk (show Gm.connB pts l = (Hd.treeS pts l).part.all (· == 0) by unfold Gm.connB; rw [hv, Bool.true_and])
  have HV := Aside0.mk hv
  rw [hv] at hc0
  rw [HC.out]
  clear hv
  go_enter Try.func58, Try.ntmps58
  go_wp2_with (fail)
  refine hc0.mono ?_
  rintro e w1 ⟨rfl, hb1⟩
  have hz := Hd.l10Tree_any g pts A c l w1 (blk_below HB.out hb1) (Kd.C_below HR.out hb1) HV.out
  have HB1 := Aside0.mk hb1
  clear hc0 hb1
  go_wp2_with (fail)
  refine hz.mono ?_
  rintro e w2 ⟨v0, v1, ok, rfl, hok, -, -, -, hb2⟩
  have HB2 := Aside0.mk (below_step HB1.out hb2)
  clear hz hb2
  go_wp2_with (fail)
  go_ret
  exact ⟨rfl, HB2.out⟩
 ·have hv' : Hb.surveyB pts l = false := by simpa using hv
  have HC := Aside0.mk (show Gm.connB pts l = false by unfold Gm.connB; rw [hv', Bool.false_and])
  rw [hv'] at hc0
  rw [HC.out]
  clear hv hv'
  go_enter Try.func58, Try.ntmps58
  go_wp2_with (fail)
  refine hc0.mono ?_
  rintro e w1 ⟨rfl, hb1⟩
  have HB1 := Aside0.mk hb1
  clear hc0 hb1
  go_wp2_with (fail)
  go_ret
  exact ⟨rfl, HB1.out⟩
def star (f : Nat → Int) (x : Int) (m : Nat) : List S32 := (List.range m).map fun j : Nat => ⟨0, (j : Int) + 1, f (j + 1), x⟩
theorem star_len (f : Nat → Int) (x : Int) (m : Nat) : (star f x m).length = m := by simp [star]
theorem star_succ (f : Nat → Int) (x : Int) (m : Nat) : star f x (m + 1) = star f x m ++ [⟨0, (m : Int) + 1, f (m + 1), x⟩] := by simp [star, List.range_succ]
theorem star_part (f : Nat → Int) (x : Int) (q : Nat) (h2 : 2 ≤ q) (h5 : q ≤ 5) : (Hd.treeS (q : Int) (star f x (q - 1))).part.all (· == 0) = true := by
 have hq : q = 2 ∨ q = 3 ∨ q = 4 ∨ q = 5 := by omega
 rcases hq with rfl | rfl | rfl | rfl <;> rfl
theorem star_conn (f : Nat → Int) (x : Int) (q : Nat) (h2 : 2 ≤ q) (h5 : q ≤ 5) (hf : ∀ j, -100 ≤ f j ∧ f j ≤ 100) (hx : 1 ≤ x) (hx3 : x ≤ 3) : Gm.connB (q : Int) (star f x (q - 1)) = true := by
 unfold Gm.connB
 rw [star_part f x q h2 h5, Bool.and_true]
 unfold Hb.surveyB
 rw [star_len]
 simp only [Bool.and_eq_true, decide_eq_true_eq, List.all_eq_true]
 refine ⟨⟨by unfold Ha.inB; simp; omega, by omega⟩, fun s hs => ?_⟩
 obtain ⟨j, hj, rfl⟩ := List.mem_map.1 hs
 have hj := List.mem_range.1 hj
 have hfj := hf (j + 1)
 have hw : wrap64 ((q : Int) - 1) = q - 1 := wrap_id (by omega) (by omega)
 unfold Hb.sightB
 rw [hw]
 simp [Ha.inB]
 omega
structure Sk (w wz : World) (bv : Nat) (p : Int) (v : Value) (l : List S32) : Prop where
 r0 : wz.heap[w.heap.size]? = some (.cells #[.int .i64 0, .slice none 0 0] 26 (0, 0))
 vb : wz.heap[bv]? = some (.cells #[.int .i64 p, v] 26 (0, 0))
 vg : w.heap.size < bv
 ts : TS w.heap.size wz v l
 be : Below w.heap.size w wz
section
variable {w wz w1 w2 : World} {bv cv q : Nat} {p : Int} {v v1 : Value} {l : List S32} {s : S32}
theorem Sk.below (h : Sk w wz bv p v l) (hb : Below wz.heap.size wz w1) : Sk w w1 bv p v l :=
 ⟨blk_below h.r0 hb, blk_below h.vb hb, h.vg, Kd.R_below h.ts hb, below_step h.be hb⟩
theorem Sk.push (h : Sk w wz bv p v l) (h1 : TS w.heap.size w2 v1 (l ++ [s])) (hg : wz.grownBy w2 v.ownBlock) : Sk w (w2.setCell ⟨bv, 1, none⟩ v1) bv p v1 (l ++ [s]) := by
 have g2 := h.vg
 have vb := blk_grown h.vb hg (Kd.R_ne h.ts h.vb (by decide))
 have hbe : Below w.heap.size w w2 := by
  cases hv : v.ownBlock with
  | none => rw [hv] at hg; exact below_step h.be ⟨hg.os, hg.tape, hg.output, hg.size, fun k hk => hg.block k hk (by simp)⟩
  | some b => rw [hv] at hg; exact below_grownB h.be (Nat.le_refl _) hg ((Kd.R_bound h.ts).1 b hv).2.1
 exact ⟨blk_far (blk_grown h.r0 hg (Kd.R_ne h.ts h.r0 (by decide))) (by show w.heap.size ≠ bv; omega) _, blk_put vb 1 v1 rfl, g2, Kd.R_set h1 vb (by decide) 1 v1, hbe.setCell (p := ⟨bv, 1, none⟩) (by show w.heap.size ≤ bv; omega) _⟩
theorem Sk.put (h : Sk w wz bv p v l) (l1 : List S32) (h1 : TS w.heap.size wz v1 l1) : Sk w (wz.setCell ⟨bv, 1, none⟩ v1) bv p v1 l1 := by
 have g2 := h.vg
 exact ⟨blk_far h.r0 (by show w.heap.size ≠ bv; omega) _, blk_put h.vb 1 v1 rfl, g2, Kd.R_set h1 h.vb (by decide) 1 v1, h.be.setCell (p := ⟨bv, 1, none⟩) (by show w.heap.size ≤ bv; omega) _⟩
theorem Sk.fin {A : Option Addr} (h : Sk w wz bv (q : Int) (.slice A l.length cv) l) :
  ((wz.setCell ⟨w.heap.size, 0, none⟩ (.int .i64 (q : Int))).setCell ⟨w.heap.size, 1, none⟩ (.slice A l.length cv)).heap[w.heap.size]? = some (.cells #[.int .i64 (q : Int), .slice A l.length cv] 26 (0, 0)) ∧
  TS w.heap.size ((wz.setCell ⟨w.heap.size, 0, none⟩ (.int .i64 (q : Int))).setCell ⟨w.heap.size, 1, none⟩ (.slice A l.length cv)) (.slice A l.length cv) l ∧
  Below w.heap.size w ((wz.setCell ⟨w.heap.size, 0, none⟩ (.int .i64 (q : Int))).setCell ⟨w.heap.size, 1, none⟩ (.slice A l.length cv)) :=
 ⟨blk_put (blk_put h.r0 0 (.int .i64 (q : Int)) rfl) 1 (.slice A l.length cv) rfl,
  Kd.R_set (Kd.R_set h.ts h.r0 (by decide) 0 (.int .i64 (q : Int))) (blk_put h.r0 0 (.int .i64 (q : Int)) rfl) (by decide) 1 (.slice A l.length cv),
  (h.be.setCell (p := ⟨w.heap.size, 0, none⟩) (Nat.le_refl _) (.int .i64 (q : Int))).setCell (p := ⟨w.heap.size, 1, none⟩) (Nat.le_refl _) (.slice A l.length cv)⟩
theorem ts_nil (hB : w.heap.size ≤ w1.heap.size) : TS w.heap.size (w1.alloc (.cells #[] 32)) (.slice (some ⟨w1.heap.size, 0, none⟩) 0 0) [] := Kd.R_mono (tg_nil (w0 := w) (W := w) w1 hB hB) (fun _ _ => trivial)
end
def SurveyEnd (w : World) (e : Ending) (w' : World) : Prop := ∃ (p : Int) (l : List S32) (v : Value), e = .returned (.agg #[.int .i64 p, v]) ∧ Gm.connB p l = true ∧ TS w.heap.size w' v l ∧ Below w.heap.size w w'
set_option maxHeartbeats 8000000 in
set_option maxRecDepth 100000 in
theorem survey_any (code : List Int) (hb : ∀ b ∈ code, 0 ≤ b ∧ b ≤ 255) (A : Option Addr) (c : Nat) (w : World) (hr : Kd.C (Kd.int .u8) w A code.length code) (hc : code.length ≤ c) :
  Calls Try.prog 18 #[.slice A code.length c] w (SurveyEnd w) := by
 unfold SurveyEnd
 have hu26 := Try.underlying26
 have hu32 := Try.underlying32
 have hc0 := spec_l00From.calls A c code code 0 0 w (w.alloc R0) (below_alloc (Below.refl _ _) R0) hr hc rfl
 have B0 := Aside0.mk (blk_new w R0)
 have HBY := Aside0.mk hb
 clear hr hc hb
 go_enter Try.func18, Try.ntmps18
 go_wp2_with (fail)
 refine hc0.mono ?_
 rintro e w1 ⟨g, rfl, hI, hb1, hb2⟩
 have hsr : Sr w w1 g 0 := ⟨code, 0, 0, hI, HBY.out, Int.le_refl _, Int.le_refl _⟩
 have B1 := Aside0.mk (blk_below B0.out hb2)
 have hne : g ≠ w.heap.size := hsr.ne_blk B1.out (by decide)
 have hz := ok_any (by decide) hsr hb1
 have HB1 := Aside0.mk hb1
 clear hc0 hI hb1 hb2 B0 hsr
 go_wp2_with (fail)
 refine hz.mono ?_
 rintro e w2 ⟨q, l, v, rfl, hq2, hq5, hl8, hts, -, hb2, hk2⟩
 have hts2 : TS w.heap.size w2 v l := Kd.R_mono hts (fun _ _ => trivial)
 have B2 := hk2.blk B1.out (fun e => hne e.symm) (by simp)
 have hlt := blk_lt B2
 obtain ⟨A0, c0, rfl⟩ := Kd.R_slice hts2
 have HD := Aside0.mk (show Sk w (w2.alloc (.cells #[.int .i64 (q : Int), .slice A0 l.length c0] 26)) w2.heap.size q (.slice A0 l.length c0) l by
  have hbb := below_alloc (Below.refl w2.heap.size w2) (.cells #[.int .i64 (q : Int), .slice A0 l.length c0] 26)
  exact ⟨blk_below B2 hbb, blk_new w2 _, hlt, Kd.R_below hts2 hbb, below_step hb2 hbb⟩)
 have hw := whole_any w2.heap.size (q : Int) A0 c0 l _ HD.out.vb (Kd.R_reads' HD.out.ts).2.2
 obtain ⟨bv, hbv⟩ : ∃ bv, bv = w2.heap.size := ⟨_, rfl⟩
 clear hz hts hts2 hb2 hk2 B1 B2 hne hlt HB1
 go_wp2_with (fail)
 refine hw.mono ?_
 rintro e w3 ⟨rfl, hb3⟩
 have HD1 := Aside0.mk (HD.out.below hb3)
 rw [← hbv] at HD1 ⊢
 clear hb3 HD hw hbv
 obtain ⟨cb, hcb⟩ : ∃ cb, cb = Gm.connB (q : Int) l := ⟨_, rfl⟩
 rw [← hcb]
 have HCB := Aside0.mk hcb
 clear hcb
 cases cb with
 | true =>
  have HF := Aside0.mk HD1.out.fin
  have e1 : w3.cell? ⟨bv, 1, none⟩ = some (.slice A0 l.length c0) := (blk_cell HD1.out.vb 1).trans rfl
  have e0 : w3.cell? ⟨bv, 0, none⟩ = some (.int .i64 (q : Int)) := (blk_cell HD1.out.vb 0).trans rfl
  have r0 : w3.cell? ⟨w.heap.size, 0, none⟩ = some (.int .i64 0) := (blk_cell HD1.out.r0 0).trans rfl
  have r1 : w3.cell? ⟨w.heap.size, 1, none⟩ = some (.slice none 0 0) := (blk_cell HD1.out.r0 1).trans rfl
  have f0 := blk_frozen HD1.out.r0 0
  have f1 := blk_frozen HD1.out.r0 1
  go_wp2_with (fail)
  refine bodyPost_ret (results_cell_row rfl _ _ w.heap.size 26 #[.int .i64 (q : Int), .slice A0 l.length c0] (0, 0) _ rfl HF.out.1 hu26 rfl (by kernel_rfl)) rfl ?_
  exact ⟨q, l, _, rfl, HCB.out.symm, HF.out.2.1, HF.out.2.2⟩
 | false =>
  have HD2 := Aside0.mk ((HD1.out.below (below_alloc (Below.refl _ _) (.cells #[] 32))).put [] (ts_nil HD1.out.be.size))
  have e1 : w3.cell? ⟨bv, 1, none⟩ = some (.slice A0 l.length c0) := (blk_cell HD1.out.vb 1).trans rfl
  have f1 := blk_frozen HD1.out.vb 1
  have hlt := blk_lt HD1.out.vb
  rw [World.setCell_alloc_past _ _ _ _ hlt] at HD2
  clear HD1
  go_wp2_with (fail)
  clear e1 f1
  go_loopw [5] (fun v5 wz => ∃ (k : Nat) (v : Value), v5 = .int .i64 ((k : Int) + 1) ∧ k + 1 ≤ q ∧ Aside0 (Sk w wz bv q v (star (fun j => (j : Int)) 1 k))) (fun v _ => q - (intOf v).toNat)
  case atStart => exact ⟨0, _, rfl, by omega, HD2⟩
  case round =>
   clear HD2 hlt
   obtain ⟨k, v, rfl, hkq, HD⟩ := hrel
   obtain ⟨Av, cv, rfl⟩ := Kd.R_slice HD.out.ts
   have e0 : wr.cell? ⟨bv, 0, none⟩ = some (.int .i64 (q : Int)) := (blk_cell HD.out.vb 0).trans rfl
   have e1 : wr.cell? ⟨bv, 1, none⟩ = some (.slice Av (star (fun j => (j : Int)) 1 k).length cv) := (blk_cell HD.out.vb 1).trans rfl
   have hlen := star_len (fun j => (j : Int)) 1 k
   obtain ⟨ls, hls⟩ : ∃ ls, ls = star (fun j => (j : Int)) 1 k := ⟨_, rfl⟩
   have HS := Aside0.mk (show star (fun j => (j : Int)) 1 (k + 1) = star (fun j => (j : Int)) 1 k ++ [⟨0, (k : Int) + 1, (k : Int) + 1, 1⟩] from star_succ (fun j => (j : Int)) 1 k)
   rw [← hls] at HD e1 hlen HS
   have HLS := Aside0.mk hls
   have HLN := Aside0.mk (show (ls.length + 1) * 32 ≤ 140737488355328 by omega)
   clear hls hlen
   by_cases hlt : k + 1 < q
   ·have p1 : decide ((k : Int) + 1 < (q : Int)) = true := decide_eq_true (by omega)
    go_wp2_with ((with_reducible refine gate_builtin (b := .append) (xs := #[.tmp 21, .tmp 25]) rfl ?_); at_builtin; refine Kd.R_append k32 (w0 := w) w.heap.size rfl (.tmp 21) (.tmp 25) 24 32 (.agg #[.int .i64 0, .int .i64 0, .int .i64 0, .int .i64 0]) 32 rfl Try.underlying24 info32 rfl (by decide) (by decide) (.slice Av ls.length cv) ls ⟨0, (k : Int) + 1, (k : Int) + 1, 1⟩ [.int .i64 0, .int .i64 ((k : Int) + 1), .int .i64 ((k : Int) + 1), .int .i64 1] (fun _ => True) (fun _ => False) rfl rfl (k32_mkM _ _ _ _) (fun _ hk => hk.elim) (fun _ hk => trivial) HD.out.ts HD.out.be HD.out.be.size HLN.out ?_; intro v1 w5 h1 h2 h3 h4; obtain ⟨A1, c1, rfl⟩ := Kd.R_slice h1; have HD7 := Aside0.mk (HD.out.push h1 h3); have VB7 := blk_grown HD.out.vb h3 (Kd.R_ne HD.out.ts HD.out.vb (by decide)); have q1 : w5.cell? ⟨bv, 1, none⟩ = some (.slice Av ls.length cv) := (blk_cell VB7 1).trans rfl; have q2 := blk_frozen VB7 1; clear h1 h2 h3 h4 VB7 e0 e1)
    go_roundw
    case rel => exact ⟨k + 1, _, by go_num, by omega, ⟨by have h := HD7.out; rw [List.length_append, List.length_singleton] at h; rw [HS.out]; exact h⟩⟩
    case measure => simp [intOf]; omega
   ·have p1 : decide ((k : Int) + 1 < (q : Int)) = false := decide_eq_false (by omega)
    have hkq2 : k = q - 1 := by omega
    have hcn := star_conn (fun j => if j ≤ 100 then (j : Int) else 0) 1 q hq2 hq5 (fun j => by show -100 ≤ (if j ≤ 100 then (j : Int) else 0) ∧ (if j ≤ 100 then (j : Int) else 0) ≤ 100; split <;> omega) (by decide) (by decide)
    have HCN := Aside0.mk (show Gm.connB (q : Int) ls = true by
     rw [HLS.out, hkq2]
     have e : star (fun j => (j : Int)) 1 (q - 1) = star (fun j => if j ≤ 100 then (j : Int) else 0) 1 (q - 1) := by
      unfold star
      refine List.map_congr_left (fun j hj => ?_)
      have := List.mem_range.1 hj
      show (⟨0, (j : Int) + 1, ((j + 1 : Nat) : Int), 1⟩ : S32) = ⟨0, (j : Int) + 1, if j + 1 ≤ 100 then ((j + 1 : Nat) : Int) else 0, 1⟩
      rw [if_pos (by omega)]
     rw [e]
     exact hcn)
    have HF := Aside0.mk HD.out.fin
    have r0 : wr.cell? ⟨w.heap.size, 0, none⟩ = some (.int .i64 0) := (blk_cell HD.out.r0 0).trans rfl
    have r1 : wr.cell? ⟨w.heap.size, 1, none⟩ = some (.slice none 0 0) := (blk_cell HD.out.r0 1).trans rfl
    have f0 := blk_frozen HD.out.r0 0
    have f1 := blk_frozen HD.out.r0 1
    clear hkq2 hcn
    go_wp2_with (fail)
    refine bodyPost_ret (results_cell_row rfl _ _ w.heap.size 26 #[.int .i64 (q : Int), .slice Av ls.length cv] (0, 0) _ rfl HF.out.1 hu26 rfl (by kernel_rfl)) rfl ?_
    exact ⟨q, ls, _, rfl, HCN.out, HF.out.2.1, HF.out.2.2⟩
end Go.Proofs.Ytkafbmanmffliaa.Dr

namespace Go.Proofs.Ytkafbmanmffliaa.Q
open Go.RowKit YtkafbmanmffliaaW.PrintWords YtkafbmanmffliaaW.PrintLast YtkafbmanmffliaaW.PrintMore
attribute [local go_sem] max2_int min2_int max_two min_two max_three min_three max_four min_four
def laws_r8Long.f (l0 : List Int) (l1 : List Int) : Option (Bool) := if (l0.length : Int) > 48 then (some true) else (some (decide ((l1.length : Int) > 48)))
set_option maxHeartbeats 8000000 in
set_option maxRecDepth 100000 in
theorem laws_r8Long.calls (A0 : Option Addr) (c0 : Nat) (l0 : List Int) (A1 : Option Addr) (c1 : Nat) (l1 : List Int) (r : Bool) (w : World) (hr0 : Kd.C (Kd.int .u8) w A0 l0.length l0) (hc0 : l0.length ≤ c0) (hr1 : Kd.C (Kd.int .u8) w A1 l1.length l1) (hc1 : l1.length ≤ c1) (h : laws_r8Long.f l0 l1 = some r) :
  Calls Try.prog 17 #[.slice A0 l0.length c0, .slice A1 l1.length c1] w fun e w' => e = .returned (.bool r) ∧ Drawn0 w w' := by
 have HR0 := Aside0.mk hr0
 have HC0 := Aside0.mk hc0
 clear hr0 hc0
 have HR1 := Aside0.mk hr1
 have HC1 := Aside0.mk hc1
 clear hr1 hc1
 have H : (if (l0.length : Int) > 48 then (some true) else (some (decide ((l1.length : Int) > 48)))) = some r := h
 clear h
 by_cases c3 : (l0.length : Int) > 48
 ·rw [if_pos c3] at H
  have c3b0 : decide (48 < (l0.length : Int)) = true := decide_eq_true c3
  have c3b1 : decide (48 < l0.length) = true := decide_eq_true (by omega)
  clear c3
  obtain rfl := Option.some.inj H
  go_enter Try.func17, Try.ntmps17
  go_wp2
  go_ret
  exact ⟨by first | rfl | (simp; done) | (simp [*]; done), by repeat (first | exact Drawn0.refl _ | apply Drawn0.step)⟩
 ·rw [if_neg c3] at H
  have c3b0 : decide (48 < (l0.length : Int)) = false := decide_eq_false c3
  have c3b1 : decide (48 < l0.length) = false := decide_eq_false (by omega)
  clear c3
  obtain rfl := Option.some.inj H
  go_enter Try.func17, Try.ntmps17
  go_wp2
  go_ret
  exact ⟨by first | rfl | (simp; done) | (simp [*]; done), by repeat (first | exact Drawn0.refl _ | apply Drawn0.step)⟩
end Go.Proofs.Ytkafbmanmffliaa.Q

/- What the laws over drawn surveys share. -/
namespace Go.Proofs.Ytkafbmanmffliaa.Lg
open Go Go.RowKit YtkafbmanmffliaaW.PrintWords YtkafbmanmffliaaW.PrintLast YtkafbmanmffliaaW.PrintMore Q
theorem long_any (A : Option Addr) (c : Nat) (code : List Int) (A2 : Option Addr) (c2 : Nat) (more : List Int) (w : World) (hr : Kd.C (Kd.int .u8) w A code.length code) (hc : code.length ≤ c) (hr2 : Kd.C (Kd.int .u8) w A2 more.length more) (hc2 : more.length ≤ c2) :
  ∃ b : Bool, (b = false → code.length ≤ 48 ∧ more.length ≤ 48) ∧ Calls Try.prog 17 #[.slice A code.length c, .slice A2 more.length c2] w fun e w' => e = .returned (.bool b) ∧ Drawn0 w w' := by
 by_cases h : (code.length : Int) > 48
 ·exact ⟨true, (fun e => by cases e), laws_r8Long.calls A c code A2 c2 more true w hr hc hr2 hc2 (by unfold laws_r8Long.f; rw [if_pos h])⟩
 ·exact ⟨decide ((more.length : Int) > 48), (fun e => by have := of_decide_eq_false e; omega), laws_r8Long.calls A c code A2 c2 more _ w hr hc hr2 hc2 (by unfold laws_r8Long.f; rw [if_neg h])⟩
end Go.Proofs.Ytkafbmanmffliaa.Lg

/- slices.Clone and slices.Delete at []Sight; (Survey).without. -/
namespace Go.Proofs.Ytkafbmanmffliaa.Hg
open Go.RowKit YtkafbmanmffliaaW.PrintWords YtkafbmanmffliaaW.PrintLast YtkafbmanmffliaaW.PrintMore Q Hc Hf
def c4 (s : S32) : List Value := [.int .i64 s.f0, .int .i64 s.f1, .int .i64 s.f2, .int .i64 s.f3]
def flat : List S32 → List Value
 | [] => []
 | s :: r => c4 s ++ flat r
theorem flat_len (l : List S32) : (flat l).length = l.length * 4 := by
 induction l with
 | nil => rfl
 | cons x xs ih => simp [flat, c4, ih]; omega
theorem flat_append (l m : List S32) : flat (l ++ m) = flat l ++ flat m := by
 induction l with
 | nil => rfl
 | cons x xs ih => simp [flat, ih]
theorem flat_one (l : List S32) : ∀ u ∈ flat l, u.oneCell' = true := by
 induction l with
 | nil => intro u hu; cases hu
 | cons x xs ih =>
  intro u hu
  simp only [flat, c4, List.cons_append, List.nil_append, List.mem_cons] at hu
  rcases hu with rfl | rfl | rfl | rfl | hu
  ·rfl
  ·rfl
  ·rfl
  ·rfl
  ·exact ih u hu
theorem flat_get (l : List S32) (i r : Nat) (hr : r < 4) : (flat l)[i * 4 + r]? = (l[i]?).bind fun s => (c4 s)[r]? := by
 induction l generalizing i with
 | nil => simp [flat]
 | cons x xs ih =>
  cases i with
  | zero =>
   simp only [flat, Nat.zero_mul, Nat.zero_add, List.getElem?_cons_zero, Option.bind_some]
   rw [List.getElem?_append_left (by simp [c4]; exact hr)]
  | succ i =>
   simp only [flat, List.getElem?_cons_succ]
   rw [List.getElem?_append_right (by simp [c4]; omega), ← ih i]
   congr 1; simp [c4]; omega
theorem flat_take (l : List S32) (i : Nat) : flat (l.take i) = (flat l).take (i * 4) := by
 induction l generalizing i with
 | nil => simp [flat]
 | cons x xs ih =>
  cases i with
  | zero => simp [flat]
  | succ i =>
   simp only [List.take_succ_cons, flat, ih]
   rw [List.take_append]
   congr 1
   ·rw [List.take_of_length_le (by simp [c4]; omega)]
   ·congr 1; simp [c4]; omega
theorem flat_drop (l : List S32) (i : Nat) : flat (l.drop i) = (flat l).drop (i * 4) := by
 induction l generalizing i with
 | nil => simp [flat]
 | cons x xs ih =>
  cases i with
  | zero => simp [flat]
  | succ i =>
   simp only [List.drop_succ_cons, flat, ih]
   rw [List.drop_append, List.drop_of_length_le (l := c4 x) (by simp [c4]; omega), List.nil_append]
   congr 1; simp [c4]; omega
theorem reps_flat (w : World) (base : Nat) (ok : Nat → Prop) (l : List S32) : Reps (k32.M w base ok) 4 l (flat l) := by
 refine ⟨flat_len l, fun j p hj => ?_⟩
 have hjl : j < l.length := (List.getElem?_eq_some_iff.1 hj).1
 have e : ((flat l).drop (j * 4)).take 4 = c4 p := by
  rw [← flat_drop, List.drop_eq_getElem_cons hjl, flat, List.take_append_of_le_length (by simp [c4]), List.take_of_length_le (by simp [c4])]
  congr 1
  rw [List.getElem?_eq_getElem hjl] at hj
  exact Option.some.inj hj
 rw [e]
 exact k32_mkM w base ok p
theorem reps_inner {w : World} {base : Nat} {ok : Nat → Prop} {l : List S32} {inner : List Value} (h : Reps (k32.M w base ok) 4 l inner) : inner = flat l := by
 apply List.ext_getElem?
 intro j
 have hlen := h.1
 obtain ⟨i, r, hr, rfl⟩ : ∃ i r, r < 4 ∧ j = i * 4 + r := ⟨j / 4, j % 4, Nat.mod_lt _ (by omega), by omega⟩
 rw [flat_get l i r hr]
 rcases Nat.lt_or_ge i l.length with hi | hi
 ·have h1 := k32_openM (h.2 i l[i] (List.getElem?_eq_getElem hi))
  rw [List.getElem?_eq_getElem hi, Option.bind_some]
  change _ = c4 l[i] at h1
  rw [← h1, List.getElem?_take_of_lt hr, List.getElem?_drop]
 ·rw [List.getElem?_eq_none (by omega), List.getElem?_eq_none hi]; rfl
theorem TS_own {B : Nat} {W : World} {v : Value} {l : List S32} (h : W.ownsRow B 32 4 v l.length (flat l)) : TS B W v l :=
 ⟨fun _ _ => trivial, flat l, h, reps_flat _ _ _ _⟩
theorem own_TS {B : Nat} {W : World} {v : Value} {l : List S32} (h : TS B W v l) : W.ownsRow B 32 4 v l.length (flat l) := by
 obtain ⟨_, inner, ho, hr⟩ := h
 rw [← reps_inner hr]; exact ho
theorem C_news {w : World} {A : Option Addr} {l : List S32} (h : Kd.C k32 w A l.length l) (hp : 0 < l.length) : ∃ ad, A = some ad ∧ ∀ j u, (flat l)[j]? = some u → w.cell? (ad.add j) = some u := by
 obtain ⟨ad, e, hc⟩ := h.2.2 hp
 refine ⟨ad, e, fun j u hj => ?_⟩
 obtain ⟨i, r, hr, rfl⟩ : ∃ i r, r < 4 ∧ j = i * 4 + r := ⟨j / 4, j % 4, Nat.mod_lt _ (by omega), by omega⟩
 rw [flat_get l i r hr] at hj
 have hi : i < l.length := by
  rcases Nat.lt_or_ge i l.length with hi | hi
  ·exact hi
  ·rw [List.getElem?_eq_none hi] at hj; cases hj
 rw [List.getElem?_eq_getElem hi, Option.bind_some] at hj
 obtain ⟨c, _, hK, hcell⟩ := hc i l[i] (List.getElem?_eq_getElem hi)
 obtain rfl := k32_open hK
 exact hcell r u hj
set_option maxHeartbeats 4000000 in
set_option maxRecDepth 100000 in
theorem clone_any (A : Option Addr) (c : Nat) (l : List S32) (w : World) (hr : Kd.C k32 w A l.length l) (hp : 0 < l.length) (hl : l.length ≤ 1048576) :
  Calls Try.prog 119 #[.slice A l.length c] w fun e w' => ∃ g cap, e = .returned (.slice (some ⟨g, 0, none⟩) l.length cap) ∧ TS w.heap.size w' (.slice (some ⟨g, 0, none⟩) l.length cap) l ∧ Below w.heap.size w w' := by
 obtain ⟨ad, rfl, hnews⟩ := C_news hr hp
 have HN := Aside0.mk hnews
 have HL := Aside0.mk (flat_len l)
 have HP := Aside0.mk hp
 have hq : ∀ W, (binOp .eql 24 (.slice (some ad) l.length c) (.slice none 0 0)).run Try.prog W = .ok (.bool false) W := fun W => Go.Lib.run_eql_slice_nil W 24 32 (some ad) l.length c 0 0 Try.underlying24
 obtain ⟨i0, hi, hzz⟩ := Option.map_eq_some_iff.1 info32
 simp only [Prod.mk.injEq] at hzz
 obtain ⟨hz0, hz1, hz2⟩ := hzz
 have HI := Aside0.mk hi
 have HZ := Aside0.mk (And.intro hz0 (And.intro hz1 hz2))
 clear hr hnews hp hi hz0 hz1 hz2
 have ho := World.ownsRow_lit (base := w.heap.size) (e := 32) (size := 4) w #[] 0 (Nat.le_refl _) (by simp [maxLen]) (by simp)
 have HO := Aside0.mk ho
 have HB := Aside0.mk (below_alloc (Below.refl w.heap.size w) (.cells #[] 32))
 clear ho
 go_enter Try.func119, Try.ntmps119
 go_wp2_with (((with_reducible refine gate_builtin (b := .append) (xs := #[.tmp 5, .tmp 6]) rfl ?_); at_builtin; go_loud (refine wpList_append_own _ rfl (.tmp 5) (.tmp 6) 24 rfl w.heap.size 32 i0 (.agg #[.int .i64 0, .int .i64 0, .int .i64 0, .int .i64 0]) 4 32 Try.underlying24 HI.out HZ.out.1 HZ.out.2.1 HZ.out.2.2 rfl (by decide) (.slice (some ⟨w.heap.size, 0, none⟩) 0 0) 0 [] rfl (by simpa using HO.out) ad l.length c (flat l) rfl HL.out (fun j u hj => Go.Lib.cell?_alloc_some _ (HN.out j u hj)) (flat_one l) (by simp only [maxLen]; omega) (by omega) (by simp) ?_); intro v1 w1 h1 h2 h3))
 have hb := HB.out.grown h2 (by simp) (fun k hk => by simp [Value.ownBlock] at hk; omega)
 rw [Nat.zero_add, List.nil_append] at h1
 obtain ⟨g, cap, rfl⟩ : ∃ g cap, v1 = .slice (some ⟨g, 0, none⟩) l.length cap := by
  rcases h1.2 with ⟨_, e⟩ | ⟨g, cap, cur, e, _⟩
  ·have := HP.out; omega
  ·exact ⟨g, cap, e⟩
 go_ret
 exact ⟨g, cap, rfl, TS_own h1, hb⟩
def putL (cur : Array Value) : Nat → List Value → Array Value
 | _, [] => cur
 | o, v :: r => putL (cur.setIfInBounds o v) (o + 1) r
theorem putL_size (cur : Array Value) (o : Nat) (vs : List Value) : (putL cur o vs).size = cur.size := by
 induction vs generalizing cur o with
 | nil => rfl
 | cons x xs ih => simp [putL, ih]
theorem putL_get (cur : Array Value) (o : Nat) (vs : List Value) (h : o + vs.length ≤ cur.size) (j : Nat) : (putL cur o vs)[j]? = if o ≤ j ∧ j < o + vs.length then vs[j - o]? else cur[j]? := by
 induction vs generalizing cur o with
 | nil => simp only [putL, List.length_nil]; rw [if_neg (by omega)]
 | cons x xs ih =>
  simp only [List.length_cons] at h ⊢
  simp only [putL]
  rw [ih _ _ (by simp; omega)]
  by_cases h1 : o + 1 ≤ j ∧ j < o + 1 + xs.length
  ·rw [if_pos h1, if_pos (by omega), show j - o = (j - (o + 1)) + 1 by omega, List.getElem?_cons_succ]
  ·rw [if_neg h1, Array.getElem?_setIfInBounds]
   by_cases h2 : o = j
   ·subst h2
    rw [if_pos rfl, if_pos (by omega), if_pos (by omega)]; simp
   ·rw [if_neg h2, if_neg (by omega)]
theorem blk_putL {w : World} {g : Nat} {t : TypeId} {cur : Array Value} (h : w.heap[g]? = some (.cells cur t (0, 0))) (o : Nat) (vs : List Value) : (w.setCells g o vs).heap[g]? = some (.cells (putL cur o vs) t (0, 0)) := by
 induction vs generalizing w cur o with
 | nil => exact h
 | cons x xs ih => exact ih (blk_put h o x rfl) (o + 1)
theorem below_putL {B : Nat} {w0 w : World} {g : Nat} (h : Below B w0 w) (hg : B ≤ g) (o : Nat) (vs : List Value) : Below B w0 (w.setCells g o vs) := by
 induction vs generalizing w o with
 | nil => exact h
 | cons x xs ih => exact ih (h.setCell hg x) (o + 1)
theorem eraseIdx_cells {l : List S32} {cur : Array Value} {n cap i : Nat} (hn : n = l.length) (hc : cur.size = cap * 4) (hcap : n ≤ cap) (ht : cur.toList.take (n * 4) = flat l) (hi : i < n) (z : List Value) (hz : z.length = 4) :
  (putL (putL cur (i * 4) (flat (l.drop (i + 1)))) ((n - 1) * 4) z).toList.take ((n - 1) * 4) = flat (l.eraseIdx i) := by
 have hfl : (flat (l.drop (i + 1))).length = (n - 1 - i) * 4 := by rw [flat_len, List.length_drop]; omega
 apply List.ext_getElem?
 intro j
 have hse : (flat (l.eraseIdx i)).length = (n - 1) * 4 := by rw [flat_len, List.length_eraseIdx_of_lt (by omega)]; omega
 rcases Nat.lt_or_ge j ((n - 1) * 4) with hj | hj
 ·rw [List.getElem?_take_of_lt hj, Array.getElem?_toList, putL_get _ _ _ (by rw [putL_size, hc, hz]; omega), if_neg (by omega), putL_get _ _ _ (by rw [hc, hfl]; omega)]
  have e0 : l.eraseIdx i = l.take i ++ l.drop (i + 1) := List.eraseIdx_eq_take_drop_succ ..
  rw [e0, flat_append]
  have hft : (flat (l.take i)).length = i * 4 := by rw [flat_len, List.length_take]; omega
  rcases Nat.lt_or_ge j (i * 4) with h1 | h1
  ·rw [if_neg (by omega), List.getElem?_append_left (by omega), flat_take, List.getElem?_take_of_lt h1, ← ht, List.getElem?_take_of_lt (by omega), Array.getElem?_toList]
  ·rw [if_pos (by omega), List.getElem?_append_right (by omega), hft]
 ·rw [List.getElem?_eq_none (by rw [List.length_take]; omega), List.getElem?_eq_none (by omega)]
theorem clear4 (w : World) (ty : TypeId) (b o c : Nat) (hc : ∀ j, j < 4 → (w.cell? ⟨b, o + j, none⟩).isSome = true) (hf : ∀ j, j < 4 → w.frozen? ⟨b, o + j, none⟩ = false) :
  (Builtin.clear_ #[24] ty #[.slice (some ⟨b, o, none⟩) 1 c]).run Try.prog w = .ok (.tuple #[]) (w.setCells b o [.int .i64 0, .int .i64 0, .int .i64 0, .int .i64 0]) := by
 have hv : ∀ w, (zeroValue 32).run Try.prog w = .ok (.agg #[.int .i64 0, .int .i64 0, .int .i64 0, .int .i64 0]) w := by
  obtain ⟨i0, hi, hzz⟩ := Option.map_eq_some_iff.1 info32
  simp only [Prod.mk.injEq] at hzz
  intro w
  simp [zeroValue, typeInfo, hi, hzz.1]
 have hst := run_storeCells_cells (P := Try.prog) b o [.int .i64 0, .int .i64 0, .int .i64 0, .int .i64 0] 0 w (by simpa using hc) (by simpa using hf) (by intro v hv'; simp at hv'; subst hv'; rfl)
 simp only [Nat.add_zero] at hst
 have hzc : Builtin.zeroCells (Value.agg #[.int .i64 0, .int .i64 0, .int .i64 0, .int .i64 0]).cells 1 = #[.int .i64 0, .int .i64 0, .int .i64 0, .int .i64 0] := by
  apply Array.ext
  ·simp [Builtin.zeroCells, Value.cells]
  ·intro j h1 h2
   have h3 : j < 4 := by simpa using h2
   obtain rfl | rfl | rfl | rfl : j = 0 ∨ j = 1 ∨ j = 2 ∨ j = 3 := by omega
   all_goals simp [Builtin.zeroCells, Value.cells]
 simp [Builtin.clear_, run_underlying Try.underlying24, hv, hzc, hst]
set_option maxHeartbeats 4000000 in
set_option maxRecDepth 100000 in
theorem delete_any (B g n cap i : Nat) (l : List S32) (w : World) (ht : TS B w (.slice (some ⟨g, 0, none⟩) n cap) l) (hi : i < n) (hl : n ≤ 1048576) :
  Calls Try.prog 118 #[.slice (some ⟨g, 0, none⟩) n cap, .int .i64 i, .int .i64 ((i : Int) + 1)] w fun e w' => e = .returned (.slice (some ⟨g, 0, none⟩) (n - 1) cap) ∧ TS B w' (.slice (some ⟨g, 0, none⟩) (n - 1) cap) (l.eraseIdx i) ∧ (∀ B0 w0, Below B0 w0 w → B0 ≤ g → Below B0 w0 w') := by
 have ho := own_TS ht
 obtain ⟨rfl, hcap, -⟩ := Kd.R_reads' ht
 have hgB : B ≤ g := Kd.R_base ht g rfl
 rcases ho.2 with ⟨h0, -⟩ | ⟨g', cap', cur, he, -, hh, -, hmax, hsz, htk⟩
 ·cases h0
 ·injection he with he1 he2 he3
  injection he1 with he1
  injection he1 with he1
  subst he1
  subst he3
  have hcs : ∀ j, j < cap * 4 → (w.cell? ⟨g, j, none⟩).isSome = true := fun j hj => by rw [blk_cell hh j, Array.getElem?_eq_getElem (by omega)]; rfl
  obtain ⟨i0, hi0, hzz⟩ := Option.map_eq_some_iff.1 info32
  simp only [Prod.mk.injEq] at hzz
  have hic : i ≤ cap := by omega
  have hjc : i + 1 ≤ cap := by omega
  have hmx : cap ≤ 9223372036854775807 := by simpa [maxLen] using hmax
  have hj1 : (i : Int) + 1 ≤ (l.length : Int) := by omega
  have hj0 : (0 : Int) ≤ (i : Int) + 1 := by omega
  have hlen : (flat (l.drop (i + 1))).length = (l.length - (i + 1)) * 4 := by rw [flat_len, List.length_drop]
  obtain ⟨Ad, hA, hsrc⟩ : ∃ A : Addr, (if cap = i + 1 then some (⟨g, 0, none⟩ : Addr) else some ⟨g, (i + 1) * 4, none⟩) = some A ∧ Aside0 (∀ t u, (flat (l.drop (i + 1)))[t]? = some u → w.drew.cell? (A.add t) = some u) := by
   by_cases h : cap = i + 1
   ·refine ⟨⟨g, 0, none⟩, by simp [h], ⟨fun t u hu => ?_⟩⟩
    have h0 : (flat (l.drop (i + 1))).length = 0 := by rw [hlen]; omega
    rw [List.length_eq_zero_iff.1 h0] at hu
    simp at hu
   ·refine ⟨⟨g, (i + 1) * 4, none⟩, by simp [h], ⟨fun t u hu => ?_⟩⟩
    have htl := (List.getElem?_eq_some_iff.1 hu).1
    rw [hlen] at htl
    rw [flat_drop, List.getElem?_drop, ← htk, List.getElem?_take_of_lt (by omega), Array.getElem?_toList] at hu
    rw [show (⟨g, (i + 1) * 4, none⟩ : Addr).add t = ⟨g, (i + 1) * 4 + t, none⟩ by unfold Addr.add; split <;> simp_all]
    show w.cell? ⟨g, (i + 1) * 4 + t, none⟩ = some u
    rw [blk_cell hh]; exact hu
  obtain ⟨W1, hW1⟩ : ∃ W1, W1 = w.drew.setCells g (0 + i * 4) (flat (l.drop (i + 1))) := ⟨_, rfl⟩
  have hh1 : W1.heap[g]? = some (.cells (putL cur (i * 4) (flat (l.drop (i + 1)))) 32 (0, 0)) := by rw [hW1, Nat.zero_add]; exact blk_putL (w := w.drew) hh _ _
  have hcl : ∀ ty, (Builtin.clear_ #[24] ty #[.slice (some ⟨g, (i + (l.length - (i + 1))) * 4, none⟩) (l.length - (i + (l.length - (i + 1)))) (cap - (i + (l.length - (i + 1))))]).run Try.prog W1 = .ok (.tuple #[]) (W1.setCells g ((i + (l.length - (i + 1))) * 4) [.int .i64 0, .int .i64 0, .int .i64 0, .int .i64 0]) := by
   intro ty
   rw [show l.length - (i + (l.length - (i + 1))) = 1 by omega]
   exact clear4 W1 ty g _ _ (fun j hj => by rw [blk_cell hh1, Array.getElem?_eq_getElem (by rw [putL_size, hsz]; omega)]; rfl) (fun j _ => blk_frozen hh1 _)
  have hh2 : (W1.setCells g ((i + (l.length - (i + 1))) * 4) [.int .i64 0, .int .i64 0, .int .i64 0, .int .i64 0]).heap[g]? = some (.cells (putL (putL cur (i * 4) (flat (l.drop (i + 1)))) ((l.length - 1) * 4) [.int .i64 0, .int .i64 0, .int .i64 0, .int .i64 0]) 32 (0, 0)) := by
   rw [show i + (l.length - (i + 1)) = l.length - 1 by omega]
   exact blk_putL hh1 _ _
  have hown : (W1.setCells g ((i + (l.length - (i + 1))) * 4) [.int .i64 0, .int .i64 0, .int .i64 0, .int .i64 0]).ownsRow B 32 4 (.slice (some ⟨g, 0, none⟩) (l.length - 1) cap) (l.eraseIdx i).length (flat (l.eraseIdx i)) := by
   have e : (l.eraseIdx i).length = l.length - 1 := List.length_eraseIdx_of_lt hi
   refine ⟨flat_len _, .inr ⟨g, cap, _, by rw [e], hgB, hh2, by rw [e]; omega, hmax, by rw [putL_size, putL_size, hsz], ?_⟩⟩
   rw [e]
   exact eraseIdx_cells rfl hsz hcap htk hi _ rfl
  have hbel : ∀ B0 w0, Below B0 w0 w → B0 ≤ g → Below B0 w0 (W1.setCells g ((i + (l.length - (i + 1))) * 4) [.int .i64 0, .int .i64 0, .int .i64 0, .int .i64 0]) := by
   intro B0 w0 hb hg
   rw [hW1]
   exact below_putL (below_putL hb.drew hg _ _) hg _ _
  have hroom : Aside0 (∀ j, j < (flat (l.drop (i + 1))).length → (w.drew.cell? ⟨g, 0 + i * 4 + j, none⟩).isSome = true ∧ w.drew.frozen? ⟨g, 0 + i * 4 + j, none⟩ = false) := by
   refine ⟨fun j hj => ?_⟩
   rw [hlen] at hj
   rw [Nat.zero_add]
   exact ⟨hcs _ (by omega), blk_frozen hh _⟩
  have HX := Aside0.mk hown
  have HI := Aside0.mk (And.intro hi0 hzz)
  have HBL := Aside0.mk hbel
  have HLEN := Aside0.mk hlen
  have HW := Aside0.mk hW1
  clear ho hh hsz htk hcs hi0 hzz ht hown hbel hlen hh1 hh2 hW1
  go_enter Try.func118, Try.ntmps118
  go_wp2_with fail
  go_region_law (refine step_append_room rfl (.tmp 22) (.tmp 25) 24 rfl 32 i0 4 Try.underlying24 HI.out.1 HI.out.2.2.1 g 0 i cap rfl Ad (l.length - (i + 1)) (cap - (i + 1)) (flat (l.drop (i + 1))) (by simp [Act.eval, Act.put]) HLEN.out hsrc.out (flat_one _) (by omega) hroom.out ?_; rw [← HW.out])
  go_wp2_with fail
  go_ret
  refine ⟨by rw [show i + (l.length - (i + 1)) = l.length - 1 by omega]; rfl, ?_, HBL.out⟩
  have e : (l.eraseIdx i).length = l.length - 1 := List.length_eraseIdx_of_lt hi
  have h := TS_own HX.out
  exact h
end Go.Proofs.Ytkafbmanmffliaa.Hg

/- (Survey).without. -/
namespace Go.Proofs.Ytkafbmanmffliaa.Hh
open Go.RowKit YtkafbmanmffliaaW.PrintWords YtkafbmanmffliaaW.PrintLast YtkafbmanmffliaaW.PrintMore Q Hf Hg
abbrev X0 (pts : Int) (A : Option Addr) (n c : Nat) (w : World) : World := (w.alloc (.cells #[.int .i64 pts, .slice A n c] 26)).alloc (.cells #[.int .i64 0, .slice none 0 0] 26)
set_option maxHeartbeats 4000000 in
set_option maxRecDepth 100000 in
theorem without_any (pts : Int) (A : Option Addr) (c : Nat) (l : List S32) (k : Nat) (hk : k < l.length) (hl : l.length ≤ 1048576) (w : World) (hr : Kd.C k32 w A l.length l) :
  Calls Try.prog 79 #[.agg #[.int .i64 pts, .slice A l.length c], .int .i64 k] w fun e w' => ∃ v : Value, e = .returned (.agg #[.int .i64 pts, v]) ∧ TS w.heap.size w' v (l.eraseIdx k) ∧ Below w.heap.size w w' := by
 have hu32 := Try.underlying32
 have hu26 := Try.underlying26
 have hbx := below_alloc (below_alloc (Below.refl w.heap.size w) (.cells #[.int .i64 pts, .slice A l.length c] 26)) (.cells #[.int .i64 0, .slice none 0 0] 26)
 have HR := Aside0.mk (Kd.C_below hr hbx.drew)
 have HBX := Aside0.mk hbx.drew
 have b0 : (X0 pts A l.length c w).heap[w.heap.size]? = some (.cells #[.int .i64 pts, .slice A l.length c] 26 (0, 0)) := blk_alloc (blk_new w (.cells #[.int .i64 pts, .slice A l.length c] 26)) (.cells #[.int .i64 0, .slice none 0 0] 26)
 have b1 : (X0 pts A l.length c w).heap[w.heap.size + 1]? = some (.cells #[.int .i64 0, .slice none 0 0] 26 (0, 0)) := by
  have := blk_new (w.alloc (.cells #[.int .i64 pts, .slice A l.length c] 26)) (.cells #[.int .i64 0, .slice none 0 0] 26)
  rw [World.size_alloc] at this; exact this
 have HB0 := Aside0.mk b0
 have HB1 := Aside0.mk b1
 have HSZ := Aside0.mk (show (X0 pts A l.length c w).heap.size = w.heap.size + 2 by simp)
 have hp : 0 < l.length := by omega
 clear hr hbx b0 b1
 go_enter Try.func79, Try.ntmps79
 go_wp2_with (fail)
 have hwk : IntKind.i64.wrap ((k : Int) + 1) = (k : Int) + 1 := by rw [IntKind.wrap_i64]; omega
 go_region_with (first
  | (go_at_call 119; refine (clone_any A c l (X0 pts A l.length c w).drew HR.out hp hl).mono ?_; rintro e w1 ⟨g, cap, rfl, h1, h2⟩; have H1 := Aside0.mk h1; have H2 := Aside0.mk h2; have HG := Aside0.mk (Kd.R_base h1 g rfl); have q0 : w1.cell? ⟨w.heap.size, 0, none⟩ = some (.int .i64 pts) := (blk_cell (blk_below (blk_drew HB0.out) h2) 0).trans rfl; clear h1 h2)
  | (go_at_call 118; refine (delete_any _ g l.length cap k l w1 H1.out hk hl).mono ?_; rintro e w2 ⟨rfl, h3, h4⟩; have H3 := Aside0.mk h3; have h5 := h4 _ _ H2.out HG.out; have H5 := Aside0.mk h5; have qb := blk_below (blk_drew HB1.out) h5; have QB := Aside0.mk qb; have q1 : w2.cell? ⟨w.heap.size, 0, none⟩ = some (.int .i64 pts) := (blk_cell (blk_below (blk_drew HB0.out) h5) 0).trans rfl; have q2 : w2.cell? ⟨w.heap.size + 1, 0, none⟩ = some (.int .i64 0) := (blk_cell qb 0).trans rfl; have q3 : w2.cell? ⟨w.heap.size + 1, 1, none⟩ = some (.slice none 0 0) := (blk_cell qb 1).trans rfl; have q4 := blk_frozen qb 0; have q5 := blk_frozen qb 1; clear h3 h4 h5 qb))
 all_goals clear hwk
 all_goals go_wp2_with (fail)
 all_goals (
  have hrt := Kd.R_set (Kd.R_set H3.out QB.out (by decide) 0 (.int .i64 pts)) (blk_put QB.out 0 (.int .i64 pts) rfl) (by decide) 1 (.slice (some ⟨g, 0, none⟩) (l.length - 1) cap)
  have hz := blk_put (blk_put QB.out 0 (.int .i64 pts) rfl) 1 (.slice (some ⟨g, 0, none⟩) (l.length - 1) cap) rfl
  have hbb := ((below_step HBX.out H5.out).setCell (p := ⟨w.heap.size + 1, 0, none⟩) (Nat.le_succ _) (.int .i64 pts)).setCell (p := ⟨w.heap.size + 1, 1, none⟩) (Nat.le_succ _) (.slice (some ⟨g, 0, none⟩) (l.length - 1) cap)
  refine bodyPost_ret (results_cell_row rfl _ _ (w.heap.size + 1) 26 #[.int .i64 pts, .slice (some ⟨g, 0, none⟩) (l.length - 1) cap] (0, 0) _ rfl hz Try.underlying26 rfl (by kernel_rfl)) rfl ?_
  exact ⟨_, rfl, Kd.R_lower hrt HBX.out.size, hbb⟩)
end Go.Proofs.Ytkafbmanmffliaa.Hh

/- The program's UncheckedSights and DropSight: what they return. -/
namespace Go.Proofs.Ytkafbmanmffliaa.Ud
open Go Go.RowKit YtkafbmanmffliaaW.PrintWords YtkafbmanmffliaaW.PrintLast YtkafbmanmffliaaW.PrintMore Q Gd Ha Hb Hc Hf Hh Hv Hw
theorem surveyB_len {pts : Int} {l : List S32} (h : surveyB pts l = true) : l.length ≤ 8 := by
  simp only [surveyB, Bool.and_eq_true, decide_eq_true_eq] at h; omega
def unk (pts : Int) (l : List S32) (i : Nat) : List Int := ((List.range i).filter fun j => !Gm.connB pts (l.eraseIdx j)).map fun j : Nat => (j : Int)
theorem unk_yes {pts : Int} {l : List S32} {i : Nat} (h : Gm.connB pts (l.eraseIdx i) = true) : unk pts l (i + 1) = unk pts l i := by
  simp [unk, List.range_succ, List.filter_append, h]
theorem unk_no {pts : Int} {l : List S32} {i : Nat} (h : Gm.connB pts (l.eraseIdx i) = false) : unk pts l (i + 1) = unk pts l i ++ [(i : Int)] := by
  simp [unk, List.range_succ, List.filter_append, h]
theorem unk_len (pts : Int) (l : List S32) (i : Nat) : (unk pts l i).length ≤ i := by
  simp only [unk, List.length_map]
  have := List.length_filter_le (fun j => !Gm.connB pts (l.eraseIdx j)) (List.range i)
  simpa using this
theorem unk_mem (pts : Int) (l : List S32) (i : Nat) (k : Nat) (hk : k < i) : decide ((k : Int) ∈ unk pts l i) = !Gm.connB pts (l.eraseIdx k) := by
  rw [Bool.eq_iff_iff, decide_eq_true_eq]
  simp only [unk, List.mem_map, List.mem_filter, List.mem_range]
  exact ⟨fun ⟨a, ⟨_, h⟩, e⟩ => by obtain rfl : a = k := by omega
                                  exact h, fun h => ⟨k, ⟨hk, h⟩, rfl⟩⟩
theorem surveyB_erase {pts : Int} {l : List S32} (h : surveyB pts l = true) (j : Nat) : surveyB pts (l.eraseIdx j) = true := by
  simp only [surveyB, Bool.and_eq_true, decide_eq_true_eq] at h ⊢
  obtain ⟨⟨h1, h2⟩, h3⟩ := h
  refine ⟨⟨h1, ?_⟩, ?_⟩
  · have := List.length_eraseIdx_le l j; omega
  · rw [List.all_eq_true] at h3 ⊢
    exact fun x hx => h3 x (List.mem_of_mem_eraseIdx hx)
set_option maxHeartbeats 4000000 in
set_option maxRecDepth 100000 in
theorem unk_any (n : Nat) (l : List S32) (hv : surveyB n l = true) (hcn : Gm.connB n l = true) (A : Option Addr) (c : Nat) (w : World) (hr : Kd.C k32 w A l.length l) :
    Calls Try.prog 38 #[.agg #[.int .i64 (n : Int), .slice A l.length c]] w fun e w' => ∃ v : Value, e = .returned (.tuple #[v, .bool true]) ∧ T w.heap.size w' v (unk n l l.length) ∧ Below w.heap.size w w' := by
  have hu32 := Try.underlying32
  have hu26 := Try.underlying26
  have hl8 := surveyB_len hv
  have hbx := below_alloc (Below.refl w.heap.size w) (BS n A l.length c)
  have HR := Aside0.mk hr
  have HBX := Aside0.mk hbx
  have HB0 := Aside0.mk (heap_alloc_new w (BS n A l.length c))
  have hc := isConn_any n l A c (w.alloc (BS n A l.length c)) (Kd.C_below hr hbx) (by omega)
  rw [hcn] at hc
  have HSV := Aside0.mk hv
  clear hr hbx hv hcn
  go_enter Try.func38, Try.ntmps38
  go_wp2_with (go_at_call 40; refine hc.mono ?_; rintro e w1 ⟨rfl, h1⟩; have H1 := Aside0.mk h1; have q0 : w1.cell? ⟨w.heap.size, 0, none⟩ = some (.int .i64 (n : Int)) := (blk_cell (blk_below HB0.out h1) 0).trans rfl; have q1 : w1.cell? ⟨w.heap.size, 1, none⟩ = some (.slice A l.length c) := (blk_cell (blk_below HB0.out h1) 1).trans rfl; have QB := Aside0.mk (blk_below HB0.out h1); have hlt1 : w.heap.size < w1.heap.size := blk_lt (blk_below HB0.out h1); clear h1)
  have t0 := Aside0.mk (T.nil_new (B := w.heap.size) (W := w1) (below_step HBX.out H1.out).size)
  have tb := Aside0.mk (below_alloc (below_step HBX.out H1.out) (.cells #[] 2))
  have tq := Aside0.mk (blk_alloc QB.out (.cells #[] 2))
  clear q0 q1
  go_loopw [4, 13] (fun v4 v13 wz => ∃ i : Nat, i ≤ l.length ∧ v13 = .int .i64 i ∧ Aside0 (T w.heap.size wz v4 (unk n l i)) ∧ Aside0 (wz.heap[w.heap.size]? = some (BS n A l.length c)) ∧ Aside0 (Below w.heap.size w wz)) (fun _ v _ => l.length - (intOf v).toNat)
  case atStart => exact ⟨0, by omega, rfl, t0, tq, tb⟩
  case round =>
    clear t0 tb tq
    obtain ⟨i, hi, rfl, rt, rq, rb⟩ := hrel
    have q0 : wr.cell? ⟨w.heap.size, 0, none⟩ = some (.int .i64 (n : Int)) := (blk_cell rq.out 0).trans rfl
    have q1 : wr.cell? ⟨w.heap.size, 1, none⟩ = some (.slice A l.length c) := (blk_cell rq.out 1).trans rfl
    by_cases hlt : i < l.length
    · have hlt' : decide ((i : Int) < (l.length : Int)) = true := by simpa using hlt
      have hw := without_any n A c l i hlt (by omega) wr (Kd.C_below HR.out rb.out)
      have HSE := Aside0.mk (surveyB_erase HSV.out i)
      have hul := unk_len n l i
      cases hcn : Gm.connB n (l.eraseIdx i)
      · have HC := Aside0.mk hcn
        have HU := Aside0.mk (unk_no hcn)
        clear hcn
        go_wp2_with (first
          | (go_at_call 79; refine hw.mono ?_; rintro e w2 ⟨v, rfl, h3, h4⟩; obtain ⟨Av, cv, rfl⟩ := Kd.R_slice h3; have hk := connected_any n (l.eraseIdx i) HSE.out Av cv w2 (Kd.R_reads' h3).2.2; rw [HC.out] at hk; have H4 := Aside0.mk h4; clear h3 h4)
          | (go_at_call 80; refine hk.mono ?_; rintro e w3 ⟨rfl, h5⟩; have hbb := below_step H4.out h5; have s1 := Aside0.mk (rt.out.below hbb); have s2 := Aside0.mk (blk_below rq.out hbb); have s3 := Aside0.mk (below_step rb.out hbb); have hsz := (below_step rb.out hbb).size; clear hbb h5)
          | ((with_reducible refine gate_builtin (b := .append) (xs := #[.tmp 21, .tmp 23]) rfl ?_); at_builtin; refine T.append (w0 := w) rfl rfl (.tmp 21) (.tmp 23) rfl (i : Int) rfl rfl s1.out s3.out hsz (by omega) ?_; intro v1 w4 h1 h2 h3 h4; have n1 := Aside0.mk h1; have n2 := Aside0.mk h2; have n3 := Aside0.mk (blk_grown s2.out h3 (Kd.R_ne s1.out s2.out (by decide))); clear h1 h2 h3 h4))
        go_roundw
        case rel => exact ⟨i + 1, by omega, by go_num, ⟨by rw [HU.out]; exact n1.out⟩, n3, n2⟩
        case measure => simp [intOf]; omega
      · have HC := Aside0.mk hcn
        have HU := Aside0.mk (unk_yes hcn)
        clear hcn
        go_wp2_with (first
          | (go_at_call 79; refine hw.mono ?_; rintro e w2 ⟨v, rfl, h3, h4⟩; obtain ⟨Av, cv, rfl⟩ := Kd.R_slice h3; have hk := connected_any n (l.eraseIdx i) HSE.out Av cv w2 (Kd.R_reads' h3).2.2; rw [HC.out] at hk; have H4 := Aside0.mk h4; clear h3 h4)
          | (go_at_call 80; refine hk.mono ?_; rintro e w3 ⟨rfl, h5⟩; have hbb := below_step H4.out h5; have s1 := Aside0.mk (rt.out.below hbb); have s2 := Aside0.mk (blk_below rq.out hbb); have s3 := Aside0.mk (below_step rb.out hbb); clear hbb h5))
        go_roundw
        case rel => exact ⟨i + 1, by omega, by go_num, ⟨by rw [HU.out]; exact s1.out⟩, s2, s3⟩
        case measure => simp [intOf]; omega
    · obtain rfl : i = l.length := by omega
      have hlt' : decide ((l.length : Int) < (l.length : Int)) = false := by simp
      go_wp2_with (fail)
      go_ret2
      exact ⟨_, rfl, rt.out, rb.out⟩
set_option maxHeartbeats 4000000 in
set_option maxRecDepth 100000 in
theorem drop_any (pts : Int) (A : Option Addr) (c : Nat) (l : List S32) (k : Nat) (hk : k < l.length) (hv : surveyB pts l = true) (w : World) (hr : Kd.C k32 w A l.length l) :
    Calls Try.prog 39 #[.agg #[.int .i64 pts, .slice A l.length c], .int .i64 (k : Int)] w fun e w' => ∃ v : Value, e = .returned (.tuple #[.agg #[.int .i64 pts, v], .bool true]) ∧ TS w.heap.size w' v (l.eraseIdx k) ∧ Below w.heap.size w w' := by
  have hu32 := Try.underlying32
  have hu26 := Try.underlying26
  have hbx := below_alloc (below_alloc (Below.refl w.heap.size w) (BS pts A l.length c)) (.cells #[.int .i64 0, .slice none 0 0] 26)
  have HR := Aside0.mk (Kd.C_below hr hbx)
  have HBX := Aside0.mk hbx
  have b0 : (X0 pts A l.length c w).heap[w.heap.size]? = some (BS pts A l.length c) := blk_alloc (blk_new w (BS pts A l.length c)) (.cells #[.int .i64 0, .slice none 0 0] 26)
  have b1 : (X0 pts A l.length c w).heap[w.heap.size + 1]? = some (.cells #[.int .i64 0, .slice none 0 0] 26 (0, 0)) := by
    have := blk_new (w.alloc (BS pts A l.length c)) (.cells #[.int .i64 0, .slice none 0 0] 26)
    rw [World.size_alloc] at this; exact this
  have HB0 := Aside0.mk b0
  have HB1 := Aside0.mk b1
  have hl := surveyB_len hv
  have hc := valid_any pts l A c (X0 pts A l.length c w) HR.out (by omega)
  rw [hv] at hc
  have HIN := Aside0.mk (show inB 0 ((l.length : Int) - 1) (k : Int) = true by simp [inB]; omega)
  clear hr hbx b0 b1 hv
  go_enter Try.func39, Try.ntmps39
  go_wp2_with (first
    | (go_at_call 81; refine hc.mono ?_; rintro e w1 ⟨rfl, h1⟩; have H1 := Aside0.mk h1; have QB0 := Aside0.mk (blk_below HB0.out h1); have QB := Aside0.mk (blk_below HB1.out h1); have q0 : w1.cell? ⟨w.heap.size, 0, none⟩ = some (.int .i64 pts) := (blk_cell (blk_below HB0.out h1) 0).trans rfl; have q1 : w1.cell? ⟨w.heap.size, 1, none⟩ = some (.slice A l.length c) := (blk_cell (blk_below HB0.out h1) 1).trans rfl; have R1 := Aside0.mk (Kd.C_below HR.out h1); clear h1)
    | (go_at_call 82; refine (within_any _ _ _ _).mono ?_; rintro e w2 ⟨rfl, rfl⟩; rw [HIN.out])
    | (go_at_call 79; refine (without_any pts A c l k hk (by omega) _ R1.out).mono ?_; rintro e w3 ⟨v, rfl, h3, h4⟩; obtain ⟨Av, cv, rfl⟩ := Kd.R_slice h3; have H3 := Aside0.mk h3; have H4 := Aside0.mk h4; have q := blk_below QB.out h4; have Q := Aside0.mk q; have q2 : w3.cell? ⟨w.heap.size + 1, 0, none⟩ = some (.int .i64 0) := (blk_cell q 0).trans rfl; have q3 : w3.cell? ⟨w.heap.size + 1, 1, none⟩ = some (.slice none 0 0) := (blk_cell q 1).trans rfl; have q4 := blk_frozen q 0; have q5 := blk_frozen q 1; clear h3 h4 q))
  refine bodyPost_ret (results_ct rfl _ _ (w.heap.size + 1) 26 #[.int .i64 pts, .slice Av (l.eraseIdx k).length cv] (0, 0) _ rfl (blk_put (blk_put Q.out 0 (.int .i64 pts) rfl) 1 (.slice Av (l.eraseIdx k).length cv) rfl) Try.underlying26 rfl (by kernel_rfl)) rfl ?_
  have hB := below_step (below_step HBX.out H1.out) H4.out
  exact ⟨_, rfl, Kd.R_set (Kd.R_set (Kd.R_lower H3.out (below_step HBX.out H1.out).size) Q.out (by decide) 0 (.int .i64 pts)) (blk_put Q.out 0 (.int .i64 pts) rfl) (by decide) 1 _, (hB.setCell (p := ⟨w.heap.size + 1, 0, none⟩) (Nat.le_succ _) _).setCell (p := ⟨w.heap.size + 1, 1, none⟩) (Nat.le_succ _) _⟩
end Go.Proofs.Ytkafbmanmffliaa.Ud

/- The program's SquareSumOf: what it returns. -/
namespace Go.Proofs.Ytkafbmanmffliaa.Ex3
open Go Go.RowKit YtkafbmanmffliaaW.PrintWords YtkafbmanmffliaaW.PrintLast YtkafbmanmffliaaW.PrintMore Q Bg Ka Gz
def part (n : Nat) (l : List S32) (i : Nat) : Rat := sm (sqr n l) (l.take i)
end Go.Proofs.Ytkafbmanmffliaa.Ex3

/- How a value that came in is told by the kinds (Kd): what its reading as data says of its cells. -/
namespace Go.Proofs.Ytkafbmanmffliaa.Op
open Go.RowKit Go.ChangeShapes Go.WideShapes Go.ChangeAt YtkafbmanmffliaaW.PrintWords
def Opens {α : Type} (P : Program) (w : World) (t : TypeId) (d : Kd α) (Ok : α → Prop) : Prop :=
 ∀ (H : Type) (enc : TypeId × Value → H) (fuel : Nat) (cs : List Value) (x : DataW H × List MemPlace), DataW.trod enc P w 0 (fun _ => true) true fuel t cs = some x → ∃ a, d.K w a cs ∧ Ok a
def In64 (n : Int) : Prop := -9223372036854775808 ≤ n ∧ n ≤ 9223372036854775807
variable {P : Program} {w : World} {t e : TypeId} {α β : Type} {d : Kd α} {d2 : Kd β} {Ok : α → Prop} {Ok2 : β → Prop}
theorem mapM_cells {w : World} {a : Addr} : ∀ (n k : Nat) (cs : List Value), ((List.range' k n).mapM fun i => w.cell? (a.add i)) = some cs → cs.length = n ∧ ∀ i u, cs[i]? = some u → w.cell? (a.add (k + i)) = some u := by
 intro n
 induction n with
 | zero => intro k cs h; simp at h; subst h; simp
 | succ n ih =>
  intro k cs h
  rw [List.range'_succ, List.mapM_cons] at h
  simp only [bind, Option.bind_eq_some_iff, pure, Option.some.injEq] at h
  obtain ⟨u, hu, us, hus, rfl⟩ := h
  obtain ⟨h1, h2⟩ := ih (k + 1) us hus
  refine ⟨by simp [h1], ?_⟩
  intro i v hv
  cases i with
  | zero => simp at hv; subst hv; simpa using hu
  | succ i => rw [show k + (i + 1) = k + 1 + i by omega]; exact h2 i v (by simpa using hv)
theorem cells_get {w : World} {b n : Nat} {a : Addr} {cs : List Value} (h : w.cells? b a n = some cs) : cs.length = n ∧ ∀ i u, cs[i]? = some u → w.cell? (a.add i) = some u := by
 unfold World.cells? at h
 split at h
 ·rw [List.range_eq_range'] at h
  obtain ⟨h1, h2⟩ := mapM_cells n 0 cs h
  exact ⟨h1, fun i u hu => by have := h2 i u hu; rwa [Nat.zero_add] at this⟩
 ·simp at h
theorem choose_list {α : Type} {R : Nat → α → Prop} : ∀ n : Nat, (∀ j, j < n → ∃ a, R j a) → ∃ l : List α, l.length = n ∧ ∀ j a, l[j]? = some a → R j a := by
 intro n
 induction n with
 | zero => intro _; exact ⟨[], rfl, by simp⟩
 | succ n ih =>
  intro h
  obtain ⟨l, hl, hR⟩ := ih fun j hj => h j (by omega)
  obtain ⟨a, ha⟩ := h n (by omega)
  refine ⟨l ++ [a], by simp [hl], ?_⟩
  intro j b hb
  by_cases hj : j < n
  ·rw [List.getElem?_append_left (by omega)] at hb; exact hR j b hb
  ·rw [List.getElem?_append_right (by omega)] at hb
   have : j = n := by
    have := (List.getElem?_eq_some_iff.1 hb).1
    simp at this; omega
   subst this
   rw [hl, Nat.sub_self] at hb
   simp at hb; subst hb; exact ha
theorem add_add' (a : Addr) (i j : Nat) : (a.add i).add j = a.add (i + j) := by
 simp only [Addr.add]
 split <;> split <;> simp_all [Nat.add_assoc]
theorem opens_slice (ht : P.underlying t = some (.slice e)) (he : Opens P w e d Ok) (hs : d.sz = P.cellsOf e) : Opens P w t (Kd.slice e d) (fun xs => (∀ a ∈ xs, Ok a) ∧ xs.length ≤ maxLen) := by
 intro H enc fuel cs x h
 rcases DataW.trod_slice ht h with ⟨rfl, _⟩ | ⟨a, len, cap, elems, rest, n, _, rfl, _, _, hl, hm, hlen, hel, _, _⟩
 ·exact ⟨[], ⟨none, 0, rfl, Nat.le_refl _, Kd.C_nil _ _⟩, by simp, by simp⟩
 ·have each : ∀ j, j < len → ∃ b, (∃ c : List Value, c.length = d.sz ∧ d.K w b c ∧ ∀ i u, c[i]? = some u → w.cell? (a.add (j * d.sz + i)) = some u) ∧ Ok b := by
   intro j hj
   have h1 := hel j hj
   rw [List.getElem?_eq_getElem (by omega), Option.bind_eq_some_iff] at h1
   obtain ⟨c, hc, hx⟩ := h1
   obtain ⟨hcl, hcell⟩ := cells_get hc
   obtain ⟨b, hb, hok⟩ := he H enc n c _ hx
   refine ⟨b, ⟨c, by rw [hs, hcl], hb, fun i u hu => ?_⟩, hok⟩
   have := hcell i u hu
   rwa [add_add', ← hs] at this
  obtain ⟨l, hll, hR⟩ := choose_list len each
  have hm' : cap ≤ 9223372036854775807 := by unfold maxLen at hm; exact hm
  refine ⟨l, ⟨some a, cap, by rw [hll], by omega, by omega, by omega, fun _ => ⟨a, rfl, fun j p hp => (hR j p hp).1⟩⟩, fun b hb => ?_, by omega⟩
  obtain ⟨j, hj, rfl⟩ := List.getElem_of_mem hb
  exact (hR j _ (List.getElem?_eq_getElem hj)).2
def OpensL {α : Type} (P : Program) (w : World) (fs : List Field) (off : Nat) (d : Kd α) (Ok : α → Prop) : Prop :=
 ∀ (H : Type) (enc : TypeId × Value → H) (fuel : Nat) (cs : List Value), cs.length = off + d.sz → (∀ f ∈ fs, ∃ x, DataW.trod enc P w 0 (fun _ => true) true fuel f.type ((cs.drop f.offset).take (P.cellsOf f.type)) = some x) → ∃ a, d.K w a (cs.drop off) ∧ Ok a
theorem opens_imp {Ok' : α → Prop} (h : Opens P w t d Ok) (hi : ∀ a, Ok a → Ok' a) : Opens P w t d Ok' := by
 intro H enc fuel cs x hx
 obtain ⟨a, ha, hok⟩ := h H enc fuel cs x hx
 exact ⟨a, ha, hi a hok⟩
theorem open_slice_arg {H : Type} {enc : TypeId × Value → H} {r : Reach} {base : Nat} {v : Value} {y : DataW H} {p : List MemPlace} {Ok' : List α → Prop} (ht : P.underlying t = some (.slice e)) (ho : Opens P w t (Kd.slice e d) Ok') (hv : Value.okWide P w r base t v)
  (h : DataW.Trod enc P w 0 (fun _ => true) true t v y p) : ∃ (A : Option Addr) (c : Nat) (l : List α), v = .slice A l.length c ∧ l.length ≤ c ∧ d.C w A l.length l ∧ Ok' l := by
 obtain ⟨a, len, cap, rfl⟩ := okWide_slice ht hv
 obtain ⟨fuel, hf⟩ := h
 obtain ⟨l, ⟨A, c, hc, hl, hr⟩, hok⟩ := ho H enc fuel _ _ hf
 simp [Value.cells] at hc
 obtain ⟨rfl, rfl, rfl⟩ := hc
 exact ⟨_, _, l, rfl, hl, hr, hok⟩
end Go.Proofs.Ytkafbmanmffliaa.Op

/- (a part of its own) A yard, and moves, that came in as arguments. -/
namespace Go.Proofs.Ytkafbmanmffliaa.Op
open Go.RowKit Go.ChangeShapes Go.WideShapes Go.ChangeAt YtkafbmanmffliaaW.PrintWords
theorem opens_u8 {P : Program} {w : World} {t : TypeId} (ht : P.underlying t = some (.int .u8)) : Opens P w t (Kd.int .u8) (fun n => 0 ≤ n ∧ n ≤ 255) := by
 intro H enc fuel cs x h
 obtain ⟨n, rfl, _, hw⟩ := DataW.trod_int ht h
 refine ⟨n, rfl, ?_⟩
 have h2 := hw
 simp [Lit.wf, IntKind.min, IntKind.max, IntKind.signed, IntKind.bits] at h2
 exact h2
theorem opens_bytes (w : World) : Opens Try.prog w 22 (Kd.slice 5 (Kd.int .u8)) (fun x => x.length ≤ maxLen ∧ ∀ b ∈ x, 0 ≤ b ∧ b ≤ 255) := by
 have l := opens_slice (d := Kd.int .u8) (w := w) Try.underlying22 (opens_u8 (w := w) Try.underlying5) (by kernel_rfl)
 exact opens_imp l (fun _ h => ⟨h.2, h.1⟩)
end Go.Proofs.Ytkafbmanmffliaa.Op

/- A survey that came in as an argument: its value and what its sights' cells hold. -/
namespace Go.Proofs.Ytkafbmanmffliaa.Op
open Go.RowKit Go.ChangeShapes Go.WideShapes Go.ChangeAt YtkafbmanmffliaaW.PrintWords Q
abbrev kSurvey : Kd (Int × List S121) := Kd.pair (Kd.int .i64) (Kd.slice 121 k121)
end Go.Proofs.Ytkafbmanmffliaa.Op

