/- Parts of the proof that the law of this seat holds: Q95, Q96, Lo2, Q10, Q13, Q14, PuT, Hv, Hw, Ex, Gz, Sb, Pa, Ex2, Pc, Pf, Pd, Q2. -/
import Derived.Test.YtkafbmanmffliaaGRpa
import Derived.Test.YtkafbmanmffliaaGRpl
import Derived.Test.YtkafbmanmffliaaGRph
import Derived.Test.YtkafbmanmffliaaGRpk
import Derived.Test.YtkafbmanmffliaaGRpg
set_option linter.unusedVariables false
set_option linter.unusedSimpArgs false
namespace Go.Proofs.Ytkafbmanmffliaa.Q
open Go.RowKit YtkafbmanmffliaaW.PrintWords YtkafbmanmffliaaW.PrintLast YtkafbmanmffliaaW.PrintMore
attribute [local go_sem] max2_int min2_int max_two min_two max_three min_three max_four min_four
def spec_l10Gcd.l0 : Nat → Int → Int → Option (Int)
 | 0, _, _ => none
 | k + 1, x0, x1 => if x1 > 0 then (if x1 = 0 then (none) else (spec_l10Gcd.l0 k x1 (Int.tmod x0 x1))) else (some x0)
def spec_l10Gcd.f (k : Nat) (a0 : Int) (a1 : Int) : Option (Int) := (spec_l02Abs.f a0).bind fun t408 => ((spec_l02Abs.f a1).bind fun t409 => (spec_l10Gcd.l0 k t408 t409))
theorem spec_l10Gcd.mono_l : ∀ k, (∀ y0 y1, LeO (spec_l10Gcd.l0 k y0 y1) (spec_l10Gcd.l0 (k + 1) y0 y1))
 | 0 => fun _ _ r h => by simp [spec_l10Gcd.l0] at h
 | k + 1 => by
  have ih0 := spec_l10Gcd.mono_l k
  ·intro y0 y1
   unfold spec_l10Gcd.l0
   repeat' first
   | (with_reducible exact ih0 _ _)
   | (with_reducible exact LeO.refl _)
   | (with_reducible exact LeO.none _)
   | (with_reducible refine LeO.ite ?_ ?_)
   | (with_reducible refine LeO.bind ?_ (fun _ => ?_))
   | exact ih0 _ _
   | exact LeO.none _
   | refine LeO.ite ?_ ?_
   | refine LeO.bind ?_ (fun _ => ?_)
theorem spec_l10Gcd.mono : ∀ a0 a1 k, LeO (spec_l10Gcd.f k a0 a1) (spec_l10Gcd.f (k + 1) a0 a1) := by
 intro a0 a1 k
 have ih0 := spec_l10Gcd.mono_l k
 unfold spec_l10Gcd.f
 repeat' first
   | (with_reducible exact ih0 _ _)
   | (with_reducible exact LeO.refl _)
   | (with_reducible exact LeO.none _)
   | (with_reducible refine LeO.ite ?_ ?_)
   | (with_reducible refine LeO.bind ?_ (fun _ => ?_))
   | exact ih0 _ _
   | exact LeO.none _
   | refine LeO.ite ?_ ?_
   | refine LeO.bind ?_ (fun _ => ?_)
end Go.Proofs.Ytkafbmanmffliaa.Q

namespace Go.Proofs.Ytkafbmanmffliaa.Q
open Go.RowKit YtkafbmanmffliaaW.PrintWords YtkafbmanmffliaaW.PrintLast YtkafbmanmffliaaW.PrintMore
attribute [local go_sem] max2_int min2_int max_two min_two max_three min_three max_four min_four
mutual
def spec_l10Lowest.l0 : Nat → List Int → Int → Int → Int → Option (Int × List Int)
 | 0, _, _, _, _ => none
 | k + 1, x0, x1, x6, x7 => if x7 < (x0.length : Int) then (if 0 ≤ x7 then ((spec_l10Gcd.f k x6 (rd x0 x7)).bind fun t411 => (spec_l10Lowest.l0 k x0 x1 t411 (wrap64 (x7 + 1)))) else (none)) else (spec_l10Lowest.l1 k x0 x1 x6 (([] : List Int)) 0)
def spec_l10Lowest.l1 : Nat → List Int → Int → Int → List Int → Int → Option (Int × List Int)
 | 0, _, _, _, _, _ => none
 | k + 1, x0, x1, x6, x8, x9 => if x9 < (x0.length : Int) then (if 0 ≤ x9 then (if x6 = 0 then (none) else (if x8.length < 17592186044416 then (spec_l10Lowest.l1 k x0 x1 x6 (x8 ++ [wrap64 (Int.tdiv (rd x0 x9) x6)]) (wrap64 (x9 + 1))) else (none))) else (none)) else (if x6 = 0 then (none) else (some (wrap64 (Int.tdiv x1 x6), x8)))
end
def spec_l10Lowest.f (k : Nat) (l0 : List Int) (a1 : Int) : Option (Int × List Int) := spec_l10Lowest.l0 k l0 a1 a1 0
theorem spec_l10Lowest.mono_l : ∀ k, (∀ y0 y1 y2 y3, LeO (spec_l10Lowest.l0 k y0 y1 y2 y3) (spec_l10Lowest.l0 (k + 1) y0 y1 y2 y3)) ∧ (∀ y0 y1 y2 y3 y4, LeO (spec_l10Lowest.l1 k y0 y1 y2 y3 y4) (spec_l10Lowest.l1 (k + 1) y0 y1 y2 y3 y4))
 | 0 => ⟨fun _ _ _ _ r h => by simp [spec_l10Lowest.l0] at h, fun _ _ _ _ _ r h => by simp [spec_l10Lowest.l1] at h⟩
 | k + 1 => by
  obtain ⟨ih0, ih1⟩ := spec_l10Lowest.mono_l k
  refine ⟨?_, ?_⟩
  ·intro y0 y1 y2 y3
   unfold spec_l10Lowest.l0
   repeat' first
   | (with_reducible exact ih0 _ _ _ _)
   | (with_reducible exact ih1 _ _ _ _ _)
   | (with_reducible exact spec_l10Gcd.mono _ _ _)
   | (with_reducible exact LeO.refl _)
   | (with_reducible exact LeO.none _)
   | (with_reducible refine LeO.ite ?_ ?_)
   | (with_reducible refine LeO.bind ?_ (fun _ => ?_))
   | exact ih0 _ _ _ _
   | exact ih1 _ _ _ _ _
   | exact spec_l10Gcd.mono _ _ _
   | exact LeO.none _
   | refine LeO.ite ?_ ?_
   | refine LeO.bind ?_ (fun _ => ?_)
  ·intro y0 y1 y2 y3 y4
   unfold spec_l10Lowest.l1
   repeat' first
   | (with_reducible exact ih0 _ _ _ _)
   | (with_reducible exact ih1 _ _ _ _ _)
   | (with_reducible exact spec_l10Gcd.mono _ _ _)
   | (with_reducible exact LeO.refl _)
   | (with_reducible exact LeO.none _)
   | (with_reducible refine LeO.ite ?_ ?_)
   | (with_reducible refine LeO.bind ?_ (fun _ => ?_))
   | exact ih0 _ _ _ _
   | exact ih1 _ _ _ _ _
   | exact spec_l10Gcd.mono _ _ _
   | exact LeO.none _
   | refine LeO.ite ?_ ?_
   | refine LeO.bind ?_ (fun _ => ?_)
theorem spec_l10Lowest.mono : ∀ a0 a1 k, LeO (spec_l10Lowest.f k a0 a1) (spec_l10Lowest.f (k + 1) a0 a1) := by
 intro a0 a1 k
 obtain ⟨ih0, ih1⟩ := spec_l10Lowest.mono_l k
 unfold spec_l10Lowest.f
 repeat' first
   | (with_reducible exact ih0 _ _ _ _)
   | (with_reducible exact ih1 _ _ _ _ _)
   | (with_reducible exact spec_l10Gcd.mono _ _ _)
   | (with_reducible exact LeO.refl _)
   | (with_reducible exact LeO.none _)
   | (with_reducible refine LeO.ite ?_ ?_)
   | (with_reducible refine LeO.bind ?_ (fun _ => ?_))
   | exact ih0 _ _ _ _
   | exact ih1 _ _ _ _ _
   | exact spec_l10Gcd.mono _ _ _
   | exact LeO.none _
   | refine LeO.ite ?_ ?_
   | refine LeO.bind ?_ (fun _ => ?_)
end Go.Proofs.Ytkafbmanmffliaa.Q

/- Plain: the program's list of fractions over one denominator is the reference's in lowest terms; the reference's l10Gcd and l10Lowest. -/
namespace Go.Proofs.Ytkafbmanmffliaa.Lo2
open Go Go.RowKit YtkafbmanmffliaaW.PrintWords Q Ra Gw Lo
theorem lcmAll_append (L b : Nat) (S T : List Int) : lcmAll L b (S ++ T) = lcmAll L (lcmAll L b S) T := by simp [lcmAll]
theorem lc_take {S : List Int} {D : Nat} {F : Nat → Rat} (hF : ∀ k (h : k < S.length), F k = mkRat S[k] D) (m : Nat) (hm : m ≤ S.length) : lc F m = lcmAll D 1 (S.take m) := by
 induction m with
 | zero => rfl
 | succ m ih =>
  rw [List.take_succ_eq_append_getElem (by omega), lcmAll_append, ← ih (by omega)]
  show Nat.lcm (lc F m) (F m).den = Nat.lcm (lc F m) (mkRat S[m] D).den
  rw [hF m (by omega)]
theorem lc_low {S : List Int} {D : Nat} (hD : 0 < D) {F : Nat → Rat} (hF : ∀ k (h : k < S.length), F k = mkRat S[k] D) : lc F S.length = D / gcdAll D S := by
 rw [lc_take hF _ (Nat.le_refl _), List.take_length, ← lcm_gcd hD S D (Nat.dvd_refl D), Nat.div_self hD]
def lowL (D : Nat) (S : List Int) : List Int := S.map (fun s => s / (gcdAll D S : Int))
theorem numL_low {S : List Int} {D : Nat} (hD : 0 < D) {F : Nat → Rat} (hF : ∀ k (h : k < S.length), F k = mkRat S[k] D) : numL F (lc F S.length) S.length = lowL D S := by
 rw [lc_low hD hF]
 unfold numL lowL
 apply List.ext_getElem
 ·simp
 ·intro k h1 h2
  simp only [List.getElem_map, List.getElem_range]
  have hk : k < S.length := by simpa using h2
  rw [hF k hk]
  have := num_eq hD S S[k] (List.getElem_mem hk)
  rw [show ((((D / gcdAll D S : Nat) : Int) : Rat)) = (((D / gcdAll D S : Nat) : Nat) : Rat) from Rat.intCast_natCast _, this]
  rfl
theorem den_low {S : List Int} {D : Nat} (hD : 0 < D) {F : Nat → Rat} (hF : ∀ k (h : k < S.length), F k = mkRat S[k] D) (k : Nat) (hk : k < S.length) : (F k).den ∣ D := by
 rw [hF k hk, Rat.den_mkRat, if_neg (by omega)]
 exact Nat.div_dvd_of_dvd (Nat.gcd_dvd_left _ _)
theorem num_low {S : List Int} {D : Nat} (hD : 0 < D) {F : Nat → Rat} (hF : ∀ k (h : k < S.length), F k = mkRat S[k] D) (k : Nat) (hk : k < S.length) : (F k * ((lc F S.length : Int) : Rat)).num.natAbs ≤ S[k].natAbs := by
 rw [lc_low hD hF, hF k hk]
 have := num_eq hD S S[k] (List.getElem_mem hk)
 rw [show ((((D / gcdAll D S : Nat) : Int) : Rat)) = (((D / gcdAll D S : Nat) : Nat) : Rat) from Rat.intCast_natCast _, this]
 show (S[k] / (gcdAll D S : Int)).natAbs ≤ _
 rw [Int.natAbs_ediv_of_dvd (Int.natAbs_dvd_natAbs.1 (by simpa using (gcd_dvd S D).2 _ (List.getElem_mem hk))), Int.natAbs_natCast]
 exact Nat.div_le_self _ _
end Go.Proofs.Ytkafbmanmffliaa.Lo2

namespace Go.Proofs.Ytkafbmanmffliaa.Q
open Go.RowKit YtkafbmanmffliaaW.PrintWords YtkafbmanmffliaaW.PrintLast YtkafbmanmffliaaW.PrintMore
attribute [local go_sem] max2_int min2_int max_two min_two max_three min_three max_four min_four
def IsS26 (w0 W : World) (g : Nat) (f0 : Int) (f1 : List (S32)) : Prop := ∃ A1 c1, W.heap[g]? = some (.cells #[.int .i64 f0, .slice A1 f1.length c1] 26 (0, 0)) ∧ w0.heap.size ≤ g ∧ Kd.C k32 w0 A1 f1.length f1
theorem IsS26.grown {w0 W : World} {g : Nat} {f0 : Int} {f1 : List (S32)} {W1 : World} {row : Option Nat} (h : IsS26 w0 W g f0 f1) (hw : W.grownBy W1 row) (hne : some g ≠ row) : IsS26 w0 W1 g f0 f1 := by
 obtain ⟨A1, c1, hb, hg, hr1⟩ := h
 exact ⟨A1, c1, blk_grown hb hw hne, hg, hr1⟩
theorem IsS26.kept {w0 W : World} {g : Nat} {f0 : Int} {f1 : List (S32)} {W1 : World} {S : Nat → Prop} (h : IsS26 w0 W g f0 f1) (hk : Kept W W1 S) (hne : ¬ S g) : IsS26 w0 W1 g f0 f1 := by
 obtain ⟨A1, c1, hb, hg, hr1⟩ := h
 exact ⟨A1, c1, blk_kept hb hk hne, hg, hr1⟩
theorem IsS26.below {w0 W : World} {g : Nat} {f0 : Int} {f1 : List (S32)} {W1 : World} (h : IsS26 w0 W g f0 f1) (hw : Below W.heap.size W W1) : IsS26 w0 W1 g f0 f1 := h.grown (grown_of_below hw none) (by simp)
theorem IsS26.alloc {w0 W : World} {g : Nat} {f0 : Int} {f1 : List (S32)} (h : IsS26 w0 W g f0 f1) (o : Obj) : IsS26 w0 (W.alloc o) g f0 f1 := h.below (below_alloc (Below.refl _ _) o)
theorem IsS26.drewN {w0 W : World} {g : Nat} {f0 : Int} {f1 : List (S32)} (h : IsS26 w0 W g f0 f1) (m : Nat) : IsS26 w0 (W.drewN m) g f0 f1 := h
theorem IsS26.drew {w0 W : World} {g : Nat} {f0 : Int} {f1 : List (S32)} (h : IsS26 w0 W g f0 f1) : IsS26 w0 W.drew g f0 f1 := h
theorem IsS26.at_ {w0 W : World} {g : Nat} {f0 : Int} {f1 : List (S32)} {w' : World} {m : Nat} (hq : W.drewN m = w') (h : IsS26 w0 W g f0 f1) : IsS26 w0 w' g f0 f1 := by subst hq; exact IsS26.drewN h m
theorem IsS26.apart {w0 W : World} {g : Nat} {f0 : Int} {f1 : List (S32)} {α : Type} {d : Kd α} {e : Nat} {base : Nat} {ok : Nat → Prop} {v : Value} {xs : List α} (h : IsS26 w0 W g f0 f1) (ho : d.R e W base ok v xs) (ht : ∀ q, q ∈ e :: d.E → q ≠ 26) : d.R e W base (fun k => ok k ∧ k ≠ g) v xs := by
 obtain ⟨A1, c1, hb, hg, hr1⟩ := h
 exact Kd.R_types ho hb ht
theorem IsS26.own_ne {w0 W : World} {g : Nat} {f0 : Int} {f1 : List (S32)} {α : Type} {d : Kd α} {e : Nat} {base : Nat} {ok : Nat → Prop} {v : Value} {xs : List α} (h : IsS26 w0 W g f0 f1) (ho : d.R e W base ok v xs) (ht : e ≠ 26) : some g ≠ v.ownBlock := by
 obtain ⟨A1, c1, hb, hg, hr1⟩ := h
 exact Kd.R_ne ho hb ht
theorem IsS26.lt {w0 W : World} {g : Nat} {f0 : Int} {f1 : List (S32)} (h : IsS26 w0 W g f0 f1) : g < W.heap.size := by
 obtain ⟨A1, c1, hb, hg, hr1⟩ := h
 exact blk_lt hb
theorem IsS26.ge {w0 W : World} {g : Nat} {f0 : Int} {f1 : List (S32)} (h : IsS26 w0 W g f0 f1) : w0.heap.size ≤ g := by
 obtain ⟨A1, c1, hb, hg, hr1⟩ := h
 exact hg
theorem IsS26.ne_blk {w0 W : World} {g : Nat} {f0 : Int} {f1 : List (S32)} {a : Nat} {cs : Array Value} {t : TypeId} {fr : Nat × Nat} (h : IsS26 w0 W g f0 f1) (hb2 : W.heap[a]? = some (.cells cs t fr)) (ht : t ≠ 26) : g ≠ a := by
 obtain ⟨A1, c1, hb, hg, hr1⟩ := h
 rintro rfl
 rw [hb] at hb2
 injection hb2 with hb2
 injection hb2 with _ ht2
 exact ht ht2.symm
theorem IsS26.far {w0 W : World} {g : Nat} {f0 : Int} {f1 : List (S32)} {p : Addr} (h : IsS26 w0 W g f0 f1) (hne : g ≠ p.block) (u : Value) : IsS26 w0 (W.setCell p u) g f0 f1 := by
 obtain ⟨A1, c1, hb, hg, hr1⟩ := h
 exact ⟨A1, c1, blk_far hb hne u, hg, hr1⟩
theorem IsS26.new (w0 W : World) (A1 : Option Addr) (c1 : Nat) (f0 : Int) (f1 : List (S32)) (hB : Below w0.heap.size w0 W) (hr1 : Kd.C k32 w0 A1 f1.length f1) : IsS26 w0 (W.alloc (.cells #[.int .i64 f0, .slice A1 f1.length c1] 26)) W.heap.size f0 f1 := ⟨A1, c1, by simpa using heap_alloc_new W _, hB.size, hr1⟩
def spec_l10Is.f (s0_0 : Int) (s0_1 : List (S32)) : Option (Bool × Int) := some (Hb.surveyB s0_0 s0_1, s0_0)
end Go.Proofs.Ytkafbmanmffliaa.Q

namespace Go.Proofs.Ytkafbmanmffliaa.Q
open Go.RowKit YtkafbmanmffliaaW.PrintWords YtkafbmanmffliaaW.PrintLast YtkafbmanmffliaaW.PrintMore
attribute [local go_sem] max2_int min2_int max_two min_two max_three min_three max_four min_four
def spec_l10Tree.f (s0_0 : Int) (s0_1 : List (S32)) : Option (List Int × List Int × Bool × Int) :=
 if Hb.surveyB s0_0 s0_1 = true then (if (Hd.treeS s0_0 s0_1).part.all (· == 0) = true then some ((Hd.treeS s0_0 s0_1).out, (Hd.treeS s0_0 s0_1).hts, true, s0_0) else some ([], [], false, s0_0)) else none
end Go.Proofs.Ytkafbmanmffliaa.Q

namespace Go.Proofs.Ytkafbmanmffliaa.Q
open Go.RowKit YtkafbmanmffliaaW.PrintWords YtkafbmanmffliaaW.PrintLast YtkafbmanmffliaaW.PrintMore
attribute [local go_sem] max2_int min2_int max_two min_two max_three min_three max_four min_four
def spec_l10Whole.f (s0_0 : Int) (s0_1 : List (S32)) : Option (Bool × Int) := (spec_l10Is.f s0_0 s0_1).bind fun bt196 => (if bt196.1 = true then ((spec_l10Tree.f bt196.2 s0_1).bind fun bt198 => (some (bt198.2.2.1, bt198.2.2.2))) else (some (false, bt196.2)))
end Go.Proofs.Ytkafbmanmffliaa.Q

/- The program's choice of sights without loops and the reference's are the same: both keep the same parts of connected points. -/
namespace Go.Proofs.Ytkafbmanmffliaa.PuT
open Go.RowKit YtkafbmanmffliaaW.PrintWords Q Hb Hc Hd
structure Sg where
 out : List Int
 grp : List Int
def stepG (st : Sg) (x : S32 × Nat) : Sg :=
 if rd st.grp x.1.f0 = rd st.grp x.1.f1 then st
 else ⟨st.out ++ [(x.2 : Int)], st.grp.map fun v => if v = rd st.grp x.1.f1 then rd st.grp x.1.f0 else v⟩
def startG (pts : Int) : Sg := ⟨[], (List.range pts.toNat).map fun k : Nat => (k : Int)⟩
def atG (pts : Int) (l : List S32) (k : Nat) : Sg := (l.zipIdx.take k).foldl stepG (startG pts)
def treeG (pts : Int) (l : List S32) : Sg := atG pts l l.length
theorem atG_succ (pts : Int) (l : List S32) (k : Nat) (h : k < l.length) : atG pts l (k + 1) = stepG (atG pts l k) (rd_T32 l k, k) := by
 unfold atG
 rw [List.take_succ_eq_append_getElem (by simpa using h), List.foldl_append]
 simp [rd_T32, h, List.getElem_zipIdx]
theorem stepG_len (st : Sg) (x : S32 × Nat) : (stepG st x).grp.length = st.grp.length := by unfold stepG; split <;> simp
theorem atG_len (pts : Int) (l : List S32) (k : Nat) : (atG pts l k).grp.length = pts.toNat := by
 unfold atG
 generalize l.zipIdx.take k = m
 have : ∀ st : Sg, (m.foldl stepG st).grp.length = st.grp.length := by
  induction m with
  | nil => intro st; rfl
  | cons x xs ih => intro st; simp only [List.foldl_cons]; rw [ih, stepG_len]
 rw [this]; simp [startG]
theorem atG_out (pts : Int) (l : List S32) (k : Nat) : (atG pts l k).out.length ≤ k := by
 induction k with
 | zero => simp [atG, startG]
 | succ k ih =>
  by_cases h : k < l.length
  ·rw [atG_succ pts l k h]; unfold stepG; split
   ·omega
   ·simp only [List.length_append, List.length_cons, List.length_nil]; omega
  ·have : atG pts l (k + 1) = atG pts l k := by unfold atG; rw [List.take_of_length_le (by simp; omega), List.take_of_length_le (by simp; omega)]
   rw [this]; omega
theorem rd_map (f : Int → Int) (p : List Int) (x : Nat) (h : x < p.length) : rd (p.map f) x = f (rd p x) := by
 rw [rd_nat _ _ (by simpa using h), rd_nat _ _ h]; simp
theorem merge_eq {a b mn mx px py : Int} (_hab : a ≠ b) (h : (mn = a ∧ mx = b) ∨ (mn = b ∧ mx = a)) :
  ((if px = mx then mn else px) = (if py = mx then mn else py)) ↔ (px = py ∨ ((px = a ∨ px = b) ∧ (py = a ∨ py = b))) := by
 split <;> split <;> omega
def cnt (n : Nat) (p : List Int) : Nat := ((List.range n).filter fun x : Nat => decide (rd p x = (x : Int))).length
theorem filter_drop_one {l : List Nat} (hn : l.Nodup) {q q' : Nat → Bool} {m : Nat} (hm : m ∈ l) (hq : q m = true) (h : ∀ x, x ∈ l → (q' x = true ↔ q x = true ∧ x ≠ m)) : (l.filter q').length + 1 = (l.filter q).length := by
 induction l with
 | nil => simp at hm
 | cons x xs ih =>
  rw [List.nodup_cons] at hn
  have hx := h x (by simp)
  by_cases e : x = m
  ·subst e
   have h1 : q' x = false := by
    cases hc : q' x
    ·rfl
    ·exact absurd rfl (hx.1 hc).2
   have h2 : xs.filter q' = xs.filter q := by
    apply List.filter_congr
    intro y hy
    have hy2 := h y (by simp [hy])
    have : y ≠ x := fun e => hn.1 (e ▸ hy)
    cases hc : q y <;> cases hd : q' y <;> simp_all
   simp [h1, hq, h2]
  ·have hm' : m ∈ xs := by
    rcases List.mem_cons.1 hm with h | h
    ·exact absurd h.symm e
    ·exact h
   have := ih hn.2 hm' (fun y hy => h y (by simp [hy]))
   have hqq : q' x = q x := by
    cases hc : q x <;> cases hd : q' x <;> simp_all
   by_cases hc : q x = true
   ·simp [hqq, hc]; omega
   ·simp [hqq, hc]; omega
structure Inv (n : Nat) (o : List Int) (p g : List Int) : Prop where
 lp : p.length = n
 lg : g.length = n
 eqv : ∀ x y : Nat, x < n → y < n → (rd p x = rd p y ↔ rd g x = rd g y)
 lo : ∀ x : Nat, x < n → 0 ≤ rd p x ∧ rd p x ≤ x
 rep : ∀ x : Nat, x < n → rd p (rd p x) = rd p x
 cn : o.length + cnt n p = n
theorem rd_range (n : Nat) (x : Nat) (h : x < n) : rd ((List.range n).map fun j : Nat => (j : Int)) x = x := by
 rw [rd_nat _ _ (by simpa using h)]; simp
theorem inv_start (n : Nat) : Inv n (Hd.start n).out (Hd.start n).part (startG n).grp where
 lp := by simp [Hd.start]
 lg := by simp [startG]
 eqv := fun x y hx hy => by simp [Hd.start, startG]
 lo := fun x hx => by simp only [Hd.start, Int.toNat_natCast]; rw [rd_range n x hx]; omega
 rep := fun x hx => by simp only [Hd.start, Int.toNat_natCast]; rw [rd_range n x hx, rd_range n x hx]
 cn := by
  have e : ∀ x : Nat, x < n → rd (Hd.start (n : Int)).part x = x := fun x hx => by simp only [Hd.start, Int.toNat_natCast]; exact rd_range n x hx
  have : (List.range n).filter (fun x : Nat => decide (rd (Hd.start (n : Int)).part x = (x : Int))) = List.range n := by
   rw [List.filter_eq_self]
   intro x hx
   exact decide_eq_true (e x (by simpa using hx))
  unfold cnt
  rw [this]; simp [Hd.start]
theorem inv_step {n : Nat} {st : St} {sg : Sg} (h : Inv n st.out st.part sg.grp) (ho : st.out = sg.out) (x : S32 × Nat) (h0 : 0 ≤ x.1.f0) (h1 : x.1.f0 < n) (h2 : 0 ≤ x.1.f1) (h3 : x.1.f1 < n) :
  Inv n (Hd.step st x).out (Hd.step st x).part (stepG sg x).grp ∧ (Hd.step st x).out = (stepG sg x).out := by
 obtain ⟨s, i⟩ := x
 obtain ⟨u, hu⟩ : ∃ u : Nat, s.f0 = (u : Int) := ⟨s.f0.toNat, by simp at h0; omega⟩
 obtain ⟨v, hv⟩ : ∃ v : Nat, s.f1 = (v : Int) := ⟨s.f1.toNat, by simp at h2; omega⟩
 simp only [hu, hv] at h1 h3
 have hun : u < n := by omega
 have hvn : v < n := by omega
 clear h0 h1 h2 h3
 have huv := h.eqv u v hun hvn
 unfold Hd.step stepG
 simp only [hu, hv]
 by_cases hab : rd st.part u = rd st.part v
 ·rw [if_pos hab, if_pos (huv.1 hab)]; exact ⟨h, ho⟩
 ·rw [if_neg hab, if_neg (fun e => hab (huv.2 e))]
  have hmm : (mnI (rd st.part u) (rd st.part v) = rd st.part u ∧ mxI (rd st.part u) (rd st.part v) = rd st.part v) ∨ (mnI (rd st.part u) (rd st.part v) = rd st.part v ∧ mxI (rd st.part u) (rd st.part v) = rd st.part u) := by
   unfold mnI mxI; split <;> split <;> omega
  have hlt : mnI (rd st.part u) (rd st.part v) < mxI (rd st.part u) (rd st.part v) := by unfold mnI mxI; split <;> split <;> omega
  have hP : ∀ y : Nat, y < n → rd (newPart st.part (rd st.part u) (rd st.part v)) y = if rd st.part y = mxI (rd st.part u) (rd st.part v) then mnI (rd st.part u) (rd st.part v) else rd st.part y := fun y hy => rd_map _ _ _ (by rw [h.lp]; exact hy)
  have hG : ∀ y : Nat, y < n → rd (sg.grp.map fun z => if z = rd sg.grp v then rd sg.grp u else z) y = if rd sg.grp y = rd sg.grp v then rd sg.grp u else rd sg.grp y := fun y hy => rd_map _ _ _ (by rw [h.lg]; exact hy)
  have rmn : rd st.part (mnI (rd st.part u) (rd st.part v)) = mnI (rd st.part u) (rd st.part v) := by
   rcases hmm with ⟨e, _⟩ | ⟨e, _⟩ <;> rw [e]
   ·exact h.rep u hun
   ·exact h.rep v hvn
  have rmx : rd st.part (mxI (rd st.part u) (rd st.part v)) = mxI (rd st.part u) (rd st.part v) := by
   rcases hmm with ⟨_, e⟩ | ⟨_, e⟩ <;> rw [e]
   ·exact h.rep v hvn
   ·exact h.rep u hun
  have bu := h.lo u hun
  have bv := h.lo v hvn
  have bmx : 0 ≤ mxI (rd st.part u) (rd st.part v) ∧ mxI (rd st.part u) (rd st.part v) < n := by rcases hmm with ⟨_, e⟩ | ⟨_, e⟩ <;> rw [e] <;> omega
  have bmn : 0 ≤ mnI (rd st.part u) (rd st.part v) := by rcases hmm with ⟨e, _⟩ | ⟨e, _⟩ <;> rw [e] <;> omega
  have hau : ∀ y : Nat, y < n → (rd st.part y = rd st.part u ↔ rd sg.grp y = rd sg.grp u) := fun y hy => h.eqv y u hy hun
  have hav : ∀ y : Nat, y < n → (rd st.part y = rd st.part v ↔ rd sg.grp y = rd sg.grp v) := fun y hy => h.eqv y v hy hvn
  generalize hmn : mnI (rd st.part u) (rd st.part v) = mn at *
  generalize hmx : mxI (rd st.part u) (rd st.part v) = mx at *
  refine ⟨⟨by rw [newPart_len]; exact h.lp, by simp [h.lg], ?_, ?_, ?_, ?_⟩, by rw [ho]⟩
  ·intro y z hy hz
   rw [hP y hy, hP z hz, hG y hy, hG z hz, merge_eq hab hmm, merge_eq (a := rd sg.grp u) (b := rd sg.grp v) (fun e => hab (huv.2 e)) (.inl ⟨rfl, rfl⟩), h.eqv y z hy hz, hau y hy, hav y hy, hau z hz, hav z hz]
  ·intro y hy
   have := h.lo y hy
   rw [hP y hy]; split <;> omega
  ·intro y hy
   have hl := h.lo y hy
   have hr := h.rep y hy
   rw [hP y hy]
   split
   ·obtain ⟨m, hm⟩ : ∃ m : Nat, mn = (m : Int) := ⟨mn.toNat, by omega⟩
    rw [hm] at rmn hlt ⊢
    rw [hP m (by omega), rmn, if_neg (by omega)]
   ·rename_i hne
    obtain ⟨m, hm⟩ : ∃ m : Nat, rd st.part y = (m : Int) := ⟨(rd st.part y).toNat, by omega⟩
    rw [hm] at hr hne hl ⊢
    rw [hP m (by omega), hr, if_neg hne]
  ·obtain ⟨m, hm⟩ : ∃ m : Nat, mx = (m : Int) := ⟨mx.toNat, by omega⟩
   have hc : cnt n (newPart st.part (rd st.part u) (rd st.part v)) + 1 = cnt n st.part := by
    refine filter_drop_one List.nodup_range (m := m) (by simp; omega) (by rw [hm] at rmx; simp [rmx]) ?_
    intro y hy
    have hy' : y < n := by simpa using hy
    rw [hP y hy']
    simp only [decide_eq_true_eq]
    split
    ·rename_i e
     constructor
     ·intro e2
      rw [e2] at rmn
      omega
     ·rintro ⟨e2, e3⟩
      omega
    ·rename_i e
     constructor
     ·intro e2; exact ⟨e2, by omega⟩
     ·intro e2; exact e2.1
   have := h.cn
   simp only [List.length_append, List.length_cons, List.length_nil]
   omega
theorem inv_at {n : Nat} {l : List S32} (hv : surveyB n l = true) : ∀ k, k ≤ l.length → Inv n (at_ n l k).out (at_ n l k).part (atG n l k).grp ∧ (at_ n l k).out = (atG n l k).out := by
 intro k
 induction k with
 | zero => intro _; exact ⟨by rw [at_zero]; exact inv_start n, by simp [at_zero, atG, Hd.start, startG]⟩
 | succ k ih =>
  intro hk
  obtain ⟨h1, h2⟩ := ih (by omega)
  obtain ⟨a, b, c, d⟩ := valid_at hv k (by omega)
  rw [at_succ n l k (by omega), atG_succ n l k (by omega)]
  exact inv_step h1 h2 (rd_T32 l k, k) a b c d
theorem all_zero {n : Nat} {o p g : List Int} (h : Inv n o p g) (hn : 1 ≤ n) : p.all (· == 0) = true ↔ o.length = n - 1 := by
 have hc := h.cn
 have z0 : rd p 0 = 0 := by have := h.lo 0 (by omega); simp at this; omega
 have e1 : p.all (· == 0) = true ↔ ∀ x : Nat, x < n → rd p x = 0 := by
  rw [List.all_eq_true]
  constructor
  ·intro ha x hx
   have := ha (rd p x) (by rw [rd_nat _ _ (by rw [h.lp]; exact hx)]; exact List.getElem_mem _)
   simpa using this
  ·intro ha y hy
   obtain ⟨i, hi, rfl⟩ := List.getElem_of_mem hy
   have := ha i (by rw [← h.lp]; exact hi)
   rw [rd_nat _ _ hi] at this
   simpa using this
 rw [e1]
 constructor
 ·intro ha
  have : (List.range n).filter (fun x : Nat => decide (rd p x = (x : Int))) = [0] := by
   obtain ⟨m, rfl⟩ : ∃ m, n = m + 1 := ⟨n - 1, by omega⟩
   rw [List.range_succ_eq_map, List.filter_cons]
   have h0 : decide (rd p ((0 : Nat) : Int) = ((0 : Nat) : Int)) = true := by simpa using z0
   rw [if_pos h0]
   congr 1
   rw [List.filter_eq_nil_iff]
   intro x hx
   simp only [List.mem_map, List.mem_range] at hx
   obtain ⟨y, hy, rfl⟩ := hx
   have := ha (y + 1) (by omega)
   simp only [Nat.succ_eq_add_one, decide_eq_true_eq]
   omega
  unfold cnt at hc
  rw [this] at hc
  simp at hc; omega
 ·intro hl x hx
  have h1 : cnt n p = 1 := by omega
  have hr := h.rep x hx
  have hb := h.lo x hx
  obtain ⟨m, hm⟩ : ∃ m : Nat, rd p x = (m : Int) := ⟨(rd p x).toNat, by omega⟩
  rw [hm] at hr hb ⊢
  by_cases e : m = 0
  ·simp [e]
  ·exfalso
   unfold cnt at h1
   obtain ⟨y, hy⟩ := List.length_eq_one_iff.1 h1
   have m0 : 0 ∈ (List.range n).filter (fun x : Nat => decide (rd p x = (x : Int))) := by simp; exact ⟨by omega, z0⟩
   have mm : m ∈ (List.range n).filter (fun x : Nat => decide (rd p x = (x : Int))) := by simp; exact ⟨by omega, hr⟩
   rw [hy] at m0 mm
   simp at m0 mm
   omega
theorem out_eq {n : Nat} {l : List S32} (hv : surveyB n l = true) : (treeS n l).out = (treeG n l).out := by
 have := (inv_at hv l.length (Nat.le_refl _)).2
 rwa [at_all] at this
theorem conn_eq {n : Nat} {l : List S32} (hv : surveyB n l = true) : ((treeS n l).part.all (· == 0) = true) ↔ (((treeG n l).out.length : Int) = (n : Int) - 1) := by
 have hp := valid_pts hv
 have h := (inv_at hv l.length (Nat.le_refl _)).1
 rw [at_all] at h
 have := all_zero h (by omega)
 rw [this, ← out_eq hv]
 omega
theorem nat_pts {p : Int} {l : List S32} (hv : surveyB p l = true) : ∃ n : Nat, p = n := ⟨p.toNat, by have := valid_pts hv; omega⟩
def connB (p : Int) (l : List S32) : Bool := surveyB p l && (treeS p l).part.all (· == 0)
end Go.Proofs.Ytkafbmanmffliaa.PuT

/- The program's ValidSurvey and IsConnected: what they return. -/
namespace Go.Proofs.Ytkafbmanmffliaa.Hv
open Go Go.RowKit YtkafbmanmffliaaW.PrintWords YtkafbmanmffliaaW.PrintLast YtkafbmanmffliaaW.PrintMore Q Gd Hb Ha
theorem C_two (W : World) (g : Nat) (x y : Int) (h : W.heap[g]? = some (.cells #[.int .i64 x, .int .i64 y] 2 (0, 0))) : Kd.C (Kd.int .i64) W (some ⟨g, 0, none⟩) 2 [x, y] :=
 Kd.C_of_reads (d := (0 : Int)) ⟨rfl, by simp [maxLen], fun _ => ⟨⟨g, 0, none⟩, rfl, fun j hj => by
  obtain rfl | rfl : j = 0 ∨ j = 1 := by omega
  ·exact (blk_cell h 0).trans rfl
  ·exact (blk_cell h 1).trans rfl⟩⟩
abbrev BS (p : Int) (A : Option Addr) (n c : Nat) : Obj := .cells #[.int .i64 p, .slice A n c] 26
set_option maxHeartbeats 4000000 in
set_option maxRecDepth 100000 in
theorem valid_any (p : Int) (l : List S32) (A : Option Addr) (c : Nat) (w : World) (hr : Kd.C k32 w A l.length l) (hl : l.length ≤ 1048576) :
  Calls Try.prog 81 #[.agg #[.int .i64 p, .slice A l.length c]] w fun e w' => e = .returned (.bool (surveyB p l)) ∧ Below w.heap.size w w' := by
 have hu26 := Try.underlying26
 have hu32 := Try.underlying32
 have hu24 := Try.underlying24
 have hbx := below_alloc (Below.refl w.heap.size w) (BS p A l.length c)
 have HR := Aside0.mk (Kd.C_below hr hbx)
 have HX := Aside0.mk (heap_alloc_new w (BS p A l.length c))
 have HS := Aside0.mk (show surveyB p l = ((inB 2 5 p && decide ((l.length : Int) ≤ 8)) && l.all (sightB p)) from rfl)
 have t0 := Aside0.mk hbx
 clear hr hbx
 go_enter Try.func81, Try.ntmps81
 go_wp2_with (fail)
 go_loopw [8] (fun v8 wz => ∃ i : Nat, v8 = .int .i64 (i : Int) ∧ i ≤ l.length ∧ Aside0 (l.all (sightB p) = (l.drop i).all (sightB p)) ∧ Aside0 (Below w.heap.size w wz) ∧ Aside0 (Below (w.alloc (BS p A l.length c)).heap.size (w.alloc (BS p A l.length c)) wz)) (fun v _ => l.length - (intOf v).toNat)
 case atStart => exact ⟨0, rfl, by omega, ⟨rfl⟩, t0, ⟨Below.refl _ _⟩⟩
 case round =>
  clear t0
  obtain ⟨i, rfl, hi, HA, HB, HB0⟩ := hrel
  have K := Aside0.mk (blk_below HX.out HB0.out)
  have e0 : wr.cell? ⟨w.heap.size, 0, none⟩ = some (.int .i64 p) := (blk_cell K.out 0).trans rfl
  have e1 : wr.cell? ⟨w.heap.size, 1, none⟩ = some (.slice A l.length c) := (blk_cell K.out 1).trans rfl
  by_cases hlt : i < l.length
  ·have p1 : decide ((i : Int) < (l.length : Int)) = true := decide_eq_true (by omega)
   obtain ⟨ad, e, x0, x1, x2, x3⟩ := at_T32 (Kd.C_below HR.out HB0.out) (i : Int) (by omega) (by omega)
   subst e
   rw [Int.toNat_natCast] at x0 x1 x2 x3
   have hd : l.drop i = rd_T32 l i :: l.drop (i + 1) := by rw [List.drop_eq_getElem_cons hlt]; simp [rd_T32, hlt]
   have HD := Aside0.mk (show l.all (sightB p) = (sightB p (rd_T32 l i) && (l.drop (i + 1)).all (sightB p)) by rw [HA.out, hd]; rfl)
   clear hd HA
   obtain ⟨s, hs⟩ : ∃ s, s = rd_T32 l i := ⟨_, rfl⟩
   rw [← hs] at x0 x1 x2 x3 HD
   clear hs
   obtain ⟨f, t, ri, wt⟩ := s
   dsimp only at x0 x1 x2 x3
   have HQ := Aside0.mk (show sightB p ⟨f, t, ri, wt⟩ = ((((areIn [f, t] 0 (wrap64 (p - 1)) && !(f == t)) && inB (-100) 100 ri) && inB 1 3 wt)) by
    unfold sightB areIn
    simp only [List.all_cons, List.all_nil, Bool.and_true])
   have hba := below_alloc (below_alloc (Below.refl wr.heap.size wr) (.cells #[.int .i64 f, .int .i64 t, .int .i64 ri, .int .i64 wt] 32)) (.cells #[.int .i64 f, .int .i64 t] 2)
   have hna := blk_alloc (heap_alloc_new wr (.cells #[.int .i64 f, .int .i64 t, .int .i64 ri, .int .i64 wt] 32)) (.cells #[.int .i64 f, .int .i64 t] 2)
   have hnb := heap_alloc_new (wr.alloc (.cells #[.int .i64 f, .int .i64 t, .int .i64 ri, .int .i64 wt] 32)) (.cells #[.int .i64 f, .int .i64 t] 2)
   rw [World.size_alloc] at hnb
   have hcw := areWithin_any (some ⟨wr.heap.size + 1, 0, none⟩) 2 [f, t] 0 (wrap64 (p - 1)) _ (C_two _ _ f t hnb)
   have HNA := Aside0.mk hna
   have HBA := Aside0.mk hba
   have e0a : ((wr.alloc (.cells #[.int .i64 f, .int .i64 t, .int .i64 ri, .int .i64 wt] 32)).alloc (.cells #[.int .i64 f, .int .i64 t] 2)).cell? ⟨w.heap.size, 0, none⟩ = some (.int .i64 p) := (blk_cell (blk_alloc (blk_alloc K.out _) _) 0).trans rfl
   clear hna hnb hba
   have aft : ∀ {w1 : World}, Below ((wr.alloc (.cells #[.int .i64 f, .int .i64 t, .int .i64 ri, .int .i64 wt] 32)).alloc (.cells #[.int .i64 f, .int .i64 t] 2)).heap.size ((wr.alloc (.cells #[.int .i64 f, .int .i64 t, .int .i64 ri, .int .i64 wt] 32)).alloc (.cells #[.int .i64 f, .int .i64 t] 2)) w1 → (w1.heap[wr.heap.size]? = some (.cells #[.int .i64 f, .int .i64 t, .int .i64 ri, .int .i64 wt] 32 (0, 0))) ∧ Below w.heap.size w w1 ∧ Below (w.alloc (BS p (some ad) l.length c)).heap.size (w.alloc (BS p (some ad) l.length c)) w1 :=
    fun h => ⟨blk_below HNA.out h, below_step HB.out (below_step HBA.out h), below_step HB0.out (below_step HBA.out h)⟩
   have AFT := Aside0.mk @aft
   clear aft
   by_cases q1 : areIn [f, t] 0 (wrap64 (p - 1)) = true
   ·rw [q1] at hcw
    by_cases q2 : f = t
    ·have d2 : (f == t) = true := by simpa using q2
     have HF := Aside0.mk (show l.all (sightB p) = false by rw [HD.out, HQ.out, d2]; simp)
     clear q1 q2
     go_wp2_with (go_at_call 110; refine hcw.mono ?_; rintro e w1 ⟨rfl, hb⟩; obtain ⟨hk, hb1, hb2⟩ := AFT.out hb; have k0 : w1.cell? ⟨wr.heap.size, 0, none⟩ = some (.int .i64 f) := (blk_cell hk 0).trans rfl; have k1 : w1.cell? ⟨wr.heap.size, 1, none⟩ = some (.int .i64 t) := (blk_cell hk 1).trans rfl; have HB1 := Aside0.mk hb1; clear hb hb1 hb2 hk)
     go_ret
     exact ⟨ret_bool (by rw [HS.out, HF.out, Bool.and_false]), HB1.out⟩
    ·have d2 : (f == t) = false := by simpa using q2
     by_cases q3 : inB (-100) 100 ri = true
     ·by_cases q4 : inB 1 3 wt = true
      ·have HT := Aside0.mk (show l.all (sightB p) = (l.drop (i + 1)).all (sightB p) by rw [HD.out, HQ.out, q1, d2, q3, q4]; simp)
       clear q1 q2
       go_wp2_with (first
        | (go_at_call 110; refine hcw.mono ?_; rintro e w1 ⟨rfl, hb⟩; obtain ⟨hk, hb1, hb2⟩ := AFT.out hb; have k0 : w1.cell? ⟨wr.heap.size, 0, none⟩ = some (.int .i64 f) := (blk_cell hk 0).trans rfl; have k1 : w1.cell? ⟨wr.heap.size, 1, none⟩ = some (.int .i64 t) := (blk_cell hk 1).trans rfl; have k2 : w1.cell? ⟨wr.heap.size, 2, none⟩ = some (.int .i64 ri) := (blk_cell hk 2).trans rfl; have k3 : w1.cell? ⟨wr.heap.size, 3, none⟩ = some (.int .i64 wt) := (blk_cell hk 3).trans rfl; have HB1 := Aside0.mk hb1; have HB2 := Aside0.mk hb2; clear hb hb1 hb2 hk)
        | (go_at_call 82; refine (within_any _ _ _ _).mono ?_; rintro e w2 ⟨rfl, rfl⟩))
       go_roundw
       case rel => exact ⟨i + 1, by go_num, by omega, HT, HB1, HB2⟩
       case measure => simp [intOf]; omega
      ·have q4' : inB 1 3 wt = false := by simpa using q4
       have HF := Aside0.mk (show l.all (sightB p) = false by rw [HD.out, HQ.out, q4']; simp)
       clear q1 q2 q4
       go_wp2_with (first
        | (go_at_call 110; refine hcw.mono ?_; rintro e w1 ⟨rfl, hb⟩; obtain ⟨hk, hb1, hb2⟩ := AFT.out hb; have k0 : w1.cell? ⟨wr.heap.size, 0, none⟩ = some (.int .i64 f) := (blk_cell hk 0).trans rfl; have k1 : w1.cell? ⟨wr.heap.size, 1, none⟩ = some (.int .i64 t) := (blk_cell hk 1).trans rfl; have k2 : w1.cell? ⟨wr.heap.size, 2, none⟩ = some (.int .i64 ri) := (blk_cell hk 2).trans rfl; have k3 : w1.cell? ⟨wr.heap.size, 3, none⟩ = some (.int .i64 wt) := (blk_cell hk 3).trans rfl; have HB1 := Aside0.mk hb1; clear hb hb1 hb2 hk)
        | (go_at_call 82; refine (within_any _ _ _ _).mono ?_; rintro e w2 ⟨rfl, rfl⟩))
       go_ret
       exact ⟨ret_bool (by rw [HS.out, HF.out, Bool.and_false]), HB1.out⟩
     ·have q3' : inB (-100) 100 ri = false := by simpa using q3
      have HF := Aside0.mk (show l.all (sightB p) = false by rw [HD.out, HQ.out, q3']; simp)
      clear q1 q2 q3
      go_wp2_with (first
       | (go_at_call 110; refine hcw.mono ?_; rintro e w1 ⟨rfl, hb⟩; obtain ⟨hk, hb1, hb2⟩ := AFT.out hb; have k0 : w1.cell? ⟨wr.heap.size, 0, none⟩ = some (.int .i64 f) := (blk_cell hk 0).trans rfl; have k1 : w1.cell? ⟨wr.heap.size, 1, none⟩ = some (.int .i64 t) := (blk_cell hk 1).trans rfl; have k2 : w1.cell? ⟨wr.heap.size, 2, none⟩ = some (.int .i64 ri) := (blk_cell hk 2).trans rfl; have HB1 := Aside0.mk hb1; clear hb hb1 hb2 hk)
       | (go_at_call 82; refine (within_any _ _ _ _).mono ?_; rintro e w2 ⟨rfl, rfl⟩))
      go_ret
      exact ⟨ret_bool (by rw [HS.out, HF.out, Bool.and_false]), HB1.out⟩
   ·have q1' : areIn [f, t] 0 (wrap64 (p - 1)) = false := by simpa using q1
    rw [q1'] at hcw
    have HF := Aside0.mk (show l.all (sightB p) = false by rw [HD.out, HQ.out, q1']; simp)
    clear q1 q1'
    go_wp2_with (go_at_call 110; refine hcw.mono ?_; rintro e w1 ⟨rfl, hb⟩; obtain ⟨hk, hb1, hb2⟩ := AFT.out hb; have HB1 := Aside0.mk hb1; clear hb hb1 hb2 hk)
    go_ret
    exact ⟨ret_bool (by rw [HS.out, HF.out, Bool.and_false]), HB1.out⟩
  ·obtain rfl : l.length = i := by omega
   have p1 : decide ((l.length : Int) < (l.length : Int)) = false := decide_eq_false (by omega)
   have HT := Aside0.mk (show l.all (sightB p) = true by rw [HA.out]; simp)
   by_cases q1 : inB 2 5 p = true
   ·have HU := Aside0.mk (show surveyB p l = decide ((l.length : Int) ≤ 8) by rw [HS.out, HT.out, q1]; simp)
    go_wp2_with (go_at_call 82; refine (within_any _ _ _ _).mono ?_; rintro e w2 ⟨rfl, rfl⟩)
    go_ret
    exact ⟨ret_bool (by rw [HU.out]), HB.out⟩
   ·have q1' : inB 2 5 p = false := by simpa using q1
    have HU := Aside0.mk (show surveyB p l = false by rw [HS.out, q1']; simp)
    clear q1
    go_wp2_with (go_at_call 82; refine (within_any _ _ _ _).mono ?_; rintro e w2 ⟨rfl, rfl⟩)
    go_ret
    exact ⟨ret_bool (by rw [HU.out]), HB.out⟩
end Go.Proofs.Ytkafbmanmffliaa.Hv

/- The program's tree, connected, IsConnected and arePoints, walked by hand. -/
namespace Go.Proofs.Ytkafbmanmffliaa.Hw
open Go Go.RowKit YtkafbmanmffliaaW.PrintWords YtkafbmanmffliaaW.PrintLast YtkafbmanmffliaaW.PrintMore Q Gd Ge Gi Hb Ha Hc Hd Hv PuT
structure Two (w0 wz : World) (bo co bg cg : Nat) (o g : List Int) : Prop where
 ob : w0.heap.size ≤ bo
 gb : w0.heap.size ≤ bg
 oc : Cb wz 2 bo co (o.map (Value.int .i64))
 gc : Cb wz 2 bg cg (g.map (Value.int .i64))
 ne : bo ≠ bg
 be : Below w0.heap.size w0 wz
section
variable {w0 wr w1 w2 : World} {bo co bg cg g1 cap1 : Nat} {o g : List Int} {x : Int}
theorem Two.below (h : Two w0 wr bo co bg cg o g) (hb : Below wr.heap.size wr w1) : Two w0 w1 bo co bg cg o g := ⟨h.ob, h.gb, h.oc.below hb, h.gc.below hb, h.ne, below_step h.be hb⟩
theorem Two.pushO (h : Two w0 wr bo co bg cg o g) (hc : Cb w2 2 g1 cap1 (o.map (Value.int .i64) ++ [.int .i64 x])) (hat : g1 = bo ∨ wr.heap.size ≤ g1) (hg : wr.grownBy w2 (some bo)) : Two w0 w2 g1 cap1 bg cg (o ++ [x]) g := by
 have hs := h.be.size
 have hl := h.gc.lt
 have h1 := h.ob
 have h2 := h.ne
 refine ⟨?_, h.gb, by rw [List.map_append]; exact hc, h.gc.kept (hg.block bg hl (fun e => h2 (Option.some.inj e).symm)), ?_, below_grownB h.be (Nat.le_refl _) hg h.ob⟩
 ·rcases hat with e | e <;> omega
 ·rcases hat with e | e <;> omega
theorem Two.pushG (h : Two w0 wr bo co bg cg o g) (hc : Cb w2 2 g1 cap1 (g.map (Value.int .i64) ++ [.int .i64 x])) (hat : g1 = bg ∨ wr.heap.size ≤ g1) (hg : wr.grownBy w2 (some bg)) : Two w0 w2 bo co g1 cap1 o (g ++ [x]) := by
 have hs := h.be.size
 have hl := h.oc.lt
 have h1 := h.gb
 have h2 := h.ne
 refine ⟨h.ob, ?_, h.oc.kept (hg.block bo hl (fun e => h2 (Option.some.inj e))), by rw [List.map_append]; exact hc, ?_, below_grownB h.be (Nat.le_refl _) hg h.gb⟩
 ·rcases hat with e | e <;> omega
 ·rcases hat with e | e <;> omega
theorem Two.setG (h : Two w0 wr bo co bg cg o g) (i : Nat) (x : Int) : Two w0 (wr.setCell ⟨bg, i, none⟩ (.int .i64 x)) bo co bg cg o (g.set i x) := by
 obtain ⟨h1, h2⟩ := h.gc.put i (.int .i64 x) (Pv.i64 x)
 refine ⟨h.ob, h.gb, h.oc.kept (h2.block bo h.oc.lt (fun e => h.ne (Option.some.inj e))), ?_, h.ne, h.be.setCell (p := ⟨bg, i, none⟩) h.gb _⟩
 rw [List.map_set]
 exact h1
theorem Two.cell (h : Two w0 wr bo co bg cg o g) (i : Nat) (hi : i < g.length) : wr.cell? ⟨bg, i, none⟩ = some (.int .i64 (rd g i)) ∧ wr.frozen? ⟨bg, i, none⟩ = false :=
 h.gc.at_ i _ (by rw [List.getElem?_map, List.getElem?_eq_getElem hi]; simp [rd, List.getD_eq_getElem?_getD, hi])
end
theorem nums (i : Nat) : (List.range (i + 1)).map (fun k : Nat => (k : Int)) = (List.range i).map (fun k : Nat => (k : Int)) ++ [(i : Int)] := by simp [List.range_succ]
set_option maxHeartbeats 8000000 in
set_option maxRecDepth 100000 in
theorem tree_any (n : Nat) (l : List S32) (hv : surveyB n l = true) (A : Option Addr) (c : Nat) (w : World) (hr : Kd.C k32 w A l.length l) :
  Calls Try.prog 75 #[.agg #[.int .i64 (n : Int), .slice A l.length c]] w fun e w' => ∃ (bo co : Nat) (v : Value), e = .returned (.tuple #[.slice (some ⟨bo, 0, none⟩) (treeG n l).out.length co, v]) ∧ Below w.heap.size w w' := by
 have hu26 := Try.underlying26
 have hu32 := Try.underlying32
 have hp5 := valid_pts hv
 have hbx := below_alloc (Below.refl w.heap.size w) (BS n A l.length c)
 have HR := Aside0.mk (Kd.C_below hr hbx)
 have HX := Aside0.mk (heap_alloc_new w (BS n A l.length c))
 have HV := Aside0.mk hv
 have HB0 := Aside0.mk hbx
 clear hr hbx hv
 go_enter Try.func75, Try.ntmps75
 have hbk := blk_alloc (blk_alloc HX.out (.cells #[] 2)) (.cells #[] 2)
 have e0 : (((w.alloc (BS n A l.length c)).alloc (.cells #[] 2)).alloc (.cells #[] 2)).cell? ⟨w.heap.size, 0, none⟩ = some (.int .i64 (n : Int)) := (blk_cell hbk 0).trans rfl
 go_wp2_with (fail)
 clear hbk e0
 obtain ⟨W0, hW0⟩ : ∃ W0, W0 = w.alloc (BS n A l.length c) := ⟨_, rfl⟩
 have hs0 : W0.heap.size = w.heap.size + 1 := by rw [hW0]; simp
 rw [← hW0] at HR HX HB0
 rw [← hW0]
 have t0 := Aside0.mk (show Two W0 ((W0.alloc (.cells #[] 2)).alloc (.cells #[] 2)) (w.heap.size + 1) 0 (w.heap.size + 1 + 1) 0 [] ((List.range 0).map (fun k : Nat => (k : Int))) from
  ⟨by omega, by omega, by rw [← hs0]; exact (Cb.nil_new W0 2).below (below_alloc (Below.refl _ _) _), by have h := Cb.nil_new (W0.alloc (.cells #[] 2)) 2; rw [World.size_alloc, hs0] at h; exact h, by omega, below_alloc (below_alloc (Below.refl _ _) _) _⟩)
 clear hW0 hs0
 go_loopw [5, 16] (fun v5 v16 wz => ∃ (i bo co bg cg : Nat), v5 = .slice (some ⟨bg, 0, none⟩) i cg ∧ v16 = .int .i64 (i : Int) ∧ i ≤ n ∧ bo = w.heap.size + 1 ∧ co = 0 ∧ Aside0 (Two W0 wz bo co bg cg [] ((List.range i).map (fun k : Nat => (k : Int))))) (fun _ v _ => n - (intOf v).toNat)
 case atStart => exact ⟨0, _, _, _, 0, rfl, rfl, by omega, rfl, rfl, t0⟩
 case round =>
  clear t0
  obtain ⟨i, bo, co, bg, cg, rfl, rfl, hi, hbo, hco, HT⟩ := hrel
  by_cases hlt : i < n
  ·have p1 : decide ((i : Int) < (n : Int)) = true := decide_eq_true (by omega)
   have hlen : ((List.range i).map (fun k : Nat => (k : Int))).length = i := by simp
   go_wp2_with ((with_reducible refine gate_builtin (b := .append) (xs := #[.tmp 19, .tmp 21]) rfl ?_); at_builtin; refine Cb.append rfl (.tmp 19) (.tmp 21) 28 2 (.int .i64 0) 8 rfl Try.underlying28 info2 rfl (Pv.i64 _) (by decide) bg cg i _ (.int .i64 (i : Int)) (by rw [List.length_map, hlen]) rfl rfl rfl (Pv.i64 _) HT.out.gc (by rw [List.length_map, hlen]; omega) ?_; intro g1 cap1 w2 h1 h2 h3; have HN := Aside0.mk (HT.out.pushG h1 h2 h3); clear h1 h2 h3)
   rw [← nums] at HN
   go_roundw
   case rel => exact ⟨i + 1, bo, co, g1, cap1, by go_num, by go_num, by omega, hbo, hco, HN⟩
   case measure => simp [intOf]; omega
  ·obtain rfl : n = i := by omega
   have p1 : decide ((n : Int) < (n : Int)) = false := decide_eq_false (by omega)
   have t1 := Aside0.mk (show Two W0 wr bo co bg cg (atG n l 0).out (atG n l 0).grp from HT.out)
   have hcy : wr.cell? ⟨w.heap.size, 1, none⟩ = some (.slice A l.length c) := (blk_cell (blk_below HX.out HT.out.be) 1).trans rfl
   subst hbo hco
   clear HT
   go_wp2_with (fail)
   clear hcy
   go_loopw [4, 27] (fun v4 v27 wz => ∃ (i bo co : Nat), v4 = .slice (some ⟨bo, 0, none⟩) (atG n l i).out.length co ∧ v27 = .int .i64 (i : Int) ∧ i ≤ l.length ∧ Aside0 (Two W0 wz bo co bg cg (atG n l i).out (atG n l i).grp)) (fun _ v _ => l.length - (intOf v).toNat)
   case atStart => exact ⟨0, _, _, rfl, rfl, by omega, t1⟩
   case round =>
    clear t1
    obtain ⟨i, bo, co, rfl, rfl, hi, HT⟩ := hrel
    by_cases hlt2 : i < l.length
    ·have p2 : decide ((i : Int) < (l.length : Int)) = true := decide_eq_true (by omega)
     obtain ⟨ad, e, x0, x1, x2, x3⟩ := at_T32 (Kd.C_below HR.out HT.out.be) (i : Int) (by omega) (by omega)
     subst e
     rw [Int.toNat_natCast] at x0 x1 x2 x3
     have hva := valid_at HV.out i hlt2
     have HSU := Aside0.mk (atG_succ n l i hlt2)
     have hgl := atG_len n l i
     have hol := atG_out n l i
     rw [Int.toNat_natCast] at hgl
     obtain ⟨s, hs⟩ : ∃ s, s = rd_T32 l i := ⟨_, rfl⟩
     rw [← hs] at x0 x1 x2 x3 hva HSU
     clear hs
     obtain ⟨f, t, ri, wt⟩ := s
     dsimp only at x0 x1 x2 x3 hva
     obtain ⟨y0, y1, y2, y3⟩ := hva
     obtain ⟨f, rfl⟩ : ∃ q : Nat, f = q := ⟨f.toNat, by omega⟩
     obtain ⟨t, rfl⟩ : ∃ q : Nat, t = q := ⟨t.toNat, by omega⟩
     obtain ⟨G, hG⟩ : ∃ G, G = (atG n l i).grp := ⟨_, rfl⟩
     obtain ⟨O, hO⟩ : ∃ O, O = (atG n l i).out := ⟨_, rfl⟩
     rw [← hG] at hgl HT
     rw [← hO] at hol HT
     have HST := Aside0.mk (show atG n l (i + 1) = if rd G (f : Int) = rd G (t : Int) then ⟨O, G⟩ else ⟨O ++ [(i : Int)], G.map fun v => if v = rd G (t : Int) then rd G (f : Int) else v⟩ by rw [HSU.out, hG, hO]; rfl)
     have hba := below_alloc (Below.refl wr.heap.size wr) (.cells #[.int .i64 (f : Int), .int .i64 (t : Int), .int .i64 ri, .int .i64 wt] 32)
     have hna := heap_alloc_new wr (.cells #[.int .i64 (f : Int), .int .i64 (t : Int), .int .i64 ri, .int .i64 wt] 32)
     have HT1 := Aside0.mk (HT.out.below hba)
     have z0 := (HT1.out.cell f (by omega)).1
     have z1 := (HT1.out.cell t (by omega)).1
     obtain ⟨va, hva⟩ : ∃ va, va = rd G (f : Int) := ⟨_, rfl⟩
     obtain ⟨vb, hvb⟩ : ∃ vb, vb = rd G (t : Int) := ⟨_, rfl⟩
     rw [← hva] at z0 HST
     rw [← hvb] at z1 HST
     have i1 : (0 ≤ (f : Int)) = True := eq_true (by omega)
     have i2 : ((f : Int) < (n : Int)) = True := eq_true (by omega)
     have i3 : (0 ≤ (t : Int)) = True := eq_true (by omega)
     have i4 : ((t : Int) < (n : Int)) = True := eq_true (by omega)
     clear hva hvb HSU HT hna
     rw [← hO]
     by_cases hab : va = vb
     ·have d1 : (va == vb) = true := by simpa using hab
      have HS2 := Aside0.mk (show (atG n l (i + 1)).out = O ∧ (atG n l (i + 1)).grp = G by rw [HST.out, if_pos hab]; exact ⟨rfl, rfl⟩)
      clear hab
      go_wp2_with (fail)
      go_quiet (fail)
      go_wp2_with (fail)
      have HT2 := Aside0.mk (HT1.out.below (pw_below_drewN (Below.refl _ _) nq))
      go_roundw
      case rel => exact ⟨i + 1, bo, co, by rw [HS2.out.1], by go_num, by omega, ⟨by rw [HS2.out.1, HS2.out.2]; exact HT2.out⟩⟩
      case measure => simp [intOf]; omega
     ·have d1 : (va == vb) = false := by simpa using hab
      have HS2 := Aside0.mk (show (atG n l (i + 1)).out = O ++ [(i : Int)] ∧ (atG n l (i + 1)).grp = G.map fun v => if v = vb then va else v by rw [HST.out, if_neg hab]; exact ⟨rfl, rfl⟩)
      clear hab
      go_wp2_with (fail)
      go_quiet (fail)
      have HT2 := Aside0.mk (HT1.out.below (pw_below_drewN (Below.refl _ _) nq))
      obtain ⟨wb, hwb⟩ : ∃ wb, wb = (wr.alloc (.cells #[.int .i64 (f : Int), .int .i64 (t : Int), .int .i64 ri, .int .i64 wt] 32)).drewN nq := ⟨_, rfl⟩
      rw [← hwb] at HT2
      rw [← hwb]
      clear hwb
      go_wp2_with ((with_reducible refine gate_builtin (b := .append) (xs := #[.tmp 45, .tmp 47]) rfl ?_); at_builtin; refine Cb.append rfl (.tmp 45) (.tmp 47) 28 2 (.int .i64 0) 8 rfl Try.underlying28 info2 rfl (Pv.i64 _) (by decide) bo co O.length _ (.int .i64 (i : Int)) (by rw [List.length_map]) rfl rfl rfl (Pv.i64 _) HT2.out.oc (by rw [List.length_map]; omega) ?_; intro g1 cap1 w2 h1 h2 h3; have HT3 := Aside0.mk (HT2.out.pushO h1 h2 h3); clear h1 h2 h3)
      obtain ⟨G2, hG2⟩ : ∃ G2, G2 = G.map fun v => if v = vb then va else v := ⟨_, rfl⟩
      have hl2 : G2.length = G.length := by rw [hG2]; simp
      have HNX := Aside0.mk (show ∀ (j : Nat) (h : j < G.length), G2[j]'(by rw [hl2]; exact h) = if rd G j = vb then va else rd G j from fun j h => by
       simp only [hG2, List.getElem_map]
       rw [show rd G (j : Int) = G[j] by simp [rd, List.getD_eq_getElem?_getD, h]])
      have t2 := Aside0.mk (show Two W0 w2 g1 cap1 bg cg (O ++ [(i : Int)]) (Hc.upd G2 G 0) by rw [upd_zero]; exact HT3.out)
      have HG2 := Aside0.mk hG2
      clear hG2 HT1 HT2 HT3
      go_loopw [51] (fun v51 wz => ∃ j : Nat, v51 = .int .i64 (j : Int) ∧ j ≤ n ∧ Aside0 (Two W0 wz g1 cap1 bg cg (O ++ [(i : Int)]) (Hc.upd G2 G j))) (fun v _ => n - (intOf v).toNat)
      case atStart => exact ⟨0, rfl, by omega, t2⟩
      case round =>
       clear t2
       obtain ⟨j, rfl, hj, HT⟩ := hrel
       by_cases hjt : j < n
       ·have p3 : decide ((j : Int) < (n : Int)) = true := decide_eq_true (by omega)
        have hul := upd_len hl2 (k := j) (by omega)
        obtain ⟨z2, z3⟩ := HT.out.cell j (by omega)
        rw [rd_upd hl2 (by omega)] at z2
        have hnx := HNX.out j (by omega)
        have i5 : (0 ≤ (j : Int)) = True := eq_true (by omega)
        have i6 : ((j : Int) < (n : Int)) = True := eq_true (by omega)
        obtain ⟨vj, hvj⟩ : ∃ vj, vj = rd G (j : Int) := ⟨_, rfl⟩
        rw [← hvj] at z2 hnx
        by_cases hh : vj = vb
        ·have d2 : (vj == vb) = true := by simpa using hh
         rw [if_pos hh] at hnx
         have hst := HT.out.setG j va
         rw [← hnx, upd_set hl2 (by omega), hnx] at hst
         have HN := Aside0.mk hst
         clear hh hst hnx hvj hul
         go_wp2_with (fail)
         go_roundw
         case rel => exact ⟨j + 1, by go_num, by omega, HN⟩
         case measure => simp [intOf]; omega
        ·have d2 : (vj == vb) = false := by simpa using hh
         rw [if_neg hh, hvj, show rd G (j : Int) = G[j]'(by omega) by simp [rd, List.getD_eq_getElem?_getD, show j < G.length by omega]] at hnx
         have HN := Aside0.mk (show Two W0 wr g1 cap1 bg cg (O ++ [(i : Int)]) (Hc.upd G2 G (j + 1)) by rw [upd_same hl2 (by omega) hnx]; exact HT.out)
         clear hh hnx hvj hul z3
         go_wp2_with (fail)
         go_roundw
         case rel => exact ⟨j + 1, by go_num, by omega, HN⟩
         case measure => simp [intOf]; omega
       ·obtain rfl : n = j := by omega
        have p3 : decide ((n : Int) < (n : Int)) = false := decide_eq_false (by omega)
        have hall := HT.out
        rw [← hgl, upd_all hl2, HG2.out] at hall
        have HN := Aside0.mk hall
        clear hall
        go_wp2_with (fail)
        go_roundw
        case rel => exact ⟨i + 1, g1, cap1, by rw [HS2.out.1]; simp [hO], by go_num, by omega, ⟨by rw [HS2.out.1, HS2.out.2]; exact HN.out⟩⟩
        case measure => simp [intOf]; omega
    ·obtain rfl : l.length = i := by omega
     have p2 : decide ((l.length : Int) < (l.length : Int)) = false := decide_eq_false (by omega)
     go_wp2_with (fail)
     go_ret2
     exact ⟨bo, co, _, rfl, HB0.out.trans (HT.out.be.mono HB0.out.size)⟩
set_option maxHeartbeats 4000000 in
theorem connected_any (n : Nat) (l : List S32) (hv : surveyB n l = true) (A : Option Addr) (c : Nat) (w : World) (hr : Kd.C k32 w A l.length l) :
  Calls Try.prog 80 #[.agg #[.int .i64 (n : Int), .slice A l.length c]] w fun e w' => e = .returned (.bool (Gm.connB n l)) ∧ Below w.heap.size w w' := by
 have hu26 := Try.underlying26
 have hp5 := valid_pts hv
 have hbx := below_alloc (Below.refl w.heap.size w) (BS n A l.length c)
 have HX := Aside0.mk (heap_alloc_new w (BS n A l.length c))
 have hct := tree_any n l hv A c (w.alloc (BS n A l.length c)) (Kd.C_below hr hbx)
 have HB0 := Aside0.mk hbx
 have hw : wrap64 ((n : Int) - 1) = (n : Int) - 1 := by unfold wrap64; omega
 have HQ := Aside0.mk (show ((((treeG n l).out.length : Nat) : Int) == (n : Int) - 1) = Gm.connB n l by
  have h := conn_eq hv
  rw [Bool.eq_iff_iff, beq_iff_eq, ← h]
  unfold Gm.connB
  rw [hv, Bool.true_and])
 clear hr hbx hv
 go_enter Try.func80, Try.ntmps80
 go_wp2_with (fail)
 refine hct.mono ?_
 rintro e w1 ⟨bo, co, v, rfl, hb⟩
 have e0 : w1.cell? ⟨w.heap.size, 0, none⟩ = some (.int .i64 (n : Int)) := (blk_cell (blk_below HX.out hb) 0).trans rfl
 have HB1 := Aside0.mk (below_step HB0.out hb)
 clear hct hb
 go_wp2_with (fail)
 go_ret
 exact ⟨ret_bool HQ.out, HB1.out⟩
set_option maxHeartbeats 4000000 in
theorem isConn_any (p : Int) (l : List S32) (A : Option Addr) (c : Nat) (w : World) (hr : Kd.C k32 w A l.length l) (hl : l.length ≤ 1048576) :
  Calls Try.prog 40 #[.agg #[.int .i64 p, .slice A l.length c]] w fun e w' => e = .returned (.bool (Gm.connB p l)) ∧ Below w.heap.size w w' := by
 have hu26 := Try.underlying26
 have hbx := below_alloc (Below.refl w.heap.size w) (BS p A l.length c)
 have HX := Aside0.mk (heap_alloc_new w (BS p A l.length c))
 have HR := Aside0.mk (Kd.C_below hr hbx)
 have hcv := valid_any p l A c (w.alloc (BS p A l.length c)) HR.out hl
 have HB0 := Aside0.mk hbx
 clear hr hbx
 by_cases hv : surveyB p l = true
 ·obtain ⟨n, rfl⟩ := nat_pts hv
  have hcc := fun (W : World) (h : Kd.C k32 W A l.length l) => connected_any n l hv A c W h
  rw [hv] at hcv
  clear hv
  go_enter Try.func40, Try.ntmps40
  go_wp2_with (fail)
  refine hcv.mono ?_
  rintro e w1 ⟨rfl, hb⟩
  have hz := hcc w1 (Kd.C_below HR.out hb)
  have e0 : w1.cell? ⟨w.heap.size, 0, none⟩ = some (.int .i64 (n : Int)) := (blk_cell (blk_below HX.out hb) 0).trans rfl
  have e1 : w1.cell? ⟨w.heap.size, 1, none⟩ = some (.slice A l.length c) := (blk_cell (blk_below HX.out hb) 1).trans rfl
  have HB1 := Aside0.mk (below_step HB0.out hb)
  clear hcv hcc hb
  go_wp2_with (fail)
  refine hz.mono ?_
  rintro e w2 ⟨rfl, hb⟩
  have HB2 := Aside0.mk (below_step HB1.out hb)
  clear hz hb e0 e1
  go_wp2_with (fail)
  go_ret
  exact ⟨rfl, HB2.out⟩
 ·have hv' : surveyB p l = false := by simpa using hv
  have HF := Aside0.mk (show false = Gm.connB p l by unfold Gm.connB; rw [hv', Bool.false_and])
  rw [hv'] at hcv
  clear hv hv'
  go_enter Try.func40, Try.ntmps40
  go_wp2_with (fail)
  refine hcv.mono ?_
  rintro e w1 ⟨rfl, hb⟩
  have HB1 := Aside0.mk (below_step HB0.out hb)
  clear hcv hb
  go_wp2_with (fail)
  go_ret
  exact ⟨ret_bool HF.out, HB1.out⟩
def ptsB (p : Int) (l : List S32) (a b : Int) : Bool := Gm.connB p l && (inB 0 (p - 1) a && inB 0 (p - 1) b)
end Go.Proofs.Ytkafbmanmffliaa.Hw

/- The program's AdjustSurvey, ResidualsOf, RedundanciesOf, CofactorOf, RiseBetween: what they return. -/
namespace Go.Proofs.Ytkafbmanmffliaa.Ex
open Go Go.RowKit YtkafbmanmffliaaW.PrintWords YtkafbmanmffliaaW.PrintLast YtkafbmanmffliaaW.PrintMore Q Bg Dd Bi Ra Gd Ge Hb Ha Hc Gs Gn Kc Ke Kf Gt Gu Gy Gv Lo Lo2
theorem conn_any (p : Int) (l : List S32) (A : Option Addr) (c : Nat) (w : World) (hr : Kd.C k32 w A l.length l) (hc : l.length ≤ c) (hl : l.length ≤ 1048576) :
  Calls Try.prog 40 #[.agg #[.int .i64 p, .slice A l.length c]] w fun e w' => e = .returned (.bool (Gm.connB p l)) ∧ Below w.heap.size w w' :=
 Hw.isConn_any p l A c w hr hl
def ptsB (p : Int) (l : List S32) (a b : Int) : Bool := Gm.connB p l && (inB 0 (p - 1) a && inB 0 (p - 1) b)
theorem conn_nat {p : Int} {l : List S32} (h : Gm.connB p l = true) : ∃ n : Nat, p = (n : Int) + 1 := by
 have hv := h
 unfold Gm.connB surveyB inB at hv
 simp only [Bool.and_eq_true, decide_eq_true_eq] at hv
 exact ⟨p.toNat - 1, by omega⟩
def dn (n : Nat) (l : List S32) : Nat := (den l n).toNat
theorem dn_pos {n : Nat} {l : List S32} (hc : Gm.connB ((n : Int) + 1) l = true) : 0 < dn n l ∧ dn n l ≤ 1073741824 ∧ ((dn n l : Nat) : Int) = den l n := by
 have h := ok_rgt hc
 have hd := h.pos n (Nat.le_refl _)
 rw [h.last] at hd
 have hn := conn_n hc
 have hd2 : den l n ≤ 1073741824 := by
  rw [← h.last]
  obtain ⟨m, rfl⟩ : ∃ m, n = m + 1 := ⟨n - 1, by omega⟩
  rw [LL_succ _ m (by omega)]
  exact (h.size m m m (by omega) (by omega) (by omega)).2
 unfold dn
 omega
theorem nu_size {n : Nat} {l : List S32} {right : List Int} (h : Ok n l right) (p : Int) (hp : p ≤ n) : -1073741824 ≤ nu l right n p ∧ nu l right n p ≤ 1073741824 := by
 unfold nu
 split
 ·omega
 ·exact h.size n (p.toNat - 1) n (Nat.le_refl _) (by omega) (Nat.le_refl _)
theorem mkq {a : Int} {d : Nat} : mkRat a d = (a : Rat) / ((d : Int) : Rat) := by rw [Rat.mkRat_eq_div, Rat.intCast_natCast]
def resN (n : Nat) (l : List S32) (s : S32) : Int := s.f2 * den l n - nu l (rgt n l) n s.f1 + nu l (rgt n l) n s.f0
def cofN (n : Nat) (l : List S32) (a b : Int) : Int := nu l (rco n a b) n b - nu l (rco n a b) n a
def redN (n : Nat) (l : List S32) (s : S32) : Int := den l n - s.f3 * cofN n l s.f0 s.f1
theorem den_rat {n : Nat} {l : List S32} (hc : Gm.connB ((n : Int) + 1) l = true) : (((dn n l : Nat) : Int) : Rat) = (den l n : Rat) ∧ (den l n : Rat) ≠ 0 := ⟨by rw [(dn_pos hc).2.2], den_ne (ok_rgt hc)⟩
theorem res_mk {n : Nat} {l : List S32} (hc : Gm.connB ((n : Int) + 1) l = true) (s : S32) : res n l s = mkRat (resN n l s) (dn n l) := by
 obtain ⟨h1, h2⟩ := den_rat hc
 rw [mkq, h1]
 unfold res dif hts xs resN
 push_cast
 grind
theorem cof_mk {n : Nat} {l : List S32} (hc : Gm.connB ((n : Int) + 1) l = true) (a b : Int) : cof n l a b = mkRat (cofN n l a b) (dn n l) := by
 obtain ⟨h1, h2⟩ := den_rat hc
 rw [mkq, h1]
 unfold cof cox xs cofN
 push_cast
 grind
theorem red_mk {n : Nat} {l : List S32} (hc : Gm.connB ((n : Int) + 1) l = true) (s : S32) : red n l s = mkRat (redN n l s) (dn n l) := by
 obtain ⟨h1, h2⟩ := den_rat hc
 unfold red
 rw [cof_mk hc, mkq, mkq, h1]
 unfold redN
 push_cast
 grind
theorem resN_size {n : Nat} {l : List S32} (hc : Gm.connB ((n : Int) + 1) l = true) (s : S32) (hs : s ∈ l) : (resN n l s).natAbs < 1099511627776 := by
 have hv := mem_at (conn_v hc) s hs
 have h1 := nu_size (ok_rgt hc) s.f1 (by omega)
 have h2 := nu_size (ok_rgt hc) s.f0 (by omega)
 have h3 := dn_pos hc
 have h4 := mulb (X := 100) (Y := 1073741824) (a := s.f2) (b := den l n) (by decide) (by decide) (by unfold Bd; omega) (by unfold Bd; omega)
 unfold Bd at h4
 unfold resN
 omega
theorem cofN_size {n : Nat} {l : List S32} (hc : Gm.connB ((n : Int) + 1) l = true) {a b : Int} (ha0 : 0 ≤ a) (ha : a ≤ n) (hb0 : 0 ≤ b) (hb : b ≤ n) : -2147483648 ≤ cofN n l a b ∧ cofN n l a b ≤ 2147483648 := by
 have h1 := nu_size (ok_rco hc ha0 ha hb0 hb) b hb
 have h2 := nu_size (ok_rco hc ha0 ha hb0 hb) a ha
 unfold cofN
 omega
theorem redN_size {n : Nat} {l : List S32} (hc : Gm.connB ((n : Int) + 1) l = true) (s : S32) (hs : s ∈ l) : (redN n l s).natAbs < 1099511627776 := by
 have hv := mem_at (conn_v hc) s hs
 have h1 := cofN_size hc (a := s.f0) (b := s.f1) (by omega) (by omega) (by omega) (by omega)
 have h3 := dn_pos hc
 have h4 := mulb (X := 3) (Y := 2147483648) (a := s.f3) (b := cofN n l s.f0 s.f1) (by decide) (by decide) (by unfold Bd; omega) (by unfold Bd; omega)
 unfold Bd at h4
 unfold redN
 omega
theorem sm_mk {a : Int} {d : Nat} {k : Nat} (hd : 0 < d) (h1 : a.natAbs < 2 ^ k) (h2 : d < 2 ^ k) : Sm k (mkRat a d) := by
 have := Sm.divInt (a := a) (b := (d : Int)) (by omega) h1 (by rw [Int.natAbs_natCast]; exact h2)
 rwa [Rat.divInt_ofNat] at this
theorem list_low (b cap : Nat) (us : List Value) (F : Nat → Rat) (w : World) (S : List Int) (D : Nat) (hC : Cb w 74 b cap us) (hF : RowF w us S.length F) (hl : S.length ≤ 8) (hD0 : 0 < D) (hD : D ≤ 1073741824) (hS : ∀ s, s ∈ S → s.natAbs < 1099511627776) (hFS : ∀ k (h : k < S.length), F k = mkRat S[k] D) :
  Calls Try.prog 59 #[.slice (some ⟨b, 0, none⟩) S.length cap] w fun e w' => ∃ v : Value, e = .returned (.tuple #[.int .i64 ((D / gcdAll D S : Nat) : Int), v]) ∧ T w.heap.size w' v (lowL D S) ∧ Below w.heap.size w w' := by
 have e62 : (2 : Nat) ^ 62 = 4611686018427387904 := by decide
 have e63 : (2 : Nat) ^ 63 = 9223372036854775808 := by decide
 have h := Gw.list_any b cap S.length us F D w hC hF hl hD0 (by omega) (den_low hD0 hFS) (fun k hk => by
  rw [hFS k hk]
  exact sm_mk hD0 (by have := hS _ (List.getElem_mem hk); omega) (by omega)) (fun k hk => by
  have h1 := num_low hD0 hFS k hk
  have h2 := hS _ (List.getElem_mem hk)
  omega)
 rw [numL_low hD0 hFS, lc_low hD0 hFS] at h
 exact h
theorem rd_mem {l : List S32} {k : Nat} (hk : k < l.length) : rd_T32 l (k : Int) = l[k] := by simp only [rd_T32, Int.toNat_natCast]; rw [List.getD_eq_getElem?_getD, List.getElem?_eq_getElem hk]; rfl
def wp (p : Int) : Nat := p.toNat - 1
theorem wp_eq (n : Nat) : wp ((n : Int) + 1) = n := by unfold wp; omega
def adjL (p : Int) (l : List S32) : List Int := if Gm.connB p l = true then lowL (dn (wp p) l) (nuL l (rgt (wp p) l) (wp p)) else []
def adjD (p : Int) (l : List S32) : Int := if Gm.connB p l = true then ((dn (wp p) l / gcdAll (dn (wp p) l) (nuL l (rgt (wp p) l) (wp p)) : Nat) : Int) else 0
def resL (p : Int) (l : List S32) : List Int := if Gm.connB p l = true then lowL (dn (wp p) l) (l.map (resN (wp p) l)) else []
def resD (p : Int) (l : List S32) : Int := if Gm.connB p l = true then ((dn (wp p) l / gcdAll (dn (wp p) l) (l.map (resN (wp p) l)) : Nat) : Int) else 0
def redL (p : Int) (l : List S32) : List Int := if Gm.connB p l = true then lowL (dn (wp p) l) (l.map (redN (wp p) l)) else []
def redD (p : Int) (l : List S32) : Int := if Gm.connB p l = true then ((dn (wp p) l / gcdAll (dn (wp p) l) (l.map (redN (wp p) l)) : Nat) : Int) else 0
def Post3 (w : World) (d : Int) (xs : List Int) (ok : Bool) (e : Ending) (w' : World) : Prop := ∃ v : Value, e = .returned (.tuple #[.int .i64 d, v, .bool ok]) ∧ T w.heap.size w' v xs ∧ Below w.heap.size w w'
set_option maxHeartbeats 4000000 in
set_option maxRecDepth 100000 in
theorem resid_any (p : Int) (l : List S32) (A : Option Addr) (c : Nat) (w : World) (hr : Kd.C k32 w A l.length l) (hcl : l.length ≤ c) (hl : l.length ≤ 1048576) :
  Calls Try.prog 20 #[.agg #[.int .i64 p, .slice A l.length c]] w (Post3 w (resD p l) (resL p l) (Gm.connB p l)) := by
 have hu26 := Try.underlying26
 have hbx := below_alloc (Below.refl w.heap.size w) (SX p A l.length c)
 have HR := Aside0.mk (Kd.C_below hr hbx)
 have HX := Aside0.mk (heap_alloc_new w (SX p A l.length c))
 have hc0 := conn_any p l A c (w.alloc (SX p A l.length c)) HR.out hcl hl
 have HCL := Aside0.mk hcl
 have HB := Aside0.mk hbx
 clear hr hcl hl hbx
 by_cases h : Gm.connB p l = true
 ·obtain ⟨n, rfl⟩ := conn_nat h
  have HC := Aside0.mk h
  have HAD := Aside0.mk (show resD ((n : Int) + 1) l = ((dn n l / gcdAll (dn n l) (l.map (resN n l)) : Nat) : Int) by unfold resD; rw [if_pos h, wp_eq])
  have HAL := Aside0.mk (show resL ((n : Int) + 1) l = lowL (dn n l) (l.map (resN n l)) by unfold resL; rw [if_pos h, wp_eq])
  rw [h] at hc0
  rw [h]
  clear h
  go_enter Try.func20, Try.ntmps20
  go_wp2_with (fail)
  refine hc0.mono ?_
  rintro e w1 ⟨rfl, hb1⟩
  have HB1 := Aside0.mk (below_step HB.out hb1)
  have hbk := blk_below HX.out hb1
  have c0 : w1.cell? ⟨w.heap.size, 0, none⟩ = some (.int .i64 ((n : Int) + 1)) := (blk_cell hbk 0).trans rfl
  have c1 : w1.cell? ⟨w.heap.size, 1, none⟩ = some (.slice A l.length c) := (blk_cell hbk 1).trans rfl
  have hc1 := residuals_any n l HC.out A c w1 (Kd.C_below HR.out hb1) HCL.out
  clear hb1 hc0 hbk
  go_wp2_with (fail)
  refine hc1.mono ?_
  rintro e w2 ⟨bH, capH, usH, rfl, hH⟩
  have hlen : (l.map (resN n l)).length = l.length := by simp
  have hc2 := list_low bH capH usH (fun k => res n l (rd_T32 l k)) w2 (l.map (resN n l)) (dn n l) hH.2.1 (by rw [hlen]; exact hH.2.2.1) (by have := conn_n HC.out; omega) (dn_pos HC.out).1 (dn_pos HC.out).2.1 (fun s hs => by
   obtain ⟨k, hk, rfl⟩ := List.mem_map.1 hs
   exact resN_size HC.out k hk) (fun k hk => by
   have hk' : k < l.length := by simpa using hk
   rw [res_mk HC.out, rd_mem hk', List.getElem_map])
  rw [hlen] at hc2
  have HB2 := Aside0.mk (below_step HB1.out hH.2.2.2)
  clear hc1 hH hlen c0 c1
  go_wp2_with (fail)
  refine hc2.mono ?_
  rintro e w3 ⟨v, rfl, t3, hb3⟩
  have HT3 := Aside0.mk t3
  have HB3 := Aside0.mk (below_step HB2.out hb3)
  clear hc2 t3 hb3
  go_wp2_with (fail)
  go_ret3
  rw [HAD.out, HAL.out]
  exact ⟨v, rfl, Kd.R_lower HT3.out HB2.out.size, HB3.out⟩
 ·have h' : Gm.connB p l = false := by simpa using h
  have HAD := Aside0.mk (show resD p l = 0 by unfold resD; rw [if_neg h])
  have HAL := Aside0.mk (show resL p l = [] by unfold resL; rw [if_neg h])
  rw [h'] at hc0
  rw [h']
  clear h h'
  go_enter Try.func20, Try.ntmps20
  go_wp2_with (fail)
  refine hc0.mono ?_
  rintro e w1 ⟨rfl, hb1⟩
  have HB1 := Aside0.mk (below_step HB.out hb1)
  clear hb1 hc0
  go_wp2_with (fail)
  go_ret3
  rw [HAD.out, HAL.out]
  exact ⟨_, rfl, T.nil, HB1.out⟩
set_option maxHeartbeats 4000000 in
set_option maxRecDepth 100000 in
theorem redund_any (p : Int) (l : List S32) (A : Option Addr) (c : Nat) (w : World) (hr : Kd.C k32 w A l.length l) (hcl : l.length ≤ c) (hl : l.length ≤ 1048576) :
  Calls Try.prog 37 #[.agg #[.int .i64 p, .slice A l.length c]] w (Post3 w (redD p l) (redL p l) (Gm.connB p l)) := by
 have hu26 := Try.underlying26
 have hbx := below_alloc (Below.refl w.heap.size w) (SX p A l.length c)
 have HR := Aside0.mk (Kd.C_below hr hbx)
 have HX := Aside0.mk (heap_alloc_new w (SX p A l.length c))
 have hc0 := conn_any p l A c (w.alloc (SX p A l.length c)) HR.out hcl hl
 have HCL := Aside0.mk hcl
 have HB := Aside0.mk hbx
 clear hr hcl hl hbx
 by_cases h : Gm.connB p l = true
 ·obtain ⟨n, rfl⟩ := conn_nat h
  have HC := Aside0.mk h
  have HAD := Aside0.mk (show redD ((n : Int) + 1) l = ((dn n l / gcdAll (dn n l) (l.map (redN n l)) : Nat) : Int) by unfold redD; rw [if_pos h, wp_eq])
  have HAL := Aside0.mk (show redL ((n : Int) + 1) l = lowL (dn n l) (l.map (redN n l)) by unfold redL; rw [if_pos h, wp_eq])
  rw [h] at hc0
  rw [h]
  clear h
  go_enter Try.func37, Try.ntmps37
  go_wp2_with (fail)
  refine hc0.mono ?_
  rintro e w1 ⟨rfl, hb1⟩
  have HB1 := Aside0.mk (below_step HB.out hb1)
  have hbk := blk_below HX.out hb1
  have c0 : w1.cell? ⟨w.heap.size, 0, none⟩ = some (.int .i64 ((n : Int) + 1)) := (blk_cell hbk 0).trans rfl
  have c1 : w1.cell? ⟨w.heap.size, 1, none⟩ = some (.slice A l.length c) := (blk_cell hbk 1).trans rfl
  have hc1 := redundancies_any n l HC.out A c w1 (Kd.C_below HR.out hb1) HCL.out
  clear hb1 hc0 hbk
  go_wp2_with (fail)
  refine hc1.mono ?_
  rintro e w2 ⟨bH, capH, usH, rfl, hH⟩
  have hlen : (l.map (redN n l)).length = l.length := by simp
  have hc2 := list_low bH capH usH (fun k => red n l (rd_T32 l k)) w2 (l.map (redN n l)) (dn n l) hH.2.1 (by rw [hlen]; exact hH.2.2.1) (by have := conn_n HC.out; omega) (dn_pos HC.out).1 (dn_pos HC.out).2.1 (fun s hs => by
   obtain ⟨k, hk, rfl⟩ := List.mem_map.1 hs
   exact redN_size HC.out k hk) (fun k hk => by
   have hk' : k < l.length := by simpa using hk
   rw [red_mk HC.out, rd_mem hk', List.getElem_map])
  rw [hlen] at hc2
  have HB2 := Aside0.mk (below_step HB1.out hH.2.2.2)
  clear hc1 hH hlen c0 c1
  go_wp2_with (fail)
  refine hc2.mono ?_
  rintro e w3 ⟨v, rfl, t3, hb3⟩
  have HT3 := Aside0.mk t3
  have HB3 := Aside0.mk (below_step HB2.out hb3)
  clear hc2 t3 hb3
  go_wp2_with (fail)
  go_ret3
  rw [HAD.out, HAL.out]
  exact ⟨v, rfl, Kd.R_lower HT3.out HB2.out.size, HB3.out⟩
 ·have h' : Gm.connB p l = false := by simpa using h
  have HAD := Aside0.mk (show redD p l = 0 by unfold redD; rw [if_neg h])
  have HAL := Aside0.mk (show redL p l = [] by unfold redL; rw [if_neg h])
  rw [h'] at hc0
  rw [h']
  clear h h'
  go_enter Try.func37, Try.ntmps37
  go_wp2_with (fail)
  refine hc0.mono ?_
  rintro e w1 ⟨rfl, hb1⟩
  have HB1 := Aside0.mk (below_step HB.out hb1)
  clear hb1 hc0
  go_wp2_with (fail)
  go_ret3
  rw [HAD.out, HAL.out]
  exact ⟨_, rfl, T.nil, HB1.out⟩
end Go.Proofs.Ytkafbmanmffliaa.Ex

/- The program's weighted squares of residuals. -/
namespace Go.Proofs.Ytkafbmanmffliaa.Gz
open Go Go.RowKit YtkafbmanmffliaaW.PrintWords YtkafbmanmffliaaW.PrintLast YtkafbmanmffliaaW.PrintMore Q Dd Bi Rt Gd Ge Gi Hc Gs Kf Gu
def sqr (n : Nat) (l : List S32) (s : S32) : Rat := (s.f3 : Rat) * (res n l s * res n l s)
def Oth (wz : World) (bH capH m b : Nat) (usH : List Value) (f : Nat → Rat) : Prop := Cb wz 74 bH capH usH ∧ RowF wz usH m f ∧ bH ≠ b
theorem Oth.below {wz w1 : World} {bH capH m b : Nat} {usH : List Value} {f : Nat → Rat} (h : Oth wz bH capH m b usH f) (hb : Below wz.heap.size wz w1) : Oth w1 bH capH m b usH f := ⟨h.1.below hb, h.2.1.par (Par.of_below hb), h.2.2⟩
theorem Oth.grow {wq wr w2 : World} {bH capH m b cap i g1 : Nat} {usH us : List Value} {f F : Nat → Rat} (h : Oth wr bH capH m b usH f) (hI : RowIn wq wr b cap i us F) (hat : g1 = b ∨ wr.heap.size ≤ g1) (hg : wr.grownBy w2 (some b)) : Oth w2 bH capH m g1 usH f := by
 refine ⟨h.1.kept (hg.block bH h.1.lt (fun e => h.2.2 (Option.some.inj e))), h.2.1.par (Par.grown hI.2.1 hg), ?_⟩
 have := h.1.lt
 have := h.2.2
 rcases hat with e | e <;> omega
end Go.Proofs.Ytkafbmanmffliaa.Gz

/- Plain: the common denominator is small, and so is the weighted sum of squares. -/
namespace Go.Proofs.Ytkafbmanmffliaa.Sb
open Go Go.RowKit YtkafbmanmffliaaW.PrintWords Q Ra La Qf Gm Gn Ka Kf Gz Ex
theorem diag (L : List Si) (h : ∀ s ∈ L, s.f ≠ s.t ∧ 1 ≤ s.w ∧ s.w ≤ 3) : 0 ≤ ent 1 1 L ∧ 0 ≤ ent 2 2 L ∧ 0 ≤ ent 3 3 L ∧ 0 ≤ ent 4 4 L ∧ ent 1 1 L + ent 2 2 L + ent 3 3 L + ent 4 4 L ≤ 6 * L.length := by
 induction L with
 | nil => simp [ent]
 | cons s r ih =>
  have h1 := h s (by simp)
  have h2 := ih (fun t ht => h t (by simp [ht]))
  simp only [ent, List.length_cons]
  unfold con
  rw [if_pos rfl, if_pos rfl, if_pos rfl, if_pos rfl]
  push_cast
  refine ⟨?_, ?_, ?_, ?_, ?_⟩
  ·split <;> omega
  ·split <;> omega
  ·split <;> omega
  ·split <;> omega
  ·have a : (if s.f = 1 ∨ s.t = 1 then s.w else 0) ≤ (if s.f = 1 then s.w else 0) + (if s.t = 1 then s.w else 0) := by split <;> split <;> split <;> omega
   have b : (if s.f = 2 ∨ s.t = 2 then s.w else 0) ≤ (if s.f = 2 then s.w else 0) + (if s.t = 2 then s.w else 0) := by split <;> split <;> split <;> omega
   have c : (if s.f = 3 ∨ s.t = 3 then s.w else 0) ≤ (if s.f = 3 then s.w else 0) + (if s.t = 3 then s.w else 0) := by split <;> split <;> split <;> omega
   have d : (if s.f = 4 ∨ s.t = 4 then s.w else 0) ≤ (if s.f = 4 then s.w else 0) + (if s.t = 4 then s.w else 0) := by split <;> split <;> split <;> omega
   have e : (if s.f = 1 then s.w else 0) + (if s.f = 2 then s.w else 0) + (if s.f = 3 then s.w else 0) + (if s.f = 4 then s.w else 0) ≤ s.w := by split <;> split <;> split <;> split <;> omega
   have f : (if s.t = 1 then s.w else 0) + (if s.t = 2 then s.w else 0) + (if s.t = 3 then s.w else 0) + (if s.t = 4 then s.w else 0) ≤ s.w := by split <;> split <;> split <;> split <;> omega
   omega
theorem mul3 {a b c : Int} (ha : 0 ≤ a) (hb : 0 ≤ b) (hc : 0 ≤ c) (h : a + b + c ≤ 48) : a * b * c ≤ 27648 := by
 have h1 := four_mul a b
 have h2 : (a + b) * (a + b) ≤ 48 * 48 := La.mul_le (by omega) (by omega) (by omega) (by omega)
 have h3 : a * b * c ≤ 576 * 48 := La.mul_le (Int.mul_nonneg ha hb) (by omega) (by omega) (by omega)
 omega
theorem den_small {n : Nat} {l : List S32} (hc : Gm.connB ((n : Int) + 1) l = true) : den l n ≤ 27648 := by
 have hn := conn_n hc
 have hm := sig_mem (conn_v hc)
 have hd := diag (sig l) (fun s hs => by have := hm s hs; omega)
 have hl : (sig l).length = l.length := by simp [sig]
 rw [hl] at hd
 have hp := fun c h => LL_E_pos hn.2.1 hc c h
 have s01 := E_symm l 1 0
 have s02 := E_symm l 2 0
 have s12 := E_symm l 2 1
 have s03 := E_symm l 3 0
 have s13 := E_symm l 3 1
 have s23 := E_symm l 3 2
 have e0 : E l 0 0 = ent 1 1 (sig l) := rfl
 have e1 : E l 1 1 = ent 2 2 (sig l) := rfl
 have e2 : E l 2 2 = ent 3 3 (sig l) := rfl
 have e3 : E l 3 3 = ent 4 4 (sig l) := rfl
 unfold den
 match n, hn, hp with
 | 1, _, _ => show E l 0 0 ≤ _; omega
 | 2, _, _ =>
  show d2 _ _ _ _ ≤ _
  rw [s01]
  have h1 := bound2 (E l 0 0) (E l 0 1) (E l 1 1)
  have h2 := four_mul (E l 0 0) (E l 1 1)
  have h3 : (E l 0 0 + E l 1 1) * (E l 0 0 + E l 1 1) ≤ 48 * 48 := La.mul_le (by omega) (by omega) (by omega) (by omega)
  omega
 | 3, _, hp =>
  have p1 : 0 < E l 0 0 := hp 1 (by decide)
  have p2 : 0 < d2 (E l 0 0) (E l 0 1) (E l 0 1) (E l 1 1) := by have := hp 2 (by decide); unfold LL at this; rwa [s01] at this
  show d3 _ _ _ _ _ _ _ _ _ ≤ _
  rw [s01, s02, s12]
  have h1 := bound3 (c := E l 0 2) (f := E l 1 2) (h := E l 2 2) p1 p2
  have h2 := bound2 (E l 0 0) (E l 0 1) (E l 1 1)
  have h3 : d2 (E l 0 0) (E l 0 1) (E l 0 1) (E l 1 1) * E l 2 2 ≤ E l 0 0 * E l 1 1 * E l 2 2 := Int.mul_le_mul_of_nonneg_right h2 (by omega)
  have h4 := mul3 (a := E l 0 0) (b := E l 1 1) (c := E l 2 2) (by omega) (by omega) (by omega) (by omega)
  omega
 | 4, _, hp =>
  have p1 : 0 < E l 0 0 := hp 1 (by decide)
  have p2 : 0 < d2 (E l 0 0) (E l 0 1) (E l 0 1) (E l 1 1) := by have := hp 2 (by decide); unfold LL at this; rwa [s01] at this
  have p3 : 0 < d3 (E l 0 0) (E l 0 1) (E l 0 2) (E l 0 1) (E l 1 1) (E l 1 2) (E l 0 2) (E l 1 2) (E l 2 2) := by have := hp 3 (by decide); unfold LL at this; rwa [s01, s02, s12] at this
  show d4 _ _ _ _ _ _ _ _ _ _ _ _ _ _ _ _ ≤ _
  rw [s01, s02, s12, s03, s13, s23]
  have h0 := bound4 (d := E l 0 3) (g := E l 1 3) (i := E l 2 3) (j := E l 3 3) p1 p2 p3
  have h1 := bound3 (c := E l 0 2) (f := E l 1 2) (h := E l 2 2) p1 p2
  have h2 := bound2 (E l 0 0) (E l 0 1) (E l 1 1)
  have h3 : d2 (E l 0 0) (E l 0 1) (E l 0 1) (E l 1 1) * E l 2 2 ≤ E l 0 0 * E l 1 1 * E l 2 2 := Int.mul_le_mul_of_nonneg_right h2 (by omega)
  have h5 : d3 (E l 0 0) (E l 0 1) (E l 0 2) (E l 0 1) (E l 1 1) (E l 1 2) (E l 0 2) (E l 1 2) (E l 2 2) * E l 3 3 ≤ E l 0 0 * E l 1 1 * E l 2 2 * E l 3 3 := Int.mul_le_mul_of_nonneg_right (by omega) (by omega)
  have h4 := diag_bound (a := E l 0 0) (e := E l 1 1) (h := E l 2 2) (j := E l 3 3) (by omega) (by omega) (by omega) (by omega) (by omega)
  omega
def sqN (n : Nat) (l : List S32) (s : S32) : Int := s.f3 * resN n l s * resN n l s
def smI {α : Type} (g : α → Int) : List α → Int
 | [] => 0
 | s :: r => g s + smI g r
theorem smI_cast {α : Type} (g : α → Int) (l : List α) : ((smI g l : Int) : Rat) = sm (fun s => (g s : Rat)) l := by
 induction l with
 | nil => rfl
 | cons s r ih => simp only [smI, sm, Rat.intCast_add, ih]
def ssq (n : Nat) (l : List S32) : Rat := sm (sqr n l) l
end Go.Proofs.Ytkafbmanmffliaa.Sb

/- Plain: what a connected survey's told numbers are: heights, residuals, and the weighted residuals at a point. -/
namespace Go.Proofs.Ytkafbmanmffliaa.Pa
open Go Go.RowKit YtkafbmanmffliaaW.PrintWords Q Kc Ke Kf Gv Lo Lo2 Ex Sb
def ge (n : Nat) (l : List S32) : Nat := gcdAll (dn n l) (l.map (resN n l))
def gh (n : Nat) (l : List S32) : Nat := gcdAll (dn n l) (nuL l (rgt n l) n)
def ev (n : Nat) (l : List S32) (s : S32) : Int := resN n l s / (ge n l : Int)
def hv (n : Nat) (l : List S32) (p : Int) : Int := nu l (rgt n l) n p / (gh n l : Int)
def eD (n : Nat) (l : List S32) : Int := ((dn n l / ge n l : Nat) : Int)
def hD (n : Nat) (l : List S32) : Int := ((dn n l / gh n l : Nat) : Int)
section
variable {n : Nat} {l : List S32} (hc : Gm.connB ((n : Int) + 1) l = true)
include hc
theorem ge_facts : 0 < ge n l ∧ eD n l * (ge n l : Int) = dn n l ∧ ∀ s ∈ l, ev n l s * (ge n l : Int) = resN n l s := by
 have h1 := dn_pos hc
 have h2 := gcd_dvd (l.map (resN n l)) (dn n l)
 have h3 : 0 < ge n l := Nat.pos_of_dvd_of_pos h2.1 h1.1
 refine ⟨h3, by unfold eD; exact_mod_cast Nat.div_mul_cancel h2.1, fun s hs => ?_⟩
 unfold ev
 exact Int.ediv_mul_cancel (Int.natAbs_dvd_natAbs.1 (by rw [Int.natAbs_natCast]; exact h2.2 _ (List.mem_map.2 ⟨s, hs, rfl⟩)))
theorem eD_pos : 1 ≤ eD n l ∧ eD n l ≤ 27648 := by
 have h1 := ge_facts hc
 have h2 := dn_pos hc
 have h3 := den_small hc
 have h4 := Nat.div_le_self (dn n l) (ge n l)
 have h5 := h1.2.1
 unfold eD at h5 ⊢
 obtain ⟨q, hq⟩ : ∃ q, q = dn n l / ge n l := ⟨_, rfl⟩
 rw [← hq] at h4 h5 ⊢
 have h6 : q ≠ 0 := fun e => by rw [e] at h5; omega
 omega
theorem resL_eq : resL ((n : Int) + 1) l = l.map (ev n l) ∧ resD ((n : Int) + 1) l = eD n l := by
 unfold resL resD
 rw [if_pos hc, if_pos hc, wp_eq]
 exact ⟨by unfold lowL; rw [List.map_map]; rfl, rfl⟩
theorem res_ev (s : S32) (hs : s ∈ l) : res n l s = (ev n l s : Rat) / (eD n l : Rat) := by
 have h1 := ge_facts hc
 have h2 := dn_pos hc
 have h3 := eD_pos hc
 have e1 : resN n l s = ev n l s * (ge n l : Int) := (h1.2.2 s hs).symm
 have e2 : ((dn n l : Nat) : Int) = eD n l * (ge n l : Int) := h1.2.1.symm
 rw [res_mk hc, mkq, e1, e2, Rat.intCast_mul, Rat.intCast_mul]
 have n1 : ((ge n l : Int) : Rat) ≠ 0 := by exact_mod_cast (show (ge n l : Int) ≠ 0 by omega)
 have n2 : ((eD n l : Int) : Rat) ≠ 0 := by exact_mod_cast (show (eD n l : Int) ≠ 0 by omega)
 grind
end
def pri (n : Nat) (l : List S32) (s : S32) : S32 := ⟨s.f0, s.f1, ev n l s, s.f3⟩
def lpr (n : Nat) (l : List S32) : List S32 := l.map (pri n l)
section
variable {n : Nat} {l : List S32} (hc : Gm.connB ((n : Int) + 1) l = true)
include hc
end
end Go.Proofs.Ytkafbmanmffliaa.Pa

/- The program's CofactorOf and RiseBetween: what they return. -/
namespace Go.Proofs.Ytkafbmanmffliaa.Ex2
open Go Go.RowKit YtkafbmanmffliaaW.PrintWords YtkafbmanmffliaaW.PrintLast YtkafbmanmffliaaW.PrintMore Q Bi Ra Gn Kf
def okN (ok : Bool) (q : Rat) : Int := if ok = true then q.num else 0
def okD (ok : Bool) (q : Rat) : Int := if ok = true then (q.den : Int) else 0
def Post2 (w : World) (q : Rat) (ok : Bool) (e : Ending) (w' : World) : Prop := e = .returned (.tuple #[.int .i64 (okN ok q), .int .i64 (okD ok q), .bool ok]) ∧ Below w.heap.size w w'
def rise (n : Nat) (l : List S32) (a b : Int) : Rat := hts n l b - hts n l a
end Go.Proofs.Ytkafbmanmffliaa.Ex2

/- Plain: the uncertainties between points of a connected survey: symmetric, 0 only at a point itself, at most 4, and no detour is shorter. -/
namespace Go.Proofs.Ytkafbmanmffliaa.Pc
open Go Go.RowKit YtkafbmanmffliaaW.PrintWords Q Ka Kc Kf
set_option linter.unusedSectionVars false
theorem cox_zero (n : Nat) (l : List S32) (a b : Int) : cox n l a b 0 = 0 := xs_zero _ _ _
def en (P : Int → Bool) (x : Int → Rat) (l : List S32) : Rat := sm (fun s => if (P s.f0 && P s.f1) = true then dif x s * dif x s else 0) l
def cnt (n : Nat) (P : Int → Bool) : Nat := (List.range (n + 1)).countP (fun q : Nat => P (q : Int))
section
variable {n : Nat} {l : List S32} (hc : Gm.connB ((n : Int) + 1) l = true)
include hc
section
variable {a b c : Int} (ha0 : 0 ≤ a) (ha : a ≤ n) (hb0 : 0 ≤ b) (hb : b ≤ n)
include ha0 ha hb0 hb
theorem cof_zero : cof n l a b = 0 ↔ a = b := by
 constructor
 ·intro h
  have h1 := cof_energy hc ha0 ha hb0 hb
  rw [h] at h1
  have h2 := B_zero hc h1.symm
  have h3 := coB hc ha0 ha hb0 hb (fun q => if q = b then 1 else 0)
  have h4 : B l (cox n l a b) (fun q => if q = b then 1 else 0) = 0 := by
   unfold B
   rw [sm_congr (h := fun _ => 0) (fun s hs => by
    have e : dif (cox n l a b) s = 0 := by have := h2 s hs; unfold dif; grind
    rw [e]
    grind)]
   exact sm_zero
  rw [h4, if_pos rfl] at h3
  by_cases e : a = b
  ·exact e
  ·rw [if_neg e] at h3; grind
 ·intro e
  rw [e]
  unfold cof
  grind
end
end
end Go.Proofs.Ytkafbmanmffliaa.Pc

/- Plain: redundancies: those of sights without which the points are not connected, and only these, are 0; together they count the sights beyond a tree. -/
namespace Go.Proofs.Ytkafbmanmffliaa.Pf
open Go Go.RowKit YtkafbmanmffliaaW.PrintWords Q Hb Hd Gm Gs Gy Ka Kc Ke Kf Ex Pa Pc
set_option linter.unusedSectionVars false
structure Lab (n : Nat) (l : List S32) (k : Nat) (part : List Int) : Prop where
 len : part.length = n
 nn : ∀ p : Int, 0 ≤ p → p < n → 0 ≤ rd part p
 z : rd part 0 = 0
 eq : ∀ j, j < k → rd part (rd_T32 l j).f0 = rd part (rd_T32 l j).f1
theorem rd_new {part : List Int} {a b : Int} {n : Nat} (hl : part.length = n) (p : Int) (h0 : 0 ≤ p) (h1 : p < n) : rd (newPart part a b) p = if rd part p = mxI a b then mnI a b else rd part p := by
 obtain ⟨q, rfl⟩ : ∃ q : Nat, p = q := ⟨p.toNat, by omega⟩
 have hq : q < part.length := by omega
 rw [rd_getElem _ q (by simp [newPart_len, hq]), rd_getElem _ q hq]
 simp only [newPart, List.getElem_map]
theorem labels {n : Nat} {l : List S32} (hn : 0 < n) (hv : surveyB n l = true) : ∀ k, k ≤ l.length → Lab n l k (at_ n l k).part := by
 intro k
 induction k with
 | zero =>
  intro _
  rw [at_zero]
  refine ⟨by simp [Hd.start], fun p h0 h1 => ?_, ?_, fun j hj => by omega⟩
  ·obtain ⟨q, rfl⟩ : ∃ q : Nat, p = q := ⟨p.toNat, by omega⟩
   rw [rd_getElem _ q (by simp [Hd.start]; omega)]
   simp [Hd.start]
  ·have := rd_getElem (Hd.start n).part 0 (by simp [Hd.start]; omega)
   rw [show (((0 : Nat) : Int)) = 0 from rfl] at this
   rw [this]
   simp [Hd.start]
 | succ k ih =>
  intro hk
  obtain ⟨h1, h2, h3, h4⟩ := ih (by omega)
  rw [at_succ _ _ _ (by omega)]
  have hva := valid_at hv k (by omega)
  unfold Hd.step
  dsimp only
  obtain ⟨P, hP⟩ : ∃ P, P = (at_ (n : Int) l k).part := ⟨_, rfl⟩
  rw [← hP] at h1 h2 h3 h4 ⊢
  by_cases he : rd P (rd_T32 l k).f0 = rd P (rd_T32 l k).f1
  ·rw [if_pos he, ← hP]
   refine ⟨h1, h2, h3, fun j hj => ?_⟩
   by_cases e : j = k
   ·rw [e]; exact he
   ·exact h4 j (by omega)
  ·rw [if_neg he]
   dsimp only
   obtain ⟨a, ha⟩ : ∃ a, a = rd P (rd_T32 l k).f0 := ⟨_, rfl⟩
   obtain ⟨b, hb⟩ : ∃ b, b = rd P (rd_T32 l k).f1 := ⟨_, rfl⟩
   have ha0 := h2 (rd_T32 l k).f0 hva.1 hva.2.1
   have hb0 := h2 (rd_T32 l k).f1 hva.2.2.1 hva.2.2.2
   rw [← ha, ← hb] at he
   rw [← ha] at ha0
   rw [← hb] at hb0
   rw [← ha, ← hb]
   have hmx : (mxI a b = a ∧ mnI a b = b) ∨ (mxI a b = b ∧ mnI a b = a) := by unfold mxI mnI; split <;> split <;> omega
   have hmx0 : 0 < mxI a b ∧ 0 ≤ mnI a b := by unfold mxI mnI; split <;> split <;> omega
   refine ⟨by simp [newPart_len, h1], fun p h0 hp => ?_, ?_, fun j hj => ?_⟩
   ·rw [rd_new h1 p h0 hp]
    have := h2 p h0 hp
    split <;> omega
   ·rw [rd_new h1 0 (by omega) (by omega), h3, if_neg (by omega)]
   ·have hvj := valid_at hv j (by omega)
    rw [rd_new h1 _ hvj.1 hvj.2.1, rd_new h1 _ hvj.2.2.1 hvj.2.2.2]
    by_cases e : j = k
    ·rw [e, ← ha, ← hb]
     rcases hmx with ⟨e1, e2⟩ | ⟨e1, e2⟩ <;> rw [e1, e2]
     ·rw [if_pos rfl]; split <;> rfl
     ·rw [if_pos rfl]; split <;> rfl
    ·rw [h4 j (by omega)]
theorem apart {n : Nat} {l : List S32} (hv : surveyB ((n : Int) + 1) l = true) (h : Gm.connB ((n : Int) + 1) l = false) :
  ∃ x : Int → Rat, (∀ s ∈ l, x s.f0 = x s.f1) ∧ x 0 = 0 ∧ ∃ p : Int, 0 ≤ p ∧ p ≤ n ∧ x p = 1 := by
 have e : ((n : Int) + 1) = ((n + 1 : Nat) : Int) := by omega
 rw [e] at hv h
 have hl := labels (by omega) hv l.length (Nat.le_refl _)
 rw [at_all] at hl
 obtain ⟨P, hP⟩ : ∃ P, P = (treeS ((n + 1 : Nat) : Int) l).part := ⟨_, rfl⟩
 unfold Gm.connB at h
 rw [hv, Bool.true_and, ← hP] at h
 rw [← hP] at hl
 obtain ⟨h1, h2, h3, h4⟩ := hl
 refine ⟨fun p => if rd P p = 0 then 0 else 1, fun s hs => ?_, if_pos h3, ?_⟩
 ·obtain ⟨j, hj, hjs⟩ := List.mem_iff_getElem.1 hs
  have h5 := h4 j hj
  rw [rd_mem hj, hjs] at h5
  dsimp only
  rw [h5]
 ·have hne : ∃ v ∈ P, ¬ v = 0 := by
   apply Classical.byContradiction
   intro hno
   have : P.all (· == 0) = true := List.all_eq_true.2 (fun v hv => by
    rw [beq_iff_eq]
    exact Classical.byContradiction (fun h => hno ⟨v, hv, h⟩))
   rw [this] at h
   cases h
  obtain ⟨v, hv, hv0⟩ := hne
  obtain ⟨j, hj, hjs⟩ := List.mem_iff_getElem.1 hv
  refine ⟨(j : Int), by omega, by omega, ?_⟩
  dsimp only
  rw [rd_getElem _ j hj, hjs, if_neg hv0]
section
variable {n : Nat} {l l1 l2 : List S32} {s : S32} (hc : Gm.connB ((n : Int) + 1) l = true) (e : l = l1 ++ s :: l2)
include hc e
theorem mem_s : s ∈ l := by rw [e]; simp
theorem B_split (x y : Int → Rat) : B l x y = sm (fun t : S32 => (t.f3 : Rat) * (dif x t * dif y t)) (l1 ++ l2) + (s.f3 : Rat) * (dif x s * dif y s) := by
 unfold B
 rw [e, sm_append, sm_append]
 show _ + ((s.f3 : Rat) * (dif x s * dif y s) + _) = _
 grind
theorem cof_pos : 0 < cof n l s.f0 s.f1 := by
 have hv := mem_at (conn_v hc) s (mem_s hc e)
 have h0 := cof_nonneg hc hv.1 hv.2.1 hv.2.2.1 hv.2.2.2.1
 have h1 := cof_zero hc hv.1 hv.2.1 hv.2.2.1 hv.2.2.2.1
 have h2 : cof n l s.f0 s.f1 ≠ 0 := fun h => hv.2.2.2.2.1 (h1.1 h)
 grind
theorem one_cast : ((1 : Int) : Rat) = 1 := rfl
theorem red_lt : red n l s < 1 := by
 have hv := mem_at (conn_v hc) s (mem_s hc e)
 have h0 := cof_pos hc e
 have hw := w_pos hc s (mem_s hc e)
 have h1 : 0 < (s.f3 : Rat) * cof n l s.f0 s.f1 := Rat.mul_pos (by grind) h0
 unfold red
 rw [one_cast hc e]
 grind
theorem red_ge : 0 ≤ red n l s := by
 have hv := mem_at (conn_v hc) s (mem_s hc e)
 have h := cof_energy hc hv.1 hv.2.1 hv.2.2.1 hv.2.2.2.1
 rw [B_split hc e] at h
 have hd : dif (cox n l s.f0 s.f1) s = cof n l s.f0 s.f1 := rfl
 have hp := cof_pos hc e
 have hnn : 0 ≤ sm (fun t : S32 => (t.f3 : Rat) * (dif (cox n l s.f0 s.f1) t * dif (cox n l s.f0 s.f1) t)) (l1 ++ l2) := sm_nonneg (fun t ht => term_nonneg (w_pos hc t (by rw [e]; simp at ht ⊢; rcases ht with h | h <;> simp [h])))
 rw [hd] at h
 unfold red
 rw [one_cast hc e]
 obtain ⟨c, hcc⟩ : ∃ c, c = cof n l s.f0 s.f1 := ⟨_, rfl⟩
 obtain ⟨w, hw⟩ : ∃ w : Rat, w = (s.f3 : Rat) := ⟨_, rfl⟩
 rw [← hcc] at hp
 rw [← hcc, ← hw] at h ⊢
 have h4 : (w * c) * c ≤ 1 * c := by grind
 have h5 := Rat.le_of_mul_le_mul_right h4 hp
 grind
theorem others {x : Int → Rat} (h : sm (fun t : S32 => (t.f3 : Rat) * (dif x t * dif x t)) (l1 ++ l2) = 0) : ∀ t ∈ l1 ++ l2, dif x t = 0 := fun t ht => by
 have hm : ∀ t ∈ l1 ++ l2, t ∈ l := fun t ht => by rw [e]; simp at ht ⊢; rcases ht with h | h <;> simp [h]
 exact term_zero (w_pos hc t (hm t ht)) (sm_zero_all (fun t ht => term_nonneg (w_pos hc t (hm t ht))) h t ht)
theorem red_zero (h : red n l s = 0) : (s.f3 : Rat) * cof n l s.f0 s.f1 = 1 ∧ ∀ t ∈ l1 ++ l2, dif (cox n l s.f0 s.f1) t = 0 := by
 have hv := mem_at (conn_v hc) s (mem_s hc e)
 unfold red at h
 rw [one_cast hc e] at h
 have hwc : (s.f3 : Rat) * cof n l s.f0 s.f1 = 1 := by grind
 refine ⟨hwc, others hc e ?_⟩
 have h2 := cof_energy hc hv.1 hv.2.1 hv.2.2.1 hv.2.2.2.1
 rw [B_split hc e] at h2
 have hd : dif (cox n l s.f0 s.f1) s = cof n l s.f0 s.f1 := rfl
 rw [hd, ← Rat.mul_assoc, hwc, Rat.one_mul] at h2
 grind
theorem red_res' (h : red n l s = 0) : res n l s = 0 := by
 obtain ⟨hwc, ho⟩ := red_zero hc e h
 have hn := normal hc (cox n l s.f0 s.f1)
 rw [e, sm_append] at hn
 have q : ∀ m : List S32, (∀ t ∈ m, dif (cox n l s.f0 s.f1) t = 0) → sm (fun t : S32 => (t.f3 : Rat) * (res n l t * dif (cox n l s.f0 s.f1) t)) m = 0 := fun m hm => by
  rw [sm_congr (h := fun _ => 0) (fun t ht => by rw [hm t ht]; grind)]
  exact sm_zero
 have e2 : ∀ m : List S32, sm (fun t : S32 => (t.f3 : Rat) * (res n l t * dif (cox n l s.f0 s.f1) t)) (s :: m) = (s.f3 : Rat) * (res n l s * dif (cox n l s.f0 s.f1) s) + sm (fun t : S32 => (t.f3 : Rat) * (res n l t * dif (cox n l s.f0 s.f1) t)) m := fun m => rfl
 rw [← e] at hn
 rw [q l1 (fun t ht => ho t (by simp [ht])), e2, q l2 (fun t ht => ho t (by simp [ht]))] at hn
 have hd : dif (cox n l s.f0 s.f1) s = cof n l s.f0 s.f1 := rfl
 rw [hd] at hn
 have h5 : (s.f3 : Rat) * (res n l s * cof n l s.f0 s.f1) = res n l s := by
  rw [Rat.mul_comm (res n l s), ← Rat.mul_assoc, hwc, Rat.one_mul]
 rw [h5] at hn
 grind
theorem bridge : red n l s = 0 ↔ Gm.connB ((n : Int) + 1) (l1 ++ l2) = false := by
 have hv := mem_at (conn_v hc) s (mem_s hc e)
 constructor
 ·intro h
  obtain ⟨hwc, ho⟩ := red_zero hc e h
  cases hcc : Gm.connB ((n : Int) + 1) (l1 ++ l2) with
  | false => rfl
  | true =>
   exfalso
   have c1 := conn_rat hcc (x := cox n l s.f0 s.f1) (fun t ht => by have := ho t ht; unfold dif at this; grind) s.f1 hv.2.2.1 hv.2.2.2.1
   have c2 := conn_rat hcc (x := cox n l s.f0 s.f1) (fun t ht => by have := ho t ht; unfold dif at this; grind) s.f0 hv.1 hv.2.1
   have hp := cof_pos hc e
   have hd : cof n l s.f0 s.f1 = cox n l s.f0 s.f1 s.f1 - cox n l s.f0 s.f1 s.f0 := rfl
   grind
 ·intro h
  have hvl : surveyB ((n : Int) + 1) (l1 ++ l2) = true := by
   have h0 := conn_v hc
   rw [e] at h0
   unfold surveyB at h0 ⊢
   simp only [Bool.and_eq_true, decide_eq_true_eq, List.all_eq_true] at h0 ⊢
   refine ⟨⟨h0.1.1, by have := h0.1.2; simp at this ⊢; omega⟩, fun t ht => h0.2 t (by simp at ht ⊢; rcases ht with h | h <;> simp [h])⟩
  obtain ⟨y, hy, y0, p, p0, pn, yp⟩ := apart hvl h
  have hds : dif y s ≠ 0 := fun hd => by
   have := conn_rat hc (x := y) (fun t ht => by
    rw [e] at ht
    rcases List.mem_append.1 ht with h | h
    ·exact hy t (by simp [h])
    ·rcases List.mem_cons.1 h with h | h
     ·rw [h]; unfold dif at hd; grind
     ·exact hy t (by simp [h])) p p0 pn
   rw [yp, y0] at this
   grind
  have h1 := coB hc hv.1 hv.2.1 hv.2.2.1 hv.2.2.2.1 y
  rw [B_split hc e, sm_congr (h := fun _ => 0) (fun t ht => by
   have : dif y t = 0 := by have := hy t ht; unfold dif; grind
   rw [this]; grind), sm_zero] at h1
  have hd : dif (cox n l s.f0 s.f1) s = cof n l s.f0 s.f1 := rfl
  have hd2 : y s.f1 - y s.f0 = dif y s := rfl
  rw [hd, hd2] at h1
  unfold red
  rw [one_cast hc e]
  obtain ⟨c, hcc⟩ : ∃ c, c = cof n l s.f0 s.f1 := ⟨_, rfl⟩
  obtain ⟨d, hdd⟩ : ∃ d, d = dif y s := ⟨_, rfl⟩
  obtain ⟨w, hw⟩ : ∃ w : Rat, w = (s.f3 : Rat) := ⟨_, rfl⟩
  rw [← hdd] at hds
  rw [← hcc, ← hdd, ← hw] at h1
  rw [← hcc, ← hw]
  have h2 : (w * c - 1) * d = 0 := by grind
  rcases Rat.mul_eq_zero.1 h2 with h3 | h3
  ·grind
  ·exact absurd h3 hds
end
section
variable {n : Nat} {l : List S32} (hc : Gm.connB ((n : Int) + 1) l = true)
include hc
theorem cox_same (p : Int) (h0 : 0 ≤ p) (hp : p ≤ n) : cox n l 0 0 p = 0 :=
 uniq hc (x' := fun _ => 0) (fun y => by
  rw [coB hc (Int.le_refl _) (by omega) (Int.le_refl _) (by omega)]
  unfold B
  rw [sm_congr (h := fun _ => 0) (fun s hs => by unfold dif; grind), sm_zero]
  grind) (cox_zero _ _ _ _) p h0 hp
theorem cof_two (s : S32) (hs : s ∈ l) : cof n l s.f0 s.f1 = dif (cox n l 0 s.f1) s - dif (cox n l 0 s.f0) s := by
 have hv := mem_at (conn_v hc) s hs
 have h : ∀ p : Int, 0 ≤ p → p ≤ n → cox n l s.f0 s.f1 p = cox n l 0 s.f1 p - cox n l 0 s.f0 p := fun p h0 hp =>
  uniq hc (x' := fun p => cox n l 0 s.f1 p - cox n l 0 s.f0 p) (fun y => by
   rw [B_sub, coB hc (Int.le_refl _) (by omega) hv.2.2.1 hv.2.2.2.1, coB hc (Int.le_refl _) (by omega) hv.1 hv.2.1, coB hc hv.1 hv.2.1 hv.2.2.1 hv.2.2.2.1]
   grind) (by rw [cox_zero, cox_zero, cox_zero]; grind) p h0 hp
 unfold cof dif
 rw [h _ hv.2.2.1 hv.2.2.2.1, h _ hv.1 hv.2.1]
 grind
theorem foster : sm (fun s : S32 => (s.f3 : Rat) * cof n l s.f0 s.f1) l = (n : Rat) := by
 have h1 : sm (fun p : Nat => B l (cox n l 0 ((p : Int) + 1)) (fun q => if q = (p : Int) + 1 then 1 else 0)) (List.range n) = sm (fun _ : Nat => (1 : Rat)) (List.range n) := sm_congr (fun p hp => by
  have hp := List.mem_range.1 hp
  rw [coB hc (Int.le_refl _) (by omega) (by omega) (by omega), if_pos rfl, if_neg (by omega)]
  grind)
 have h2 : ∀ m : Nat, sm (fun _ : Nat => (1 : Rat)) (List.range m) = (m : Rat) := fun m => by
  induction m with
  | zero => rfl
  | succ m ih =>
   rw [List.range_succ, sm_append, ih]
   simp only [sm]
   push_cast
   grind
 rw [h2] at h1
 rw [← h1]
 unfold B
 rw [sm_swap]
 refine (sm_congr (fun s hs => ?_)).symm
 have hv := mem_at (conn_v hc) s hs
 rw [cof_two hc s hs]
 have y0 : dif (cox n l 0 0) s = 0 := by unfold dif; rw [cox_same hc _ hv.2.2.1 hv.2.2.2.1, cox_same hc _ hv.1 hv.2.1]; grind
 have p1 := pick n s.f1 hv.2.2.1 hv.2.2.2.1 (s.f3 : Rat) (fun q => dif (cox n l 0 q) s)
 have p2 := pick n s.f0 hv.1 hv.2.1 (s.f3 : Rat) (fun q => dif (cox n l 0 q) s)
 rw [y0] at p1 p2
 have e3 : (s.f3 : Rat) * (dif (cox n l 0 s.f1) s - dif (cox n l 0 s.f0) s) = (s.f3 : Rat) * (dif (cox n l 0 s.f1) s - 0) - (s.f3 : Rat) * (dif (cox n l 0 s.f0) s - 0) := by grind
 rw [e3, ← p1, ← p2, ← sm_sub]
 refine sm_congr (fun p _ => ?_)
 simp only [dif]
 by_cases e1 : (p : Int) + 1 = s.f1 <;> by_cases e2 : (p : Int) + 1 = s.f0
 ·exact absurd (e2.symm.trans e1) hv.2.2.2.2.1
 ·have f1 : s.f1 = (p : Int) + 1 := e1.symm
  have f2 : ¬ s.f0 = (p : Int) + 1 := fun h => e2 h.symm
  rw [if_pos e1, if_neg e2, if_pos f1, if_neg f2]; grind
 ·have f1 : ¬ s.f1 = (p : Int) + 1 := fun h => e1 h.symm
  have f2 : s.f0 = (p : Int) + 1 := e2.symm
  rw [if_neg e1, if_pos e2, if_neg f1, if_pos f2]; grind
 ·have f1 : ¬ s.f1 = (p : Int) + 1 := fun h => e1 h.symm
  have f2 : ¬ s.f0 = (p : Int) + 1 := fun h => e2 h.symm
  rw [if_neg e1, if_neg e2, if_neg f1, if_neg f2]; grind
theorem red_sum : sm (red n l) l = (l.length : Rat) - (n : Rat) := by
 have h := foster hc
 have h2 : ∀ m : List S32, sm (fun _ : S32 => (1 : Rat)) m = (m.length : Rat) := fun m => by
  induction m with
  | nil => rfl
  | cons a m ih => simp only [sm, List.length_cons, ih]; push_cast; grind
 rw [← h, ← h2 l, ← sm_sub]
 refine sm_congr (fun s _ => ?_)
 unfold red
 have : ((1 : Int) : Rat) = 1 := rfl
 rw [this]
end
end Go.Proofs.Ytkafbmanmffliaa.Pf

/- Plain: the uncertainties and the rises as whole numbers over their denominators. -/
namespace Go.Proofs.Ytkafbmanmffliaa.Pd
open Go Go.RowKit YtkafbmanmffliaaW.PrintWords Q
set_option linter.unusedSectionVars false
section
variable {n : Nat} {l : List S32} (hc : Gm.connB ((n : Int) + 1) l = true)
include hc
section
variable {a b : Int} (ha0 : 0 ≤ a) (ha : a ≤ n) (hb0 : 0 ≤ b) (hb : b ≤ n)
include ha0 ha hb0 hb
end
section
variable {a b c : Int} (ha0 : 0 ≤ a) (ha : a ≤ n) (hb0 : 0 ≤ b) (hb : b ≤ n) (hc0 : 0 ≤ c) (hcn : c ≤ n)
include ha0 ha hb0 hb hc0 hcn
end
end
end Go.Proofs.Ytkafbmanmffliaa.Pd

namespace Go.Proofs.Ytkafbmanmffliaa.Q
open Go.RowKit YtkafbmanmffliaaW.PrintWords YtkafbmanmffliaaW.PrintLast YtkafbmanmffliaaW.PrintMore
attribute [local go_sem] max2_int min2_int max_two min_two max_three min_three max_four min_four
def IsS102 (w0 W : World) (g : Nat) (f0 : List Int) (f1 : Int) (f2 : Int) : Prop := ∃ A0 c0, W.heap[g]? = some (.cells #[.slice A0 f0.length c0, .int .i64 f1, .int .u64 f2] 102 (0, 0)) ∧ w0.heap.size ≤ g ∧ Kd.C (Kd.int .u8) w0 A0 f0.length f0
theorem IsS102.grown {w0 W : World} {g : Nat} {f0 : List Int} {f1 : Int} {f2 : Int} {W1 : World} {row : Option Nat} (h : IsS102 w0 W g f0 f1 f2) (hw : W.grownBy W1 row) (hne : some g ≠ row) : IsS102 w0 W1 g f0 f1 f2 := by
 obtain ⟨A0, c0, hb, hg, hr0⟩ := h
 exact ⟨A0, c0, blk_grown hb hw hne, hg, hr0⟩
theorem IsS102.kept {w0 W : World} {g : Nat} {f0 : List Int} {f1 : Int} {f2 : Int} {W1 : World} {S : Nat → Prop} (h : IsS102 w0 W g f0 f1 f2) (hk : Kept W W1 S) (hne : ¬ S g) : IsS102 w0 W1 g f0 f1 f2 := by
 obtain ⟨A0, c0, hb, hg, hr0⟩ := h
 exact ⟨A0, c0, blk_kept hb hk hne, hg, hr0⟩
theorem IsS102.below {w0 W : World} {g : Nat} {f0 : List Int} {f1 : Int} {f2 : Int} {W1 : World} (h : IsS102 w0 W g f0 f1 f2) (hw : Below W.heap.size W W1) : IsS102 w0 W1 g f0 f1 f2 := h.grown (grown_of_below hw none) (by simp)
theorem IsS102.alloc {w0 W : World} {g : Nat} {f0 : List Int} {f1 : Int} {f2 : Int} (h : IsS102 w0 W g f0 f1 f2) (o : Obj) : IsS102 w0 (W.alloc o) g f0 f1 f2 := h.below (below_alloc (Below.refl _ _) o)
theorem IsS102.drewN {w0 W : World} {g : Nat} {f0 : List Int} {f1 : Int} {f2 : Int} (h : IsS102 w0 W g f0 f1 f2) (m : Nat) : IsS102 w0 (W.drewN m) g f0 f1 f2 := h
theorem IsS102.drew {w0 W : World} {g : Nat} {f0 : List Int} {f1 : Int} {f2 : Int} (h : IsS102 w0 W g f0 f1 f2) : IsS102 w0 W.drew g f0 f1 f2 := h
theorem IsS102.at_ {w0 W : World} {g : Nat} {f0 : List Int} {f1 : Int} {f2 : Int} {w' : World} {m : Nat} (hq : W.drewN m = w') (h : IsS102 w0 W g f0 f1 f2) : IsS102 w0 w' g f0 f1 f2 := by subst hq; exact IsS102.drewN h m
theorem IsS102.apart {w0 W : World} {g : Nat} {f0 : List Int} {f1 : Int} {f2 : Int} {α : Type} {d : Kd α} {e : Nat} {base : Nat} {ok : Nat → Prop} {v : Value} {xs : List α} (h : IsS102 w0 W g f0 f1 f2) (ho : d.R e W base ok v xs) (ht : ∀ q, q ∈ e :: d.E → q ≠ 102) : d.R e W base (fun k => ok k ∧ k ≠ g) v xs := by
 obtain ⟨A0, c0, hb, hg, hr0⟩ := h
 exact Kd.R_types ho hb ht
theorem IsS102.own_ne {w0 W : World} {g : Nat} {f0 : List Int} {f1 : Int} {f2 : Int} {α : Type} {d : Kd α} {e : Nat} {base : Nat} {ok : Nat → Prop} {v : Value} {xs : List α} (h : IsS102 w0 W g f0 f1 f2) (ho : d.R e W base ok v xs) (ht : e ≠ 102) : some g ≠ v.ownBlock := by
 obtain ⟨A0, c0, hb, hg, hr0⟩ := h
 exact Kd.R_ne ho hb ht
theorem IsS102.lt {w0 W : World} {g : Nat} {f0 : List Int} {f1 : Int} {f2 : Int} (h : IsS102 w0 W g f0 f1 f2) : g < W.heap.size := by
 obtain ⟨A0, c0, hb, hg, hr0⟩ := h
 exact blk_lt hb
theorem IsS102.ge {w0 W : World} {g : Nat} {f0 : List Int} {f1 : Int} {f2 : Int} (h : IsS102 w0 W g f0 f1 f2) : w0.heap.size ≤ g := by
 obtain ⟨A0, c0, hb, hg, hr0⟩ := h
 exact hg
theorem IsS102.ne_blk {w0 W : World} {g : Nat} {f0 : List Int} {f1 : Int} {f2 : Int} {a : Nat} {cs : Array Value} {t : TypeId} {fr : Nat × Nat} (h : IsS102 w0 W g f0 f1 f2) (hb2 : W.heap[a]? = some (.cells cs t fr)) (ht : t ≠ 102) : g ≠ a := by
 obtain ⟨A0, c0, hb, hg, hr0⟩ := h
 rintro rfl
 rw [hb] at hb2
 injection hb2 with hb2
 injection hb2 with _ ht2
 exact ht ht2.symm
theorem IsS102.far {w0 W : World} {g : Nat} {f0 : List Int} {f1 : Int} {f2 : Int} {p : Addr} (h : IsS102 w0 W g f0 f1 f2) (hne : g ≠ p.block) (u : Value) : IsS102 w0 (W.setCell p u) g f0 f1 f2 := by
 obtain ⟨A0, c0, hb, hg, hr0⟩ := h
 exact ⟨A0, c0, blk_far hb hne u, hg, hr0⟩
theorem cellS102_0 {W : World} {g : Nat} {A0 : Option Addr} {c0 : Nat} {f0 : List Int} {f1 : Int} {f2 : Int} (h : W.heap[g]? = some (.cells #[.slice A0 f0.length c0, .int .i64 f1, .int .u64 f2] 102 (0, 0))) : W.cell? ⟨g, 0, none⟩ = some (.slice A0 f0.length c0) := (blk_cell h 0).trans rfl
theorem cellS102_1 {W : World} {g : Nat} {A0 : Option Addr} {c0 : Nat} {f0 : List Int} {f1 : Int} {f2 : Int} (h : W.heap[g]? = some (.cells #[.slice A0 f0.length c0, .int .i64 f1, .int .u64 f2] 102 (0, 0))) : W.cell? ⟨g, 1, none⟩ = some (.int .i64 f1) := (blk_cell h 1).trans rfl
theorem IsS102.set_1 {w0 W : World} {g : Nat} {f0 : List Int} {f1 : Int} {f2 : Int} (h : IsS102 w0 W g f0 f1 f2) (x : Int) : IsS102 w0 (W.setCell ⟨g, 1, none⟩ (.int .i64 x)) g f0 x f2 := by
 obtain ⟨A0, c0, hb, hg, hr0⟩ := h
 exact ⟨A0, c0, by simpa using blk_set hb 1 (.int .i64 x), hg, hr0⟩
theorem cellS102_2 {W : World} {g : Nat} {A0 : Option Addr} {c0 : Nat} {f0 : List Int} {f1 : Int} {f2 : Int} (h : W.heap[g]? = some (.cells #[.slice A0 f0.length c0, .int .i64 f1, .int .u64 f2] 102 (0, 0))) : W.cell? ⟨g, 2, none⟩ = some (.int .u64 f2) := (blk_cell h 2).trans rfl
theorem IsS102.set_2 {w0 W : World} {g : Nat} {f0 : List Int} {f1 : Int} {f2 : Int} (h : IsS102 w0 W g f0 f1 f2) (x : Int) : IsS102 w0 (W.setCell ⟨g, 2, none⟩ (.int .u64 x)) g f0 f1 x := by
 obtain ⟨A0, c0, hb, hg, hr0⟩ := h
 exact ⟨A0, c0, by simpa using blk_set hb 2 (.int .u64 x), hg, hr0⟩
theorem IsS102.new (w0 W : World) (A0 : Option Addr) (c0 : Nat) (f0 : List Int) (f1 : Int) (f2 : Int) (hB : Below w0.heap.size w0 W) (hr0 : Kd.C (Kd.int .u8) w0 A0 f0.length f0) : IsS102 w0 (W.alloc (.cells #[.slice A0 f0.length c0, .int .i64 f1, .int .u64 f2] 102)) W.heap.size f0 f1 f2 := ⟨A0, c0, by simpa using heap_alloc_new W _, hB.size, hr0⟩
def spec_l00From.f (l0 : List Int) : Option (List Int × Int × Int) := some (l0, 0, 0)
set_option maxHeartbeats 8000000 in
set_option maxRecDepth 100000 in
theorem spec_l00From.calls (A0 : Option Addr) (c0 : Nat) (l0 : List Int) (r1 : List Int) (r2 : Int) (r3 : Int) (w0 w : World) (hB : Below w0.heap.size w0 w) (hr0 : Kd.C (Kd.int .u8) w0 A0 l0.length l0) (hc0 : l0.length ≤ c0) (h : spec_l00From.f l0 = some (r1, r2, r3)) :
  Calls Try.prog 56 #[.slice A0 l0.length c0] w fun e w' => ∃ g_ : Nat, e = .returned (.pointer (some ⟨g_, 0, none⟩)) ∧ IsS102 w0 w' g_ r1 r2 r3 ∧ Below w0.heap.size w0 w' ∧ Below w.heap.size w w' := by
 have hu102 := Try.underlying102
 have HR0 := Aside0.mk hr0
 have HC0 := Aside0.mk hc0
 clear hr0 hc0
 have HBW := Aside0.mk (Below.refl w.heap.size w)
 have HW0 := Aside0.mk hB.size
 have HB := Aside0.mk hB
 clear hB
 have H : (some (l0, 0, 0)) = some (r1, r2, r3) := h
 clear h
 simp only [Option.some.injEq, Prod.mk.injEq] at H
 obtain ⟨rfl, rfl, rfl⟩ := H
 go_enter Try.func56, Try.ntmps56
 go_wp2_with (first | ((with_reducible refine gate_dst (N := 5) rfl ?_); refine box_event ?hg (N := 5) ?hd (cs := #[.slice A0 l0.length c0, .int .i64 0, .int .u64 0]) (t := 102) ?hr ?_; (case hd => rfl); (case hg => rfl); (case hr => first | (go_simp; done) | (go_simp; rfl)); intro gb101 hg w2 hbox hb; have n0_ := Aside0.mk (below_step HBW.out hb); have n1_ := Aside0.mk (below_step (by repeat (first | (with_reducible first | exact HB.out | apply below_alloc | apply pw_below_drewN | apply below_drew1) | exact HB.out)) hb); have n2_ := Aside0.mk (hbox); have n3_ := Aside0.mk ((by rw [hg]; exact (below_size (by repeat (first | (with_reducible first | exact HBW.out | apply below_alloc | apply pw_below_drewN | apply below_drew1) | exact HBW.out))) : w.heap.size ≤ gb101)); have n4_ := Aside0.mk ((Nat.le_trans HW0.out (by rw [hg]; exact (below_size (by repeat (first | (with_reducible first | exact HBW.out | apply below_alloc | apply pw_below_drewN | apply below_drew1) | exact HBW.out))) : w.heap.size ≤ gb101) : w0.heap.size ≤ gb101)); clear HBW; clear HB; have HBW := n0_; have HB := n1_; have BK101 := n2_; have GW101 := n3_; have GE101 := n4_; clear n0_ n1_ n2_ n3_ n4_; clear hb hbox hg))
 go_ret
 exact ⟨_, rfl, (show IsS102 w0 _ gb101 l0 0 0 from ⟨_, _, by (with_reducible repeat (first | refine blk_drewN ?_ _ | refine blk_drew ?_ | refine blk_alloc ?_ _)); exact BK101.out, GE101.out, HR0.out⟩), by repeat (first | (with_reducible first | exact HB.out | apply below_alloc | apply pw_below_drewN | apply below_drew1 | refine below_set ?_ GE101.out) | exact HB.out), by repeat (first | (with_reducible first | exact HBW.out | apply below_alloc | apply pw_below_drewN | apply below_drew1 | refine below_set ?_ GW101.out) | exact HBW.out)⟩
end Go.Proofs.Ytkafbmanmffliaa.Q

