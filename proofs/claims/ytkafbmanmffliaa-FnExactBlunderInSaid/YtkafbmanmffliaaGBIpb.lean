/- Parts of the proof that the law of this seat holds: Hb, Q10, Hc, Hd, Q13, Q14, Q25, Q30, Q31, Bw, Q35. -/
import Derived.Test.YtkafbmanmffliaaGBIpa
import Derived.Test.YtkafbmanmffliaaGBIwb
import Derived.Test.YtkafbmanmffliaaProg
import Derived.Test.YtkafbmanmffliaaGBIwa
import Derived.Lib.Hide
import Derived.Outline
set_option linter.unusedVariables false
set_option linter.unusedSimpArgs false
namespace Go.Proofs.Ytkafbmanmffliaa.Hb
open Go.RowKit YtkafbmanmffliaaW.PrintWords YtkafbmanmffliaaW.PrintLast YtkafbmanmffliaaW.PrintMore Q Ha
theorem l00In_any (n lo hi : Int) (w : World) :
  Calls Try.prog 114 #[.int .i64 n, .int .i64 lo, .int .i64 hi] w fun e w' => e = .returned (.bool (inB lo hi n)) ∧ w' = w := by
 by_cases h : lo ≤ n
 ·have h' : decide (lo ≤ n) = true := by simpa using h
  go_enter Try.func114, Try.ntmps114
  go_wp2
  go_ret
  exact ⟨ret_bool (by simp [inB, h]), rfl⟩
 ·have h' : decide (lo ≤ n) = false := by simpa using h
  go_enter Try.func114, Try.ntmps114
  go_wp2
  go_ret
  exact ⟨ret_bool (by simp [inB]; omega), rfl⟩
def sightB (pts : Int) (s : S32) : Bool :=
 inB 0 (wrap64 (pts - 1)) s.f0 && inB 0 (wrap64 (pts - 1)) s.f1 && !(s.f0 == s.f1) && inB (-100) 100 s.f2 && inB 1 3 s.f3
def surveyB (pts : Int) (l : List S32) : Bool := inB 2 5 pts && decide ((l.length : Int) ≤ 8) && l.all (sightB pts)
theorem surveyB_no (pts : Int) (l : List S32) (k : Nat) (hk : k < l.length) (h : sightB pts (rd_T32 l k) = false) : surveyB pts l = false := by
 have hm : rd_T32 l k ∈ l := by simp only [rd_T32, Int.toNat_natCast]; rw [List.getD_eq_getElem?_getD, List.getElem?_eq_getElem hk]; simp
 have : l.all (sightB pts) = false := by
  rw [List.all_eq_false]; exact ⟨_, hm, by simp [h]⟩
 simp [surveyB, this]
theorem all_step (pts : Int) (l : List S32) (k : Nat) (hk : k < l.length) (hp : (l.take k).all (sightB pts) = true) (h : sightB pts (rd_T32 l k) = true) : (l.take (k + 1)).all (sightB pts) = true := by
 have : l.take (k + 1) = l.take k ++ [rd_T32 l k] := by
  rw [List.take_succ_eq_append_getElem hk]; simp [rd_T32, hk]
 rw [this, List.all_append, hp]; simp [h]
theorem l10Is_round (g : Nat) (pts : Int) (A : Option Addr) (c : Nat) (l : List S32) (w : World) (hb : w.heap[g]? = some (.cells #[.int .i64 pts, .slice A l.length c] 26 (0, 0))) (hr : Kd.C k32 w A l.length l)
  (h1 : inB 2 5 pts = true) (h2 : (l.length : Int) ≤ 8) :
  Calls Try.prog 98 #[.pointer (some ⟨g, 0, none⟩)] w fun e w' => e = .returned (.bool (surveyB pts l)) ∧ Below w.heap.size w w' := by
 have hu32 := Try.underlying32
 have hlen : l.length ≤ 9223372036854775807 := hr.2.1
 have hc0 : w.cell? ⟨g, 0, none⟩ = some (.int .i64 pts) := (blk_cell hb 0).trans rfl
 have hc1 : w.cell? ⟨g, 1, none⟩ = some (.slice A l.length c) := (blk_cell hb 1).trans rfl
 have HB := Aside0.mk hb
 have HR := Aside0.mk hr
 have HW := Aside0.mk (Below.refl w.heap.size w)
 clear hb hr
 have h2' : decide ((8 : Int) < (l.length : Int)) = false := by simpa using h2
 go_enter Try.func98, Try.ntmps98
 go_wp2_with (go_at_call 114; refine (l00In_any _ _ _ _).mono ?_; rintro e w' ⟨rfl, rfl⟩)
 go_loopw [3] (fun i wr => ∃ k : Nat, k ≤ l.length ∧ i = .int .i64 k ∧ Aside0 ((l.take k).all (sightB pts) = true) ∧ Aside0 (Below w'.heap.size w' wr)) (fun i _ => l.length - (intOf i).toNat)
 case atStart => exact ⟨0, by omega, rfl, ⟨by simp⟩, ⟨Below.refl _ _⟩⟩
 case round =>
  rename_i wr _
  obtain ⟨k, hk, rfl, hall, hbw⟩ := hrel
  clear hc0 hc1
  have HB1 := Aside0.mk (blk_below HB.out hbw.out)
  have hc0 : wr.cell? ⟨g, 0, none⟩ = some (.int .i64 pts) := (blk_cell HB1.out 0).trans rfl
  have hc1 : wr.cell? ⟨g, 1, none⟩ = some (.slice A l.length c) := (blk_cell HB1.out 1).trans rfl
  by_cases hlt : k < l.length
  ·have hr1 := Kd.C_below HR.out hbw.out
   obtain ⟨ad, rfl, hx0, hx1, hx2, hx3⟩ := at_T32 hr1 (k : Int) (by omega) (by omega)
   clear hr1
   simp only [Int.toNat_natCast] at hx0 hx1 hx2 hx3
   go_wp2
   have hgl : g < wr.heap.size := blk_lt HB1.out
   have HA := Aside0.mk (hbw.out.alloc hbw.out.size (.cells #[.int .i64 (rd_T32 l ↑k).f0, .int .i64 (rd_T32 l ↑k).f1, .int .i64 (rd_T32 l ↑k).f2, .int .i64 (rd_T32 l ↑k).f3] 32))
   by_cases e0 : inB 0 (wrap64 (pts - 1)) (rd_T32 l k).f0 = true
   ·by_cases e1 : inB 0 (wrap64 (pts - 1)) (rd_T32 l k).f1 = true
    ·by_cases e2 : (rd_T32 l k).f0 = (rd_T32 l k).f1
     ·have HF := Aside0.mk (show sightB pts (rd_T32 l k) = false by simp [sightB, e2])
      have e2' : ((rd_T32 l k).f0 == (rd_T32 l k).f1) = true := by simpa using e2
      clear e2
      go_quiet ((go_at_call 114; exact Calls.quiet_of_same (l00In_any _ _ _ _)))
      go_wp2
      go_ret
      exact ⟨ret_bool (surveyB_no pts l k hlt HF.out).symm, pw_below_drewN HA.out _⟩
     ·have e2' : ((rd_T32 l k).f0 == (rd_T32 l k).f1) = false := by simpa using e2
      clear e2
      by_cases e3 : inB (-100) 100 (rd_T32 l k).f2 = true
      ·by_cases e4 : inB 1 3 (rd_T32 l k).f3 = true
       ·have HF := Aside0.mk (show sightB pts (rd_T32 l k) = true by simp [sightB, e0, e1, e2', e3, e4])
        go_quiet ((go_at_call 114; exact Calls.quiet_of_same (l00In_any _ _ _ _)))
        go_wp2
        go_roundw
        case rel => exact ⟨k + 1, by omega, by go_num, ⟨all_step pts l k hlt hall.out HF.out⟩, ⟨pw_below_drewN HA.out _⟩⟩
        case measure => simp [intOf]; omega
       ·have e4 : inB 1 3 (rd_T32 l k).f3 = false := by simpa using e4
        have HF := Aside0.mk (show sightB pts (rd_T32 l k) = false by simp [sightB, e4])
        go_quiet ((go_at_call 114; exact Calls.quiet_of_same (l00In_any _ _ _ _)))
        go_wp2
        go_ret
        exact ⟨ret_bool (surveyB_no pts l k hlt HF.out).symm, pw_below_drewN HA.out _⟩
      ·have e3 : inB (-100) 100 (rd_T32 l k).f2 = false := by simpa using e3
       have HF := Aside0.mk (show sightB pts (rd_T32 l k) = false by simp [sightB, e3])
       go_quiet ((go_at_call 114; exact Calls.quiet_of_same (l00In_any _ _ _ _)))
       go_wp2
       go_ret
       exact ⟨ret_bool (surveyB_no pts l k hlt HF.out).symm, pw_below_drewN HA.out _⟩
    ·have e1 : inB 0 (wrap64 (pts - 1)) (rd_T32 l k).f1 = false := by simpa using e1
     have HF := Aside0.mk (show sightB pts (rd_T32 l k) = false by simp [sightB, e1])
     go_quiet ((go_at_call 114; exact Calls.quiet_of_same (l00In_any _ _ _ _)))
     go_wp2
     go_ret
     exact ⟨ret_bool (surveyB_no pts l k hlt HF.out).symm, pw_below_drewN HA.out _⟩
   ·have e0 : inB 0 (wrap64 (pts - 1)) (rd_T32 l k).f0 = false := by simpa using e0
    have HF := Aside0.mk (show sightB pts (rd_T32 l k) = false by simp [sightB, e0])
    go_quiet ((go_at_call 114; exact Calls.quiet_of_same (l00In_any _ _ _ _)))
    go_wp2
    go_ret
    exact ⟨ret_bool (surveyB_no pts l k hlt HF.out).symm, pw_below_drewN HA.out _⟩
  ·obtain rfl : k = l.length := by omega
   have HF := Aside0.mk (show surveyB pts l = true by have := hall.out; simp at this; simp [surveyB, h1, h2]; exact this)
   go_wp2
   go_ret
   exact ⟨ret_bool HF.out.symm, hbw.out⟩
theorem l10Is_any (g : Nat) (pts : Int) (A : Option Addr) (c : Nat) (l : List S32) (w : World) (hb : w.heap[g]? = some (.cells #[.int .i64 pts, .slice A l.length c] 26 (0, 0))) (hr : Kd.C k32 w A l.length l) :
  Calls Try.prog 98 #[.pointer (some ⟨g, 0, none⟩)] w fun e w' => e = .returned (.bool (surveyB pts l)) ∧ Below w.heap.size w w' := by
 by_cases h1 : inB 2 5 pts = true
 ·by_cases h2 : (l.length : Int) ≤ 8
  ·exact l10Is_round g pts A c l w hb hr h1 h2
  ·have HF := Aside0.mk (show surveyB pts l = false by simp [surveyB]; omega)
   have hc0 : w.cell? ⟨g, 0, none⟩ = some (.int .i64 pts) := (blk_cell hb 0).trans rfl
   have hc1 : w.cell? ⟨g, 1, none⟩ = some (.slice A l.length c) := (blk_cell hb 1).trans rfl
   clear hb hr
   have h2' : decide ((8 : Int) < (l.length : Int)) = true := by simp; omega
   go_enter Try.func98, Try.ntmps98
   go_wp2_with (go_at_call 114; refine (l00In_any _ _ _ _).mono ?_; rintro e w' ⟨rfl, rfl⟩)
   go_ret
   exact ⟨ret_bool HF.out.symm, Below.refl _ _⟩
 ·have h1 : inB 2 5 pts = false := by simpa using h1
  have HF := Aside0.mk (show surveyB pts l = false by simp [surveyB, h1])
  have hc0 : w.cell? ⟨g, 0, none⟩ = some (.int .i64 pts) := (blk_cell hb 0).trans rfl
  have hc1 : w.cell? ⟨g, 1, none⟩ = some (.slice A l.length c) := (blk_cell hb 1).trans rfl
  clear hb hr
  go_enter Try.func98, Try.ntmps98
  go_wp2_with (go_at_call 114; refine (l00In_any _ _ _ _).mono ?_; rintro e w' ⟨rfl, rfl⟩)
  go_ret
  exact ⟨ret_bool HF.out.symm, Below.refl _ _⟩
end Go.Proofs.Ytkafbmanmffliaa.Hb

namespace Go.Proofs.Ytkafbmanmffliaa.Q
open Go.RowKit YtkafbmanmffliaaW.PrintWords YtkafbmanmffliaaW.PrintLast YtkafbmanmffliaaW.PrintMore
attribute [local go_sem] max2_int min2_int max_two min_two max_three min_three max_four min_four
def IsS26 (w0 W : World) (g : Nat) (f0 : Int) (f1 : List (S32)) : Prop := ∃ A1 c1, W.heap[g]? = some (.cells #[.int .i64 f0, .slice A1 f1.length c1] 26 (0, 0)) ∧ w0.heap.size ≤ g ∧ Kd.C k32 w0 A1 f1.length f1
theorem IsS26.grown {w0 W : World} {g : Nat} {f0 : Int} {f1 : List (S32)} {W1 : World} {row : Option Nat} (h : IsS26 w0 W g f0 f1) (hw : W.grownBy W1 row) (hne : some g ≠ row) : IsS26 w0 W1 g f0 f1 := by
 obtain ⟨A1, c1, hb, hg, hr1⟩ := h
 exact ⟨A1, c1, blk_grown hb hw hne, hg, hr1⟩
theorem IsS26.kept {w0 W : World} {g : Nat} {f0 : Int} {f1 : List (S32)} {W1 : World} {S : Nat → Prop} (h : IsS26 w0 W g f0 f1) (hk : Kept W W1 S) (hne : ¬ S g) : IsS26 w0 W1 g f0 f1 := by
 obtain ⟨A1, c1, hb, hg, hr1⟩ := h
 exact ⟨A1, c1, blk_kept hb hk hne, hg, hr1⟩
theorem IsS26.below {w0 W : World} {g : Nat} {f0 : Int} {f1 : List (S32)} {W1 : World} (h : IsS26 w0 W g f0 f1) (hw : Below W.heap.size W W1) : IsS26 w0 W1 g f0 f1 := h.grown (grown_of_below hw none) (by simp)
theorem IsS26.alloc {w0 W : World} {g : Nat} {f0 : Int} {f1 : List (S32)} (h : IsS26 w0 W g f0 f1) (o : Obj) : IsS26 w0 (W.alloc o) g f0 f1 := h.below (below_alloc (Below.refl _ _) o)
theorem IsS26.drewN {w0 W : World} {g : Nat} {f0 : Int} {f1 : List (S32)} (h : IsS26 w0 W g f0 f1) (m : Nat) : IsS26 w0 (W.drewN m) g f0 f1 := h
theorem IsS26.drew {w0 W : World} {g : Nat} {f0 : Int} {f1 : List (S32)} (h : IsS26 w0 W g f0 f1) : IsS26 w0 W.drew g f0 f1 := h
theorem IsS26.at_ {w0 W : World} {g : Nat} {f0 : Int} {f1 : List (S32)} {w' : World} {m : Nat} (hq : W.drewN m = w') (h : IsS26 w0 W g f0 f1) : IsS26 w0 w' g f0 f1 := by subst hq; exact IsS26.drewN h m
theorem IsS26.apart {w0 W : World} {g : Nat} {f0 : Int} {f1 : List (S32)} {α : Type} {d : Kd α} {e : Nat} {base : Nat} {ok : Nat → Prop} {v : Value} {xs : List α} (h : IsS26 w0 W g f0 f1) (ho : d.R e W base ok v xs) (ht : ∀ q, q ∈ e :: d.E → q ≠ 26) : d.R e W base (fun k => ok k ∧ k ≠ g) v xs := by
 obtain ⟨A1, c1, hb, hg, hr1⟩ := h
 exact Kd.R_types ho hb ht
theorem IsS26.own_ne {w0 W : World} {g : Nat} {f0 : Int} {f1 : List (S32)} {α : Type} {d : Kd α} {e : Nat} {base : Nat} {ok : Nat → Prop} {v : Value} {xs : List α} (h : IsS26 w0 W g f0 f1) (ho : d.R e W base ok v xs) (ht : e ≠ 26) : some g ≠ v.ownBlock := by
 obtain ⟨A1, c1, hb, hg, hr1⟩ := h
 exact Kd.R_ne ho hb ht
theorem IsS26.lt {w0 W : World} {g : Nat} {f0 : Int} {f1 : List (S32)} (h : IsS26 w0 W g f0 f1) : g < W.heap.size := by
 obtain ⟨A1, c1, hb, hg, hr1⟩ := h
 exact blk_lt hb
theorem IsS26.ge {w0 W : World} {g : Nat} {f0 : Int} {f1 : List (S32)} (h : IsS26 w0 W g f0 f1) : w0.heap.size ≤ g := by
 obtain ⟨A1, c1, hb, hg, hr1⟩ := h
 exact hg
theorem IsS26.far {w0 W : World} {g : Nat} {f0 : Int} {f1 : List (S32)} {p : Addr} (h : IsS26 w0 W g f0 f1) (hne : g ≠ p.block) (u : Value) : IsS26 w0 (W.setCell p u) g f0 f1 := by
 obtain ⟨A1, c1, hb, hg, hr1⟩ := h
 exact ⟨A1, c1, blk_far hb hne u, hg, hr1⟩
theorem cellS26_0 {W : World} {g : Nat} {A1 : Option Addr} {c1 : Nat} {f0 : Int} {f1 : List (S32)} (h : W.heap[g]? = some (.cells #[.int .i64 f0, .slice A1 f1.length c1] 26 (0, 0))) : W.cell? ⟨g, 0, none⟩ = some (.int .i64 f0) := (blk_cell h 0).trans rfl
theorem IsS26.set_0 {w0 W : World} {g : Nat} {f0 : Int} {f1 : List (S32)} (h : IsS26 w0 W g f0 f1) (x : Int) : IsS26 w0 (W.setCell ⟨g, 0, none⟩ (.int .i64 x)) g x f1 := by
 obtain ⟨A1, c1, hb, hg, hr1⟩ := h
 exact ⟨A1, c1, by simpa using blk_set hb 0 (.int .i64 x), hg, hr1⟩
theorem cellS26_1 {W : World} {g : Nat} {A1 : Option Addr} {c1 : Nat} {f0 : Int} {f1 : List (S32)} (h : W.heap[g]? = some (.cells #[.int .i64 f0, .slice A1 f1.length c1] 26 (0, 0))) : W.cell? ⟨g, 1, none⟩ = some (.slice A1 f1.length c1) := (blk_cell h 1).trans rfl
theorem IsS26.new (w0 W : World) (A1 : Option Addr) (c1 : Nat) (f0 : Int) (f1 : List (S32)) (hB : Below w0.heap.size w0 W) (hr1 : Kd.C k32 w0 A1 f1.length f1) : IsS26 w0 (W.alloc (.cells #[.int .i64 f0, .slice A1 f1.length c1] 26)) W.heap.size f0 f1 := ⟨A1, c1, by simpa using heap_alloc_new W _, hB.size, hr1⟩
def spec_l10Is.f (s0_0 : Int) (s0_1 : List (S32)) : Option (Bool × Int) := some (Hb.surveyB s0_0 s0_1, s0_0)
theorem spec_l10Is.calls (g : Nat) (s0_0 : Int) (s0_1 : List (S32)) (r1 : Bool) (r2 : Int) (w0 w : World) (hI : IsS26 w0 w g s0_0 s0_1) (hB : Below w0.heap.size w0 w) (h : spec_l10Is.f s0_0 s0_1 = some (r1, r2)) :
  Calls Try.prog 98 #[.pointer (some ⟨g, 0, none⟩)] w fun e w' => e = .returned (.bool r1) ∧ IsS26 w0 w' g r2 s0_1 ∧ Below w0.heap.size w0 w' ∧ KeepBut w w' g none := by
 simp only [spec_l10Is.f, Option.some.injEq, Prod.mk.injEq] at h
 obtain ⟨rfl, rfl⟩ := h
 obtain ⟨A1, c1, hb, hg, hr⟩ := hI
 refine (Hb.l10Is_any g s0_0 A1 c1 s0_1 w hb (Kd.C_below hr hB)).mono ?_
 rintro e w' ⟨rfl, hw⟩
 exact ⟨rfl, IsS26.below ⟨A1, c1, hb, hg, hr⟩ hw, below_then hB hB.size hw, KeepBut.of_below hw g none⟩
end Go.Proofs.Ytkafbmanmffliaa.Q

/- Rows of int64 numbers that a call has made: small laws over the kinds; and a list that is rewritten from its beginning on. -/
namespace Go.Proofs.Ytkafbmanmffliaa.Hc
open Go.RowKit YtkafbmanmffliaaW.PrintWords YtkafbmanmffliaaW.PrintLast YtkafbmanmffliaaW.PrintMore Q
def T (B : Nat) (W : World) (v : Value) (xs : List Int) : Prop := (Kd.int .i64).R 2 W B (fun _ => True) v xs
def NE (u v : Value) : Prop := ∀ k, u.ownBlock = some k → v.ownBlock ≠ some k
theorem NE.symm {u v : Value} (h : NE u v) : NE v u := fun k hk hu => h k hu hk
variable {B : Nat} {W w1 : World} {u v v1 : Value} {xs ys : List Int}
theorem T.of {ok : Nat → Prop} (h : (Kd.int .i64).R 2 W B ok v xs) : T B W v xs := Kd.R_mono h (fun _ _ => trivial)
theorem T.lt (h : T B W v xs) {k : Nat} (hk : v.ownBlock = some k) : k < W.heap.size := Kd.R_lt h k hk
theorem T.grown (h : T B W u xs) (hg : W.grownBy w1 v.ownBlock) (hn : NE u v) : T B w1 u xs :=
 T.of (Kd.R_grown (Kd.R_tight rfl h) hg (fun k hk e => hn k hk.symm e.symm))
theorem T.below (h : T B W u xs) (hb : Below W.heap.size W w1) : T B w1 u xs := Kd.R_below h hb
theorem NE.after (hu : T B W u xs) (hn : NE u v) (hat : v1.ownBlock = v.ownBlock ∨ ∃ b, v1.ownBlock = some b ∧ W.heap.size ≤ b) : NE u v1 := by
 intro k hk h1
 rcases hat with e | ⟨b, e, hb⟩
 ·exact hn k hk (e ▸ h1)
 ·have := hu.lt hk
  rw [e] at h1; injection h1 with h1; omega
theorem NE.new (hu : T B W u xs) (hat : ∃ b, v1.ownBlock = some b ∧ W.heap.size ≤ b) : NE u v1 := by
 intro k hk h1
 obtain ⟨b, e, hb⟩ := hat
 have := hu.lt hk
 rw [e] at h1; injection h1 with h1; omega
theorem T.form (h : T B W v xs) (hp : 0 < xs.length) : ∃ g cap, v = .slice (some ⟨g, 0, none⟩) xs.length cap ∧ B ≤ g ∧ g < W.heap.size := by
 obtain ⟨g, cap, he, hb, hl, _⟩ := Kd.R_form h hp
 exact ⟨g, cap, he, hb, hl⟩
theorem T.cell {g n cap : Nat} (h : T B W (.slice (some ⟨g, 0, none⟩) n cap) xs) (i : Nat) (hi : i < n) : W.cell? ⟨g, i, none⟩ = some (.int .i64 (rd xs i)) ∧ W.frozen? ⟨g, i, none⟩ = false :=
 Kd.R_celln 0 h (i : Int) (by omega) (by omega)
theorem T.put {g n cap : Nat} (h : T B W (.slice (some ⟨g, 0, none⟩) n cap) xs) (i : Nat) (x : Int) : T B (W.setCell ⟨g, i, none⟩ (.int .i64 x)) (.slice (some ⟨g, 0, none⟩) n cap) (xs.set i x) ∧ W.grownBy (W.setCell ⟨g, i, none⟩ (.int .i64 x)) (some g) :=
 Kd.R_putg h (i : Int) x
theorem T.len {g n cap : Nat} (h : T B W (.slice (some ⟨g, 0, none⟩) n cap) xs) : n = xs.length := (Kd.R_reads' h).1
theorem T.nil_new (hB : B ≤ W.heap.size) : T B (W.alloc (.cells #[] 2)) (.slice (some ⟨W.heap.size, 0, none⟩) 0 0) [] := by
 have ho : (W.alloc (.cells #[] 2)).ownsRow B 2 1 (.slice (some ⟨W.heap.size, 0, none⟩) 0 0) ([] : List Int).length (encs (Value.int .i64) []) :=
  ⟨rfl, .inr ⟨W.heap.size, 0, #[], rfl, hB, by simpa using heap_alloc_new W _, Nat.le_refl _, by simp [maxLen], rfl, rfl⟩⟩
 exact Kd.R_of_own ho (fun _ _ => trivial)
theorem NE.of {a b : Nat} {n1 c1 n2 c2 : Nat} (h : a ≠ b) : NE (.slice (some ⟨a, 0, none⟩) n1 c1) (.slice (some ⟨b, 0, none⟩) n2 c2) := by
 intro k h1 h2
 simp [Value.ownBlock] at h1 h2
 omega
theorem NE.nil {v : Value} : NE (.slice none 0 0) v := by intro k h; simp [Value.ownBlock] at h
theorem T.nil : T B W (.slice none 0 0) [] := Kd.R_nil _ _ _ _ _
theorem T.append {P : Program} {ops : Array Oper} {Q : Exit → Act → World → Prop} {rest : List Oper} {o : Oper} {a : Act} {w0 : World} (hP : P = Try.prog) (hgd : o.guard = none) (s x : Operand)
  (ho : o.op = .call { callee := .builtin .append, args := #[s, x], argTypes := #[28, 28] }) (p : Int) (hs : a.eval s = v) (hx : a.eval x = .slice (some ⟨W.heap.size, 0, none⟩) 1 1)
  (HO : T B W v xs) (HB : Below B w0 W) (hbase : B ≤ W.heap.size) (hl : xs.length ≤ 1048576)
  (h : ∀ v1 w1, T B w1 v1 (xs ++ [p]) → Below B w0 w1 → W.grownBy w1 v.ownBlock → (v1.ownBlock = v.ownBlock ∨ ∃ b, v1.ownBlock = some b ∧ W.heap.size ≤ b) → wpList P ops Q rest (a.put o.dst v1) w1) :
  wpList P ops Q (o :: rest) a (W.alloc (.cells #[.int .i64 p] 2)) := by
 subst hP
 exact Kd.R_append (Kd.int .i64) (w0 := w0) B hgd s x 28 2 (.int .i64 0) 8 ho Try.underlying28 info2 rfl (by decide) (by omega) v xs p [.int .i64 p] (fun _ => True) (fun _ => False) hs hx rfl (fun _ hk => hk.elim) (fun _ _ => trivial) HO HB hbase (by omega) h
def TB (B : Nat) (W : World) (v : Value) (xs : List Bool) : Prop := Kd.bool.R 4 W B (fun _ => True) v xs
section
variable {bs : List Bool}
theorem TB.of {ok : Nat → Prop} (h : Kd.bool.R 4 W B ok v bs) : TB B W v bs := Kd.R_mono h (fun _ _ => trivial)
theorem TB.lt (h : TB B W v bs) {k : Nat} (hk : v.ownBlock = some k) : k < W.heap.size := Kd.R_lt h k hk
theorem TB.grown (h : TB B W u bs) (hg : W.grownBy w1 v.ownBlock) (hn : NE u v) : TB B w1 u bs :=
 TB.of (Kd.R_grown (Kd.R_tight rfl h) hg (fun k hk e => hn k hk.symm e.symm))
theorem TB.below (h : TB B W u bs) (hb : Below W.heap.size W w1) : TB B w1 u bs := Kd.R_below h hb
theorem TB.form (h : TB B W v bs) (hp : 0 < bs.length) : ∃ g cap, v = .slice (some ⟨g, 0, none⟩) bs.length cap ∧ B ≤ g ∧ g < W.heap.size := by
 obtain ⟨g, cap, he, hb, hl, _⟩ := Kd.R_form h hp
 exact ⟨g, cap, he, hb, hl⟩
theorem TB.cell {g n cap : Nat} (h : TB B W (.slice (some ⟨g, 0, none⟩) n cap) bs) (i : Nat) (hi : i < n) : W.cell? ⟨g, i, none⟩ = some (.bool (rdOf false bs i)) ∧ W.frozen? ⟨g, i, none⟩ = false :=
 Kd.R_celln false h (i : Int) (by omega) (by omega)
theorem TB.put {g n cap : Nat} (h : TB B W (.slice (some ⟨g, 0, none⟩) n cap) bs) (i : Nat) (x : Bool) : TB B (W.setCell ⟨g, i, none⟩ (.bool x)) (.slice (some ⟨g, 0, none⟩) n cap) (bs.set i x) ∧ W.grownBy (W.setCell ⟨g, i, none⟩ (.bool x)) (some g) :=
 Kd.R_putg h (i : Int) x
theorem TB.len {g n cap : Nat} (h : TB B W (.slice (some ⟨g, 0, none⟩) n cap) bs) : n = bs.length := (Kd.R_reads' h).1
end
def upd {α : Type} (new old : List α) (k : Nat) : List α := new.take k ++ old.drop k
section
variable {α : Type} {new old : List α} {k : Nat}
theorem upd_zero : upd new old 0 = old := by simp [upd]
theorem upd_all (h : new.length = old.length) : upd new old old.length = new := by simp [upd, ← h]
theorem upd_len (h : new.length = old.length) (hk : k ≤ old.length) : (upd new old k).length = old.length := by simp [upd]; omega
theorem upd_get (h : new.length = old.length) (hk : k < old.length) : (upd new old k)[k]? = old[k]? := by
 rw [upd, List.getElem?_append_right (by simp; omega)]; simp [show min k new.length = k by omega]
theorem upd_set (h : new.length = old.length) (hk : k < old.length) : (upd new old k).set k (new[k]'(by omega)) = upd new old (k + 1) := by
 rw [upd, List.set_append_right _ _ (by simp; omega), List.length_take, show k - min k new.length = 0 by omega, List.drop_eq_getElem_cons hk, List.set_cons_zero, upd, List.take_succ_eq_append_getElem (by omega), List.append_assoc]; rfl
theorem upd_same (h : new.length = old.length) (hk : k < old.length) (he : new[k]'(by omega) = old[k]) : upd new old (k + 1) = upd new old k := by
 rw [upd, List.take_succ_eq_append_getElem (by omega), he, List.append_assoc, upd, List.drop_eq_getElem_cons hk]; rfl
end
theorem rd_upd {new old : List Int} {k : Nat} (h : new.length = old.length) (hk : k < old.length) : rd (upd new old k) k = rd old k := by
 simp only [rd, Int.toNat_natCast, List.getD_eq_getElem?_getD]; rw [upd_get h hk]
theorem rd_nat (l : List Int) (k : Nat) (h : k < l.length) : rd l k = l[k] := by simp [rd, List.getD_eq_getElem?_getD, h]
end Go.Proofs.Ytkafbmanmffliaa.Hc

/- The reference's l10Tree: the sights that connect points without loops, and the heights that follow. -/
namespace Go.Proofs.Ytkafbmanmffliaa.Hd
open Go.RowKit YtkafbmanmffliaaW.PrintWords YtkafbmanmffliaaW.PrintLast YtkafbmanmffliaaW.PrintMore Q Ha Hb Hc
def mxI (a b : Int) : Int := if b < a then a else b
def mnI (a b : Int) : Int := if a < b then a else b
theorem max_any (a b : Int) (w : World) : Calls Try.prog 95 #[.int .i64 a, .int .i64 b] w fun e w' => e = .returned (.int .i64 (mxI a b)) ∧ w' = w := by
 by_cases h : b < a
 ·have h' : decide (b < a) = true := by simpa using h
  go_enter Try.func95, Try.ntmps95
  go_wp2
  go_ret
  exact ⟨ret_int (by simp [mxI, h]), rfl⟩
 ·have h' : decide (b < a) = false := by simpa using h
  go_enter Try.func95, Try.ntmps95
  go_wp2
  go_ret
  exact ⟨ret_int (by simp [mxI]; omega), rfl⟩
theorem min_any (a b : Int) (w : World) : Calls Try.prog 129 #[.int .i64 a, .int .i64 b] w fun e w' => e = .returned (.int .i64 (mnI a b)) ∧ w' = w := by
 by_cases h : a < b
 ·have h' : decide (a < b) = true := by simpa using h
  go_enter Try.func129, Try.ntmps129
  go_wp2
  go_ret
  exact ⟨ret_int (by simp [mnI, h]), rfl⟩
 ·have h' : decide (a < b) = false := by simpa using h
  go_enter Try.func129, Try.ntmps129
  go_wp2
  go_ret
  exact ⟨ret_int (by simp [mnI]; omega), rfl⟩
structure St where
 out : List Int
 part : List Int
 hts : List Int
def liftOf (st : St) (s : S32) : Int :=
 let lf := wrap64 (wrap64 (rd st.hts s.f0 + s.f2) - rd st.hts s.f1)
 if rd st.part s.f1 < rd st.part s.f0 then wrap64 (-lf) else lf
def newPart (part : List Int) (a b : Int) : List Int := part.map fun v => if v = mxI a b then mnI a b else v
def newHts (part hts : List Int) (a b lf : Int) : List Int := List.zipWith (fun v h => if v = mxI a b then wrap64 (h + lf) else h) part hts
def step (st : St) (x : S32 × Nat) : St :=
 if rd st.part x.1.f0 = rd st.part x.1.f1 then st
 else ⟨st.out ++ [(x.2 : Int)], newPart st.part (rd st.part x.1.f0) (rd st.part x.1.f1), newHts st.part st.hts (rd st.part x.1.f0) (rd st.part x.1.f1) (liftOf st x.1)⟩
def start (pts : Int) : St := ⟨[], (List.range pts.toNat).map fun k : Nat => (k : Int), List.replicate pts.toNat 0⟩
def treeS (pts : Int) (l : List S32) : St := l.zipIdx.foldl step (start pts)
theorem newPart_len (part : List Int) (a b : Int) : (newPart part a b).length = part.length := by simp [newPart]
theorem newHts_len (part hts : List Int) (a b lf : Int) (h : part.length = hts.length) : (newHts part hts a b lf).length = hts.length := by simp [newHts, h]
theorem step_len (n : Nat) (st : St) (x : S32 × Nat) (h : st.part.length = n ∧ st.hts.length = n) : (step st x).part.length = n ∧ (step st x).hts.length = n := by
 unfold step
 split
 ·exact h
 ·exact ⟨by simp [newPart_len, h.1], by simp [newHts, h.1, h.2]⟩
theorem foldl_len (n : Nat) (l : List (S32 × Nat)) (st : St) (h : st.part.length = n ∧ st.hts.length = n) : (l.foldl step st).part.length = n ∧ (l.foldl step st).hts.length = n := by
 induction l generalizing st with
 | nil => exact h
 | cons x xs ih => exact ih _ (step_len n st x h)
theorem out_len (l : List (S32 × Nat)) (st : St) : (l.foldl step st).out.length ≤ st.out.length + l.length := by
 induction l generalizing st with
 | nil => simp
 | cons x xs ih =>
  have h1 := ih (step st x)
  have h2 : (step st x).out.length ≤ st.out.length + 1 := by unfold step; split <;> simp
  simp only [List.foldl_cons, List.length_cons]; omega
def at_ (pts : Int) (l : List S32) (k : Nat) : St := (l.zipIdx.take k).foldl step (start pts)
theorem at_zero (pts : Int) (l : List S32) : at_ pts l 0 = start pts := by simp [at_]
theorem at_all (pts : Int) (l : List S32) : at_ pts l l.length = treeS pts l := by
 unfold at_ treeS; rw [List.take_of_length_le (by simp)]
theorem at_succ (pts : Int) (l : List S32) (k : Nat) (h : k < l.length) : at_ pts l (k + 1) = step (at_ pts l k) (rd_T32 l k, k) := by
 unfold at_
 rw [List.take_succ_eq_append_getElem (by simpa using h), List.foldl_append]
 simp [rd_T32, h, List.getElem_zipIdx]
theorem at_len (pts : Int) (l : List S32) (k : Nat) : (at_ pts l k).part.length = pts.toNat ∧ (at_ pts l k).hts.length = pts.toNat :=
 foldl_len _ _ _ (by simp [start])
theorem at_out (pts : Int) (l : List S32) (k : Nat) : (at_ pts l k).out.length ≤ k := by
 have := out_len (l.zipIdx.take k) (start pts)
 simp only [start, List.length_nil, List.length_take, List.length_zipIdx] at this
 unfold at_; simp only [start]; omega
theorem valid_pts {pts : Int} {l : List S32} (h : surveyB pts l = true) : 2 ≤ pts ∧ pts ≤ 5 ∧ l.length ≤ 8 := by
 simp [surveyB, inB] at h; omega
theorem valid_at {pts : Int} {l : List S32} (h : surveyB pts l = true) (k : Nat) (hk : k < l.length) : 0 ≤ (rd_T32 l k).f0 ∧ (rd_T32 l k).f0 < pts ∧ 0 ≤ (rd_T32 l k).f1 ∧ (rd_T32 l k).f1 < pts := by
 have hp := valid_pts h
 have hm : rd_T32 l k ∈ l := by simp only [rd_T32, Int.toNat_natCast]; rw [List.getD_eq_getElem?_getD, List.getElem?_eq_getElem hk]; simp
 have h1 : l.all (sightB pts) = true := by simp only [surveyB, Bool.and_eq_true] at h; exact h.2
 have h2 := List.all_eq_true.1 h1 _ hm
 have e : wrap64 (pts - 1) = pts - 1 := by unfold wrap64; omega
 simp [sightB, inB, e] at h2
 omega
section
variable {part hts : List Int} {a b lf : Int} {j : Nat}
theorem np_hit (hj : j < part.length) (h : rd part j = mxI a b) : (upd (newPart part a b) part j).set j (mnI a b) = upd (newPart part a b) part (j + 1) := by
 have e : (newPart part a b)[j]'(by simp [newPart_len, hj]) = mnI a b := by
  rw [rd_nat _ _ hj] at h; simp [newPart, h]
 rw [← upd_set (newPart_len ..) hj, e]
theorem np_miss (hj : j < part.length) (h : ¬ rd part j = mxI a b) : upd (newPart part a b) part (j + 1) = upd (newPart part a b) part j := by
 rw [rd_nat _ _ hj] at h
 exact upd_same (newPart_len ..) hj (by simp [newPart, h])
theorem nh_hit (hl : part.length = hts.length) (hj : j < hts.length) (h : rd part j = mxI a b) : (upd (newHts part hts a b lf) hts j).set j (wrap64 (rd hts j + lf)) = upd (newHts part hts a b lf) hts (j + 1) := by
 have e : (newHts part hts a b lf)[j]'(by simp [newHts, hl, hj]) = wrap64 (rd hts j + lf) := by
  rw [rd_nat _ _ (by omega)] at h; simp [newHts, h, rd_nat _ _ hj]
 rw [← upd_set (newHts_len _ _ _ _ _ hl) hj, e]
theorem nh_miss (hl : part.length = hts.length) (hj : j < hts.length) (h : ¬ rd part j = mxI a b) : upd (newHts part hts a b lf) hts (j + 1) = upd (newHts part hts a b lf) hts j := by
 rw [rd_nat _ _ (by omega)] at h
 exact upd_same (newHts_len _ _ _ _ _ hl) hj (by simp [newHts, h])
end
def Ends (w : World) (pts : Int) (l : List S32) (e : Ending) (w' : World) : Prop :=
 ∃ v0 v1 : Value, ∃ ok : Bool, e = .returned (.tuple #[v0, v1, .bool ok]) ∧ ok = (treeS pts l).part.all (· == 0) ∧
  T w.heap.size w' v0 (if ok then (treeS pts l).out else []) ∧ T w.heap.size w' v1 (if ok then (treeS pts l).hts else []) ∧ NE v0 v1 ∧ Below w.heap.size w w'
set_option maxHeartbeats 4000000 in
set_option maxRecDepth 100000 in
theorem l10Tree_any (g : Nat) (pts : Int) (A : Option Addr) (c : Nat) (l : List S32) (w : World) (hb : w.heap[g]? = some (.cells #[.int .i64 pts, .slice A l.length c] 26 (0, 0))) (hr : Kd.C k32 w A l.length l) (hv : surveyB pts l = true) :
  Calls Try.prog 99 #[.pointer (some ⟨g, 0, none⟩)] w (Ends w pts l) := by
 obtain ⟨n, rfl⟩ : ∃ n : Nat, pts = (n : Int) := ⟨pts.toNat, by have := valid_pts hv; omega⟩
 have hn : 2 ≤ n ∧ n ≤ 5 ∧ l.length ≤ 8 := by have := valid_pts hv; omega
 obtain ⟨hn2, hn5, hl8⟩ := hn
 have HV := Aside0.mk hv
 have HBK := Aside0.mk hb
 have HR := Aside0.mk hr
 have hgl : g < w.heap.size := blk_lt hb
 have hc0 : w.cell? ⟨g, 0, none⟩ = some (.int .i64 n) := (blk_cell hb 0).trans rfl
 have hc1 : w.cell? ⟨g, 1, none⟩ = some (.slice A l.length c) := (blk_cell hb 1).trans rfl
 clear hb hr hv
 have hu32 := Try.underlying32
 have HB0 := Aside0.mk (Below.refl w.heap.size w)
 go_enter Try.func99, Try.ntmps99
 go_wp2_with (fail)
 go_loopw [6, 7, 8] (fun v6 v7 v8 wr => ∃ k : Nat, k ≤ n ∧ v8 = .int .i64 k ∧ Aside0 (T w.heap.size wr (.slice (some ⟨w.heap.size, 0, none⟩) 0 0) []) ∧ Aside0 (T w.heap.size wr v6 ((List.range k).map fun j : Nat => (j : Int))) ∧ Aside0 (T w.heap.size wr v7 (List.replicate k 0)) ∧
   Aside0 (NE (.slice (some ⟨w.heap.size, 0, none⟩) 0 0) v6) ∧ Aside0 (NE (.slice (some ⟨w.heap.size, 0, none⟩) 0 0) v7) ∧ Aside0 (NE v6 v7) ∧ Aside0 (Below w.heap.size w wr)) (fun _ _ i _ => n - (intOf i).toNat)
 case atStart =>
  have t0 := T.nil_new (B := w.heap.size) (W := w) (Nat.le_refl _)
  have t1 := T.nil_new (B := w.heap.size) (W := w.alloc (.cells #[] 2)) (by simp)
  have t2 := T.nil_new (B := w.heap.size) (W := (w.alloc (.cells #[] 2)).alloc (.cells #[] 2)) (by simp; omega)
  simp only [World.size_alloc] at t1 t2
  exact ⟨0, by omega, rfl, ⟨(t0.below (below_alloc (Below.refl _ _) _)).below (below_alloc (Below.refl _ _) _)⟩, ⟨t1.below (below_alloc (Below.refl _ _) _)⟩, ⟨t2⟩, ⟨NE.of (by omega)⟩, ⟨NE.of (by omega)⟩, ⟨NE.of (by omega)⟩, ⟨below_alloc (below_alloc (below_alloc (Below.refl _ _) _) _) _⟩⟩
 case round =>
  obtain ⟨k, hk, rfl, t5, t6, t7, n56, n57, n67, hbw⟩ := hrel
  clear hc0 hc1
  have hc0 : wr.cell? ⟨g, 0, none⟩ = some (.int .i64 n) := (blk_cell (blk_below HBK.out hbw.out) 0).trans rfl
  have hsz := hbw.out.size
  by_cases hlt : k < n
  ·have hlt' : decide ((k : Int) < (n : Int)) = true := by simpa using hlt
   go_wp2_with (first
    | ((with_reducible refine gate_builtin (b := .append) (xs := #[.tmp 27, .tmp 29]) rfl ?_); at_builtin; refine T.append (w0 := w) rfl rfl (.tmp 27) (.tmp 29) rfl (k : Int) rfl rfl t6.out hbw.out hsz (by simp; omega) ?_; intro v1 w1 h1 h2 h3 h4; have t5' := Aside0.mk (t5.out.grown h3 n56.out); have t7' := Aside0.mk (t7.out.grown h3 n67.out.symm); have t6' := Aside0.mk h1; have n56' := Aside0.mk (NE.after t5.out n56.out h4); have n67' := Aside0.mk (NE.after t7.out n67.out.symm h4).symm; have hbw' := Aside0.mk h2; have hsz' := h2.size; clear t5 t6 t7 n56 n67 hbw hsz h1 h2 h3 h4)
    | ((with_reducible refine gate_builtin (b := .append) (xs := #[.tmp 31, .tmp 32]) rfl ?_); at_builtin; refine T.append (w0 := w) rfl rfl (.tmp 31) (.tmp 32) rfl 0 rfl rfl t7'.out hbw'.out hsz' (by simp; omega) ?_; intro v2 w2 h1 h2 h3 h4; have t5 := Aside0.mk (t5'.out.grown h3 n57.out); have t6 := Aside0.mk (t6'.out.grown h3 n67'.out); have t7 := Aside0.mk h1; have m57 := Aside0.mk (NE.after t5'.out n57.out h4); have n67 := Aside0.mk (NE.after t6'.out n67'.out h4); have hbw := Aside0.mk h2; clear t5' t6' t7' n57 n67' hbw' h1 h2 h3 h4))
   go_roundw
   case rel => exact ⟨k + 1, by omega, by go_num, t5, ⟨by rw [List.range_succ, List.map_append]; exact t6.out⟩, ⟨by rw [List.replicate_succ']; exact t7.out⟩, n56', m57, n67, hbw⟩
   case measure => simp [intOf]; omega
  ·obtain rfl : k = n := by omega
   have hlt' : decide ((k : Int) < (k : Int)) = false := by simp
   go_wp2_with (fail)
   obtain ⟨g6, c6, e6, hB6, -⟩ := t6.out.form (by simp; omega)
   obtain ⟨g7, c7, e7, hB7, -⟩ := t7.out.form (by simp; omega)
   simp only [List.length_map, List.length_range, List.length_replicate] at e6 e7
   subst e6
   subst e7
   have hne : g6 ≠ g7 := fun e => n67.out g6 rfl (by rw [e]; rfl)
   have HL := Aside0.mk (at_len (k : Int) l)
   have HO := Aside0.mk (at_out (k : Int) l)
   clear hc0 hsz
   go_loopw [5, 9] (fun v5 v9 wz => ∃ i : Nat, i ≤ l.length ∧ v9 = .int .i64 i ∧ Aside0 (T w.heap.size wz v5 (at_ k l i).out) ∧ Aside0 (T w.heap.size wz (.slice (some ⟨g6, 0, none⟩) k c6) (at_ k l i).part) ∧ Aside0 (T w.heap.size wz (.slice (some ⟨g7, 0, none⟩) k c7) (at_ k l i).hts) ∧
     Aside0 (NE v5 (.slice (some ⟨g6, 0, none⟩) k c6)) ∧ Aside0 (NE v5 (.slice (some ⟨g7, 0, none⟩) k c7)) ∧ Aside0 (Below w.heap.size w wz)) (fun _ i _ => l.length - (intOf i).toNat)
   case atStart => exact ⟨0, by omega, rfl, ⟨by rw [at_zero]; exact t5.out⟩, ⟨by rw [at_zero]; exact t6.out⟩, ⟨by rw [at_zero]; exact t7.out⟩, n56, n57, hbw⟩
   case round =>
    clear t5 t6 t7 n56 n57 n67 hbw
    obtain ⟨i, hi, rfl, t5, t6, t7, n56, n57, hbw⟩ := hrel
    have HB1 := Aside0.mk (blk_below HBK.out hbw.out)
    have hc0 : wr.cell? ⟨g, 0, none⟩ = some (.int .i64 k) := (blk_cell HB1.out 0).trans rfl
    have hc1 : wr.cell? ⟨g, 1, none⟩ = some (.slice A l.length c) := (blk_cell HB1.out 1).trans rfl
    have hsz := hbw.out.size
    have hlp : (at_ k l i).part.length = k := by have := (HL.out i).1; simpa using this
    have hlh : (at_ k l i).hts.length = k := by have := (HL.out i).2; simpa using this
    have hol := HO.out i
    by_cases hlt : i < l.length
    ·have hlt' : decide ((i : Int) < (l.length : Int)) = true := by simpa using hlt
     have hr1 := Kd.C_below HR.out hbw.out
     obtain ⟨ad, rfl, hx0, hx1, hx2, hx3⟩ := at_T32 hr1 (i : Int) (by omega) (by omega)
     clear hr1
     simp only [Int.toNat_natCast] at hx0 hx1 hx2 hx3
     obtain ⟨hs0, hs1, hs2, hs3⟩ := valid_at HV.out i hlt
     have HS := Aside0.mk (at_succ k l i hlt)
     obtain ⟨st, hst⟩ : ∃ st, st = at_ k l i := ⟨_, rfl⟩
     obtain ⟨s, hs⟩ : ∃ s, s = rd_T32 l i := ⟨_, rfl⟩
     rw [← hst] at t5 t6 t7 hlp hlh hol HS
     rw [← hs] at hx0 hx1 hx2 hx3 hs0 hs1 hs2 hs3 HS
     clear hst hs
     have hg6 : g6 < wr.heap.size := t6.out.lt rfl
     have hg7 : g7 < wr.heap.size := t7.out.lt rfl
     have hp0 := (Kd.R_celln 0 t6.out s.f0 hs0 hs1).1
     have hp1 := (Kd.R_celln 0 t6.out s.f1 hs2 hs3).1
     change wr.cell? ⟨g6, s.f0.toNat, none⟩ = some (.int .i64 (rd st.part s.f0)) at hp0
     change wr.cell? ⟨g6, s.f1.toNat, none⟩ = some (.int .i64 (rd st.part s.f1)) at hp1
     by_cases hab : rd st.part s.f0 = rd st.part s.f1
     ·have hab' : (rd st.part s.f0 == rd st.part s.f1) = true := by simpa using hab
      have HE := Aside0.mk (show step st (s, i) = st by simp [step, hab])
      clear hab
      go_wp2_with (fail)
      go_roundw
      case rel =>
       have hbl := below_alloc (Below.refl wr.heap.size wr) (.cells #[.int .i64 s.f0, .int .i64 s.f1, .int .i64 s.f2, .int .i64 s.f3] 32)
       exact ⟨i + 1, by omega, by go_num, ⟨by rw [HS.out, HE.out]; exact t5.out.below hbl⟩, ⟨by rw [HS.out, HE.out]; exact t6.out.below hbl⟩, ⟨by rw [HS.out, HE.out]; exact t7.out.below hbl⟩, n56, n57, ⟨below_step hbw.out hbl⟩⟩
      case measure => simp [intOf]; omega
     ·have hab' : (rd st.part s.f0 == rd st.part s.f1) = false := by simpa using hab
      have hbl := below_alloc (Below.refl wr.heap.size wr) (.cells #[.int .i64 s.f0, .int .i64 s.f1, .int .i64 s.f2, .int .i64 s.f3] 32)
      have a5 := Aside0.mk (t5.out.below hbl)
      have a6 := Aside0.mk (t6.out.below hbl)
      have a7 := Aside0.mk (t7.out.below hbl)
      have ab := Aside0.mk (below_step hbw.out hbl)
      have ax := Aside0.mk (heap_alloc_new wr (.cells #[.int .i64 s.f0, .int .i64 s.f1, .int .i64 s.f2, .int .i64 s.f3] 32))
      have a5x := Aside0.mk (fun e : some wr.heap.size = _ => Nat.lt_irrefl _ (t5.out.lt e.symm))
      have hsz1 : w.heap.size ≤ (wr.alloc (.cells #[.int .i64 s.f0, .int .i64 s.f1, .int .i64 s.f2, .int .i64 s.f3] 32)).heap.size := below_size ab.out
      clear hbl
      go_wp2_with (first
       | ((with_reducible refine gate_builtin (b := .append) (xs := #[.tmp 63, .tmp 65]) rfl ?_); at_builtin; refine T.append (w0 := w) rfl rfl (.tmp 63) (.tmp 65) rfl (i : Int) rfl ?hx a5.out ab.out hsz1 (by omega) ?_; (case hx => (go_simp; done)); intro v1 w1 h1 h2 h3 h4; have b5 := Aside0.mk h1; have b6 := Aside0.mk (a6.out.grown h3 n56.out.symm); have b7 := Aside0.mk (a7.out.grown h3 n57.out.symm); have m56 := Aside0.mk (NE.after a6.out n56.out.symm h4).symm; have m57 := Aside0.mk (NE.after a7.out n57.out.symm h4).symm; have bb := Aside0.mk h2; have bx := Aside0.mk (blk_grown ax.out h3 a5x.out); clear a5 a6 a7 n56 n57 ab h1 h2 h3 h4))
      have hy0 : w1.cell? ⟨wr.heap.size, 0, none⟩ = some (.int .i64 s.f0) := (blk_cell bx.out 0).trans rfl
      have hy1 : w1.cell? ⟨wr.heap.size, 1, none⟩ = some (.int .i64 s.f1) := (blk_cell bx.out 1).trans rfl
      have hy2 : w1.cell? ⟨wr.heap.size, 2, none⟩ = some (.int .i64 s.f2) := (blk_cell bx.out 2).trans rfl
      have hq0 := (Kd.R_celln 0 b7.out s.f0 hs0 hs1).1
      have hq1 := (Kd.R_celln 0 b7.out s.f1 hs2 hs3).1
      change w1.cell? ⟨g7, s.f0.toNat, none⟩ = some (.int .i64 (rd st.hts s.f0)) at hq0
      change w1.cell? ⟨g7, s.f1.toNat, none⟩ = some (.int .i64 (rd st.hts s.f1)) at hq1
      go_quiet (fail)
      have HST := Aside0.mk (show step st (s, i) = ⟨st.out ++ [(i : Int)], newPart st.part (rd st.part s.f0) (rd st.part s.f1), newHts st.part st.hts (rd st.part s.f0) (rd st.part s.f1) (liftOf st s)⟩ by simp [step, hab])
      have n67' := Aside0.mk (NE.of (n1 := k) (c1 := c6) (n2 := k) (c2 := c7) hne)
      clear hab
      by_cases hgt : rd st.part s.f1 < rd st.part s.f0
      ·have hgt' : decide (rd st.part s.f1 < rd st.part s.f0) = true := by simpa using hgt
       have HLF := Aside0.mk (show liftOf st s = wrap64 (-wrap64 (wrap64 (rd st.hts s.f0 + s.f2) - rd st.hts s.f1)) by simp [liftOf, hgt])
       clear hgt
       go_wp2_with (fail)
       have hdn := pw_below_drewN (Below.refl w1.heap.size w1) nq
       go_loopw [14] (fun v14 wz => ∃ j : Nat, j ≤ k ∧ v14 = .int .i64 j ∧ Aside0 (T w.heap.size wz v1 (st.out ++ [(i : Int)])) ∧ Aside0 (T w.heap.size wz (.slice (some ⟨g6, 0, none⟩) k c6) (upd (newPart st.part (rd st.part s.f0) (rd st.part s.f1)) st.part j)) ∧
         Aside0 (T w.heap.size wz (.slice (some ⟨g7, 0, none⟩) k c7) (upd (newHts st.part st.hts (rd st.part s.f0) (rd st.part s.f1) (wrap64 (-wrap64 (wrap64 (rd st.hts s.f0 + s.f2) - rd st.hts s.f1)))) st.hts j)) ∧ Aside0 (Below w.heap.size w wz)) (fun v _ => k - (intOf v).toNat)
       case atStart => exact ⟨0, by omega, rfl, ⟨b5.out.below hdn⟩, ⟨by rw [upd_zero]; exact b6.out.below hdn⟩, ⟨by rw [upd_zero]; exact b7.out.below hdn⟩, ⟨below_step bb.out hdn⟩⟩
       case round =>
        clear hx0 hx1 hx2 hx3 hy0 hy1 hy2 hq0 hq1 hp0 hp1 hc0 hc1 hdn
        clear hg6 hg7 b5 b6 b7 bb bx
        obtain ⟨j, hj, rfl, r5, r6, r7, rb⟩ := hrel
        have hc0 : wr.cell? ⟨g, 0, none⟩ = some (.int .i64 k) := (blk_cell (blk_below HBK.out rb.out) 0).trans rfl
        by_cases hjk : j < k
        ·have hjk' : decide ((j : Int) < (k : Int)) = true := by simpa using hjk
         have hpc := (r6.out.cell j hjk).1
         rw [rd_upd (newPart_len ..) (by omega)] at hpc
         by_cases hm : rd st.part j = mxI (rd st.part s.f0) (rd st.part s.f1)
         ·have hm' : (rd st.part j == mxI (rd st.part s.f0) (rd st.part s.f1)) = true := by simpa using hm
          have HP := Aside0.mk (np_hit (a := rd st.part s.f0) (b := rd st.part s.f1) (by omega) hm)
          have HH := Aside0.mk (nh_hit (hts := st.hts) (lf := wrap64 (-wrap64 (wrap64 (rd st.hts s.f0 + s.f2) - rd st.hts s.f1))) (a := rd st.part s.f0) (b := rd st.part s.f1) (by omega) (by omega) hm)
          clear hm
          go_wp2_with (fail)
          go_quiet ((go_at_call 95; exact Calls.quiet_of_same (max_any _ _ _)))
          have hdq := pw_below_drewN (Below.refl wr.heap.size wr) nq
          have q5 := Aside0.mk (r5.out.below hdq)
          have q6 := Aside0.mk (r6.out.below hdq)
          have q7 := Aside0.mk (r7.out.below hdq)
          have qb := Aside0.mk (below_step rb.out hdq)
          clear hdq r5 r6 r7
          have s6 := Aside0.mk (q6.out.put j (mnI (rd st.part s.f0) (rd st.part s.f1)))
          have s7 := Aside0.mk (T.grown (v := .slice (some ⟨g6, 0, none⟩) k c6) q7.out s6.out.2 n67'.out.symm)
          have s5 := Aside0.mk (T.grown (v := .slice (some ⟨g6, 0, none⟩) k c6) q5.out s6.out.2 m56.out)
          obtain ⟨hz1, hz2⟩ := q6.out.cell j hjk
          obtain ⟨hz3, hz4⟩ := s7.out.cell j hjk
          rw [rd_upd (newHts_len _ _ _ _ _ (by omega)) (by omega)] at hz3
          go_wp2_with (go_at_call 129; refine (min_any _ _ _).mono ?_; rintro e w' ⟨rfl, rfl⟩)
          have z7 := Aside0.mk (s7.out.put j (wrap64 (rd st.hts j + (wrap64 (-wrap64 (wrap64 (rd st.hts s.f0 + s.f2) - rd st.hts s.f1))))))
          go_roundw
          case rel => exact ⟨j + 1, by omega, by go_num, ⟨T.grown (v := .slice (some ⟨g7, 0, none⟩) k c7) s5.out z7.out.2 m57.out⟩, ⟨by rw [← HP.out]; exact T.grown (v := .slice (some ⟨g7, 0, none⟩) k c7) s6.out.1 z7.out.2 n67'.out⟩, ⟨by rw [← HH.out]; exact z7.out.1⟩, ⟨(qb.out.setCell hB6 _).setCell hB7 _⟩⟩
          case measure => simp [intOf]; omega
         ·have hm' : (rd st.part j == mxI (rd st.part s.f0) (rd st.part s.f1)) = false := by simpa using hm
          have HP := Aside0.mk (np_miss (a := rd st.part s.f0) (b := rd st.part s.f1) (by omega) hm)
          have HH := Aside0.mk (nh_miss (hts := st.hts) (lf := wrap64 (-wrap64 (wrap64 (rd st.hts s.f0 + s.f2) - rd st.hts s.f1))) (a := rd st.part s.f0) (b := rd st.part s.f1) (by omega) (by omega) hm)
          clear hm
          go_wp2_with (fail)
          go_quiet ((go_at_call 95; exact Calls.quiet_of_same (max_any _ _ _)))
          have hdq := pw_below_drewN (Below.refl wr.heap.size wr) nq
          go_wp2_with (fail)
          go_roundw
          case rel => exact ⟨j + 1, by omega, by go_num, ⟨r5.out.below hdq⟩, ⟨by rw [HP.out]; exact r6.out.below hdq⟩, ⟨by rw [HH.out]; exact r7.out.below hdq⟩, ⟨below_step rb.out hdq⟩⟩
          case measure => simp [intOf]; omega
        ·obtain rfl : j = k := by omega
         have hjk' : decide ((j : Int) < (j : Int)) = false := by simp
         go_wp2_with (fail)
         go_roundw
         case rel => exact ⟨i + 1, by omega, by go_num, ⟨by rw [HS.out, HST.out]; exact r5.out⟩, ⟨by rw [HS.out, HST.out]; have h := r6.out; rw [← hlp, upd_all (newPart_len ..), hlp] at h; exact h⟩, ⟨by rw [HS.out, HST.out]; have h := r7.out; rw [← hlh, upd_all (newHts_len _ _ _ _ _ (by omega)), ← HLF.out, hlh] at h; exact h⟩, m56, m57, rb⟩
         case measure => simp [intOf]; omega
      ·have hgt' : decide (rd st.part s.f1 < rd st.part s.f0) = false := by simpa using hgt
       have HLF := Aside0.mk (show liftOf st s = wrap64 (wrap64 (rd st.hts s.f0 + s.f2) - rd st.hts s.f1) by simp [liftOf, hgt])
       clear hgt
       go_wp2_with (fail)
       have hdn := pw_below_drewN (Below.refl w1.heap.size w1) nq
       go_loopw [14] (fun v14 wz => ∃ j : Nat, j ≤ k ∧ v14 = .int .i64 j ∧ Aside0 (T w.heap.size wz v1 (st.out ++ [(i : Int)])) ∧ Aside0 (T w.heap.size wz (.slice (some ⟨g6, 0, none⟩) k c6) (upd (newPart st.part (rd st.part s.f0) (rd st.part s.f1)) st.part j)) ∧
         Aside0 (T w.heap.size wz (.slice (some ⟨g7, 0, none⟩) k c7) (upd (newHts st.part st.hts (rd st.part s.f0) (rd st.part s.f1) (wrap64 (wrap64 (rd st.hts s.f0 + s.f2) - rd st.hts s.f1))) st.hts j)) ∧ Aside0 (Below w.heap.size w wz)) (fun v _ => k - (intOf v).toNat)
       case atStart => exact ⟨0, by omega, rfl, ⟨b5.out.below hdn⟩, ⟨by rw [upd_zero]; exact b6.out.below hdn⟩, ⟨by rw [upd_zero]; exact b7.out.below hdn⟩, ⟨below_step bb.out hdn⟩⟩
       case round =>
        clear hx0 hx1 hx2 hx3 hy0 hy1 hy2 hq0 hq1 hp0 hp1 hc0 hc1 hdn
        clear hg6 hg7 b5 b6 b7 bb bx
        obtain ⟨j, hj, rfl, r5, r6, r7, rb⟩ := hrel
        have hc0 : wr.cell? ⟨g, 0, none⟩ = some (.int .i64 k) := (blk_cell (blk_below HBK.out rb.out) 0).trans rfl
        by_cases hjk : j < k
        ·have hjk' : decide ((j : Int) < (k : Int)) = true := by simpa using hjk
         have hpc := (r6.out.cell j hjk).1
         rw [rd_upd (newPart_len ..) (by omega)] at hpc
         by_cases hm : rd st.part j = mxI (rd st.part s.f0) (rd st.part s.f1)
         ·have hm' : (rd st.part j == mxI (rd st.part s.f0) (rd st.part s.f1)) = true := by simpa using hm
          have HP := Aside0.mk (np_hit (a := rd st.part s.f0) (b := rd st.part s.f1) (by omega) hm)
          have HH := Aside0.mk (nh_hit (hts := st.hts) (lf := wrap64 (wrap64 (rd st.hts s.f0 + s.f2) - rd st.hts s.f1)) (a := rd st.part s.f0) (b := rd st.part s.f1) (by omega) (by omega) hm)
          clear hm
          go_wp2_with (fail)
          go_quiet ((go_at_call 95; exact Calls.quiet_of_same (max_any _ _ _)))
          have hdq := pw_below_drewN (Below.refl wr.heap.size wr) nq
          have q5 := Aside0.mk (r5.out.below hdq)
          have q6 := Aside0.mk (r6.out.below hdq)
          have q7 := Aside0.mk (r7.out.below hdq)
          have qb := Aside0.mk (below_step rb.out hdq)
          clear hdq r5 r6 r7
          have s6 := Aside0.mk (q6.out.put j (mnI (rd st.part s.f0) (rd st.part s.f1)))
          have s7 := Aside0.mk (T.grown (v := .slice (some ⟨g6, 0, none⟩) k c6) q7.out s6.out.2 n67'.out.symm)
          have s5 := Aside0.mk (T.grown (v := .slice (some ⟨g6, 0, none⟩) k c6) q5.out s6.out.2 m56.out)
          obtain ⟨hz1, hz2⟩ := q6.out.cell j hjk
          obtain ⟨hz3, hz4⟩ := s7.out.cell j hjk
          rw [rd_upd (newHts_len _ _ _ _ _ (by omega)) (by omega)] at hz3
          go_wp2_with (go_at_call 129; refine (min_any _ _ _).mono ?_; rintro e w' ⟨rfl, rfl⟩)
          have z7 := Aside0.mk (s7.out.put j (wrap64 (rd st.hts j + (wrap64 (wrap64 (rd st.hts s.f0 + s.f2) - rd st.hts s.f1)))))
          go_roundw
          case rel => exact ⟨j + 1, by omega, by go_num, ⟨T.grown (v := .slice (some ⟨g7, 0, none⟩) k c7) s5.out z7.out.2 m57.out⟩, ⟨by rw [← HP.out]; exact T.grown (v := .slice (some ⟨g7, 0, none⟩) k c7) s6.out.1 z7.out.2 n67'.out⟩, ⟨by rw [← HH.out]; exact z7.out.1⟩, ⟨(qb.out.setCell hB6 _).setCell hB7 _⟩⟩
          case measure => simp [intOf]; omega
         ·have hm' : (rd st.part j == mxI (rd st.part s.f0) (rd st.part s.f1)) = false := by simpa using hm
          have HP := Aside0.mk (np_miss (a := rd st.part s.f0) (b := rd st.part s.f1) (by omega) hm)
          have HH := Aside0.mk (nh_miss (hts := st.hts) (lf := wrap64 (wrap64 (rd st.hts s.f0 + s.f2) - rd st.hts s.f1)) (a := rd st.part s.f0) (b := rd st.part s.f1) (by omega) (by omega) hm)
          clear hm
          go_wp2_with (fail)
          go_quiet ((go_at_call 95; exact Calls.quiet_of_same (max_any _ _ _)))
          have hdq := pw_below_drewN (Below.refl wr.heap.size wr) nq
          go_wp2_with (fail)
          go_roundw
          case rel => exact ⟨j + 1, by omega, by go_num, ⟨r5.out.below hdq⟩, ⟨by rw [HP.out]; exact r6.out.below hdq⟩, ⟨by rw [HH.out]; exact r7.out.below hdq⟩, ⟨below_step rb.out hdq⟩⟩
          case measure => simp [intOf]; omega
        ·obtain rfl : j = k := by omega
         have hjk' : decide ((j : Int) < (j : Int)) = false := by simp
         go_wp2_with (fail)
         go_roundw
         case rel => exact ⟨i + 1, by omega, by go_num, ⟨by rw [HS.out, HST.out]; exact r5.out⟩, ⟨by rw [HS.out, HST.out]; have h := r6.out; rw [← hlp, upd_all (newPart_len ..), hlp] at h; exact h⟩, ⟨by rw [HS.out, HST.out]; have h := r7.out; rw [← hlh, upd_all (newHts_len _ _ _ _ _ (by omega)), ← HLF.out, hlh] at h; exact h⟩, m56, m57, rb⟩
         case measure => simp [intOf]; omega
    ·obtain rfl : i = l.length := by omega
     rw [at_all] at t5 t6 t7 hlp hlh
     have hlt' : decide ((l.length : Int) < (l.length : Int)) = false := by simp
     have he5 := Aside0.mk (fun hh : (treeS (k : Int) l).part.all (· == 0) = true => (show Ends w k l (.returned (.tuple #[_, .slice (some ⟨g7, 0, none⟩) k c7, .bool true])) wr from ⟨_, _, true, rfl, hh.symm, t5.out, t7.out, n57.out, hbw.out⟩))
     have he0 := Aside0.mk (fun hh : (treeS (k : Int) l).part.all (· == 0) = false => (show Ends w k l (.returned (.tuple #[.slice none 0 0, .slice none 0 0, .bool false])) wr from ⟨_, _, false, rfl, hh.symm, T.nil, T.nil, NE.nil, hbw.out⟩))
     clear t5 t7 n56 n57 hbw HO HL hol hlh
     go_wp2_with (fail)
     go_loop [15] (fun v => ∃ j : Nat, j ≤ k ∧ v = .int .i64 j ∧ Aside0 (((treeS (k : Int) l).part.take j).all (· == 0) = true)) (fun v => k - (intOf v).toNat)
     case atStart => exact ⟨0, by omega, rfl, ⟨by simp⟩⟩
     case round =>
      obtain ⟨j, hj, rfl, ha⟩ := hrel
      by_cases hjk : j < k
      ·have hjk' : decide ((j : Int) < (k : Int)) = true := by simpa using hjk
       have hpc := (t6.out.cell j hjk).1
       have ht := Aside0.mk (show (treeS (k : Int) l).part.take (j + 1) = (treeS (k : Int) l).part.take j ++ [rd (treeS (k : Int) l).part j] by rw [List.take_succ_eq_append_getElem (by omega), rd_nat _ _ (by omega)])
       by_cases h0 : rd (treeS (k : Int) l).part j = 0
       ·have h0' : (rd (treeS (k : Int) l).part j != 0) = false := by simpa using h0
        have ha1 := Aside0.mk (show ((treeS (k : Int) l).part.take (j + 1)).all (· == 0) = true by rw [ht.out, List.all_append, ha.out]; simp [h0])
        clear h0
        go_wp2_with (fail)
        go_round
        case rel => exact ⟨j + 1, by omega, by go_num, ha1⟩
        case measure => simp [intOf]; omega
       ·have h0' : (rd (treeS (k : Int) l).part j != 0) = true := by simpa using h0
        have hf := Aside0.mk (show (treeS (k : Int) l).part.all (· == 0) = false by rw [List.all_eq_false]; exact ⟨rd (treeS (k : Int) l).part j, by rw [rd_nat _ _ (by omega)]; exact List.getElem_mem _, by simpa using h0⟩)
        clear h0
        go_wp2_with (fail)
        go_ret3
        exact he0.out hf.out
      ·obtain rfl : j = k := by omega
       have hjk' : decide ((j : Int) < (j : Int)) = false := by simp
       have hf := Aside0.mk (show (treeS (j : Int) l).part.all (· == 0) = true by have h := ha.out; rwa [List.take_of_length_le (by omega)] at h)
       go_wp2_with (fail)
       go_ret3
       exact he5.out hf.out
end Go.Proofs.Ytkafbmanmffliaa.Hd

namespace Go.Proofs.Ytkafbmanmffliaa.Q
open Go.RowKit YtkafbmanmffliaaW.PrintWords YtkafbmanmffliaaW.PrintLast YtkafbmanmffliaaW.PrintMore
attribute [local go_sem] max2_int min2_int max_two min_two max_three min_three max_four min_four
def spec_l10Tree.f (s0_0 : Int) (s0_1 : List (S32)) : Option (List Int × List Int × Bool × Int) :=
 if Hb.surveyB s0_0 s0_1 = true then (if (Hd.treeS s0_0 s0_1).part.all (· == 0) = true then some ((Hd.treeS s0_0 s0_1).out, (Hd.treeS s0_0 s0_1).hts, true, s0_0) else some ([], [], false, s0_0)) else none
theorem spec_l10Tree.calls (g : Nat) (s0_0 : Int) (s0_1 : List (S32)) (r1 : List Int) (r2 : List Int) (r3 : Bool) (r4 : Int) (w0 w : World) (hI : IsS26 w0 w g s0_0 s0_1) (hB : Below w0.heap.size w0 w) (h : spec_l10Tree.f s0_0 s0_1 = some (r1, r2, r3, r4)) :
  Calls Try.prog 99 #[.pointer (some ⟨g, 0, none⟩)] w fun e w' => ∃ v0_ v1_ : Value, e = .returned (.tuple #[v0_, v1_, .bool r3]) ∧ Kd.R (Kd.int .i64) 2 w' w.heap.size (fun k_ => some k_ ≠ (v1_ : Value).ownBlock) v0_ r1 ∧ Kd.R (Kd.int .i64) 2 w' w.heap.size (fun k_ => some k_ ≠ (v0_ : Value).ownBlock) v1_ r2 ∧ IsS26 w0 w' g r4 s0_1 ∧ Below w0.heap.size w0 w' ∧ KeepBut w w' g none := by
 unfold spec_l10Tree.f at h
 by_cases hv : Hb.surveyB s0_0 s0_1 = true
 ·rw [if_pos hv] at h
  obtain ⟨A1, c1, hb, hg, hr⟩ := hI
  refine (Hd.l10Tree_any g s0_0 A1 c1 s0_1 w hb (Kd.C_below hr hB) hv).mono ?_
  rintro e w' ⟨v0, v1, ok, rfl, hok, t0, t1, ne, hw⟩
  have hres : r1 = (if ok then (Hd.treeS s0_0 s0_1).out else []) ∧ r2 = (if ok then (Hd.treeS s0_0 s0_1).hts else []) ∧ r3 = ok ∧ r4 = s0_0 := by
   subst hok
   by_cases ha : (Hd.treeS s0_0 s0_1).part.all (· == 0) = true
   ·rw [if_pos ha] at h; simp only [Option.some.injEq, Prod.mk.injEq] at h; obtain ⟨rfl, rfl, rfl, rfl⟩ := h; simp [ha]
   ·rw [if_neg ha] at h; simp only [Option.some.injEq, Prod.mk.injEq] at h; obtain ⟨rfl, rfl, rfl, rfl⟩ := h; simp [ha]
  obtain ⟨rfl, rfl, rfl, rfl⟩ := hres
  exact ⟨v0, v1, rfl, Kd.R_reok rfl t0 (fun k hk e => ne k hk e.symm), Kd.R_reok rfl t1 (fun k hk e => ne.symm k hk e.symm), IsS26.below ⟨A1, c1, hb, hg, hr⟩ hw, below_then hB hB.size hw, KeepBut.of_below hw g none⟩
 ·rw [if_neg hv] at h; cases h
end Go.Proofs.Ytkafbmanmffliaa.Q

namespace Go.Proofs.Ytkafbmanmffliaa.Q
open Go.RowKit YtkafbmanmffliaaW.PrintWords YtkafbmanmffliaaW.PrintLast YtkafbmanmffliaaW.PrintMore
attribute [local go_sem] max2_int min2_int max_two min_two max_three min_three max_four min_four
def spec_l10Whole.f (s0_0 : Int) (s0_1 : List (S32)) : Option (Bool × Int) := (spec_l10Is.f s0_0 s0_1).bind fun bt196 => (if bt196.1 = true then ((spec_l10Tree.f bt196.2 s0_1).bind fun bt198 => (some (bt198.2.2.1, bt198.2.2.2))) else (some (false, bt196.2)))
set_option maxHeartbeats 8000000 in
set_option maxRecDepth 100000 in
theorem spec_l10Whole.calls (g : Nat) (s0_0 : Int) (s0_1 : List (S32)) (r1 : Bool) (r2 : Int) (w0 w : World) (hI : IsS26 w0 w g s0_0 s0_1) (hB : Below w0.heap.size w0 w) (h : spec_l10Whole.f s0_0 s0_1 = some (r1, r2)) :
  Calls Try.prog 58 #[.pointer (some ⟨g, 0, none⟩)] w fun e w' => e = .returned (.bool r1) ∧ IsS26 w0 w' g r2 s0_1 ∧ Below w0.heap.size w0 w' ∧ KeepBut w w' g none := by
 have HI0 := Aside0.mk hI
 have HK := Aside0.mk (KeepBut.refl w g none)
 have HL := Aside0.mk hB.size
 clear hI
 have HW0 := Aside0.mk hB.size
 have HB := Aside0.mk hB
 clear hB
 have H : ((spec_l10Is.f s0_0 s0_1).bind fun bt196 => (if bt196.1 = true then ((spec_l10Tree.f bt196.2 s0_1).bind fun bt198 => (some (bt198.2.2.1, bt198.2.2.2))) else (some (false, bt196.2)))) = some (r1, r2) := h
 clear h
 replace H := Option.bind_eq_some_iff.mp H
 obtain ⟨⟨t196, t197⟩, A20, H⟩ := H
 replace H : (if t196 = true then ((spec_l10Tree.f t197 s0_1).bind fun bt198 => (some (bt198.2.2.1, bt198.2.2.2))) else (some (false, t197))) = some (r1, r2) := H
 have A2 := Aside0.mk A20
 clear A20
 by_cases c3 : t196 = true
 ·subst c3
  have H1 : ((spec_l10Tree.f t197 s0_1).bind fun bt198 => (some (bt198.2.2.1, bt198.2.2.2))) = some (r1, r2) := by rw [if_pos rfl] at H; exact H
  clear H
  have H := H1
  clear H1
  replace H := Option.bind_eq_some_iff.mp H
  obtain ⟨⟨t198, t201, t204, t205⟩, A40, H⟩ := H
  replace H : (some (t204, t205)) = some (r1, r2) := H
  have A4 := Aside0.mk A40
  clear A40
  simp only [Option.some.injEq, Prod.mk.injEq] at H
  obtain ⟨rfl, rfl⟩ := H
  go_enter Try.func58, Try.ntmps58
  go_wp2_with (first | ((with_reducible refine gate_callee (f := 98) rfl ?_); refine goesL_ (some 7) rfl rfl Try.func98 (by kernel_rfl) rfl #[.pointer (some ⟨g, 0, none⟩)] rfl (by (try simp only [List.map_toArray, List.map_cons, List.map_nil]); first | done | rfl | (simp only [List.length_drop, List.length_take]; rfl)) ?_; (with_reducible refine (spec_l10Is.calls g s0_0 s0_1 true t197 w0 _ ?side1 ?side2 A2.out).mono ?_); (case side1 => repeat (first | (with_reducible first | exact HI0.out | apply IsS26.alloc | apply IsS26.drewN | apply IsS26.drew | apply IsS26.set_0) | exact HI0.out)); (case side2 => repeat (first | (with_reducible first | exact HB.out | apply below_alloc | apply pw_below_drewN | apply below_drew1 | refine below_set ?_ (IsS26.ge HI0.out)) | exact HB.out)); rintro e w5 ⟨rfl, hi, hb, hk⟩; refine ⟨_, rfl, ?_⟩; have n0_ := Aside0.mk (KeepBut.trans (by repeat (first | (with_reducible first | exact HK.out | apply KeepBut.set_ | apply keep_drewN | apply keep_drew | apply keep_alloc) | exact HK.out)) hk (.inl rfl)); have n1_ := Aside0.mk (hb); have n2_ := Aside0.mk (hi); clear HK; clear HB; clear HI0; have HK := n0_; have HB := n1_; have HI0 := n2_; clear n0_ n1_ n2_; (try clear hb); (try clear hb2); (try clear hk); (try clear hi)) | ((with_reducible refine gate_callee (f := 99) rfl ?_); refine goesL_ (some 11) rfl rfl Try.func99 (by kernel_rfl) rfl #[.pointer (some ⟨g, 0, none⟩)] rfl (by (try simp only [List.map_toArray, List.map_cons, List.map_nil]); first | done | rfl | (simp only [List.length_drop, List.length_take]; rfl)) ?_; (with_reducible refine (spec_l10Tree.calls g t197 s0_1 t198 t201 t204 t205 w0 _ ?side1 ?side2 A4.out).mono ?_); (case side1 => repeat (first | (with_reducible first | exact HI0.out | apply IsS26.alloc | apply IsS26.drewN | apply IsS26.drew | apply IsS26.set_0) | exact HI0.out)); (case side2 => repeat (first | (with_reducible first | exact HB.out | apply below_alloc | apply pw_below_drewN | apply below_drew1 | refine below_set ?_ (IsS26.ge HI0.out)) | exact HB.out)); rintro e w6 ⟨v199, v202, rfl, ho0, ho1, hi, hb, hk⟩; refine ⟨_, rfl, ?_⟩; have n0_ := Aside0.mk (Kd.R_lower ho0 (keep_size (w := w) (g := g) (row := none) (by repeat (first | (with_reducible first | exact HK.out | apply KeepBut.set_ | apply keep_drewN | apply keep_drew | apply keep_alloc) | exact HK.out)))); have n1_ := Aside0.mk (Kd.R_lower ho1 (keep_size (w := w) (g := g) (row := none) (by repeat (first | (with_reducible first | exact HK.out | apply KeepBut.set_ | apply keep_drewN | apply keep_drew | apply keep_alloc) | exact HK.out)))); have n2_ := Aside0.mk (KeepBut.trans (by repeat (first | (with_reducible first | exact HK.out | apply KeepBut.set_ | apply keep_drewN | apply keep_drew | apply keep_alloc) | exact HK.out)) hk (.inl rfl)); have n3_ := Aside0.mk (hb); have n4_ := Aside0.mk (hi); clear HK; clear HB; clear HI0; have HO200 := n0_; have HO203 := n1_; have HK := n2_; have HB := n3_; have HI0 := n4_; clear n0_ n1_ n2_ n3_ n4_; (try clear hb); (try clear hb2); (try clear hk); (try clear hi); (try clear ho0); (try clear ho1)))
  go_ret
  exact ⟨by first | rfl | (simp [errW_none, errW_some] <;> rfl) | (simp [*, errW_none, errW_some] <;> rfl), by repeat (first | (with_reducible first | exact HI0.out | apply IsS26.alloc | apply IsS26.drewN | apply IsS26.drew | apply IsS26.set_0) | exact HI0.out), by repeat (first | (with_reducible first | exact HB.out | apply below_alloc | apply pw_below_drewN | apply below_drew1 | refine below_set ?_ (IsS26.ge HI0.out)) | exact HB.out), by repeat (first | (with_reducible first | exact HK.out | apply KeepBut.set_ | apply keep_drewN | apply keep_drew | apply keep_alloc) | exact HK.out)⟩
 ·replace c3 := Bool.eq_false_iff.mpr c3
  subst c3
  have H1 : (some (false, t197)) = some (r1, r2) := by rw [if_neg (show ¬ (false = true) by decide)] at H; exact H
  clear H
  have H := H1
  clear H1
  simp only [Option.some.injEq, Prod.mk.injEq] at H
  obtain ⟨rfl, rfl⟩ := H
  go_enter Try.func58, Try.ntmps58
  go_wp2_with (first | ((with_reducible refine gate_callee (f := 98) rfl ?_); refine goesL_ (some 7) rfl rfl Try.func98 (by kernel_rfl) rfl #[.pointer (some ⟨g, 0, none⟩)] rfl (by (try simp only [List.map_toArray, List.map_cons, List.map_nil]); first | done | rfl | (simp only [List.length_drop, List.length_take]; rfl)) ?_; (with_reducible refine (spec_l10Is.calls g s0_0 s0_1 false t197 w0 _ ?side1 ?side2 A2.out).mono ?_); (case side1 => repeat (first | (with_reducible first | exact HI0.out | apply IsS26.alloc | apply IsS26.drewN | apply IsS26.drew | apply IsS26.set_0) | exact HI0.out)); (case side2 => repeat (first | (with_reducible first | exact HB.out | apply below_alloc | apply pw_below_drewN | apply below_drew1 | refine below_set ?_ (IsS26.ge HI0.out)) | exact HB.out)); rintro e w7 ⟨rfl, hi, hb, hk⟩; refine ⟨_, rfl, ?_⟩; have n0_ := Aside0.mk (KeepBut.trans (by repeat (first | (with_reducible first | exact HK.out | apply KeepBut.set_ | apply keep_drewN | apply keep_drew | apply keep_alloc) | exact HK.out)) hk (.inl rfl)); have n1_ := Aside0.mk (hb); have n2_ := Aside0.mk (hi); clear HK; clear HB; clear HI0; have HK := n0_; have HB := n1_; have HI0 := n2_; clear n0_ n1_ n2_; (try clear hb); (try clear hb2); (try clear hk); (try clear hi)))
  go_ret
  exact ⟨by first | rfl | (simp [errW_none, errW_some] <;> rfl) | (simp [*, errW_none, errW_some] <;> rfl), by repeat (first | (with_reducible first | exact HI0.out | apply IsS26.alloc | apply IsS26.drewN | apply IsS26.drew | apply IsS26.set_0) | exact HI0.out), by repeat (first | (with_reducible first | exact HB.out | apply below_alloc | apply pw_below_drewN | apply below_drew1 | refine below_set ?_ (IsS26.ge HI0.out)) | exact HB.out), by repeat (first | (with_reducible first | exact HK.out | apply KeepBut.set_ | apply keep_drewN | apply keep_drew | apply keep_alloc) | exact HK.out)⟩
end Go.Proofs.Ytkafbmanmffliaa.Q

namespace Go.Proofs.Ytkafbmanmffliaa.Q
open Go.RowKit YtkafbmanmffliaaW.PrintWords YtkafbmanmffliaaW.PrintLast YtkafbmanmffliaaW.PrintMore
attribute [local go_sem] max2_int min2_int max_two min_two max_three min_three max_four min_four
def impl_trimmed.l0 : Nat → List Int → Option (List Int)
 | 0, _ => none
 | k + 1, x0 => if (x0.length : Int) > 0 then (if 0 ≤ (wrap64 ((x0.length : Int) - 1)) then (if (wrap64 ((x0.length : Int) - 1)) < (x0.length : Int) then (if (rd x0 (wrap64 ((x0.length : Int) - 1))) = 0 then (if (wrap64 ((x0.length : Int) - 1)) ≤ (x0.length : Int) then (impl_trimmed.l0 k (x0.take ((wrap64 ((x0.length : Int) - 1)) : Int).toNat)) else (none)) else (some x0)) else (none)) else (none)) else (some x0)
def impl_trimmed.f (k : Nat) (l0 : List Int) : Option (List Int) := impl_trimmed.l0 k l0
theorem impl_trimmed.mono_l : ∀ k, (∀ y0, LeO (impl_trimmed.l0 k y0) (impl_trimmed.l0 (k + 1) y0))
 | 0 => fun _ r h => by simp [impl_trimmed.l0] at h
 | k + 1 => by
  have ih0 := impl_trimmed.mono_l k
  ·intro y0
   unfold impl_trimmed.l0
   repeat' first
   | (with_reducible exact ih0 _)
   | (with_reducible exact LeO.refl _)
   | (with_reducible exact LeO.none _)
   | (with_reducible refine LeO.ite ?_ ?_)
   | (with_reducible refine LeO.bind ?_ (fun _ => ?_))
   | exact ih0 _
   | exact LeO.none _
   | refine LeO.ite ?_ ?_
   | refine LeO.bind ?_ (fun _ => ?_)
theorem impl_trimmed.mono : ∀ a0 k, LeO (impl_trimmed.f k a0) (impl_trimmed.f (k + 1) a0) := by
 intro a0 k
 have ih0 := impl_trimmed.mono_l k
 unfold impl_trimmed.f
 repeat' first
   | (with_reducible exact ih0 _)
   | (with_reducible exact LeO.refl _)
   | (with_reducible exact LeO.none _)
   | (with_reducible refine LeO.ite ?_ ?_)
   | (with_reducible refine LeO.bind ?_ (fun _ => ?_))
   | exact ih0 _
   | exact LeO.none _
   | refine LeO.ite ?_ ?_
   | refine LeO.bind ?_ (fun _ => ?_)
set_option maxHeartbeats 8000000 in
set_option maxRecDepth 100000 in
theorem impl_trimmed.calls (k : Nat) (P0_ : Nat → Prop) (A0 : Option Addr) (c0 : Nat) (l0 : List Int) (r : List Int) (w : World) (hs0 : Kd.V (Kd.int .u32) 146 w w.heap.size (fun k_ => P0_ k_) (.slice A0 l0.length c0) l0) (h : impl_trimmed.f k l0 = some r) :
  Calls Try.prog 146 #[.slice A0 l0.length c0] w fun e w' => ∃ v0_ : Value, e = .returned (v0_) ∧ Kd.V (Kd.int .u32) 146 w' w.heap.size (fun k_ => (P0_ k_ ∨ w.heap.size ≤ k_)) v0_ r ∧ Below w.heap.size w w' := by
 have HO0 := Aside0.mk (show Kd.V (Kd.int .u32) 146 w w.heap.size (fun k_ => (P0_ k_ ∨ w.heap.size ≤ k_)) (.slice A0 l0.length c0) l0 from Kd.V_mono hs0 (fun k_ hk => .inl hk))
 have HB := Aside0.mk (Below.refl w.heap.size w)
 have H : (impl_trimmed.l0 k l0) = some r := h
 clear h
 have H' := Aside0.mk H
 clear H
 go_enter Try.func146, Try.ntmps146
 go_wp2
 go_loopg [0] k (fun kq v0 w' => ∃ (x0_1 : List Int), Aside0 (impl_trimmed.l0 kq x0_1 = some r) ∧ Aside0 (kq ≤ k) ∧ Aside0 (Kd.V (Kd.int .u32) 146 w' w.heap.size (fun k_ => (P0_ k_ ∨ w.heap.size ≤ k_)) v0 x0_1) ∧ Aside0 (Below w.heap.size w w'))
 case atStart => exact ⟨(l0), H', ⟨Nat.le_refl _⟩, ⟨by (with_reducible repeat (first | apply Kd.V_alloc | apply Kd.V_drewN | apply Kd.V_drew)); exact HO0.out⟩, ⟨by repeat (first | (with_reducible first | exact HB.out | apply below_alloc | apply pw_below_drewN | apply below_drew1) | exact HB.out)⟩⟩
 case round =>
  clear H'
  try clear c1
  obtain ⟨x0_1, HA, HK1, HO_0, HB⟩ := hrel
  cases gk with
  | zero => exact absurd HA.out (by simp [impl_trimmed.l0])
  | succ k1 =>
   have H := HA.out
   clear HA
   simp only [impl_trimmed.l0] at H
   by_cases c2 : (x0_1.length : Int) > 0
   ·rw [if_pos c2] at H
    have c2b0 : decide (0 < (x0_1.length : Int)) = true := decide_eq_true c2
    have c2b1 : decide (0 < x0_1.length) = true := decide_eq_true (by omega)
    clear c2
    obtain ⟨ji3, hji3⟩ : ∃ j_ : Int, (wrap64 ((x0_1.length : Int) - 1)) = j_ := ⟨_, rfl⟩
    replace H : (if 0 ≤ (ji3) then (if (ji3) < (x0_1.length : Int) then (if (rd x0_1 (ji3)) = 0 then (if (ji3) ≤ (x0_1.length : Int) then (impl_trimmed.l0 k1 (x0_1.take ((ji3) : Int).toNat)) else (none)) else (some x0_1)) else (none)) else (none)) = some r := by first | (rw [hji3] at H; exact H) | (simp only [hji3] at H ⊢; exact H)
    have hji3w : (IntKind.i64.wrap ((x0_1.length : Int) - 1)) = ji3 := (i64_w _).trans hji3
    by_cases c4 : 0 ≤ (ji3)
    ·rw [if_pos c4] at H
     have c4b0 : decide (0 ≤ (ji3)) = true := decide_eq_true c4
     clear c4
     by_cases c5 : (ji3) < (x0_1.length : Int)
     ·rw [if_pos c5] at H
      have c5b0 : decide ((ji3) < (x0_1.length : Int)) = true := decide_eq_true c5
      clear c5
      by_cases c6 : (rd x0_1 (ji3)) = 0
      ·rw [if_pos c6] at H
       have c6b0 : ((rd x0_1 (ji3)) == 0) = true := beq_iff_eq.mpr c6
       have c6b1 : ((rd x0_1 (ji3)) != 0) = false := bne_eq_false_iff_eq.mpr c6
       clear c6
       have c7b0 := eq_true (of_decide_eq_true (by first | (with_reducible assumption) | assumption) : 0 ≤ (ji3))
       by_cases c8 : (ji3) ≤ (x0_1.length : Int)
       ·rw [if_pos c8] at H
        have c8b0 := eq_true c8
        have c8b1 : decide ((ji3) ≤ (x0_1.length : Int)) = true := decide_eq_true c8
        clear c8
        obtain ⟨y247, hy247⟩ : ∃ y_ : List Int, y_ = (x0_1.take ((ji3) : Int).toNat) := ⟨_, rfl⟩
        replace H : (impl_trimmed.l0 k1 y247) = some r := by first | (rw [hy247]; with_reducible exact H) | (have H2_ := (Option.bind_some _ _).symm.trans H; rw [hy247]; with_reducible exact H2_) | (have H2_ := (Option.bind_some _ _).symm.trans H; with_reducible exact H2_) | with_reducible exact H | (rw [hy247]; exact H) | exact H
        have Ny247 := Aside0.mk hy247
        clear hy247
        have H' := Aside0.mk H
        clear H
        obtain ⟨Ao9, co9, eo9⟩ := Kd.V_slice HO_0.out
        subst eo9
        have p246 : 0 ≤ ((ji3) : Int) := of_decide_eq_true (by first | (with_reducible assumption) | assumption)
        have q246 : (ji3) < (x0_1.length : Int) := of_decide_eq_true (by first | (with_reducible assumption) | assumption)
        obtain ⟨ad246, e246, hx246_0⟩ := Kd.at_int (Kd.V_reads' HO_0.out).2.2 (ji3) p246 q246
        cases e246
        replace p246 := eq_true p246
        replace q246 := eq_true q246
        have q10 : ((ji3) : Int) ≤ ((x0_1.length : Int) : Int) := of_decide_eq_true (by first | (with_reducible assumption) | assumption)
        obtain ⟨i010, hi010, _, hsz10, _⟩ := info_parts info146
        have hroom10 : x0_1.length ≤ co9 := (Kd.V_reads' HO_0.out).2.1
        have hC10 : Kd.F (Kd.int .u32) _ _ (some ad246) x0_1.length x0_1 := (Kd.V_at (base := w.heap.size) HO_0.out).2.2
        have hcut10 := cut_to (P := Try.prog) 108 146 .i64 Try.underlying108 hi010 (some ad246) x0_1.length co9 (ji3) (of_decide_eq_true (by first | (with_reducible assumption) | assumption)) q10 hroom10
        have hr10 := Kd.F_take (m := ((ji3) : Int).toNat) hC10 (by omega)
        have hy10 : y247.length = ((ji3) : Int).toNat := (by rw [Ny247.out, List.length_take]; omega)
        rw [← Ny247.out] at hr10
        rw [← hy10] at hcut10
        have HO251 := Aside0.mk (show Kd.V (Kd.int .u32) 146 _ w.heap.size _ (.slice (some ad246) y247.length co9) y247 from Kd.V_mk (by omega) hr10)
        have HC251 := Aside0.mk (show y247.length ≤ co9 from by omega)
        clear hr10 hC10 hroom10 hi010 hsz10
        have KY10 := Aside0.mk hy10
        clear hy10
        replace q10 := eq_true q10
        go_wp2
        go_roundg k1
        case measure => have := HK1.out; omega
        case rel => exact ⟨(y247), H', ⟨by have := HK1.out; omega⟩, ⟨by (with_reducible repeat (first | apply Kd.V_alloc | apply Kd.V_drewN | apply Kd.V_drew)); exact HO251.out⟩, ⟨by repeat (first | (with_reducible first | exact HB.out | apply below_alloc | apply pw_below_drewN | apply below_drew1) | exact HB.out)⟩⟩
       ·rw [if_neg c8] at H
        exact absurd H (by simp)
      ·rw [if_neg c6] at H
       have c6b0 : ((rd x0_1 (ji3)) == 0) = false := beq_eq_false_iff_ne.mpr c6
       have c6b1 : ((rd x0_1 (ji3)) != 0) = true := bne_iff_ne.mpr c6
       obtain rfl := Option.some.inj H
       obtain ⟨Ao11, co11, eo11⟩ := Kd.V_slice HO_0.out
       subst eo11
       have p246 : 0 ≤ ((ji3) : Int) := of_decide_eq_true (by first | (with_reducible assumption) | assumption)
       have q246 : (ji3) < (x0_1.length : Int) := of_decide_eq_true (by first | (with_reducible assumption) | assumption)
       obtain ⟨ad246, e246, hx246_0⟩ := Kd.at_int (Kd.V_reads' HO_0.out).2.2 (ji3) p246 q246
       cases e246
       replace p246 := eq_true p246
       replace q246 := eq_true q246
       go_wp2
       go_ret
       exact ⟨_, by first | rfl | (simp [errW_none, errW_some] <;> rfl) | (simp only [← hji3]; first | rfl | (simp [errW_none, errW_some] <;> rfl)) | (simp [*, errW_none, errW_some] <;> rfl), by (with_reducible repeat (first | apply Kd.V_alloc | apply Kd.V_drewN | apply Kd.V_drew)); exact HO_0.out, by repeat (first | (with_reducible first | exact HB.out | apply below_alloc | apply pw_below_drewN | apply below_drew1) | exact HB.out)⟩
     ·rw [if_neg c5] at H
      exact absurd H (by simp)
    ·rw [if_neg c4] at H
     exact absurd H (by simp)
   ·rw [if_neg c2] at H
    have c2b0 : decide (0 < (x0_1.length : Int)) = false := decide_eq_false c2
    have c2b1 : decide (0 < x0_1.length) = false := decide_eq_false (by omega)
    clear c2
    obtain rfl := Option.some.inj H
    obtain ⟨Ao12, co12, eo12⟩ := Kd.V_slice HO_0.out
    subst eo12
    go_wp2
    go_ret
    exact ⟨_, by first | rfl | (simp [errW_none, errW_some] <;> rfl) | (simp [*, errW_none, errW_some] <;> rfl), by (with_reducible repeat (first | apply Kd.V_alloc | apply Kd.V_drewN | apply Kd.V_drew)); exact HO_0.out, by repeat (first | (with_reducible first | exact HB.out | apply below_alloc | apply pw_below_drewN | apply below_drew1) | exact HB.out)⟩
end Go.Proofs.Ytkafbmanmffliaa.Q

namespace Go.Proofs.Ytkafbmanmffliaa.Q
open Go.RowKit YtkafbmanmffliaaW.PrintWords YtkafbmanmffliaaW.PrintLast YtkafbmanmffliaaW.PrintMore
attribute [local go_sem] max2_int min2_int max_two min_two max_three min_three max_four min_four
def impl_cmpMag.l0 : Nat → List Int → List Int → Int → Option (Int)
 | 0, _, _, _ => none
 | k + 1, x0, x1, x5 => if x5 ≥ 0 then (if 0 ≤ x5 then (if x5 < (x0.length : Int) then (if x5 < (x1.length : Int) then (if (rd x0 x5) < (rd x1 x5) then (some (-1)) else (if (rd x0 x5) > (rd x1 x5) then (some 1) else (impl_cmpMag.l0 k x0 x1 (wrap64 (x5 - 1))))) else (none)) else (none)) else (none)) else (some 0)
def impl_cmpMag.f (k : Nat) (l0 : List Int) (l1 : List Int) : Option (Int) := if (l0.length : Int) = (l1.length : Int) then (impl_cmpMag.l0 k l0 l1 (wrap64 ((l0.length : Int) - 1))) else (some (wrap64 ((l0.length : Int) - (l1.length : Int))))
theorem impl_cmpMag.mono_l : ∀ k, (∀ y0 y1 y2, LeO (impl_cmpMag.l0 k y0 y1 y2) (impl_cmpMag.l0 (k + 1) y0 y1 y2))
 | 0 => fun _ _ _ r h => by simp [impl_cmpMag.l0] at h
 | k + 1 => by
  have ih0 := impl_cmpMag.mono_l k
  ·intro y0 y1 y2
   unfold impl_cmpMag.l0
   repeat' first
   | (with_reducible exact ih0 _ _ _)
   | (with_reducible exact LeO.refl _)
   | (with_reducible exact LeO.none _)
   | (with_reducible refine LeO.ite ?_ ?_)
   | (with_reducible refine LeO.bind ?_ (fun _ => ?_))
   | exact ih0 _ _ _
   | exact LeO.none _
   | refine LeO.ite ?_ ?_
   | refine LeO.bind ?_ (fun _ => ?_)
theorem impl_cmpMag.mono : ∀ a0 a1 k, LeO (impl_cmpMag.f k a0 a1) (impl_cmpMag.f (k + 1) a0 a1) := by
 intro a0 a1 k
 have ih0 := impl_cmpMag.mono_l k
 unfold impl_cmpMag.f
 repeat' first
   | (with_reducible exact ih0 _ _ _)
   | (with_reducible exact LeO.refl _)
   | (with_reducible exact LeO.none _)
   | (with_reducible refine LeO.ite ?_ ?_)
   | (with_reducible refine LeO.bind ?_ (fun _ => ?_))
   | exact ih0 _ _ _
   | exact LeO.none _
   | refine LeO.ite ?_ ?_
   | refine LeO.bind ?_ (fun _ => ?_)
set_option maxHeartbeats 8000000 in
set_option maxRecDepth 100000 in
theorem impl_cmpMag.calls (k : Nat) (A0 : Option Addr) (c0 : Nat) (l0 : List Int) (A1 : Option Addr) (c1 : Nat) (l1 : List Int) (r : Int) (w : World) (hr0 : Kd.C (Kd.int .u32) w A0 l0.length l0) (hc0 : l0.length ≤ c0) (hr1 : Kd.C (Kd.int .u32) w A1 l1.length l1) (hc1 : l1.length ≤ c1) (h : impl_cmpMag.f k l0 l1 = some r) :
  Calls Try.prog 145 #[.slice A0 l0.length c0, .slice A1 l1.length c1] w fun e w' => e = .returned (.int .i64 r) ∧ Drawn0 w w' := by
 have HR0 := Aside0.mk hr0
 have HC0 := Aside0.mk hc0
 clear hr0 hc0
 have HR1 := Aside0.mk hr1
 have HC1 := Aside0.mk hc1
 clear hr1 hc1
 have H : (if (l0.length : Int) = (l1.length : Int) then (impl_cmpMag.l0 k l0 l1 (wrap64 ((l0.length : Int) - 1))) else (some (wrap64 ((l0.length : Int) - (l1.length : Int))))) = some r := h
 clear h
 by_cases c3 : (l0.length : Int) = (l1.length : Int)
 ·rw [if_pos c3] at H
  have c3b0 : ((l0.length : Int) == (l1.length : Int)) = true := beq_iff_eq.mpr c3
  have c3b1 : ((l0.length : Int) != (l1.length : Int)) = false := bne_eq_false_iff_eq.mpr c3
  have c3b2 : (l0.length == l1.length) = true := by first | simpa using c3 | (simp at c3 ⊢; omega)
  clear c3
  have H' := Aside0.mk H
  clear H
  go_enter Try.func145, Try.ntmps145
  go_wp2
  repeat (go_quiet (fail); try go_wp2)
  go_loopg [5] k (fun kq v5 w' => ∃ (x5_1 : Int), v5 = .int .i64 x5_1 ∧ Aside0 (impl_cmpMag.l0 kq l0 l1 x5_1 = some r) ∧ Aside0 (kq ≤ k) ∧ Drawn0 w w')
  case atStart => exact ⟨(wrap64 ((l0.length : Int) - 1)), (by first | rfl | (simp; done) | (simp [*]; done)), H', ⟨Nat.le_refl _⟩, by repeat (first | exact Drawn0.refl _ | apply Drawn0.step)⟩
  case round =>
   clear H'
   try clear c1
   try clear p2
   try clear c3
   try clear c3b0
   try clear c3b1
   try clear c3b2
   obtain ⟨x5_1, rfl, HA, HK1, ⟨m1, rfl⟩⟩ := hrel
   cases gk with
   | zero => exact absurd HA.out (by simp [impl_cmpMag.l0])
   | succ k1 =>
    have H := HA.out
    clear HA
    simp only [impl_cmpMag.l0] at H
    by_cases c4 : x5_1 ≥ 0
    ·rw [if_pos c4] at H
     have c4b0 : decide (0 ≤ x5_1) = true := decide_eq_true c4
     clear c4
     by_cases c5 : 0 ≤ x5_1
     ·rw [if_pos c5] at H
      have c5b0 : decide (0 ≤ x5_1) = true := decide_eq_true c5
      clear c5
      by_cases c6 : x5_1 < (l0.length : Int)
      ·rw [if_pos c6] at H
       have c6b0 : decide (x5_1 < (l0.length : Int)) = true := decide_eq_true c6
       clear c6
       by_cases c7 : x5_1 < (l1.length : Int)
       ·rw [if_pos c7] at H
        have c7b0 : decide (x5_1 < (l1.length : Int)) = true := decide_eq_true c7
        clear c7
        by_cases c8 : (rd l0 x5_1) < (rd l1 x5_1)
        ·rw [if_pos c8] at H
         have c8b0 : decide ((rd l0 x5_1) < (rd l1 x5_1)) = true := decide_eq_true c8
         clear c8
         obtain rfl := Option.some.inj H
         have p253 : 0 ≤ (x5_1 : Int) := of_decide_eq_true (by first | (with_reducible assumption) | assumption)
         have q253 : x5_1 < (l0.length : Int) := of_decide_eq_true (by first | (with_reducible assumption) | assumption)
         obtain ⟨ad253, e253, hx253_0⟩ := Kd.at_int HR0.out x5_1 p253 q253
         cases e253
         replace p253 := eq_true p253
         replace q253 := eq_true q253
         have p254 : 0 ≤ (x5_1 : Int) := of_decide_eq_true (by first | (with_reducible assumption) | assumption)
         have q254 : x5_1 < (l1.length : Int) := of_decide_eq_true (by first | (with_reducible assumption) | assumption)
         obtain ⟨ad254, e254, hx254_0⟩ := Kd.at_int HR1.out x5_1 p254 q254
         cases e254
         replace p254 := eq_true p254
         replace q254 := eq_true q254
         go_wp2
         repeat (go_quiet (fail); try go_wp2)
         go_ret
         exact ⟨by first | rfl | (simp; done) | (simp [*]; done), by repeat (first | exact Drawn0.refl _ | apply Drawn0.step)⟩
        ·rw [if_neg c8] at H
         have c8b0 : decide ((rd l0 x5_1) < (rd l1 x5_1)) = false := decide_eq_false c8
         clear c8
         by_cases c9 : (rd l0 x5_1) > (rd l1 x5_1)
         ·rw [if_pos c9] at H
          have c9b0 : decide ((rd l1 x5_1) < (rd l0 x5_1)) = true := decide_eq_true c9
          clear c9
          obtain rfl := Option.some.inj H
          have p253 : 0 ≤ (x5_1 : Int) := of_decide_eq_true (by first | (with_reducible assumption) | assumption)
          have q253 : x5_1 < (l0.length : Int) := of_decide_eq_true (by first | (with_reducible assumption) | assumption)
          obtain ⟨ad253, e253, hx253_0⟩ := Kd.at_int HR0.out x5_1 p253 q253
          cases e253
          replace p253 := eq_true p253
          replace q253 := eq_true q253
          have p254 : 0 ≤ (x5_1 : Int) := of_decide_eq_true (by first | (with_reducible assumption) | assumption)
          have q254 : x5_1 < (l1.length : Int) := of_decide_eq_true (by first | (with_reducible assumption) | assumption)
          obtain ⟨ad254, e254, hx254_0⟩ := Kd.at_int HR1.out x5_1 p254 q254
          cases e254
          replace p254 := eq_true p254
          replace q254 := eq_true q254
          have p255 : 0 ≤ (x5_1 : Int) := of_decide_eq_true (by first | (with_reducible assumption) | assumption)
          have q255 : x5_1 < (l0.length : Int) := of_decide_eq_true (by first | (with_reducible assumption) | assumption)
          obtain ⟨ad255, e255, hx255_0⟩ := Kd.at_int HR0.out x5_1 p255 q255
          obtain rfl : ad253 = ad255 := (by injection e255)
          replace p255 := eq_true p255
          replace q255 := eq_true q255
          have p256 : 0 ≤ (x5_1 : Int) := of_decide_eq_true (by first | (with_reducible assumption) | assumption)
          have q256 : x5_1 < (l1.length : Int) := of_decide_eq_true (by first | (with_reducible assumption) | assumption)
          obtain ⟨ad256, e256, hx256_0⟩ := Kd.at_int HR1.out x5_1 p256 q256
          obtain rfl : ad254 = ad256 := (by injection e256)
          replace p256 := eq_true p256
          replace q256 := eq_true q256
          go_wp2
          repeat (go_quiet (fail); try go_wp2)
          go_ret
          exact ⟨by first | rfl | (simp; done) | (simp [*]; done), by repeat (first | exact Drawn0.refl _ | apply Drawn0.step)⟩
         ·rw [if_neg c9] at H
          have c9b0 : decide ((rd l1 x5_1) < (rd l0 x5_1)) = false := decide_eq_false c9
          clear c9
          have H' := Aside0.mk H
          clear H
          have p253 : 0 ≤ (x5_1 : Int) := of_decide_eq_true (by first | (with_reducible assumption) | assumption)
          have q253 : x5_1 < (l0.length : Int) := of_decide_eq_true (by first | (with_reducible assumption) | assumption)
          obtain ⟨ad253, e253, hx253_0⟩ := Kd.at_int HR0.out x5_1 p253 q253
          cases e253
          replace p253 := eq_true p253
          replace q253 := eq_true q253
          have p254 : 0 ≤ (x5_1 : Int) := of_decide_eq_true (by first | (with_reducible assumption) | assumption)
          have q254 : x5_1 < (l1.length : Int) := of_decide_eq_true (by first | (with_reducible assumption) | assumption)
          obtain ⟨ad254, e254, hx254_0⟩ := Kd.at_int HR1.out x5_1 p254 q254
          cases e254
          replace p254 := eq_true p254
          replace q254 := eq_true q254
          have p255 : 0 ≤ (x5_1 : Int) := of_decide_eq_true (by first | (with_reducible assumption) | assumption)
          have q255 : x5_1 < (l0.length : Int) := of_decide_eq_true (by first | (with_reducible assumption) | assumption)
          obtain ⟨ad255, e255, hx255_0⟩ := Kd.at_int HR0.out x5_1 p255 q255
          obtain rfl : ad253 = ad255 := (by injection e255)
          replace p255 := eq_true p255
          replace q255 := eq_true q255
          have p256 : 0 ≤ (x5_1 : Int) := of_decide_eq_true (by first | (with_reducible assumption) | assumption)
          have q256 : x5_1 < (l1.length : Int) := of_decide_eq_true (by first | (with_reducible assumption) | assumption)
          obtain ⟨ad256, e256, hx256_0⟩ := Kd.at_int HR1.out x5_1 p256 q256
          obtain rfl : ad254 = ad256 := (by injection e256)
          replace p256 := eq_true p256
          replace q256 := eq_true q256
          go_wp2
          repeat (go_quiet (fail); try go_wp2)
          go_roundg k1
          case measure => have := HK1.out; omega
          case rel => exact ⟨(wrap64 (x5_1 - 1)), (by first | rfl | (simp; done) | (simp [*]; done)), H', ⟨by have := HK1.out; omega⟩, by repeat (first | exact Drawn0.refl _ | apply Drawn0.step)⟩
       ·rw [if_neg c7] at H
        exact absurd H (by simp)
      ·rw [if_neg c6] at H
       exact absurd H (by simp)
     ·rw [if_neg c5] at H
      exact absurd H (by simp)
    ·rw [if_neg c4] at H
     have c4b0 : decide (0 ≤ x5_1) = false := decide_eq_false c4
     clear c4
     obtain rfl := Option.some.inj H
     go_wp2
     repeat (go_quiet (fail); try go_wp2)
     go_ret
     exact ⟨by first | rfl | (simp; done) | (simp [*]; done), by repeat (first | exact Drawn0.refl _ | apply Drawn0.step)⟩
 ·rw [if_neg c3] at H
  have c3b0 : ((l0.length : Int) == (l1.length : Int)) = false := beq_eq_false_iff_ne.mpr c3
  have c3b1 : ((l0.length : Int) != (l1.length : Int)) = true := bne_iff_ne.mpr c3
  have c3b2 : (l0.length == l1.length) = false := by first | simpa using c3 | (simp at c3 ⊢; omega)
  obtain rfl := Option.some.inj H
  go_enter Try.func145, Try.ntmps145
  go_wp2
  repeat (go_quiet (fail); try go_wp2)
  go_ret
  exact ⟨by first | rfl | (simp; done) | (simp [*]; done), by repeat (first | exact Drawn0.refl _ | apply Drawn0.step)⟩
end Go.Proofs.Ytkafbmanmffliaa.Q

namespace Go.Proofs.Ytkafbmanmffliaa.Q
open Go.RowKit YtkafbmanmffliaaW.PrintWords YtkafbmanmffliaaW.PrintLast YtkafbmanmffliaaW.PrintMore
attribute [local go_sem] max2_int min2_int max_two min_two max_three min_three max_four min_four
def impl_shortMag.l0 : Nat → List Int → Int → List Int → Int → Int → Option (List Int × Int)
 | 0, _, _, _, _, _ => none
 | k + 1, x0, x1, x6, x7, x8 => if x8 ≥ 0 then (if 0 ≤ x8 then (if x8 < (x0.length : Int) then (if (IntKind.u64.wrap (x1)) = 0 then (none) else (if x8 < (x6.length : Int) then (impl_shortMag.l0 k x0 x1 (x6.set (x8 : Int).toNat ((IntKind.u64.wrap (Int.tdiv (Go.bits .or .u64 (IntKind.u64.wrap (x7 * 4294967296)) (IntKind.u64.wrap (rd x0 x8))) (IntKind.u64.wrap (x1)))) % 4294967296)) (Int.tmod (Go.bits .or .u64 (IntKind.u64.wrap (x7 * 4294967296)) (IntKind.u64.wrap (rd x0 x8))) (IntKind.u64.wrap (x1))) (wrap64 (x8 - 1))) else (none))) else (none)) else (none)) else ((impl_trimmed.f k x6).bind fun t262 => (some (t262, (x7) % 4294967296)))
def impl_shortMag.f (k : Nat) (l0 : List Int) (a1 : Int) : Option (List Int × Int) := if 0 ≤ (l0.length : Int) then (if ((l0.length : Int) : Int).toNat ≤ 70368744177664 then (impl_shortMag.l0 k l0 a1 (List.replicate ((l0.length : Int) : Int).toNat 0) 0 (wrap64 ((l0.length : Int) - 1))) else (none)) else (none)
theorem impl_shortMag.mono_l : ∀ k, (∀ y0 y1 y2 y3 y4, LeO (impl_shortMag.l0 k y0 y1 y2 y3 y4) (impl_shortMag.l0 (k + 1) y0 y1 y2 y3 y4))
 | 0 => fun _ _ _ _ _ r h => by simp [impl_shortMag.l0] at h
 | k + 1 => by
  have ih0 := impl_shortMag.mono_l k
  ·intro y0 y1 y2 y3 y4
   unfold impl_shortMag.l0
   repeat' first
   | (with_reducible exact ih0 _ _ _ _ _)
   | (with_reducible exact impl_trimmed.mono _ _)
   | (with_reducible exact LeO.refl _)
   | (with_reducible exact LeO.none _)
   | (with_reducible refine LeO.ite ?_ ?_)
   | (with_reducible refine LeO.bind ?_ (fun _ => ?_))
   | exact ih0 _ _ _ _ _
   | exact impl_trimmed.mono _ _
   | exact LeO.none _
   | refine LeO.ite ?_ ?_
   | refine LeO.bind ?_ (fun _ => ?_)
theorem impl_shortMag.mono : ∀ a0 a1 k, LeO (impl_shortMag.f k a0 a1) (impl_shortMag.f (k + 1) a0 a1) := by
 intro a0 a1 k
 have ih0 := impl_shortMag.mono_l k
 unfold impl_shortMag.f
 repeat' first
   | (with_reducible exact ih0 _ _ _ _ _)
   | (with_reducible exact impl_trimmed.mono _ _)
   | (with_reducible exact LeO.refl _)
   | (with_reducible exact LeO.none _)
   | (with_reducible refine LeO.ite ?_ ?_)
   | (with_reducible refine LeO.bind ?_ (fun _ => ?_))
   | exact ih0 _ _ _ _ _
   | exact impl_trimmed.mono _ _
   | exact LeO.none _
   | refine LeO.ite ?_ ?_
   | refine LeO.bind ?_ (fun _ => ?_)
def impl_shortMag.T6 : Bool × List (List Nat × List Nat) := (true, [([], []), ([], []), ([], []), ([], []), ([3], [3]), ([2, 4], [2, 4]), ([5], [5]), ([], []), ([], []), ([8], [8]), ([7, 9], [7, 9]), ([0, 1, 0, 1, 2, 3, 4, 5, 6], [0, 1]), ([11, 6, 0, 1, 2, 3, 4, 5, 6], [6, 11]), ([10, 12, 0, 1, 2, 3, 4, 5, 6, 7, 8, 9, 10, 11, 12], [2, 7, 10])])
def impl_shortMag.B6 : List Nat := [0, 0, 0, 0, 8, 28, 60, 0, 0, 256, 896, 127, 2175, 8191]
theorem impl_shortMag.tab6 : rtab .any (opsOf Try.f152 6) = impl_shortMag.T6 := by kernel_rfl
theorem impl_shortMag.bits6 : waitsOk impl_shortMag.T6.2 impl_shortMag.B6 = true := by kernel_rfl
set_option maxHeartbeats 8000000 in
set_option maxRecDepth 100000 in
theorem impl_shortMag.calls (k : Nat) (A0 : Option Addr) (c0 : Nat) (l0 : List Int) (a1 : Int) (r1 : List Int) (r2 : Int) (w : World) (hr0 : Kd.C (Kd.int .u32) w A0 l0.length l0) (hc0 : l0.length ≤ c0) (h : impl_shortMag.f k l0 a1 = some (r1, r2)) :
  Calls Try.prog 152 #[.slice A0 l0.length c0, .int .u32 a1] w fun e w' => ∃ v0_ : Value, e = .returned (.tuple #[v0_, .int .u32 r2]) ∧ Kd.V (Kd.int .u32) 146 w' w.heap.size (fun k_ => (w.heap.size ≤ k_)) v0_ r1 ∧ Below w.heap.size w w' := by
 have HR0 := Aside0.mk hr0
 have HC0 := Aside0.mk hc0
 clear hr0 hc0
 have HB := Aside0.mk (Below.refl w.heap.size w)
 have H : (if 0 ≤ (l0.length : Int) then (if ((l0.length : Int) : Int).toNat ≤ 70368744177664 then (impl_shortMag.l0 k l0 a1 (List.replicate ((l0.length : Int) : Int).toNat 0) 0 (wrap64 ((l0.length : Int) - 1))) else (none)) else (none)) = some (r1, r2) := h
 clear h
 by_cases c3 : 0 ≤ (l0.length : Int)
 ·rw [if_pos c3] at H
  have c3b0 := eq_true c3
  have c3b1 : decide (0 ≤ (l0.length : Int)) = true := decide_eq_true c3
  clear c3
  by_cases c4 : ((l0.length : Int) : Int).toNat ≤ 70368744177664
  ·rw [if_pos c4] at H
   have c4b0 := eq_true c4
   have c4b1 : decide (((l0.length : Int) : Int).toNat ≤ 70368744177664) = true := decide_eq_true c4
   clear c4
   obtain ⟨y257, hy257⟩ : ∃ y_ : List Int, y_ = (List.replicate ((l0.length : Int) : Int).toNat 0) := ⟨_, rfl⟩
   replace H : (impl_shortMag.l0 k l0 a1 y257 0 (wrap64 ((l0.length : Int) - 1))) = some (r1, r2) := by first | (rw [hy257]; with_reducible exact H) | (have H2_ := (Option.bind_some _ _).symm.trans H; rw [hy257]; with_reducible exact H2_) | (have H2_ := (Option.bind_some _ _).symm.trans H; with_reducible exact H2_) | with_reducible exact H | (rw [hy257]; exact H) | exact H
   have Ny257 := Aside0.mk hy257
   clear hy257
   have H' := Aside0.mk H
   clear H
   go_enter Try.func152, Try.ntmps152
   go_wp2_with (first | ((with_reducible refine gate_dst (N := 11) rfl ?_); refine Kd.R_make (Kd.int .u32) _ 146 rfl (N := 11) rfl 108 _ _ rfl (l0.length : Int) rfl rfl Try.underlying108 (.int .u32 0) 4 info146 rfl (by decide) (by omega) 0 (ok := fun _ => True) (okp := fun _ => True) rfl (fun _ hk => hk) trivial (of_decide_eq_true (by first | (with_reducible assumption) | assumption)) (Nat.le_trans (Nat.mul_le_mul_right _ (of_decide_eq_true (by first | (with_reducible assumption) | assumption) : (l0.length : Int).toNat ≤ 70368744177664)) (by omega)) (Below.refl _ _) (Nat.le_refl _) ?_; intro v258 w5 ho6 hb hg_ hnew_; clear hg_ hnew_; (first | rw [← Ny257.out] at ho6 | (simp only [Int.reduceToNat] at ho6; rw [← Ny257.out] at ho6)); have n0_ := Aside0.mk (Kd.R_lower (Kd.R_newM (M := fun k_ => (w.heap.size ≤ k_)) ho6 (below_size (by repeat (first | (with_reducible first | exact HB.out | apply below_alloc | apply pw_below_drewN | apply below_drew1) | exact HB.out))) (fun k_ h_ => h_)) (below_size (by repeat (first | (with_reducible first | exact HB.out | apply below_alloc | apply pw_below_drewN | apply below_drew1) | exact HB.out)))); have n1_ := Aside0.mk (below_step (by repeat (first | (with_reducible first | exact HB.out | apply below_alloc | apply pw_below_drewN | apply below_drew1) | exact HB.out)) hb); clear HB; have HO259 := n0_; have HB := n1_; clear n0_ n1_; clear hb ho6))
   go_loopg [7, 8] k (fun kq v7 v8 w' => ∃ (x6_1 : List Int) (x7_1 : Int) (x8_1 : Int), v7 = .int .u64 x7_1 ∧ v8 = .int .i64 x8_1 ∧ Aside0 (impl_shortMag.l0 kq l0 a1 x6_1 x7_1 x8_1 = some (r1, r2)) ∧ Aside0 (kq ≤ k) ∧ Aside0 (Kd.R (Kd.int .u32) 146 w' w.heap.size (fun k_ => (w.heap.size ≤ k_)) v258 x6_1) ∧ Aside0 (Below w.heap.size w w'))
   case atStart => exact ⟨(y257), (0), (wrap64 ((l0.length : Int) - 1)), (by first | rfl | (simp; done) | (simp [*]; done)), (by first | rfl | (simp; done) | (simp [*]; done)), H', ⟨Nat.le_refl _⟩, ⟨by (with_reducible repeat (first | apply Kd.R_alloc | apply Kd.R_drewN | apply Kd.R_drew)); exact Kd.R_mono HO259.out (fun _ hk => hk.1)⟩, ⟨by repeat (first | (with_reducible first | exact HB.out | apply below_alloc | apply pw_below_drewN | apply below_drew1) | exact HB.out)⟩⟩
   case round =>
    clear H'
    try clear c1
    try clear p2
    try clear c3
    try clear c3b0
    try clear c3b1
    try clear c4
    try clear c4b0
    try clear c4b1
    try clear p6
    obtain ⟨x6_1, x7_1, x8_1, rfl, rfl, HA, HK1, HO_6, HB⟩ := hrel
    cases gk with
    | zero => exact absurd HA.out (by simp [impl_shortMag.l0])
    | succ k1 =>
     have H := HA.out
     clear HA
     simp only [impl_shortMag.l0] at H
     by_cases c7 : x8_1 ≥ 0
     ·rw [if_pos c7] at H
      have c7b0 : decide (0 ≤ x8_1) = true := decide_eq_true c7
      clear c7
      by_cases c8 : 0 ≤ x8_1
      ·rw [if_pos c8] at H
       have c8b0 : decide (0 ≤ x8_1) = true := decide_eq_true c8
       clear c8
       by_cases c9 : x8_1 < (l0.length : Int)
       ·rw [if_pos c9] at H
        have c9b0 : decide (x8_1 < (l0.length : Int)) = true := decide_eq_true c9
        clear c9
        by_cases c10 : (IntKind.u64.wrap (a1)) = 0
        ·rw [if_pos c10] at H
         exact absurd H (by simp)
        ·rw [if_neg c10] at H
         have c10b0 : ((IntKind.u64.wrap (a1)) == 0) = false := beq_eq_false_iff_ne.mpr c10
         have c10b1 : ((IntKind.u64.wrap (a1)) != 0) = true := bne_iff_ne.mpr c10
         by_cases c11 : x8_1 < (x6_1.length : Int)
         ·rw [if_pos c11] at H
          have c11b0 : decide (x8_1 < (x6_1.length : Int)) = true := decide_eq_true c11
          clear c11
          obtain ⟨y261, hy261⟩ : ∃ y_ : List Int, y_ = (x6_1.set (x8_1 : Int).toNat ((IntKind.u64.wrap (Int.tdiv (Go.bits .or .u64 (IntKind.u64.wrap (x7_1 * 4294967296)) (IntKind.u64.wrap (rd l0 x8_1))) (IntKind.u64.wrap (a1)))) % 4294967296)) := ⟨_, rfl⟩
          replace H : (impl_shortMag.l0 k1 l0 a1 y261 (Int.tmod (Go.bits .or .u64 (IntKind.u64.wrap (x7_1 * 4294967296)) (IntKind.u64.wrap (rd l0 x8_1))) (IntKind.u64.wrap (a1))) (wrap64 (x8_1 - 1))) = some (r1, r2) := by first | (rw [hy261]; with_reducible exact H) | (have H2_ := (Option.bind_some _ _).symm.trans H; rw [hy261]; with_reducible exact H2_) | (have H2_ := (Option.bind_some _ _).symm.trans H; with_reducible exact H2_) | with_reducible exact H | (rw [hy261]; exact H) | exact H
          have Ny261 := Aside0.mk hy261
          clear hy261
          have H' := Aside0.mk H
          clear H
          have p260 : 0 ≤ (x8_1 : Int) := of_decide_eq_true (by first | (with_reducible assumption) | assumption)
          have q260 : x8_1 < (l0.length : Int) := of_decide_eq_true (by first | (with_reducible assumption) | assumption)
          obtain ⟨ad260, e260, hx260_0⟩ := Kd.at_int HR0.out x8_1 p260 q260
          cases e260
          replace hx260_0 := (HB.out.cell (World.block_lt_of_cell? w _ hx260_0)).trans hx260_0
          replace p260 := eq_true p260
          replace q260 := eq_true q260
          try go_wp2
          have n0_ := Aside0.mk (Kd.R_drew HO_6.out)
          have n1_ := Aside0.mk (below_drew1 HB.out)
          clear HO_6
          clear HB
          have HO_6 := n0_
          have HB := n1_
          clear n0_ n1_
          have p12 : 0 ≤ (x8_1 : Int) := of_decide_eq_true (by first | (with_reducible assumption) | assumption)
          have q12 : (x8_1 : Int) < ((x6_1.length : Int) : Int) := of_decide_eq_true (by first | (with_reducible assumption) | assumption)
          obtain ⟨go12, co12, eo12, gb12, gl12, cl12, HG12⟩ := Kd.R_form HO_6.out (by omega)
          (first | cases eo12 | (injection eo12 with ea_ en_ ec_; (first | subst ea_ | (injection ea_ with ea_; subst ea_)); subst ec_; clear en_))
          have GB12 := Aside0.mk gb12
          have GG12 := Aside0.mk HG12
          clear gb12 gl12 HG12
          obtain ⟨hx12_0, hf12_0⟩ := Kd.R_celln 0 HO_6.out (x8_1 : Int) p12 q12
          replace p12 := eq_true p12
          replace q12 := eq_true q12
          have HP14 := Kd.R_putn HO_6.out (x8_1 : Int) ((IntKind.u64.wrap (Int.tdiv (Go.bits .or .u64 (IntKind.u64.wrap (x7_1 * 4294967296)) (IntKind.u64.wrap (rd l0 x8_1))) (IntKind.u64.wrap (a1)))) % 4294967296)
          rw [← Ny261.out] at HP14
          have HQ14 := Aside0.mk HP14
          clear HP14
          refine start_ (n:=14) (S := fun w' => True) (ds:=[12]) #[false,false,false,false,false,false,false,false,false,false,false,false,false,false] (by kernel_rfl) rfl rfl trivial (fun hHeld => ?_); refine with_tabW impl_shortMag.tab6 impl_shortMag.bits6 (fun HT_ HW_ => ?_)
          generalize wr.drew = w13 at HO_6 HB GG12 HQ14 hf12_0 hx12_0 hHeld ⊢
          refine pure_ (i:=0) (N:=some 27) (v:=?_) (a':=?_) #[true,false,false,false,false,false,false,false,false,false,false,false,false,false] rfl rfl (any_of HT_.out (by kernel_rfl)) (fun _ _ _ h => h) (Or.inl ⟨by rfl, ?_⟩) ?_ ?_
          rotate_left
          ·intro w'
           go_simp
           with_reducible rfl
          rotate_left
          ·go_simp
           rfl
          refine pure_ (i:=1) (N:=some 28) (v:=?_) (a':=?_) #[true,true,false,false,false,false,false,false,false,false,false,false,false,false] rfl rfl (any_of HT_.out (by kernel_rfl)) (fun _ _ _ h => h) (Or.inl ⟨by rfl, ?_⟩) ?_ ?_
          rotate_left
          ·intro w'
           go_simp
           with_reducible rfl
          rotate_left
          ·go_simp
           rfl
          refine pure_ (i:=2) (N:=some 29) (v:=?_) (a':=?_) #[true,true,true,false,false,false,false,false,false,false,false,false,false,false] rfl rfl (any_of HT_.out (by kernel_rfl)) (fun _ _ _ h => h) (Or.inl ⟨by rfl, ?_⟩) ?_ ?_
          rotate_left
          ·intro w'
           go_simp
           with_reducible rfl
          rotate_left
          ·go_simp
           rfl
          refine pure_ (i:=3) (N:=some 30) (v:=?_) (a':=?_) #[true,true,true,true,false,false,false,false,false,false,false,false,false,false] rfl rfl (any_of HT_.out (by kernel_rfl)) (fun _ _ _ h => h) (Or.inl ⟨by rfl, ?_⟩) ?_ ?_
          rotate_left
          ·intro w'
           go_simp
           with_reducible rfl
          rotate_left
          ·go_simp
           rfl
          refine pure_ (i:=4) (N:=some 31) (v:=?_) (a':=?_) #[true,true,true,true,true,false,false,false,false,false,false,false,false,false] rfl rfl (any_of HT_.out (by kernel_rfl)) (fun _ _ _ h => h) (Or.inl ⟨by rfl, ?_⟩) ?_ ?_
          rotate_left
          ·intro w'
           go_simp
           with_reducible rfl
          rotate_left
          ·go_simp
           rfl
          refine pure_ (i:=5) (N:=some 32) (v:=?_) (a':=?_) #[true,true,true,true,true,true,false,false,false,false,false,false,false,false] rfl rfl (any_of HT_.out (by kernel_rfl)) (fun _ _ _ h => h) (Or.inl ⟨by rfl, ?_⟩) ?_ ?_
          rotate_left
          ·intro w'
           go_simp
           with_reducible rfl
          rotate_left
          ·go_simp
           rfl
          refine pure_ (i:=6) (N:=some 33) (v:=?_) (a':=?_) #[true,true,true,true,true,true,true,false,false,false,false,false,false,false] rfl rfl (any_of HT_.out (by kernel_rfl)) (fun _ _ _ h => h) (Or.inl ⟨by rfl, ?_⟩) ?_ ?_
          rotate_left
          ·intro w'
           go_simp
           with_reducible rfl
          rotate_left
          ·go_simp
           rfl
          refine pure_ (i:=7) (N:=some 34) (v:=?_) (a':=?_) #[true,true,true,true,true,true,true,true,false,false,false,false,false,false] rfl rfl (any_of HT_.out (by kernel_rfl)) (fun _ _ _ h => h) (Or.inl ⟨by rfl, ?_⟩) ?_ ?_
          rotate_left
          ·intro w'
           go_simp
           with_reducible rfl
          rotate_left
          ·go_simp
           rfl
          refine pure_ (i:=8) (N:=some 35) (v:=?_) (a':=?_) #[true,true,true,true,true,true,true,true,true,false,false,false,false,false] rfl rfl (any_of HT_.out (by kernel_rfl)) (fun _ _ _ h => h) (Or.inl ⟨by rfl, ?_⟩) ?_ ?_
          rotate_left
          ·intro w'
           go_simp
           with_reducible rfl
          rotate_left
          ·go_simp
           rfl
          refine pure_ (i:=9) (N:=some 36) (v:=?_) (a':=?_) #[true,true,true,true,true,true,true,true,true,true,false,false,false,false] rfl rfl (any_of HT_.out (by kernel_rfl)) (fun _ _ _ h => h) (Or.inl ⟨by rfl, ?_⟩) ?_ ?_
          rotate_left
          ·intro w'
           go_simp
           with_reducible rfl
          rotate_left
          ·go_simp
           rfl
          refine pure_ (i:=10) (N:=some 37) (v:=?_) (a':=?_) #[true,true,true,true,true,true,true,true,true,true,true,false,false,false] rfl rfl (any_of HT_.out (by kernel_rfl)) (fun _ _ _ h => h) (Or.inl ⟨by rfl, ?_⟩) ?_ ?_
          rotate_left
          ·intro w'
           go_simp
           with_reducible rfl
          rotate_left
          ·go_simp
           rfl
          refine pure_ (i:=11) (N:=some 38) (v:=?_) (a':=?_) #[true,true,true,true,true,true,true,true,true,true,true,true,false,false] rfl rfl (any_of HT_.out (by kernel_rfl)) (fun _ _ _ h => h) (Or.inl ⟨by rfl, ?_⟩) ?_ ?_
          rotate_left
          ·intro w'
           go_simp
           with_reducible rfl
          rotate_left
          ·go_simp
           rfl
          refine last_ (i:=12) (N:=none) #[true,true,true,true,true,true,true,true,true,true,true,true,true,false] rfl rfl (one_of HT_.out (by kernel_rfl)) (by decide) (fun K hK => ?_)
          refine skip_ (w1 := ?_) (by rfl) rfl ?_ ?_
          rotate_left
          ·go_simp
           rfl
          refine hK.out _ _ ?_
          clear hK K
          refine pure_ (i:=13) (N:=some 7) (v:=?_) (a':=?_) #[true,true,true,true,true,true,true,true,true,true,true,true,true,true] rfl rfl (any_of HT_.out (by kernel_rfl)) (fun _ _ _ h => h) (Or.inl ⟨by rfl, ?_⟩) ?_ ?_
          rotate_left
          ·intro w'
           go_simp
           with_reducible rfl
          rotate_left
          ·go_simp
           rfl
          refine done_ (done_of HT_.out (by kernel_rfl)) ?_
          try go_wp2
          go_roundg k1
          case measure => have := HK1.out; omega
          case rel => exact ⟨(y261), (Int.tmod (Go.bits .or .u64 (IntKind.u64.wrap (x7_1 * 4294967296)) (IntKind.u64.wrap (rd l0 x8_1))) (IntKind.u64.wrap (a1))), (wrap64 (x8_1 - 1)), (by first | rfl | (simp; done) | (simp [*]; done)), (by first | rfl | (simp; done) | (simp [*]; done)), H', ⟨by have := HK1.out; omega⟩, ⟨by (with_reducible repeat (first | apply Kd.R_alloc | apply Kd.R_drewN | apply Kd.R_drew)); exact HQ14.out⟩, ⟨by repeat (first | (with_reducible first | exact HB.out | apply below_alloc | apply pw_below_drewN | apply below_drew1 | refine below_set ?_ GB12.out) | exact HB.out)⟩⟩
         ·rw [if_neg c11] at H
          exact absurd H (by simp)
       ·rw [if_neg c9] at H
        exact absurd H (by simp)
      ·rw [if_neg c8] at H
       exact absurd H (by simp)
     ·rw [if_neg c7] at H
      have c7b0 : decide (0 ≤ x8_1) = false := decide_eq_false c7
      clear c7
      replace H := Option.bind_eq_some_iff.mp H
      obtain ⟨t262, A150, H⟩ := H
      replace H : (some (t262, (x7_1) % 4294967296)) = some (r1, r2) := H
      have A15 := Aside0.mk A150
      clear A150
      simp only [Option.some.injEq, Prod.mk.injEq] at H
      obtain ⟨rfl, rfl⟩ := H
      obtain ⟨Ao16, co16, eo16⟩ := Kd.R_slice HO_6.out
      subst eo16
      go_wp2_with (first | ((with_reducible refine gate_callee (f := 146) rfl ?_); refine goesL_ (some 40) rfl rfl Try.func146 (by kernel_rfl) rfl #[.slice Ao16 x6_1.length co16] rfl (by (try simp only [List.map_toArray, List.map_cons, List.map_nil]); first | done | rfl | (simp only [List.length_drop, List.length_take]; rfl)) ?_; (with_reducible refine (impl_trimmed.calls k1 (fun k_ => some k_ = (.slice Ao16 x6_1.length co16 : Value).ownBlock) _ _ x6_1 t262 _ ?side1 A15.out).mono ?_); (case side1 => exact Kd.R_V (Kd.R_tight rfl (HO_6.out))); rintro e w17 ⟨v263, rfl, ho0, hb⟩; refine ⟨_, rfl, ?_⟩; have n0_ := Aside0.mk (Kd.R_below (by (with_reducible repeat (first | apply Kd.R_alloc | apply Kd.R_drewN | apply Kd.R_drew)); exact HO_6.out) hb); have n1_ := Aside0.mk (Kd.V_lower (Kd.V_mono (ok' := fun k_ => (w.heap.size ≤ k_)) ho0 (fun k_ hk_ => Or.elim hk_ (fun hs_ => ((HO_6.out).1 k_ hs_.symm)) (fun hn_ => (Nat.le_trans (below_size (by repeat (first | (with_reducible first | exact HB.out | apply below_alloc | apply pw_below_drewN | apply below_drew1) | exact HB.out))) hn_)))) (below_size (by repeat (first | (with_reducible first | exact HB.out | apply below_alloc | apply pw_below_drewN | apply below_drew1) | exact HB.out)))); have n2_ := Aside0.mk (below_step (by repeat (first | (with_reducible first | exact HB.out | apply below_alloc | apply pw_below_drewN | apply below_drew1) | exact HB.out)) hb); clear HO_6; clear HB; have HO_6 := n0_; have HO264 := n1_; have HB := n2_; clear n0_ n1_ n2_; (try clear hb); (try clear hb2); (try clear hk); (try clear hi); (try clear ho0)))
      go_ret2
      exact ⟨_, by first | rfl | (simp [errW_none, errW_some] <;> rfl) | (simp [*, errW_none, errW_some] <;> rfl), by (with_reducible repeat (first | apply Kd.V_alloc | apply Kd.V_drewN | apply Kd.V_drew)); exact HO264.out, by repeat (first | (with_reducible first | exact HB.out | apply below_alloc | apply pw_below_drewN | apply below_drew1) | exact HB.out)⟩
  ·rw [if_neg c4] at H
   exact absurd H (by simp)
 ·rw [if_neg c3] at H
  exact absurd H (by simp)
end Go.Proofs.Ytkafbmanmffliaa.Q

/- Bits: bits.Sub32 by its borrow; a digit beside another one as a sum. -/
namespace Go.Proofs.Ytkafbmanmffliaa.Bw
open Go.RowKit YtkafbmanmffliaaW.PrintWords YtkafbmanmffliaaW.PrintLast YtkafbmanmffliaaW.PrintMore
theorem top32 (r : BitVec 32) : (r.toNat : Int) / 2147483648 = if r.msb then 1 else 0 := by
 rw [BitVec.msb_eq_decide]
 have := r.isLt
 by_cases h : 2147483648 ≤ r.toNat
 ·rw [if_pos (by simpa using h)]; omega
 ·rw [if_neg (by simpa using h)]; omega
theorem wrap32 (r : BitVec 32) : IntKind.u32.wrap r.toNat = r.toNat := by
 have := r.isLt
 simp [IntKind.wrap, IntKind.bits, IntKind.signed]; omega
theorem back32 (r : BitVec 32) : BitVec.ofInt 32 (r.toNat : Int) = r := by simp
theorem msb32 (x : Int) (h0 : 0 ≤ x) (h1 : x < 4294967296) : (BitVec.ofInt 32 x).msb = decide (2147483648 ≤ x) := by
 rw [BitVec.msb_eq_decide, BitVec.toNat_ofInt]
 have : (x % ((2 ^ 32 : Nat) : Int)).toNat = x.toNat := by omega
 rw [this]
 simp only [Nat.reduceSub, Nat.reducePow]
 by_cases h : 2147483648 ≤ x
 ·rw [decide_eq_true h, decide_eq_true (by omega)]
 ·rw [decide_eq_false h, decide_eq_false (by omega)]
theorem borrow_eq (x y b : Int) (hx0 : 0 ≤ x) (hx1 : x < 4294967296) (hy0 : 0 ≤ y) (hy1 : y < 4294967296) (hb0 : 0 ≤ b) (hb1 : b ≤ 1) :
  bits BinOp.or IntKind.u32 (bits BinOp.and IntKind.u32 (bits BinOp.xor IntKind.u32 IntKind.u32.max x) y) (bits BinOp.and IntKind.u32 (bits BinOp.xor IntKind.u32 IntKind.u32.max (bits BinOp.xor IntKind.u32 x y)) ((x - y - b) % 4294967296)) / 2147483648 = if x < y + b then 1 else 0 := by
 have ea : ∀ u v : Int, bits .and .u32 u v = IntKind.u32.wrap ((BitVec.ofInt 32 u &&& BitVec.ofInt 32 v).toNat : Nat) := fun _ _ => rfl
 have eo : ∀ u v : Int, bits .or .u32 u v = IntKind.u32.wrap ((BitVec.ofInt 32 u ||| BitVec.ofInt 32 v).toNat : Nat) := fun _ _ => rfl
 have ex : ∀ u v : Int, bits .xor .u32 u v = IntKind.u32.wrap ((BitVec.ofInt 32 u ^^^ BitVec.ofInt 32 v).toNat : Nat) := fun _ _ => rfl
 have hm : (BitVec.ofInt 32 IntKind.u32.max).msb = true := by decide
 simp only [ea, eo, ex, wrap32, back32, top32, BitVec.msb_or, BitVec.msb_and, BitVec.msb_xor, hm, msb32 x hx0 hx1, msb32 y hy0 hy1, msb32 ((x - y - b) % 4294967296) (by omega) (by omega)]
 by_cases h1 : 2147483648 ≤ x <;> by_cases h2 : 2147483648 ≤ y <;> by_cases h3 : 2147483648 ≤ (x - y - b) % 4294967296 <;> simp [h1, h2, h3] <;> omega
def subB (x y b : Int) : Int := if x < y + b then 1 else 0
theorem sub32_any (x y b : Int) (w : World) (hx0 : 0 ≤ x) (hx1 : x < 4294967296) (hy0 : 0 ≤ y) (hy1 : y < 4294967296) (hb0 : 0 ≤ b) (hb1 : b ≤ 1) :
  Calls Try.prog 157 #[.int .u32 x, .int .u32 y, .int .u32 b] w fun e w' => e = .returned (.tuple #[.int .u32 ((x - y - b) % 4294967296), .int .u32 (subB x y b)]) ∧ w' = w := by
 have hs : IntKind.u32.signed = false := rfl
 have H := Lib.hid (borrow_eq x y b hx0 hx1 hy0 hy1 hb0 hb1)
 clear hx0 hx1 hy0 hy1 hb0 hb1
 go_enter Try.func157, Try.ntmps157
 go_wp2
 go_ret2
 refine ⟨?_, rfl⟩
 have e1 : ((x - y) % 4294967296 - b) % 4294967296 = (x - y - b) % 4294967296 := by omega
 show Ending.returned (.tuple #[.int .u32 (((x - y) % 4294967296 - b) % 4294967296), .int .u32 _]) = _
 rw [H.out, e1]
 rfl
end Go.Proofs.Ytkafbmanmffliaa.Bw

namespace Go.Proofs.Ytkafbmanmffliaa.Q
open Go.RowKit YtkafbmanmffliaaW.PrintWords YtkafbmanmffliaaW.PrintLast YtkafbmanmffliaaW.PrintMore
attribute [local go_sem] max2_int min2_int max_two min_two max_three min_three max_four min_four
def bits_Sub32.f (a0 : Int) (a1 : Int) (a2 : Int) : Option (Int × Int) := if 0 ≤ a0 ∧ a0 < 4294967296 ∧ 0 ≤ a1 ∧ a1 < 4294967296 ∧ 0 ≤ a2 ∧ a2 ≤ 1 then some ((a0 - a1 - a2) % 4294967296, Bw.subB a0 a1 a2) else none
theorem bits_Sub32.calls (a0 : Int) (a1 : Int) (a2 : Int) (r1 : Int) (r2 : Int) (w : World) (h : bits_Sub32.f a0 a1 a2 = some (r1, r2)) :
  Calls Try.prog 157 #[.int .u32 a0, .int .u32 a1, .int .u32 a2] w fun e w' => e = .returned (.tuple #[.int .u32 r1, .int .u32 r2]) ∧ Drawn0 w w' := by
 unfold bits_Sub32.f at h
 by_cases hc : 0 ≤ a0 ∧ a0 < 4294967296 ∧ 0 ≤ a1 ∧ a1 < 4294967296 ∧ 0 ≤ a2 ∧ a2 ≤ 1
 ·rw [if_pos hc] at h
  simp only [Option.some.injEq, Prod.mk.injEq] at h
  obtain ⟨rfl, rfl⟩ := h
  obtain ⟨h0, h1, h2, h3, h4, h5⟩ := hc
  refine (Bw.sub32_any a0 a1 a2 w h0 h1 h2 h3 h4 h5).mono ?_
  rintro e w' ⟨rfl, rfl⟩
  exact ⟨rfl, Drawn0.refl _⟩
 ·rw [if_neg hc] at h
  exact absurd h (by simp)
end Go.Proofs.Ytkafbmanmffliaa.Q

