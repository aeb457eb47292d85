/- Parts of the proof that the law of this seat holds: La, Qf, Gm, Gn, Ka, Kb, Kc, Ke, Kf, Gv, Lo, Q18, Q21, Q22, PuS, PuT. -/
import Derived.Test.YtkafbmanmffliaaGBpl
import Derived.Test.YtkafbmanmffliaaGBpb
import Derived.Test.YtkafbmanmffliaaGBpa
import Derived.Test.YtkafbmanmffliaaGBpc
set_option linter.unusedVariables false
set_option linter.unusedSimpArgs false
/- Plain: minors of matrices of up to four rows: the steps of an elimination without fractions divide without a rest; positive forms have positive leading minors; bounds. No seat: nothing is imported. -/
namespace Go.Proofs.Ytkafbmanmffliaa.La
def d2 (a b c d : Int) : Int := a * d - b * c
def d3 (a0 a1 a2 b0 b1 b2 c0 c1 c2 : Int) : Int := a0 * d2 b1 b2 c1 c2 - a1 * d2 b0 b2 c0 c2 + a2 * d2 b0 b1 c0 c1
def d4 (a0 a1 a2 a3 b0 b1 b2 b3 c0 c1 c2 c3 e0 e1 e2 e3 : Int) : Int :=
 a0 * d3 b1 b2 b3 c1 c2 c3 e1 e2 e3 - a1 * d3 b0 b2 b3 c0 c2 c3 e0 e2 e3 + a2 * d3 b0 b1 b3 c0 c1 c3 e0 e1 e3 - a3 * d3 b0 b1 b2 c0 c1 c2 e0 e1 e2
theorem st2 (a00 a01 a0k a10 a11 a1k ai0 ai1 aik : Int) : d3 a00 a01 a0k a10 a11 a1k ai0 ai1 aik * a00 = (aik * a00 - ai0 * a0k) * (a11 * a00 - a10 * a01) - (ai1 * a00 - ai0 * a01) * (a1k * a00 - a10 * a0k) := by
 unfold d3 d2; grind
set_option maxHeartbeats 4000000 in
theorem st3 (a0 a1 a2 a3 b0 b1 b2 b3 c0 c1 c2 c3 e0 e1 e2 e3 : Int) :
  d4 a0 a1 a2 a3 b0 b1 b2 b3 c0 c1 c2 c3 e0 e1 e2 e3 * d2 a0 a1 b0 b1 = d3 a0 a1 a3 b0 b1 b3 e0 e1 e3 * d3 a0 a1 a2 b0 b1 b2 c0 c1 c2 - d3 a0 a1 a2 b0 b1 b2 e0 e1 e2 * d3 a0 a1 a3 b0 b1 b3 c0 c1 c3 := by
 unfold d4 d3 d2; grind
theorem up3_0 (a0 a1 a2 ak b0 b1 b2 bk c0 c1 c2 ck : Int) : d3 ak a1 a2 bk b1 b2 ck c1 c2 * d2 a0 a1 b0 b1 = d2 ak a1 bk b1 * d3 a0 a1 a2 b0 b1 b2 c0 c1 c2 - d2 a2 a1 b2 b1 * d3 a0 a1 ak b0 b1 bk c0 c1 ck := by unfold d3 d2; grind
theorem up3_1 (a0 a1 a2 ak b0 b1 b2 bk c0 c1 c2 ck : Int) : d3 a0 ak a2 b0 bk b2 c0 ck c2 * d2 a0 a1 b0 b1 = d2 a0 ak b0 bk * d3 a0 a1 a2 b0 b1 b2 c0 c1 c2 - d2 a0 a2 b0 b2 * d3 a0 a1 ak b0 b1 bk c0 c1 ck := by unfold d3 d2; grind
set_option maxHeartbeats 8000000 in
theorem up4_0 (a0 a1 a2 a3 ak b0 b1 b2 b3 bk c0 c1 c2 c3 ck e0 e1 e2 e3 ek : Int) :
  d4 ak a1 a2 a3 bk b1 b2 b3 ck c1 c2 c3 ek e1 e2 e3 * d3 a0 a1 a2 b0 b1 b2 c0 c1 c2 = d3 ak a1 a2 bk b1 b2 ck c1 c2 * d4 a0 a1 a2 a3 b0 b1 b2 b3 c0 c1 c2 c3 e0 e1 e2 e3 - d3 a3 a1 a2 b3 b1 b2 c3 c1 c2 * d4 a0 a1 a2 ak b0 b1 b2 bk c0 c1 c2 ck e0 e1 e2 ek := by
 unfold d4 d3 d2; grind
set_option maxHeartbeats 8000000 in
theorem up4_1 (a0 a1 a2 a3 ak b0 b1 b2 b3 bk c0 c1 c2 c3 ck e0 e1 e2 e3 ek : Int) :
  d4 a0 ak a2 a3 b0 bk b2 b3 c0 ck c2 c3 e0 ek e2 e3 * d3 a0 a1 a2 b0 b1 b2 c0 c1 c2 = d3 a0 ak a2 b0 bk b2 c0 ck c2 * d4 a0 a1 a2 a3 b0 b1 b2 b3 c0 c1 c2 c3 e0 e1 e2 e3 - d3 a0 a3 a2 b0 b3 b2 c0 c3 c2 * d4 a0 a1 a2 ak b0 b1 b2 bk c0 c1 c2 ck e0 e1 e2 ek := by
 unfold d4 d3 d2; grind
set_option maxHeartbeats 8000000 in
theorem up4_2 (a0 a1 a2 a3 ak b0 b1 b2 b3 bk c0 c1 c2 c3 ck e0 e1 e2 e3 ek : Int) :
  d4 a0 a1 ak a3 b0 b1 bk b3 c0 c1 ck c3 e0 e1 ek e3 * d3 a0 a1 a2 b0 b1 b2 c0 c1 c2 = d3 a0 a1 ak b0 b1 bk c0 c1 ck * d4 a0 a1 a2 a3 b0 b1 b2 b3 c0 c1 c2 c3 e0 e1 e2 e3 - d3 a0 a1 a3 b0 b1 b3 c0 c1 c3 * d4 a0 a1 a2 ak b0 b1 b2 bk c0 c1 c2 ck e0 e1 e2 ek := by
 unfold d4 d3 d2; grind
def qf (a b c d e f g h i j x y z u : Int) : Int := a * x * x + e * y * y + h * z * z + j * u * u + 2 * (b * x * y + c * x * z + d * x * u + f * y * z + g * y * u + i * z * u)
theorem qf2 (a b c d e f g h i j : Int) : qf a b c d e f g h i j (-b) a 0 0 = a * d2 a b b e := by unfold qf d2; grind
theorem qf3 (a b c d e f g h i j : Int) : qf a b c d e f g h i j (- d2 c b f e) (- d2 a c b f) (d2 a b b e) 0 = d2 a b b e * d3 a b c b e f c f h := by unfold qf d3 d2; grind
set_option maxHeartbeats 8000000 in
theorem qf4 (a b c d e f g h i j : Int) : qf a b c d e f g h i j (- d3 d b c g e f i f h) (- d3 a d c b g f c i h) (- d3 a b d b e g c f i) (d3 a b c b e f c f h) = d3 a b c b e f c f h * d4 a b c d b e f g c f h i d g i j := by
 unfold qf d4 d3 d2; grind
theorem le2 (a b e : Int) : a * e - d2 a b b e = b * b := by unfold d2; grind
theorem le3 (a b c e f h : Int) : a * (d2 a b b e * h - d3 a b c b e f c f h) = (a * f - b * c) * (a * f - b * c) + c * c * d2 a b b e := by unfold d3 d2; grind
set_option maxHeartbeats 8000000 in
theorem le4 (a b c d e f g h i j : Int) : a * (d2 a b b e * (d3 a b c b e f c f h * j - d4 a b c d b e f g c f h i d g i j)) = a * (d3 a b d b e g c f i * d3 a b d b e g c f i) + d3 a b c b e f c f h * ((a * g - b * d) * (a * g - b * d) + d * d * d2 a b b e) := by
 unfold d4 d3 d2; grind
theorem mul_pos_right {a b : Int} (ha : 0 < a) (h : 0 < a * b) : 0 < b := by
 rcases Int.lt_trichotomy b 0 with hb | hb | hb
 ·have := Int.mul_neg_of_pos_of_neg ha hb; omega
 ·subst hb; simp at h
 ·exact hb
theorem minors_pos {a b c d e f g h i j : Int} (hq : ∀ x y z u : Int, ¬ (x = 0 ∧ y = 0 ∧ z = 0 ∧ u = 0) → 0 < qf a b c d e f g h i j x y z u) :
  0 < a ∧ 0 < d2 a b b e ∧ 0 < d3 a b c b e f c f h ∧ 0 < d4 a b c d b e f g c f h i d g i j := by
 have h1 : 0 < a := by
  have := hq 1 0 0 0 (by omega)
  unfold qf at this
  simpa using this
 have h2 : 0 < d2 a b b e := by
  have := hq (-b) a 0 0 (by omega)
  rw [qf2] at this
  exact mul_pos_right h1 this
 have h3 : 0 < d3 a b c b e f c f h := by
  have := hq (- d2 c b f e) (- d2 a c b f) (d2 a b b e) 0 (by omega)
  rw [qf3] at this
  exact mul_pos_right h2 this
 have h4 : 0 < d4 a b c d b e f g c f h i d g i j := by
  have := hq (- d3 d b c g e f i f h) (- d3 a d c b g f c i h) (- d3 a b d b e g c f i) (d3 a b c b e f c f h) (by omega)
  rw [qf4] at this
  exact mul_pos_right h3 this
 exact ⟨h1, h2, h3, h4⟩
theorem le_of_mul_le {a x y : Int} (ha : 0 < a) (h : 0 ≤ a * (x - y)) : y ≤ x := by
 rcases Int.lt_trichotomy (x - y) 0 with hb | hb | hb
 ·have := Int.mul_neg_of_pos_of_neg ha hb; omega
 ·omega
 ·omega
theorem sq_nonneg' (x : Int) : 0 ≤ x * x := by
 rcases Int.le_total 0 x with h | h
 ·exact Int.mul_nonneg h h
 ·exact Int.mul_nonneg_of_nonpos_of_nonpos h h
theorem bound2 (a b e : Int) : d2 a b b e ≤ a * e := by have := le2 a b e; have := sq_nonneg' b; omega
theorem bound3 {a b c e f h : Int} (h1 : 0 < a) (h2 : 0 < d2 a b b e) : d3 a b c b e f c f h ≤ d2 a b b e * h := by
 have hh := le3 a b c e f h
 have p := sq_nonneg' (a * f - b * c)
 have q := Int.mul_nonneg (sq_nonneg' c) (Int.le_of_lt h2)
 exact le_of_mul_le h1 (by omega)
theorem bound4 {a b c d e f g h i j : Int} (h1 : 0 < a) (h2 : 0 < d2 a b b e) (h3 : 0 < d3 a b c b e f c f h) : d4 a b c d b e f g c f h i d g i j ≤ d3 a b c b e f c f h * j := by
 have hh := le4 a b c d e f g h i j
 have p := Int.mul_nonneg (Int.le_of_lt h1) (sq_nonneg' (d3 a b d b e g c f i))
 have q := Int.mul_nonneg (Int.le_of_lt h3) (Int.add_nonneg (sq_nonneg' (a * g - b * d)) (Int.mul_nonneg (sq_nonneg' d) (Int.le_of_lt h2)))
 have r : 0 ≤ a * (d2 a b b e * (d3 a b c b e f c f h * j - d4 a b c d b e f g c f h i d g i j)) := by omega
 have s : 0 ≤ d2 a b b e * (d3 a b c b e f c f h * j - d4 a b c d b e f g c f h i d g i j) := le_of_mul_le (x := d2 a b b e * (d3 a b c b e f c f h * j - d4 a b c d b e f g c f h i d g i j)) (y := 0) h1 (by rw [Int.sub_zero]; exact r)
 exact le_of_mul_le h2 s
theorem four_mul (x y : Int) : 4 * (x * y) ≤ (x + y) * (x + y) := by
 have := sq_nonneg' (x - y)
 have e : (x - y) * (x - y) = (x + y) * (x + y) - 4 * (x * y) := by grind
 omega
theorem mul_le {a b c d : Int} (ha : 0 ≤ a) (hd : 0 ≤ d) (h1 : a ≤ b) (h2 : c ≤ d) : a * c ≤ b * d :=
 Int.le_trans (Int.mul_le_mul_of_nonneg_left h2 ha) (Int.mul_le_mul_of_nonneg_right h1 hd)
theorem diag_bound {a e h j : Int} (ha : 0 ≤ a) (he : 0 ≤ e) (hh : 0 ≤ h) (hj : 0 ≤ j) (hs : a + e + h + j ≤ 48) : a * e * h * j ≤ 20736 := by
 have p1 := four_mul a e
 have p2 := four_mul h j
 have p3 := four_mul (a + e) (h + j)
 obtain ⟨s, hs1⟩ : ∃ s, s = a + e := ⟨_, rfl⟩
 obtain ⟨t, ht1⟩ : ∃ t, t = h + j := ⟨_, rfl⟩
 rw [← hs1, ← ht1] at p3
 rw [← hs1] at p1
 rw [← ht1] at p2
 have s0 : 0 ≤ s := by omega
 have t0 : 0 ≤ t := by omega
 have st : (s + t) * (s + t) ≤ 48 * 48 := mul_le (by omega) (by omega) (by omega) (by omega)
 have st2 : s * t ≤ 576 := by omega
 have ae0 := Int.mul_nonneg ha he
 have q : (4 * (a * e)) * (4 * (h * j)) ≤ (s * s) * (t * t) := mul_le (by omega) (Int.mul_nonneg t0 t0) p1 p2
 have r : (s * t) * (s * t) ≤ 576 * 576 := mul_le (Int.mul_nonneg s0 t0) (by decide) st2 st2
 have e1 : (s * s) * (t * t) = (s * t) * (s * t) := by grind
 have e2 : (4 * (a * e)) * (4 * (h * j)) = 16 * (a * e * h * j) := by grind
 omega
end Go.Proofs.Ytkafbmanmffliaa.La

/- Plain: the grounded sums of weights over sights between points 0 .. 4: their form is the weighted sum of squares of differences. No seat: nothing is imported. -/
namespace Go.Proofs.Ytkafbmanmffliaa.Qf
structure Si where
 f : Int
 t : Int
 w : Int
def qf (a b c d e f g h i j x y z u : Int) : Int := a * x * x + e * y * y + h * z * z + j * u * u + 2 * (b * x * y + c * x * z + d * x * u + f * y * z + g * y * u + i * z * u)
def con (s : Si) (p q : Int) : Int := if p = q then (if s.f = p ∨ s.t = p then s.w else 0) else (if (s.f = p ∧ s.t = q) ∨ (s.f = q ∧ s.t = p) then - s.w else 0)
def ent (p q : Int) : List Si → Int
 | [] => 0
 | s :: r => con s p q + ent p q r
def sq (x : Int → Int) : List Si → Int
 | [] => 0
 | s :: r => s.w * (x s.f - x s.t) * (x s.f - x s.t) + sq x r
def form (L : List Si) (x : Int → Int) : Int := qf (ent 1 1 L) (ent 1 2 L) (ent 1 3 L) (ent 1 4 L) (ent 2 2 L) (ent 2 3 L) (ent 2 4 L) (ent 3 3 L) (ent 3 4 L) (ent 4 4 L) (x 1) (x 2) (x 3) (x 4)
theorem qf_add (a b c d e f g h i j a' b' c' d' e' f' g' h' i' j' x y z u : Int) : qf (a + a') (b + b') (c + c') (d + d') (e + e') (f + f') (g + g') (h + h') (i + i') (j + j') x y z u = qf a b c d e f g h i j x y z u + qf a' b' c' d' e' f' g' h' i' j' x y z u := by unfold qf; grind
theorem one (s : Si) (x : Int → Int) (h0 : x 0 = 0) (hf : 0 ≤ s.f ∧ s.f ≤ 4) (ht : 0 ≤ s.t ∧ s.t ≤ 4) (hne : s.f ≠ s.t) :
  qf (con s 1 1) (con s 1 2) (con s 1 3) (con s 1 4) (con s 2 2) (con s 2 3) (con s 2 4) (con s 3 3) (con s 3 4) (con s 4 4) (x 1) (x 2) (x 3) (x 4) = s.w * (x s.f - x s.t) * (x s.f - x s.t) := by
 obtain ⟨f, t, w⟩ := s
 simp only at hf ht hne ⊢
 have cf : f = 0 ∨ f = 1 ∨ f = 2 ∨ f = 3 ∨ f = 4 := by omega
 have ct : t = 0 ∨ t = 1 ∨ t = 2 ∨ t = 3 ∨ t = 4 := by omega
 rcases cf with rfl | rfl | rfl | rfl | rfl <;> rcases ct with rfl | rfl | rfl | rfl | rfl <;> first | exact absurd rfl hne | (simp [con, qf, h0]; try grind)
theorem form_eq (L : List Si) (x : Int → Int) (h0 : x 0 = 0) (hv : ∀ s ∈ L, (0 ≤ s.f ∧ s.f ≤ 4) ∧ (0 ≤ s.t ∧ s.t ≤ 4) ∧ s.f ≠ s.t) : form L x = sq x L := by
 induction L with
 | nil => simp [form, ent, sq, qf]
 | cons s r ih =>
  have h := hv s (by simp)
  unfold form
  simp only [ent, qf_add, sq]
  rw [one s x h0 h.1 h.2.1 h.2.2]
  have := ih (fun t ht => hv t (by simp [ht]))
  unfold form at this
  rw [this]
theorem sq_nonneg (L : List Si) (x : Int → Int) (hw : ∀ s ∈ L, 0 ≤ s.w) : 0 ≤ sq x L := by
 induction L with
 | nil => simp [sq]
 | cons s r ih =>
  have h1 := ih (fun t ht => hw t (by simp [ht]))
  have h2 := hw s (by simp)
  have h3 : 0 ≤ (x s.f - x s.t) * (x s.f - x s.t) := by
   rcases Int.le_total 0 (x s.f - x s.t) with h | h
   ·exact Int.mul_nonneg h h
   ·exact Int.mul_nonneg_of_nonpos_of_nonpos h h
  have h4 := Int.mul_nonneg h2 h3
  rw [← Int.mul_assoc] at h4
  unfold sq
  omega
theorem sq_zero (L : List Si) (x : Int → Int) (hw : ∀ s ∈ L, 0 < s.w) (h : sq x L = 0) : ∀ s ∈ L, x s.f = x s.t := by
 induction L with
 | nil => intro s hs; cases hs
 | cons s r ih =>
  have h1 := sq_nonneg r x (fun t ht => Int.le_of_lt (hw t (by simp [ht])))
  have h2 := hw s (by simp)
  have h3 : 0 ≤ (x s.f - x s.t) * (x s.f - x s.t) := by
   rcases Int.le_total 0 (x s.f - x s.t) with h | h
   ·exact Int.mul_nonneg h h
   ·exact Int.mul_nonneg_of_nonpos_of_nonpos h h
  have h4 := Int.mul_nonneg (Int.le_of_lt h2) h3
  rw [← Int.mul_assoc] at h4
  unfold sq at h
  intro t ht
  rcases List.mem_cons.1 ht with rfl | ht
  ·have h5 : t.w * (x t.f - x t.t) * (x t.f - x t.t) = 0 := by omega
   rcases Int.mul_eq_zero.1 h5 with h6 | h6
   ·rcases Int.mul_eq_zero.1 h6 with h7 | h7
    ·omega
    ·omega
   ·omega
  ·exact ih (fun t ht => hw t (by simp [ht])) (by omega) t ht
end Go.Proofs.Ytkafbmanmffliaa.Qf

/- Plain: the table of a connected survey: its leading minors are positive; the elimination without fractions, told by minors; the fractions' elimination beside it. -/
namespace Go.Proofs.Ytkafbmanmffliaa.Gm
open Go Go.RowKit YtkafbmanmffliaaW.PrintWords Q Gf Gs Gl Ha Hb Hd La Qf
set_option linter.unusedVariables false
set_option linter.unusedSimpArgs false
def connB (p : Int) (l : List S32) : Bool := surveyB p l && (treeS p l).part.all (· == 0)
def Same (x : Int → Int) (n : Nat) (part : List Int) : Prop := part.length = n ∧ ∀ p : Nat, p < n → x (rd part p) = x p
theorem rd_getElem (l : List Int) (k : Nat) (h : k < l.length) : rd l k = l[k] := by simp [rd, List.getD_eq_getElem?_getD, h]
theorem same_step {x : Int → Int} {n : Nat} {st : Hd.St} (h : Same x n st.part) (y : S32 × Nat) (h0 : 0 ≤ y.1.f0 ∧ y.1.f0 < n) (h1 : 0 ≤ y.1.f1 ∧ y.1.f1 < n) (hx : x y.1.f0 = x y.1.f1) : Same x n (Hd.step st y).part := by
 unfold Hd.step
 split
 ·exact h
 ·refine ⟨by simp [newPart_len, h.1], fun p hp => ?_⟩
  show x (rd (newPart st.part _ _) p) = x p
  have hl : p < st.part.length := by rw [h.1]; exact hp
  rw [rd_getElem _ p (by simp [newPart_len, hl])]
  have hq := h.2 p hp
  rw [rd_getElem _ p hl] at hq
  simp only [newPart, List.getElem_map]
  split
  ·rename_i e
   have e0 := h.2 y.1.f0.toNat (by omega)
   have e1 := h.2 y.1.f1.toNat (by omega)
   rw [Int.toNat_of_nonneg h0.1] at e0
   rw [Int.toNat_of_nonneg h1.1] at e1
   have em : x (mxI (rd st.part y.1.f0) (rd st.part y.1.f1)) = x y.1.f0 := by
    unfold mxI
    split
    ·exact e0
    ·rw [e1, hx]
   have en : x (mnI (rd st.part y.1.f0) (rd st.part y.1.f1)) = x y.1.f0 := by
    unfold mnI
    split
    ·exact e0
    ·rw [e1, hx]
   rw [en, ← em, ← e]
   exact hq
  ·exact hq
theorem same_all {n : Nat} {l : List S32} (hv : surveyB n l = true) {x : Int → Int} (hx : ∀ k, k < l.length → x (rd_T32 l k).f0 = x (rd_T32 l k).f1) : ∀ k, k ≤ l.length → Same x n (at_ n l k).part := by
 intro k
 induction k with
 | zero =>
  intro _
  rw [at_zero]
  refine ⟨by simp [Hd.start], fun p hp => ?_⟩
  rw [rd_getElem _ p (by simp [Hd.start, hp])]
  simp [Hd.start]
 | succ k ih =>
  intro hk
  rw [at_succ _ _ _ (by omega)]
  have := valid_at hv k (by omega)
  exact same_step (ih (by omega)) _ ⟨this.1, this.2.1⟩ ⟨this.2.2.1, this.2.2.2⟩ (hx k (by omega))
theorem conn_zero {n : Nat} {l : List S32} (hc : connB n l = true) {x : Int → Int} (hx : ∀ k, k < l.length → x (rd_T32 l k).f0 = x (rd_T32 l k).f1) (p : Nat) (hp : p < n) : x p = x 0 := by
 unfold connB at hc
 simp only [Bool.and_eq_true] at hc
 have h := same_all hc.1 hx l.length (Nat.le_refl _)
 rw [at_all] at h
 have hl : p < (treeS n l).part.length := by rw [h.1]; exact hp
 have h2 := h.2 p hp
 rw [rd_getElem _ p hl] at h2
 have h3 := List.all_eq_true.1 hc.2 _ (List.getElem_mem hl)
 rw [← h2, beq_iff_eq.1 h3]
def sig (l : List S32) : List Si := l.map fun s => ⟨s.f0, s.f1, s.f3⟩
theorem ent_append (p q : Int) (L : List Si) (s : Si) : ent p q (L ++ [s]) = ent p q L + con s p q := by
 induction L with
 | nil => simp [ent]
 | cons a r ih => simp only [List.cons_append, ent, ih]; omega
theorem dl_eq (w p q : Int) (r k : Nat) : dl w p q r k = if (r : Int) = p ∧ (k : Int) = q then (if p = q then w else - w) else 0 := by
 unfold dl
 by_cases h : (r : Int) = p ∧ (k : Int) = q
 ·rw [if_pos h, if_pos ⟨by omega, by omega, h⟩]
 ·rw [if_neg h, if_neg (by omega)]
set_option maxHeartbeats 8000000 in
theorem con_dl (f t w : Int) (hf : f ≠ t) (r k : Nat) : dl w (f - 1) (f - 1) r k + dl w (f - 1) (t - 1) r k + dl w (t - 1) (f - 1) r k + dl w (t - 1) (t - 1) r k = con ⟨f, t, w⟩ ((r : Int) + 1) ((k : Int) + 1) := by
 rw [dl_eq, dl_eq, dl_eq, dl_eq, if_pos (rfl : f - 1 = f - 1), if_pos (rfl : t - 1 = t - 1), if_neg (show ¬ f - 1 = t - 1 by omega), if_neg (show ¬ t - 1 = f - 1 by omega)]
 unfold con
 dsimp only
 by_cases h : (r : Int) + 1 = (k : Int) + 1
 ·rw [if_pos h, if_neg (show ¬ ((r : Int) = f - 1 ∧ (k : Int) = t - 1) by omega), if_neg (show ¬ ((r : Int) = t - 1 ∧ (k : Int) = f - 1) by omega)]
  by_cases h1 : (r : Int) = f - 1
  ·rw [if_pos ⟨h1, by omega⟩, if_neg (by omega), if_pos (by omega)]; omega
  ·rw [if_neg (by omega)]
   by_cases h2 : (r : Int) = t - 1
   ·rw [if_pos ⟨h2, by omega⟩, if_pos (by omega)]; omega
   ·rw [if_neg (by omega), if_neg (by omega)]; rfl
 ·rw [if_neg h, if_neg (show ¬ ((r : Int) = f - 1 ∧ (k : Int) = f - 1) by omega), if_neg (show ¬ ((r : Int) = t - 1 ∧ (k : Int) = t - 1) by omega)]
  by_cases h1 : (r : Int) = f - 1 ∧ (k : Int) = t - 1
  ·rw [if_pos h1, if_neg (by omega), if_pos (by omega)]; omega
  ·rw [if_neg h1]
   by_cases h2 : (r : Int) = t - 1 ∧ (k : Int) = f - 1
   ·rw [if_pos h2, if_pos (by omega)]; omega
   ·rw [if_neg h2, if_neg (by omega)]; rfl
theorem sgs_ent {n : Nat} {l : List S32} (hv : surveyB ((n : Int) + 1) l = true) (M : TI) (i : Nat) (hi : i ≤ l.length) (r k : Nat) : sgs l M i r k = M r k + ent ((r : Int) + 1) ((k : Int) + 1) (sig (l.take i)) := by
 induction i with
 | zero => simp [sgs, sig, ent]
 | succ i ih =>
  have hs := sight_at hv i (by omega)
  have e : l.take (i + 1) = l.take i ++ [rd_T32 l i] := by
   rw [List.take_succ_eq_append_getElem (by omega)]
   simp [rd_T32, show i < l.length by omega]
  rw [e]
  unfold sig
  rw [List.map_append, List.map_singleton, ent_append]
  have hd := con_dl (rd_T32 l i).f0 (rd_T32 l i).f1 (rd_T32 l i).f3 hs.2.2.2.2.1 r k
  show stp _ _ _ (stp _ _ _ (stp _ _ _ (stp _ _ _ (sgs l M i)))) r k = _
  simp only [stp_dl, ih (by omega)]
  unfold sig
  have a1 : ptq ((rd_T32 l i).f0 - 1) ((rd_T32 l i).f1 - 1) (0 / 2) = (rd_T32 l i).f0 - 1 := rfl
  have a2 : ptq ((rd_T32 l i).f0 - 1) ((rd_T32 l i).f1 - 1) (1 % 2) = (rd_T32 l i).f1 - 1 := rfl
  rw [a1, a2]
  omega
theorem tab_ent {n : Nat} {l : List S32} (hv : surveyB ((n : Int) + 1) l = true) (right : List Int) (r k : Nat) : tab l right n r k = MI0 right n r k + ent ((r : Int) + 1) ((k : Int) + 1) (sig l) := by
 unfold tab
 rw [sgs_ent hv _ _ (Nat.le_refl _), List.take_length]
theorem ent_out (p q : Int) (L : List Si) (h : ∀ s ∈ L, s.f ≠ q ∧ s.t ≠ q) (hpq : p ≠ q) : ent p q L = 0 := by
 induction L with
 | nil => rfl
 | cons s r ih =>
  have h1 := h s (by simp)
  have h2 := ih (fun t ht => h t (by simp [ht]))
  simp only [ent, h2]
  unfold con
  rw [if_neg hpq, if_neg (by omega)]
  rfl
theorem ent_symm (p q : Int) (L : List Si) : ent p q L = ent q p L := by
 induction L with
 | nil => rfl
 | cons s r ih =>
  simp only [ent, ih]
  unfold con
  by_cases h : p = q
  ·subst h; rfl
  ·rw [if_neg h, if_neg (Ne.symm h)]
   congr 1
   by_cases h2 : (s.f = p ∧ s.t = q) ∨ (s.f = q ∧ s.t = p)
   ·rw [if_pos h2, if_pos (by omega)]
   ·rw [if_neg h2, if_neg (by omega)]
theorem ent_size (p q : Int) (L : List Si) (h : ∀ s ∈ L, 0 ≤ s.w ∧ s.w ≤ 3) : -(3 * (L.length : Int)) ≤ ent p q L ∧ ent p q L ≤ 3 * L.length := by
 induction L with
 | nil => simp [ent]
 | cons s r ih =>
  have h1 := h s (by simp)
  have h2 := ih (fun t ht => h t (by simp [ht]))
  simp only [ent, List.length_cons]
  unfold con
  split <;> split <;> omega
theorem sig_mem {n : Nat} {l : List S32} (hv : surveyB ((n : Int) + 1) l = true) : ∀ s ∈ sig l, (0 ≤ s.f ∧ s.f ≤ n) ∧ (0 ≤ s.t ∧ s.t ≤ n) ∧ s.f ≠ s.t ∧ 1 ≤ s.w ∧ s.w ≤ 3 := by
 intro s hs
 unfold sig at hs
 obtain ⟨t, ht, rfl⟩ := List.mem_map.1 hs
 obtain ⟨k, hk, rfl⟩ := List.getElem_of_mem ht
 have := sight_at hv k hk
 simp only [rd_T32, Int.toNat_natCast] at this
 rw [List.getD_eq_getElem?_getD, List.getElem?_eq_getElem hk] at this
 simp only [Option.getD_some] at this
 dsimp only
 omega
def E (l : List S32) (p q : Nat) : Int := ent ((p : Int) + 1) ((q : Int) + 1) (sig l)
theorem E_symm (l : List S32) (p q : Nat) : E l p q = E l q p := ent_symm _ _ _
def fx (x y z u : Int) (p : Int) : Int := if p = 1 then x else if p = 2 then y else if p = 3 then z else if p = 4 then u else 0
def one_ (b : Prop) [Decidable b] : Int := if b then 1 else 0
theorem minors {n : Nat} {l : List S32} (hn : n ≤ 4) (hc : connB ((n : Int) + 1) l = true) :
  0 < E l 0 0 + one_ (n < 1) ∧ 0 < d2 (E l 0 0 + one_ (n < 1)) (E l 0 1) (E l 0 1) (E l 1 1 + one_ (n < 2)) ∧ 0 < d3 (E l 0 0 + one_ (n < 1)) (E l 0 1) (E l 0 2) (E l 0 1) (E l 1 1 + one_ (n < 2)) (E l 1 2) (E l 0 2) (E l 1 2) (E l 2 2 + one_ (n < 3)) ∧
   0 < d4 (E l 0 0 + one_ (n < 1)) (E l 0 1) (E l 0 2) (E l 0 3) (E l 0 1) (E l 1 1 + one_ (n < 2)) (E l 1 2) (E l 1 3) (E l 0 2) (E l 1 2) (E l 2 2 + one_ (n < 3)) (E l 2 3) (E l 0 3) (E l 1 3) (E l 2 3) (E l 3 3 + one_ (n < 4)) := by
 have hv : surveyB ((n : Int) + 1) l = true := by unfold connB at hc; simp only [Bool.and_eq_true] at hc; exact hc.1
 have hm := sig_mem hv
 refine minors_pos (fun x y z u h0 => ?_)
 have h1 := form_eq (sig l) (fx x y z u) rfl (fun s hs => by have := hm s hs; omega)
 have h2 := sq_nonneg (sig l) (fx x y z u) (fun s hs => by have := hm s hs; omega)
 have h3 : La.qf (E l 0 0 + one_ (n < 1)) (E l 0 1) (E l 0 2) (E l 0 3) (E l 1 1 + one_ (n < 2)) (E l 1 2) (E l 1 3) (E l 2 2 + one_ (n < 3)) (E l 2 3) (E l 3 3 + one_ (n < 4)) x y z u =
   Qf.sq (fx x y z u) (sig l) + (one_ (n < 1) * (x * x) + one_ (n < 2) * (y * y) + one_ (n < 3) * (z * z) + one_ (n < 4) * (u * u)) := by
  rw [← h1]
  show La.qf _ _ _ _ _ _ _ _ _ _ x y z u = Qf.qf (E l 0 0) (E l 0 1) (E l 0 2) (E l 0 3) (E l 1 1) (E l 1 2) (E l 1 3) (E l 2 2) (E l 2 3) (E l 3 3) x y z u + _
  unfold La.qf Qf.qf
  generalize one_ (n < 1) = o1
  generalize one_ (n < 2) = o2
  generalize one_ (n < 3) = o3
  generalize one_ (n < 4) = o4
  grind
 rw [h3]
 have o : ∀ (b : Prop) [Decidable b], 0 ≤ one_ b := fun b _ => by unfold one_; split <;> omega
 have q1 := Int.mul_nonneg (o (n < 1)) (sq_nonneg' x)
 have q2 := Int.mul_nonneg (o (n < 2)) (sq_nonneg' y)
 have q3 := Int.mul_nonneg (o (n < 3)) (sq_nonneg' z)
 have q4 := Int.mul_nonneg (o (n < 4)) (sq_nonneg' u)
 by_cases hz : Qf.sq (fx x y z u) (sig l) = 0
 ·have h4 := sq_zero (sig l) (fx x y z u) (fun s hs => by have := hm s hs; omega) hz
  have h5 : ∀ k, k < l.length → fx x y z u (rd_T32 l k).f0 = fx x y z u (rd_T32 l k).f1 := by
   intro k hk
   have := h4 ⟨l[k].f0, l[k].f1, l[k].f3⟩ (List.mem_map.2 ⟨l[k], List.getElem_mem hk, rfl⟩)
   simp only [rd_T32, Int.toNat_natCast]
   rw [List.getD_eq_getElem?_getD, List.getElem?_eq_getElem hk]
   exact this
  have hc' : connB ((n + 1 : Nat) : Int) l = true := by exact_mod_cast hc
  have hzero : ∀ p : Nat, p < n + 1 → fx x y z u p = 0 := fun p hp => (conn_zero hc' h5 p hp).trans rfl
  have sqp : ∀ a : Int, a ≠ 0 → 0 < a * a := by
   intro a ha
   rcases Int.lt_or_gt_of_ne ha with h | h
   ·exact Int.mul_pos_of_neg_of_neg h h
   ·exact Int.mul_pos h h
  have c1 : x ≠ 0 → n < 1 := by
   intro hx
   apply Nat.lt_of_not_le
   intro hle
   exact hx (hzero 1 (by omega))
  have c2 : y ≠ 0 → n < 2 := by
   intro hx
   apply Nat.lt_of_not_le
   intro hle
   exact hx (hzero 2 (by omega))
  have c3 : z ≠ 0 → n < 3 := by
   intro hx
   apply Nat.lt_of_not_le
   intro hle
   exact hx (hzero 3 (by omega))
  have c4 : u ≠ 0 → n < 4 := by
   intro hx
   apply Nat.lt_of_not_le
   intro hle
   exact hx (hzero 4 (by omega))
  have ob : ∀ (b : Prop) [Decidable b], b → one_ b = 1 := fun b _ hb => by unfold one_; rw [if_pos hb]
  by_cases hx : x = 0
  ·by_cases hy : y = 0
   ·by_cases hz2 : z = 0
    ·have hu : u ≠ 0 := by omega
     have := sqp u hu
     rw [ob _ (c4 hu), Int.one_mul] at q4 ⊢
     omega
    ·have := sqp z hz2
     rw [ob _ (c3 hz2), Int.one_mul] at q3 ⊢
     omega
   ·have := sqp y hy
    rw [ob _ (c2 hy), Int.one_mul] at q2 ⊢
    omega
  ·have := sqp x hx
   rw [ob _ (c1 hx), Int.one_mul] at q1 ⊢
   omega
 ·omega
end Go.Proofs.Ytkafbmanmffliaa.Gm

/- Plain: the elimination without fractions told by minors, and the fractions' beside it. -/
namespace Go.Proofs.Ytkafbmanmffliaa.Gn
open Go Go.RowKit YtkafbmanmffliaaW.PrintWords Q Gf Gs Hb La Qf Gm
set_option linter.unusedVariables false
set_option linter.unusedSimpArgs false
def SS (A : TI) : Nat → TI
 | 0 => A
 | 1 => fun i k => if i = 0 then A 0 k else d2 (A 0 0) (A 0 k) (A i 0) (A i k)
 | 2 => fun i k => if i = 0 then d2 (A 0 k) (A 0 1) (A 1 k) (A 1 1) else if i = 1 then d2 (A 0 0) (A 0 k) (A 1 0) (A 1 k) else d3 (A 0 0) (A 0 1) (A 0 k) (A 1 0) (A 1 1) (A 1 k) (A i 0) (A i 1) (A i k)
 | 3 => fun i k => if i = 0 then d3 (A 0 k) (A 0 1) (A 0 2) (A 1 k) (A 1 1) (A 1 2) (A 2 k) (A 2 1) (A 2 2) else if i = 1 then d3 (A 0 0) (A 0 k) (A 0 2) (A 1 0) (A 1 k) (A 1 2) (A 2 0) (A 2 k) (A 2 2) else if i = 2 then d3 (A 0 0) (A 0 1) (A 0 k) (A 1 0) (A 1 1) (A 1 k) (A 2 0) (A 2 1) (A 2 k)
   else d4 (A 0 0) (A 0 1) (A 0 2) (A 0 k) (A 1 0) (A 1 1) (A 1 2) (A 1 k) (A 2 0) (A 2 1) (A 2 2) (A 2 k) (A i 0) (A i 1) (A i 2) (A i k)
 | _ + 4 => fun i k => if i = 0 then d4 (A 0 k) (A 0 1) (A 0 2) (A 0 3) (A 1 k) (A 1 1) (A 1 2) (A 1 3) (A 2 k) (A 2 1) (A 2 2) (A 2 3) (A 3 k) (A 3 1) (A 3 2) (A 3 3) else if i = 1 then d4 (A 0 0) (A 0 k) (A 0 2) (A 0 3) (A 1 0) (A 1 k) (A 1 2) (A 1 3) (A 2 0) (A 2 k) (A 2 2) (A 2 3) (A 3 0) (A 3 k) (A 3 2) (A 3 3)
   else if i = 2 then d4 (A 0 0) (A 0 1) (A 0 k) (A 0 3) (A 1 0) (A 1 1) (A 1 k) (A 1 3) (A 2 0) (A 2 1) (A 2 k) (A 2 3) (A 3 0) (A 3 1) (A 3 k) (A 3 3) else d4 (A 0 0) (A 0 1) (A 0 2) (A 0 k) (A 1 0) (A 1 1) (A 1 2) (A 1 k) (A 2 0) (A 2 1) (A 2 2) (A 2 k) (A 3 0) (A 3 1) (A 3 2) (A 3 k)
def LL (A : TI) : Nat → Int
 | 0 => 1
 | 1 => A 0 0
 | 2 => d2 (A 0 0) (A 0 1) (A 1 0) (A 1 1)
 | 3 => d3 (A 0 0) (A 0 1) (A 0 2) (A 1 0) (A 1 1) (A 1 2) (A 2 0) (A 2 1) (A 2 2)
 | _ + 4 => d4 (A 0 0) (A 0 1) (A 0 2) (A 0 3) (A 1 0) (A 1 1) (A 1 2) (A 1 3) (A 2 0) (A 2 1) (A 2 2) (A 2 3) (A 3 0) (A 3 1) (A 3 2) (A 3 3)
theorem LL_succ (A : TI) (c : Nat) (hc : c < 4) : LL A (c + 1) = SS A c c c := by
 match c, hc with
 | 0, _ => rfl
 | 1, _ => rfl
 | 2, _ => rfl
 | 3, _ => rfl
theorem SS_own (A : TI) (c k : Nat) (hc : c < 4) : SS A (c + 1) c k = SS A c c k := by
 match c, hc with
 | 0, _ => rfl
 | 1, _ => rfl
 | 2, _ => rfl
 | 3, _ => rfl
theorem SS_step (A : TI) (c i k : Nat) (hc : c < 4) (hi : i < 4) (hne : i ≠ c) : SS A (c + 1) i k * LL A c = SS A c i k * SS A c c c - SS A c i c * SS A c c k := by
 match c, hc, i, hi with
 | 0, _, 0, _ => exact absurd rfl hne
 | 0, _, 1, _ => show d2 _ _ _ _ * 1 = _ * _ - _ * _; unfold d2 SS; grind
 | 0, _, 2, _ => show d2 _ _ _ _ * 1 = _ * _ - _ * _; unfold d2 SS; grind
 | 0, _, 3, _ => show d2 _ _ _ _ * 1 = _ * _ - _ * _; unfold d2 SS; grind
 | 1, _, 0, _ => show d2 (A 0 k) (A 0 1) (A 1 k) (A 1 1) * A 0 0 = A 0 k * d2 (A 0 0) (A 0 1) (A 1 0) (A 1 1) - A 0 1 * d2 (A 0 0) (A 0 k) (A 1 0) (A 1 k); unfold d2; grind
 | 1, _, 1, _ => exact absurd rfl hne
 | 1, _, 2, _ => show d3 (A 0 0) (A 0 1) (A 0 k) (A 1 0) (A 1 1) (A 1 k) (A 2 0) (A 2 1) (A 2 k) * A 0 0 = d2 (A 0 0) (A 0 k) (A 2 0) (A 2 k) * d2 (A 0 0) (A 0 1) (A 1 0) (A 1 1) - d2 (A 0 0) (A 0 1) (A 2 0) (A 2 1) * d2 (A 0 0) (A 0 k) (A 1 0) (A 1 k); unfold d3 d2; grind
 | 1, _, 3, _ => show d3 (A 0 0) (A 0 1) (A 0 k) (A 1 0) (A 1 1) (A 1 k) (A 3 0) (A 3 1) (A 3 k) * A 0 0 = d2 (A 0 0) (A 0 k) (A 3 0) (A 3 k) * d2 (A 0 0) (A 0 1) (A 1 0) (A 1 1) - d2 (A 0 0) (A 0 1) (A 3 0) (A 3 1) * d2 (A 0 0) (A 0 k) (A 1 0) (A 1 k); unfold d3 d2; grind
 | 2, _, 0, _ => exact up3_0 ..
 | 2, _, 1, _ => exact up3_1 ..
 | 2, _, 2, _ => exact absurd rfl hne
 | 2, _, 3, _ => exact st3 ..
 | 3, _, 0, _ => exact up4_0 ..
 | 3, _, 1, _ => exact up4_1 ..
 | 3, _, 2, _ => exact up4_2 ..
 | 3, _, 3, _ => exact absurd rfl hne
def Bd (X a : Int) : Prop := -X ≤ a ∧ a ≤ X
theorem Bd.mono {X Y a : Int} (h : Bd X a) (hXY : X ≤ Y) : Bd Y a := by unfold Bd at *; omega
theorem mulb {X Y a b : Int} (hX : 0 ≤ X) (hY : 0 ≤ Y) (ha : Bd X a) (hb : Bd Y b) : Bd (X * Y) (a * b) := by
 obtain ⟨x, rfl⟩ := Int.eq_ofNat_of_zero_le hX
 obtain ⟨y, rfl⟩ := Int.eq_ofNat_of_zero_le hY
 unfold Bd at *
 have h1 : a.natAbs * b.natAbs ≤ x * y := Nat.mul_le_mul (by omega) (by omega)
 have h2 : (a * b).natAbs = a.natAbs * b.natAbs := Int.natAbs_mul a b
 have h3 : ((x * y : Nat) : Int) = (x : Int) * (y : Int) := by push_cast; rfl
 omega
theorem d2_b {P Q a b c d : Int} (hP : 0 ≤ P) (hQ : 0 ≤ Q) (ha : Bd P a) (hb : Bd Q b) (hc : Bd P c) (hd : Bd Q d) : Bd (2 * (P * Q)) (d2 a b c d) := by
 have h1 := mulb hP hQ ha hd
 have h2 := mulb hQ hP hb hc
 rw [Int.mul_comm Q P] at h2
 unfold Bd d2 at *
 omega
theorem d3_b {P Q R a0 a1 a2 b0 b1 b2 c0 c1 c2 : Int} (hP : 0 ≤ P) (hQ : 0 ≤ Q) (hR : 0 ≤ R) (ha0 : Bd P a0) (ha1 : Bd Q a1) (ha2 : Bd R a2) (hb0 : Bd P b0) (hb1 : Bd Q b1) (hb2 : Bd R b2) (hc0 : Bd P c0) (hc1 : Bd Q c1) (hc2 : Bd R c2) :
  Bd (6 * (P * (Q * R))) (d3 a0 a1 a2 b0 b1 b2 c0 c1 c2) := by
 have m1 : 0 ≤ 2 * (Q * R) := by have := Int.mul_nonneg hQ hR; omega
 have m2 : 0 ≤ 2 * (P * R) := by have := Int.mul_nonneg hP hR; omega
 have m3 : 0 ≤ 2 * (P * Q) := by have := Int.mul_nonneg hP hQ; omega
 have h1 := mulb hP m1 ha0 (d2_b hQ hR hb1 hb2 hc1 hc2)
 have h2 := mulb hQ m2 ha1 (d2_b hP hR hb0 hb2 hc0 hc2)
 have h3 := mulb hR m3 ha2 (d2_b hP hQ hb0 hb1 hc0 hc1)
 rw [show P * (2 * (Q * R)) = 2 * (P * (Q * R)) by grind] at h1
 rw [show Q * (2 * (P * R)) = 2 * (P * (Q * R)) by grind] at h2
 rw [show R * (2 * (P * Q)) = 2 * (P * (Q * R)) by grind] at h3
 unfold Bd d3 at *
 omega
theorem d4_b {P Q R T a0 a1 a2 a3 b0 b1 b2 b3 c0 c1 c2 c3 e0 e1 e2 e3 : Int} (hP : 0 ≤ P) (hQ : 0 ≤ Q) (hR : 0 ≤ R) (hT : 0 ≤ T) (ha0 : Bd P a0) (ha1 : Bd Q a1) (ha2 : Bd R a2) (ha3 : Bd T a3) (hb0 : Bd P b0) (hb1 : Bd Q b1) (hb2 : Bd R b2) (hb3 : Bd T b3)
  (hc0 : Bd P c0) (hc1 : Bd Q c1) (hc2 : Bd R c2) (hc3 : Bd T c3) (he0 : Bd P e0) (he1 : Bd Q e1) (he2 : Bd R e2) (he3 : Bd T e3) : Bd (24 * (P * (Q * (R * T)))) (d4 a0 a1 a2 a3 b0 b1 b2 b3 c0 c1 c2 c3 e0 e1 e2 e3) := by
 have n1 := Int.mul_nonneg hQ (Int.mul_nonneg hR hT)
 have n2 := Int.mul_nonneg hP (Int.mul_nonneg hR hT)
 have n3 := Int.mul_nonneg hP (Int.mul_nonneg hQ hT)
 have n4 := Int.mul_nonneg hP (Int.mul_nonneg hQ hR)
 have h1 := mulb hP (by omega) ha0 (d3_b hQ hR hT hb1 hb2 hb3 hc1 hc2 hc3 he1 he2 he3)
 have h2 := mulb hQ (by omega) ha1 (d3_b hP hR hT hb0 hb2 hb3 hc0 hc2 hc3 he0 he2 he3)
 have h3 := mulb hR (by omega) ha2 (d3_b hP hQ hT hb0 hb1 hb3 hc0 hc1 hc3 he0 he1 he3)
 have h4 := mulb hT (by omega) ha3 (d3_b hP hQ hR hb0 hb1 hb2 hc0 hc1 hc2 he0 he1 he2)
 rw [show P * (6 * (Q * (R * T))) = 6 * (P * (Q * (R * T))) by grind] at h1
 rw [show Q * (6 * (P * (R * T))) = 6 * (P * (Q * (R * T))) by grind] at h2
 rw [show R * (6 * (P * (Q * T))) = 6 * (P * (Q * (R * T))) by grind] at h3
 rw [show T * (6 * (P * (Q * R))) = 6 * (P * (Q * (R * T))) by grind] at h4
 unfold Bd d4 at *
 omega
theorem SS_size {A : TI} {n : Nat} (hn : n ≤ 4) (h1 : ∀ r k, r < n → k < n → Bd 24 (A r k)) (h2 : ∀ r k, r < n → k ≤ n → Bd 2400 (A r k)) (c i k : Nat) (hc : c ≤ n) (hi : i < n) (hk : k ≤ n) : Bd 1073741824 (SS A c i k) := by
 have p : (0 : Int) ≤ 24 := by decide
 have q : (0 : Int) ≤ 2400 := by decide
 match c, (show c ≤ 4 by omega) with
 | 0, _ => exact (h2 i k hi hk).mono (by decide)
 | 1, _ =>
  have a := fun r k hr hk => h1 r k (show r < n by omega) (show k < n by omega)
  show Bd _ (if i = 0 then _ else _)
  split
  ·exact (h2 0 k (by omega) hk).mono (by decide)
  ·exact (d2_b p q (h1 0 0 (by omega) (by omega)) (h2 0 k (by omega) hk) (h1 i 0 hi (by omega)) (h2 i k hi hk)).mono (by decide)
 | 2, _ =>
  show Bd _ (if i = 0 then _ else if i = 1 then _ else _)
  split
  ·exact (d2_b q p (h2 0 k (by omega) hk) (h1 0 1 (by omega) (by omega)) (h2 1 k (by omega) hk) (h1 1 1 (by omega) (by omega))).mono (by decide)
  ·split
   ·exact (d2_b p q (h1 0 0 (by omega) (by omega)) (h2 0 k (by omega) hk) (h1 1 0 (by omega) (by omega)) (h2 1 k (by omega) hk)).mono (by decide)
   ·exact (d3_b p p q (h1 0 0 (by omega) (by omega)) (h1 0 1 (by omega) (by omega)) (h2 0 k (by omega) hk) (h1 1 0 (by omega) (by omega)) (h1 1 1 (by omega) (by omega)) (h2 1 k (by omega) hk) (h1 i 0 hi (by omega)) (h1 i 1 hi (by omega)) (h2 i k hi hk)).mono (by decide)
 | 3, _ =>
  have a : ∀ r k, r < 3 → k < 3 → Bd 24 (A r k) := fun r k hr hk => h1 r k (by omega) (by omega)
  have b : ∀ r, r < 3 → Bd 2400 (A r k) := fun r hr => h2 r k (by omega) hk
  show Bd _ (if i = 0 then _ else if i = 1 then _ else if i = 2 then _ else _)
  split
  ·exact (d3_b q p p (b 0 (by decide)) (a 0 1 (by decide) (by decide)) (a 0 2 (by decide) (by decide)) (b 1 (by decide)) (a 1 1 (by decide) (by decide)) (a 1 2 (by decide) (by decide)) (b 2 (by decide)) (a 2 1 (by decide) (by decide)) (a 2 2 (by decide) (by decide))).mono (by decide)
  ·split
   ·exact (d3_b p q p (a 0 0 (by decide) (by decide)) (b 0 (by decide)) (a 0 2 (by decide) (by decide)) (a 1 0 (by decide) (by decide)) (b 1 (by decide)) (a 1 2 (by decide) (by decide)) (a 2 0 (by decide) (by decide)) (b 2 (by decide)) (a 2 2 (by decide) (by decide))).mono (by decide)
   ·split
    ·exact (d3_b p p q (a 0 0 (by decide) (by decide)) (a 0 1 (by decide) (by decide)) (b 0 (by decide)) (a 1 0 (by decide) (by decide)) (a 1 1 (by decide) (by decide)) (b 1 (by decide)) (a 2 0 (by decide) (by decide)) (a 2 1 (by decide) (by decide)) (b 2 (by decide))).mono (by decide)
    ·exact (d4_b p p p q (a 0 0 (by decide) (by decide)) (a 0 1 (by decide) (by decide)) (a 0 2 (by decide) (by decide)) (b 0 (by decide)) (a 1 0 (by decide) (by decide)) (a 1 1 (by decide) (by decide)) (a 1 2 (by decide) (by decide)) (b 1 (by decide)) (a 2 0 (by decide) (by decide)) (a 2 1 (by decide) (by decide)) (a 2 2 (by decide) (by decide)) (b 2 (by decide)) (h1 i 0 hi (by omega)) (h1 i 1 hi (by omega)) (h1 i 2 hi (by omega)) (h2 i k hi hk)).mono (by decide)
 | 4, _ =>
  have a : ∀ r k, r < 4 → k < 4 → Bd 24 (A r k) := fun r k hr hk => h1 r k (by omega) (by omega)
  have b : ∀ r, r < 4 → Bd 2400 (A r k) := fun r hr => h2 r k (by omega) hk
  show Bd _ (if i = 0 then _ else if i = 1 then _ else if i = 2 then _ else _)
  split
  ·exact (d4_b q p p p (b 0 (by decide)) (a 0 1 (by decide) (by decide)) (a 0 2 (by decide) (by decide)) (a 0 3 (by decide) (by decide)) (b 1 (by decide)) (a 1 1 (by decide) (by decide)) (a 1 2 (by decide) (by decide)) (a 1 3 (by decide) (by decide)) (b 2 (by decide)) (a 2 1 (by decide) (by decide)) (a 2 2 (by decide) (by decide)) (a 2 3 (by decide) (by decide)) (b 3 (by decide)) (a 3 1 (by decide) (by decide)) (a 3 2 (by decide) (by decide)) (a 3 3 (by decide) (by decide))).mono (by decide)
  ·split
   ·exact (d4_b p q p p (a 0 0 (by decide) (by decide)) (b 0 (by decide)) (a 0 2 (by decide) (by decide)) (a 0 3 (by decide) (by decide)) (a 1 0 (by decide) (by decide)) (b 1 (by decide)) (a 1 2 (by decide) (by decide)) (a 1 3 (by decide) (by decide)) (a 2 0 (by decide) (by decide)) (b 2 (by decide)) (a 2 2 (by decide) (by decide)) (a 2 3 (by decide) (by decide)) (a 3 0 (by decide) (by decide)) (b 3 (by decide)) (a 3 2 (by decide) (by decide)) (a 3 3 (by decide) (by decide))).mono (by decide)
   ·split
    ·exact (d4_b p p q p (a 0 0 (by decide) (by decide)) (a 0 1 (by decide) (by decide)) (b 0 (by decide)) (a 0 3 (by decide) (by decide)) (a 1 0 (by decide) (by decide)) (a 1 1 (by decide) (by decide)) (b 1 (by decide)) (a 1 3 (by decide) (by decide)) (a 2 0 (by decide) (by decide)) (a 2 1 (by decide) (by decide)) (b 2 (by decide)) (a 2 3 (by decide) (by decide)) (a 3 0 (by decide) (by decide)) (a 3 1 (by decide) (by decide)) (b 3 (by decide)) (a 3 3 (by decide) (by decide))).mono (by decide)
    ·exact (d4_b p p p q (a 0 0 (by decide) (by decide)) (a 0 1 (by decide) (by decide)) (a 0 2 (by decide) (by decide)) (b 0 (by decide)) (a 1 0 (by decide) (by decide)) (a 1 1 (by decide) (by decide)) (a 1 2 (by decide) (by decide)) (b 1 (by decide)) (a 2 0 (by decide) (by decide)) (a 2 1 (by decide) (by decide)) (a 2 2 (by decide) (by decide)) (b 2 (by decide)) (a 3 0 (by decide) (by decide)) (a 3 1 (by decide) (by decide)) (a 3 2 (by decide) (by decide)) (b 3 (by decide))).mono (by decide)
theorem gj_SS {A : TI} {n : Nat} (hn : n ≤ 4) (hp : ∀ c, c ≤ n → 0 < LL A c) (c : Nat) (hc : c ≤ n) : ∀ r k, r < n → ((SS A c r k : Int) : Rat) = ((LL A c : Int) : Rat) * gj (cst A) c r k := by
 induction c with
 | zero => intro r k _; show ((A r k : Int) : Rat) = ((1 : Int) : Rat) * ((A r k : Int) : Rat); grind
 | succ c ih =>
  intro r k hr
  have hl : ((LL A c : Int) : Rat) ≠ 0 := by
   intro h
   have h2 := hp c (by omega)
   have h3 : LL A c = 0 := by exact_mod_cast h
   omega
  have hcc := ih (by omega) c c (by omega)
  have hL := LL_succ A c (by omega)
  have hpc : ((SS A c c c : Int) : Rat) ≠ 0 := by
   intro h
   have h2 := hp (c + 1) (by omega)
   rw [hL] at h2
   have h3 : SS A c c c = 0 := by exact_mod_cast h
   omega
  have hrc : gj (cst A) c c c ≠ 0 := by
   intro h
   rw [h] at hcc
   apply hpc
   rw [hcc]
   grind
  have hck := ih (by omega) c k (by omega)
  rw [hL]
  by_cases e : r = c
  ·subst e
   rw [SS_own A r k (by omega), hck, hcc]
   show _ = _ * (if r = r then _ else _)
   rw [if_pos rfl]
   grind
  ·have h1 := SS_step A c r k (by omega) (by omega) e
   have h2 : ((SS A (c + 1) r k : Int) : Rat) * ((LL A c : Int) : Rat) = ((SS A c r k : Int) : Rat) * ((SS A c c c : Int) : Rat) - ((SS A c r c : Int) : Rat) * ((SS A c c k : Int) : Rat) := by exact_mod_cast h1
   rw [ih (by omega) r k hr, hcc, ih (by omega) r c hr, hck] at h2
   rw [hcc]
   show _ = _ * (if r = c then _ else _)
   rw [if_neg e]
   grind
theorem gj_piv {A : TI} {n : Nat} (hn : n ≤ 4) (hp : ∀ c, c ≤ n → 0 < LL A c) (c : Nat) (hc : c < n) : gj (cst A) c c c ≠ 0 := by
 intro h
 have h1 := gj_SS hn hp c (by omega) c c hc
 rw [h] at h1
 have h2 := hp (c + 1) (by omega)
 rw [LL_succ A c (by omega)] at h2
 have h3 : ((SS A c c c : Int) : Rat) = 0 := by rw [h1]; grind
 have h4 : SS A c c c = 0 := by exact_mod_cast h3
 omega
theorem tab_E {n : Nat} {l : List S32} (hv : surveyB ((n : Int) + 1) l = true) (right : List Int) (r k : Nat) (hk : k < n) : tab l right n r k = E l r k := by
 rw [tab_ent hv]
 unfold MI0 E
 rw [if_neg (by omega)]
 omega
theorem tab_right {n : Nat} {l : List S32} (hv : surveyB ((n : Int) + 1) l = true) (right : List Int) (r : Nat) (hr : r < n) : tab l right n r n = rd right ((r : Int) + 1) := by
 rw [tab_ent hv, ent_out _ _ _ (fun s hs => by have := sig_mem hv s hs; omega) (by omega)]
 unfold MI0
 rw [if_pos rfl]
 omega
theorem E_size {n : Nat} {l : List S32} (hv : surveyB ((n : Int) + 1) l = true) (hl : l.length ≤ 8) (r k : Nat) : Bd 24 (E l r k) := by
 have := ent_size ((r : Int) + 1) ((k : Int) + 1) (sig l) (fun s hs => by have := sig_mem hv s hs; omega)
 have hs : (sig l).length = l.length := by simp [sig]
 unfold Bd E
 omega
def den (l : List S32) (n : Nat) : Int := LL (E l) n
theorem LL_congr {A B : TI} {n : Nat} (hn : n ≤ 4) (h : ∀ r k, r < n → k < n → A r k = B r k) (c : Nat) (hc : c ≤ n) : LL A c = LL B c := by
 match c, (show c ≤ 4 by omega) with
 | 0, _ => rfl
 | 1, _ => exact h 0 0 (by omega) (by omega)
 | 2, _ =>
  unfold LL
  rw [h 0 0 (by omega) (by omega), h 0 1 (by omega) (by omega), h 1 0 (by omega) (by omega), h 1 1 (by omega) (by omega)]
 | 3, _ =>
  have a : ∀ r k, r < 3 → k < 3 → A r k = B r k := fun r k hr hk => h r k (by omega) (by omega)
  unfold LL
  rw [a 0 0 (by decide) (by decide), a 0 1 (by decide) (by decide), a 0 2 (by decide) (by decide), a 1 0 (by decide) (by decide), a 1 1 (by decide) (by decide), a 1 2 (by decide) (by decide), a 2 0 (by decide) (by decide), a 2 1 (by decide) (by decide), a 2 2 (by decide) (by decide)]
 | 4, _ =>
  have a : ∀ r k, r < 4 → k < 4 → A r k = B r k := fun r k hr hk => h r k (by omega) (by omega)
  unfold LL
  rw [a 0 0 (by decide) (by decide), a 0 1 (by decide) (by decide), a 0 2 (by decide) (by decide), a 0 3 (by decide) (by decide), a 1 0 (by decide) (by decide), a 1 1 (by decide) (by decide), a 1 2 (by decide) (by decide), a 1 3 (by decide) (by decide),
   a 2 0 (by decide) (by decide), a 2 1 (by decide) (by decide), a 2 2 (by decide) (by decide), a 2 3 (by decide) (by decide), a 3 0 (by decide) (by decide), a 3 1 (by decide) (by decide), a 3 2 (by decide) (by decide), a 3 3 (by decide) (by decide)]
theorem LL_E_pos {n : Nat} {l : List S32} (hn : n ≤ 4) (hc : Gm.connB ((n : Int) + 1) l = true) (c : Nat) (hcn : c ≤ n) : 0 < LL (E l) c := by
 obtain ⟨h1, h2, h3, h4⟩ := minors hn hc
 have o : ∀ j, j ≤ c → one_ (n < j) = 0 := fun j hj => by unfold one_; rw [if_neg (by omega)]
 match c, (show c ≤ 4 by omega) with
 | 0, _ => show (0 : Int) < 1; decide
 | 1, _ =>
  rw [o 1 (by omega), Int.add_zero] at h1
  exact h1
 | 2, _ =>
  rw [o 1 (by omega), o 2 (by omega), Int.add_zero, Int.add_zero] at h2
  show 0 < d2 _ _ (E l 1 0) _
  rw [E_symm l 1 0]
  exact h2
 | 3, _ =>
  rw [o 1 (by omega), o 2 (by omega), o 3 (by omega), Int.add_zero, Int.add_zero, Int.add_zero] at h3
  show 0 < d3 _ _ _ (E l 1 0) _ _ (E l 2 0) (E l 2 1) _
  rw [E_symm l 1 0, E_symm l 2 0, E_symm l 2 1]
  exact h3
 | 4, _ =>
  rw [o 1 (by omega), o 2 (by omega), o 3 (by omega), o 4 (by omega), Int.add_zero, Int.add_zero, Int.add_zero, Int.add_zero] at h4
  show 0 < d4 _ _ _ _ (E l 1 0) _ _ _ (E l 2 0) (E l 2 1) _ _ (E l 3 0) (E l 3 1) (E l 3 2) _
  rw [E_symm l 1 0, E_symm l 2 0, E_symm l 2 1, E_symm l 3 0, E_symm l 3 1, E_symm l 3 2]
  exact h4
structure Ok (n : Nat) (l : List S32) (right : List Int) : Prop where
 v : surveyB ((n : Int) + 1) l = true
 pos : ∀ c, c ≤ n → 0 < LL (tab l right n) c
 size : ∀ c i k, c ≤ n → i < n → k ≤ n → -1073741824 ≤ SS (tab l right n) c i k ∧ SS (tab l right n) c i k ≤ 1073741824
 piv : ∀ c, c < n → gj (cst (tab l right n)) c c c ≠ 0
 last : LL (tab l right n) n = den l n
 sol : ∀ r, r < n → gj (cst (tab l right n)) n r n = ((SS (tab l right n) n r n : Int) : Rat) / ((den l n : Int) : Rat)
theorem ok {n : Nat} {l : List S32} (hn : n ≤ 4) (hc : Gm.connB ((n : Int) + 1) l = true) (right : List Int) (hr : ∀ i : Int, -2400 ≤ rd right i ∧ rd right i ≤ 2400) : Ok n l right := by
 have hv : surveyB ((n : Int) + 1) l = true := by unfold Gm.connB at hc; simp only [Bool.and_eq_true] at hc; exact hc.1
 have hl8 : l.length ≤ 8 := by
  have := hv
  unfold surveyB at this
  simp only [Bool.and_eq_true, decide_eq_true_eq] at this
  have := this.1.2
  omega
 have hE : ∀ r k, r < n → k < n → tab l right n r k = E l r k := fun r k _ hk => tab_E hv right r k hk
 have hp : ∀ c, c ≤ n → 0 < LL (tab l right n) c := fun c hcn => by rw [LL_congr hn hE c hcn]; exact LL_E_pos hn hc c hcn
 have hlast : LL (tab l right n) n = den l n := LL_congr hn hE n (Nat.le_refl _)
 have b1 : ∀ r k, r < n → k < n → Bd 24 (tab l right n r k) := fun r k hr hk => by rw [hE r k hr hk]; exact E_size hv hl8 r k
 have b2 : ∀ r k, r < n → k ≤ n → Bd 2400 (tab l right n r k) := fun r k hr2 hk => by
  by_cases e : k = n
  ·subst e
   rw [tab_right hv right r hr2]
   exact hr _
  ·exact (b1 r k hr2 (by omega)).mono (by decide)
 refine ⟨hv, hp, fun c i k h1 h2 h3 => SS_size hn b1 b2 c i k h1 h2 h3, fun c hc2 => gj_piv hn hp c hc2, hlast, fun r hr2 => ?_⟩
 have h1 := gj_SS hn hp n (Nat.le_refl _) r n hr2
 have hl : ((den l n : Int) : Rat) ≠ 0 := by
  intro h
  have h2 := hp n (Nat.le_refl _)
  rw [hlast] at h2
  have h3 : den l n = 0 := by exact_mod_cast h
  omega
 rw [hlast] at h1
 rw [h1]
 grind
end Go.Proofs.Ytkafbmanmffliaa.Gn

/- Plain: sums over lists of fractions. No seat: nothing is imported. -/
namespace Go.Proofs.Ytkafbmanmffliaa.Ka
def sm {α : Type} (g : α → Rat) : List α → Rat
 | [] => 0
 | s :: r => g s + sm g r
section
variable {α β : Type} {g h : α → Rat} {l : List α}
theorem sm_congr (e : ∀ s, s ∈ l → g s = h s) : sm g l = sm h l := by
 induction l with
 | nil => rfl
 | cons s r ih =>
  unfold sm
  rw [e s (by simp), ih (fun t ht => e t (by simp [ht]))]
theorem sm_append (a b : List α) : sm g (a ++ b) = sm g a + sm g b := by
 induction a with
 | nil => simp [sm, Rat.zero_add]
 | cons s r ih => simp only [List.cons_append, sm, ih]; grind
theorem sm_add : sm (fun s => g s + h s) l = sm g l + sm h l := by
 induction l with
 | nil => simp [sm, Rat.add_zero]
 | cons s r ih => simp only [sm, ih]; grind
theorem sm_sub : sm (fun s => g s - h s) l = sm g l - sm h l := by
 induction l with
 | nil => simp only [sm]; grind
 | cons s r ih => simp only [sm, ih]; grind
theorem sm_mul (c : Rat) : sm (fun s => c * g s) l = c * sm g l := by
 induction l with
 | nil => simp only [sm]; grind
 | cons s r ih => simp only [sm, ih]; grind
theorem sm_zero : sm (fun _ : α => (0 : Rat)) l = 0 := by
 induction l with
 | nil => rfl
 | cons s r ih => simp only [sm, ih]; grind
theorem sm_nonneg (hn : ∀ s, s ∈ l → 0 ≤ g s) : 0 ≤ sm g l := by
 induction l with
 | nil => exact Rat.le_refl
 | cons s r ih =>
  have h1 := hn s (by simp)
  have h2 := ih (fun t ht => hn t (by simp [ht]))
  unfold sm
  grind
end
theorem sq_nn (x : Rat) : 0 ≤ x * x := by
 rcases Rat.le_total (a := 0) (b := x) with h | h
 ·exact Rat.mul_nonneg h h
 ·have : 0 ≤ (-x) * (-x) := Rat.mul_nonneg (by grind) (by grind)
  grind
end Go.Proofs.Ytkafbmanmffliaa.Ka

/- Plain: Cramer's rule for up to four rows. -/
namespace Go.Proofs.Ytkafbmanmffliaa.Kb
open La
theorem cr2_0 (a0 a1 ak b0 b1 bk : Int) : a0 * d2 ak a1 bk b1 + a1 * d2 a0 ak b0 bk = d2 a0 a1 b0 b1 * ak := by unfold d2; grind
theorem cr2_1 (a0 a1 ak b0 b1 bk : Int) : b0 * d2 ak a1 bk b1 + b1 * d2 a0 ak b0 bk = d2 a0 a1 b0 b1 * bk := by unfold d2; grind
theorem cr3_0 (a0 a1 a2 ak b0 b1 b2 bk c0 c1 c2 ck : Int) : a0 * d3 ak a1 a2 bk b1 b2 ck c1 c2 + a1 * d3 a0 ak a2 b0 bk b2 c0 ck c2 + a2 * d3 a0 a1 ak b0 b1 bk c0 c1 ck = d3 a0 a1 a2 b0 b1 b2 c0 c1 c2 * ak := by unfold d3 d2; grind
theorem cr3_1 (a0 a1 a2 ak b0 b1 b2 bk c0 c1 c2 ck : Int) : b0 * d3 ak a1 a2 bk b1 b2 ck c1 c2 + b1 * d3 a0 ak a2 b0 bk b2 c0 ck c2 + b2 * d3 a0 a1 ak b0 b1 bk c0 c1 ck = d3 a0 a1 a2 b0 b1 b2 c0 c1 c2 * bk := by unfold d3 d2; grind
theorem cr3_2 (a0 a1 a2 ak b0 b1 b2 bk c0 c1 c2 ck : Int) : c0 * d3 ak a1 a2 bk b1 b2 ck c1 c2 + c1 * d3 a0 ak a2 b0 bk b2 c0 ck c2 + c2 * d3 a0 a1 ak b0 b1 bk c0 c1 ck = d3 a0 a1 a2 b0 b1 b2 c0 c1 c2 * ck := by unfold d3 d2; grind
set_option maxHeartbeats 8000000 in
theorem cr4 (x0 x1 x2 x3 a0 a1 a2 a3 ak b0 b1 b2 b3 bk c0 c1 c2 c3 ck e0 e1 e2 e3 ek : Int) :
  x0 * d4 ak a1 a2 a3 bk b1 b2 b3 ck c1 c2 c3 ek e1 e2 e3 + x1 * d4 a0 ak a2 a3 b0 bk b2 b3 c0 ck c2 c3 e0 ek e2 e3 + x2 * d4 a0 a1 ak a3 b0 b1 bk b3 c0 c1 ck c3 e0 e1 ek e3 + x3 * d4 a0 a1 a2 ak b0 b1 b2 bk c0 c1 c2 ck e0 e1 e2 ek =
   ak * d4 x0 x1 x2 x3 b0 b1 b2 b3 c0 c1 c2 c3 e0 e1 e2 e3 + bk * d4 a0 a1 a2 a3 x0 x1 x2 x3 c0 c1 c2 c3 e0 e1 e2 e3 + ck * d4 a0 a1 a2 a3 b0 b1 b2 b3 x0 x1 x2 x3 e0 e1 e2 e3 + ek * d4 a0 a1 a2 a3 b0 b1 b2 b3 c0 c1 c2 c3 x0 x1 x2 x3 := by
 unfold d4 d3 d2; grind
theorem d4_same (a0 a1 a2 a3 b0 b1 b2 b3 c0 c1 c2 c3 : Int) :
  d4 a0 a1 a2 a3 a0 a1 a2 a3 b0 b1 b2 b3 c0 c1 c2 c3 = 0 ∧ d4 a0 a1 a2 a3 b0 b1 b2 b3 a0 a1 a2 a3 c0 c1 c2 c3 = 0 ∧ d4 a0 a1 a2 a3 b0 b1 b2 b3 c0 c1 c2 c3 a0 a1 a2 a3 = 0 ∧
  d4 b0 b1 b2 b3 a0 a1 a2 a3 a0 a1 a2 a3 c0 c1 c2 c3 = 0 ∧ d4 b0 b1 b2 b3 a0 a1 a2 a3 c0 c1 c2 c3 a0 a1 a2 a3 = 0 ∧ d4 b0 b1 b2 b3 c0 c1 c2 c3 a0 a1 a2 a3 a0 a1 a2 a3 = 0 := by
 unfold d4 d3 d2; grind
end Go.Proofs.Ytkafbmanmffliaa.Kb

/- Plain: the form of a survey's weights at two functions of its points; the numbers that the elimination ends in solve it. -/
namespace Go.Proofs.Ytkafbmanmffliaa.Kc
open Go Go.RowKit YtkafbmanmffliaaW.PrintWords Q Gf Gs Hb La Qf Gm Gn Ka Kb
set_option linter.unusedVariables false
set_option linter.unusedSimpArgs false
def dif (x : Int → Rat) (s : S32) : Rat := x s.f1 - x s.f0
def B (l : List S32) (x y : Int → Rat) : Rat := sm (fun s => (s.f3 : Rat) * (dif x s * dif y s)) l
def bf (e : Int → Int → Int) (x y : Int → Rat) : Rat :=
 y 1 * (e 1 1 * x 1 + e 1 2 * x 2 + e 1 3 * x 3 + e 1 4 * x 4) + y 2 * (e 2 1 * x 1 + e 2 2 * x 2 + e 2 3 * x 3 + e 2 4 * x 4) + y 3 * (e 3 1 * x 1 + e 3 2 * x 2 + e 3 3 * x 3 + e 3 4 * x 4) + y 4 * (e 4 1 * x 1 + e 4 2 * x 2 + e 4 3 * x 3 + e 4 4 * x 4)
theorem bf_add (e e' : Int → Int → Int) (x y : Int → Rat) : bf (fun p q => e p q + e' p q) x y = bf e x y + bf e' x y := by
 unfold bf
 simp only [Rat.intCast_add]
 grind
set_option maxHeartbeats 8000000 in
theorem bf_one (s : Si) (x y : Int → Rat) (h0 : x 0 = 0) (k0 : y 0 = 0) (hf : 0 ≤ s.f ∧ s.f ≤ 4) (ht : 0 ≤ s.t ∧ s.t ≤ 4) (hne : s.f ≠ s.t) :
  bf (fun p q => con s p q) x y = (s.w : Rat) * ((x s.t - x s.f) * (y s.t - y s.f)) := by
 obtain ⟨f, t, w⟩ := s
 simp only at hf ht hne ⊢
 have cf : f = 0 ∨ f = 1 ∨ f = 2 ∨ f = 3 ∨ f = 4 := by omega
 have ct : t = 0 ∨ t = 1 ∨ t = 2 ∨ t = 3 ∨ t = 4 := by omega
 rcases cf with rfl | rfl | rfl | rfl | rfl <;> rcases ct with rfl | rfl | rfl | rfl | rfl <;> first | exact absurd rfl hne | (simp [con, bf, h0, k0]; try grind)
theorem B_eq (l : List S32) (x y : Int → Rat) (h0 : x 0 = 0) (k0 : y 0 = 0) (hv : ∀ s ∈ l, (0 ≤ s.f0 ∧ s.f0 ≤ 4) ∧ (0 ≤ s.f1 ∧ s.f1 ≤ 4) ∧ s.f0 ≠ s.f1) : B l x y = bf (fun p q => ent p q (sig l)) x y := by
 induction l with
 | nil => simp [B, sm, bf, sig, ent]; grind
 | cons s r ih =>
  have h := hv s (by simp)
  have e : bf (fun p q => ent p q (sig (s :: r))) x y = bf (fun p q => con ⟨s.f0, s.f1, s.f3⟩ p q) x y + bf (fun p q => ent p q (sig r)) x y := bf_add _ _ _ _
  rw [e, bf_one _ x y h0 k0 h.1 h.2.1 h.2.2, ← ih (fun t ht => hv t (by simp [ht]))]
  rfl
theorem B_shift (l : List S32) (x y : Int → Rat) (c : Rat) : B l x (fun p => y p - c) = B l x y := sm_congr (fun s _ => by unfold dif; grind)
theorem cram1 (A : TI) : A 0 0 * SS A 1 0 1 = LL A 1 * A 0 1 := rfl
theorem cram2 (A : TI) : (A 0 0 * SS A 2 0 2 + A 0 1 * SS A 2 1 2 = LL A 2 * A 0 2) ∧ (A 1 0 * SS A 2 0 2 + A 1 1 * SS A 2 1 2 = LL A 2 * A 1 2) := ⟨cr2_0 .., cr2_1 ..⟩
theorem cram3 (A : TI) : (A 0 0 * SS A 3 0 3 + A 0 1 * SS A 3 1 3 + A 0 2 * SS A 3 2 3 = LL A 3 * A 0 3) ∧ (A 1 0 * SS A 3 0 3 + A 1 1 * SS A 3 1 3 + A 1 2 * SS A 3 2 3 = LL A 3 * A 1 3) ∧ (A 2 0 * SS A 3 0 3 + A 2 1 * SS A 3 1 3 + A 2 2 * SS A 3 2 3 = LL A 3 * A 2 3) :=
 ⟨cr3_0 .., cr3_1 .., cr3_2 ..⟩
theorem cram4 (A : TI) (r : Nat) (hr : r < 4) : A r 0 * SS A 4 0 4 + A r 1 * SS A 4 1 4 + A r 2 * SS A 4 2 4 + A r 3 * SS A 4 3 4 = LL A 4 * A r 4 := by
 have h := cr4 (A r 0) (A r 1) (A r 2) (A r 3) (A 0 0) (A 0 1) (A 0 2) (A 0 3) (A 0 4) (A 1 0) (A 1 1) (A 1 2) (A 1 3) (A 1 4) (A 2 0) (A 2 1) (A 2 2) (A 2 3) (A 2 4) (A 3 0) (A 3 1) (A 3 2) (A 3 3) (A 3 4)
 refine Eq.trans h ?_
 match r, hr with
 | 0, _ =>
  rw [(d4_same (A 0 0) (A 0 1) (A 0 2) (A 0 3) (A 2 0) (A 2 1) (A 2 2) (A 2 3) (A 3 0) (A 3 1) (A 3 2) (A 3 3)).1, (d4_same (A 0 0) (A 0 1) (A 0 2) (A 0 3) (A 1 0) (A 1 1) (A 1 2) (A 1 3) (A 3 0) (A 3 1) (A 3 2) (A 3 3)).2.1, (d4_same (A 0 0) (A 0 1) (A 0 2) (A 0 3) (A 1 0) (A 1 1) (A 1 2) (A 1 3) (A 2 0) (A 2 1) (A 2 2) (A 2 3)).2.2.1]
  show A 0 4 * LL A 4 + _ + _ + _ = _
  grind
 | 1, _ =>
  rw [(d4_same (A 1 0) (A 1 1) (A 1 2) (A 1 3) (A 2 0) (A 2 1) (A 2 2) (A 2 3) (A 3 0) (A 3 1) (A 3 2) (A 3 3)).1, (d4_same (A 1 0) (A 1 1) (A 1 2) (A 1 3) (A 0 0) (A 0 1) (A 0 2) (A 0 3) (A 3 0) (A 3 1) (A 3 2) (A 3 3)).2.2.2.1, (d4_same (A 1 0) (A 1 1) (A 1 2) (A 1 3) (A 0 0) (A 0 1) (A 0 2) (A 0 3) (A 2 0) (A 2 1) (A 2 2) (A 2 3)).2.2.2.2.1]
  show _ + A 1 4 * LL A 4 + _ + _ = _
  grind
 | 2, _ =>
  rw [(d4_same (A 2 0) (A 2 1) (A 2 2) (A 2 3) (A 1 0) (A 1 1) (A 1 2) (A 1 3) (A 3 0) (A 3 1) (A 3 2) (A 3 3)).2.1, (d4_same (A 2 0) (A 2 1) (A 2 2) (A 2 3) (A 0 0) (A 0 1) (A 0 2) (A 0 3) (A 3 0) (A 3 1) (A 3 2) (A 3 3)).2.2.2.1, (d4_same (A 2 0) (A 2 1) (A 2 2) (A 2 3) (A 0 0) (A 0 1) (A 0 2) (A 0 3) (A 1 0) (A 1 1) (A 1 2) (A 1 3)).2.2.2.2.2]
  show _ + _ + A 2 4 * LL A 4 + _ = _
  grind
 | 3, _ =>
  rw [(d4_same (A 3 0) (A 3 1) (A 3 2) (A 3 3) (A 1 0) (A 1 1) (A 1 2) (A 1 3) (A 2 0) (A 2 1) (A 2 2) (A 2 3)).2.2.1, (d4_same (A 3 0) (A 3 1) (A 3 2) (A 3 3) (A 0 0) (A 0 1) (A 0 2) (A 0 3) (A 2 0) (A 2 1) (A 2 2) (A 2 3)).2.2.2.2.1, (d4_same (A 3 0) (A 3 1) (A 3 2) (A 3 3) (A 0 0) (A 0 1) (A 0 2) (A 0 3) (A 1 0) (A 1 1) (A 1 2) (A 1 3)).2.2.2.2.2]
  show _ + _ + _ + A 3 4 * LL A 4 = _
  grind
def nu (l : List S32) (right : List Int) (n : Nat) (p : Int) : Int := if p ≤ 0 then 0 else SS (tab l right n) n (p.toNat - 1) n
def xs (l : List S32) (right : List Int) (n : Nat) (p : Int) : Rat := (nu l right n p : Rat) / (den l n : Rat)
theorem nu_zero (l : List S32) (right : List Int) (n : Nat) : nu l right n 0 = 0 := rfl
theorem xs_zero (l : List S32) (right : List Int) (n : Nat) : xs l right n 0 = 0 := by unfold xs; rw [nu_zero, Rat.div_def]; exact Rat.zero_mul _
def rs (right : List Int) (n : Nat) (y : Int → Rat) : Rat := sm (fun p : Nat => (rd right ((p : Int) + 1) : Rat) * (y ((p : Int) + 1) - y 0)) (List.range n)
theorem ent_zero (p q : Int) (L : List Si) (h : ∀ s ∈ L, s.f ≠ q ∧ s.t ≠ q) : ent p q L = 0 := by
 induction L with
 | nil => rfl
 | cons s r ih =>
  have h1 := h s (by simp)
  simp only [ent, ih (fun t ht => h t (by simp [ht]))]
  unfold con
  split
  ·rw [if_neg (by omega)]; rfl
  ·rw [if_neg (by omega)]; rfl
theorem den_ne {n : Nat} {l : List S32} {right : List Int} (h : Ok n l right) : (den l n : Rat) ≠ 0 := by
 intro e
 have h2 := h.pos n (Nat.le_refl _)
 rw [h.last] at h2
 have h3 : den l n = 0 := by exact_mod_cast e
 omega
theorem weak {n : Nat} {l : List S32} {right : List Int} (hn : n ≤ 4) (hn1 : 1 ≤ n) (h : Ok n l right) (y : Int → Rat) : B l (xs l right n) y = rs right n y := by
 have hm := sig_mem h.v
 have hd := den_ne h
 have hv : ∀ s ∈ l, (0 ≤ s.f0 ∧ s.f0 ≤ 4) ∧ (0 ≤ s.f1 ∧ s.f1 ≤ 4) ∧ s.f0 ≠ s.f1 := fun s hs => by
  have := hm ⟨s.f0, s.f1, s.f3⟩ (List.mem_map.2 ⟨s, hs, rfl⟩)
  dsimp only at this
  omega
 rw [← B_shift l _ y (y 0), B_eq l _ _ (xs_zero _ _ _) (by grind) hv]
 have z1 : ∀ p q : Int, (n : Int) < q → ent p q (sig l) = 0 := fun p q hq => ent_zero p q _ (fun s hs => by have := hm s hs; omega)
 have z2 : ∀ p q : Int, (n : Int) < p → ent p q (sig l) = 0 := fun p q hp => by rw [ent_symm]; exact z1 q p hp
 have hE : ∀ r k : Nat, k < n → tab l right n r k = ent ((r : Int) + 1) ((k : Int) + 1) (sig l) := fun r k hk => tab_E h.v right r k hk
 have hR : ∀ r : Nat, r < n → tab l right n r n = rd right ((r : Int) + 1) := fun r hr => tab_right h.v right r hr
 have hL := h.last
 have cs : ∀ r : Nat, r < n → True := fun _ _ => trivial
 match n, hn1, hn with
 | 1, _, _ =>
  have c0 := cram1 (tab l right 1)
  rw [hE 0 0 (by decide), hR 0 (by decide), hL] at c0
  have d0 : ((ent 1 1 (sig l) : Int) : Rat) * ((SS (tab l right 1) 1 0 1 : Int) : Rat) = ((den l 1 : Int) : Rat) * ((rd right 1 : Int) : Rat) := by exact_mod_cast c0
  have e0 : ((ent 1 1 (sig l) : Int) : Rat) * xs l right 1 1 = ((rd right 1 : Int) : Rat) := by
   show ((ent 1 1 (sig l) : Int) : Rat) * (((SS (tab l right 1) 1 0 1 : Int) : Rat) / ((den l 1 : Int) : Rat)) = _
   grind
  clear c0 d0
  show bf _ _ _ = sm _ [0]
  simp only [bf, sm, z1 _ 2 (by decide), z1 _ 3 (by decide), z1 _ 4 (by decide), z2 2 _ (by decide), z2 3 _ (by decide), z2 4 _ (by decide)]
  simp
  grind
 | 2, _, _ =>
  have c0 := (cram2 (tab l right 2)).1
  rw [hE 0 0 (by decide), hE 0 1 (by decide), hR 0 (by decide), hL] at c0
  have d0 : ((ent 1 1 (sig l) : Int) : Rat) * ((SS (tab l right 2) 2 0 2 : Int) : Rat) + ((ent 1 2 (sig l) : Int) : Rat) * ((SS (tab l right 2) 2 1 2 : Int) : Rat) = ((den l 2 : Int) : Rat) * ((rd right 1 : Int) : Rat) := by exact_mod_cast c0
  have e0 : ((ent 1 1 (sig l) : Int) : Rat) * xs l right 2 1 + ((ent 1 2 (sig l) : Int) : Rat) * xs l right 2 2 = ((rd right 1 : Int) : Rat) := by
   show ((ent 1 1 (sig l) : Int) : Rat) * (((SS (tab l right 2) 2 0 2 : Int) : Rat) / ((den l 2 : Int) : Rat)) + ((ent 1 2 (sig l) : Int) : Rat) * (((SS (tab l right 2) 2 1 2 : Int) : Rat) / ((den l 2 : Int) : Rat)) = _
   grind
  clear c0 d0
  have c1 := (cram2 (tab l right 2)).2
  rw [hE 1 0 (by decide), hE 1 1 (by decide), hR 1 (by decide), hL] at c1
  have d1 : ((ent 2 1 (sig l) : Int) : Rat) * ((SS (tab l right 2) 2 0 2 : Int) : Rat) + ((ent 2 2 (sig l) : Int) : Rat) * ((SS (tab l right 2) 2 1 2 : Int) : Rat) = ((den l 2 : Int) : Rat) * ((rd right 2 : Int) : Rat) := by exact_mod_cast c1
  have e1 : ((ent 2 1 (sig l) : Int) : Rat) * xs l right 2 1 + ((ent 2 2 (sig l) : Int) : Rat) * xs l right 2 2 = ((rd right 2 : Int) : Rat) := by
   show ((ent 2 1 (sig l) : Int) : Rat) * (((SS (tab l right 2) 2 0 2 : Int) : Rat) / ((den l 2 : Int) : Rat)) + ((ent 2 2 (sig l) : Int) : Rat) * (((SS (tab l right 2) 2 1 2 : Int) : Rat) / ((den l 2 : Int) : Rat)) = _
   grind
  clear c1 d1
  show bf _ _ _ = sm _ [0, 1]
  simp only [bf, sm, z1 _ 3 (by decide), z1 _ 4 (by decide), z2 3 _ (by decide), z2 4 _ (by decide)]
  simp
  grind
 | 3, _, _ =>
  have c0 := (cram3 (tab l right 3)).1
  rw [hE 0 0 (by decide), hE 0 1 (by decide), hE 0 2 (by decide), hR 0 (by decide), hL] at c0
  have d0 : ((ent 1 1 (sig l) : Int) : Rat) * ((SS (tab l right 3) 3 0 3 : Int) : Rat) + ((ent 1 2 (sig l) : Int) : Rat) * ((SS (tab l right 3) 3 1 3 : Int) : Rat) + ((ent 1 3 (sig l) : Int) : Rat) * ((SS (tab l right 3) 3 2 3 : Int) : Rat) = ((den l 3 : Int) : Rat) * ((rd right 1 : Int) : Rat) := by exact_mod_cast c0
  have e0 : ((ent 1 1 (sig l) : Int) : Rat) * xs l right 3 1 + ((ent 1 2 (sig l) : Int) : Rat) * xs l right 3 2 + ((ent 1 3 (sig l) : Int) : Rat) * xs l right 3 3 = ((rd right 1 : Int) : Rat) := by
   show ((ent 1 1 (sig l) : Int) : Rat) * (((SS (tab l right 3) 3 0 3 : Int) : Rat) / ((den l 3 : Int) : Rat)) + ((ent 1 2 (sig l) : Int) : Rat) * (((SS (tab l right 3) 3 1 3 : Int) : Rat) / ((den l 3 : Int) : Rat)) + ((ent 1 3 (sig l) : Int) : Rat) * (((SS (tab l right 3) 3 2 3 : Int) : Rat) / ((den l 3 : Int) : Rat)) = _
   grind
  clear c0 d0
  have c1 := (cram3 (tab l right 3)).2.1
  rw [hE 1 0 (by decide), hE 1 1 (by decide), hE 1 2 (by decide), hR 1 (by decide), hL] at c1
  have d1 : ((ent 2 1 (sig l) : Int) : Rat) * ((SS (tab l right 3) 3 0 3 : Int) : Rat) + ((ent 2 2 (sig l) : Int) : Rat) * ((SS (tab l right 3) 3 1 3 : Int) : Rat) + ((ent 2 3 (sig l) : Int) : Rat) * ((SS (tab l right 3) 3 2 3 : Int) : Rat) = ((den l 3 : Int) : Rat) * ((rd right 2 : Int) : Rat) := by exact_mod_cast c1
  have e1 : ((ent 2 1 (sig l) : Int) : Rat) * xs l right 3 1 + ((ent 2 2 (sig l) : Int) : Rat) * xs l right 3 2 + ((ent 2 3 (sig l) : Int) : Rat) * xs l right 3 3 = ((rd right 2 : Int) : Rat) := by
   show ((ent 2 1 (sig l) : Int) : Rat) * (((SS (tab l right 3) 3 0 3 : Int) : Rat) / ((den l 3 : Int) : Rat)) + ((ent 2 2 (sig l) : Int) : Rat) * (((SS (tab l right 3) 3 1 3 : Int) : Rat) / ((den l 3 : Int) : Rat)) + ((ent 2 3 (sig l) : Int) : Rat) * (((SS (tab l right 3) 3 2 3 : Int) : Rat) / ((den l 3 : Int) : Rat)) = _
   grind
  clear c1 d1
  have c2 := (cram3 (tab l right 3)).2.2
  rw [hE 2 0 (by decide), hE 2 1 (by decide), hE 2 2 (by decide), hR 2 (by decide), hL] at c2
  have d2 : ((ent 3 1 (sig l) : Int) : Rat) * ((SS (tab l right 3) 3 0 3 : Int) : Rat) + ((ent 3 2 (sig l) : Int) : Rat) * ((SS (tab l right 3) 3 1 3 : Int) : Rat) + ((ent 3 3 (sig l) : Int) : Rat) * ((SS (tab l right 3) 3 2 3 : Int) : Rat) = ((den l 3 : Int) : Rat) * ((rd right 3 : Int) : Rat) := by exact_mod_cast c2
  have e2 : ((ent 3 1 (sig l) : Int) : Rat) * xs l right 3 1 + ((ent 3 2 (sig l) : Int) : Rat) * xs l right 3 2 + ((ent 3 3 (sig l) : Int) : Rat) * xs l right 3 3 = ((rd right 3 : Int) : Rat) := by
   show ((ent 3 1 (sig l) : Int) : Rat) * (((SS (tab l right 3) 3 0 3 : Int) : Rat) / ((den l 3 : Int) : Rat)) + ((ent 3 2 (sig l) : Int) : Rat) * (((SS (tab l right 3) 3 1 3 : Int) : Rat) / ((den l 3 : Int) : Rat)) + ((ent 3 3 (sig l) : Int) : Rat) * (((SS (tab l right 3) 3 2 3 : Int) : Rat) / ((den l 3 : Int) : Rat)) = _
   grind
  clear c2 d2
  show bf _ _ _ = sm _ [0, 1, 2]
  simp only [bf, sm, z1 _ 4 (by decide), z2 4 _ (by decide)]
  simp
  grind
 | 4, _, _ =>
  have c0 := cram4 (tab l right 4) 0 (by decide)
  rw [hE 0 0 (by decide), hE 0 1 (by decide), hE 0 2 (by decide), hE 0 3 (by decide), hR 0 (by decide), hL] at c0
  have d0 : ((ent 1 1 (sig l) : Int) : Rat) * ((SS (tab l right 4) 4 0 4 : Int) : Rat) + ((ent 1 2 (sig l) : Int) : Rat) * ((SS (tab l right 4) 4 1 4 : Int) : Rat) + ((ent 1 3 (sig l) : Int) : Rat) * ((SS (tab l right 4) 4 2 4 : Int) : Rat) + ((ent 1 4 (sig l) : Int) : Rat) * ((SS (tab l right 4) 4 3 4 : Int) : Rat) = ((den l 4 : Int) : Rat) * ((rd right 1 : Int) : Rat) := by exact_mod_cast c0
  have e0 : ((ent 1 1 (sig l) : Int) : Rat) * xs l right 4 1 + ((ent 1 2 (sig l) : Int) : Rat) * xs l right 4 2 + ((ent 1 3 (sig l) : Int) : Rat) * xs l right 4 3 + ((ent 1 4 (sig l) : Int) : Rat) * xs l right 4 4 = ((rd right 1 : Int) : Rat) := by
   show ((ent 1 1 (sig l) : Int) : Rat) * (((SS (tab l right 4) 4 0 4 : Int) : Rat) / ((den l 4 : Int) : Rat)) + ((ent 1 2 (sig l) : Int) : Rat) * (((SS (tab l right 4) 4 1 4 : Int) : Rat) / ((den l 4 : Int) : Rat)) + ((ent 1 3 (sig l) : Int) : Rat) * (((SS (tab l right 4) 4 2 4 : Int) : Rat) / ((den l 4 : Int) : Rat)) + ((ent 1 4 (sig l) : Int) : Rat) * (((SS (tab l right 4) 4 3 4 : Int) : Rat) / ((den l 4 : Int) : Rat)) = _
   grind
  clear c0 d0
  have c1 := cram4 (tab l right 4) 1 (by decide)
  rw [hE 1 0 (by decide), hE 1 1 (by decide), hE 1 2 (by decide), hE 1 3 (by decide), hR 1 (by decide), hL] at c1
  have d1 : ((ent 2 1 (sig l) : Int) : Rat) * ((SS (tab l right 4) 4 0 4 : Int) : Rat) + ((ent 2 2 (sig l) : Int) : Rat) * ((SS (tab l right 4) 4 1 4 : Int) : Rat) + ((ent 2 3 (sig l) : Int) : Rat) * ((SS (tab l right 4) 4 2 4 : Int) : Rat) + ((ent 2 4 (sig l) : Int) : Rat) * ((SS (tab l right 4) 4 3 4 : Int) : Rat) = ((den l 4 : Int) : Rat) * ((rd right 2 : Int) : Rat) := by exact_mod_cast c1
  have e1 : ((ent 2 1 (sig l) : Int) : Rat) * xs l right 4 1 + ((ent 2 2 (sig l) : Int) : Rat) * xs l right 4 2 + ((ent 2 3 (sig l) : Int) : Rat) * xs l right 4 3 + ((ent 2 4 (sig l) : Int) : Rat) * xs l right 4 4 = ((rd right 2 : Int) : Rat) := by
   show ((ent 2 1 (sig l) : Int) : Rat) * (((SS (tab l right 4) 4 0 4 : Int) : Rat) / ((den l 4 : Int) : Rat)) + ((ent 2 2 (sig l) : Int) : Rat) * (((SS (tab l right 4) 4 1 4 : Int) : Rat) / ((den l 4 : Int) : Rat)) + ((ent 2 3 (sig l) : Int) : Rat) * (((SS (tab l right 4) 4 2 4 : Int) : Rat) / ((den l 4 : Int) : Rat)) + ((ent 2 4 (sig l) : Int) : Rat) * (((SS (tab l right 4) 4 3 4 : Int) : Rat) / ((den l 4 : Int) : Rat)) = _
   grind
  clear c1 d1
  have c2 := cram4 (tab l right 4) 2 (by decide)
  rw [hE 2 0 (by decide), hE 2 1 (by decide), hE 2 2 (by decide), hE 2 3 (by decide), hR 2 (by decide), hL] at c2
  have d2 : ((ent 3 1 (sig l) : Int) : Rat) * ((SS (tab l right 4) 4 0 4 : Int) : Rat) + ((ent 3 2 (sig l) : Int) : Rat) * ((SS (tab l right 4) 4 1 4 : Int) : Rat) + ((ent 3 3 (sig l) : Int) : Rat) * ((SS (tab l right 4) 4 2 4 : Int) : Rat) + ((ent 3 4 (sig l) : Int) : Rat) * ((SS (tab l right 4) 4 3 4 : Int) : Rat) = ((den l 4 : Int) : Rat) * ((rd right 3 : Int) : Rat) := by exact_mod_cast c2
  have e2 : ((ent 3 1 (sig l) : Int) : Rat) * xs l right 4 1 + ((ent 3 2 (sig l) : Int) : Rat) * xs l right 4 2 + ((ent 3 3 (sig l) : Int) : Rat) * xs l right 4 3 + ((ent 3 4 (sig l) : Int) : Rat) * xs l right 4 4 = ((rd right 3 : Int) : Rat) := by
   show ((ent 3 1 (sig l) : Int) : Rat) * (((SS (tab l right 4) 4 0 4 : Int) : Rat) / ((den l 4 : Int) : Rat)) + ((ent 3 2 (sig l) : Int) : Rat) * (((SS (tab l right 4) 4 1 4 : Int) : Rat) / ((den l 4 : Int) : Rat)) + ((ent 3 3 (sig l) : Int) : Rat) * (((SS (tab l right 4) 4 2 4 : Int) : Rat) / ((den l 4 : Int) : Rat)) + ((ent 3 4 (sig l) : Int) : Rat) * (((SS (tab l right 4) 4 3 4 : Int) : Rat) / ((den l 4 : Int) : Rat)) = _
   grind
  clear c2 d2
  have c3 := cram4 (tab l right 4) 3 (by decide)
  rw [hE 3 0 (by decide), hE 3 1 (by decide), hE 3 2 (by decide), hE 3 3 (by decide), hR 3 (by decide), hL] at c3
  have d3 : ((ent 4 1 (sig l) : Int) : Rat) * ((SS (tab l right 4) 4 0 4 : Int) : Rat) + ((ent 4 2 (sig l) : Int) : Rat) * ((SS (tab l right 4) 4 1 4 : Int) : Rat) + ((ent 4 3 (sig l) : Int) : Rat) * ((SS (tab l right 4) 4 2 4 : Int) : Rat) + ((ent 4 4 (sig l) : Int) : Rat) * ((SS (tab l right 4) 4 3 4 : Int) : Rat) = ((den l 4 : Int) : Rat) * ((rd right 4 : Int) : Rat) := by exact_mod_cast c3
  have e3 : ((ent 4 1 (sig l) : Int) : Rat) * xs l right 4 1 + ((ent 4 2 (sig l) : Int) : Rat) * xs l right 4 2 + ((ent 4 3 (sig l) : Int) : Rat) * xs l right 4 3 + ((ent 4 4 (sig l) : Int) : Rat) * xs l right 4 4 = ((rd right 4 : Int) : Rat) := by
   show ((ent 4 1 (sig l) : Int) : Rat) * (((SS (tab l right 4) 4 0 4 : Int) : Rat) / ((den l 4 : Int) : Rat)) + ((ent 4 2 (sig l) : Int) : Rat) * (((SS (tab l right 4) 4 1 4 : Int) : Rat) / ((den l 4 : Int) : Rat)) + ((ent 4 3 (sig l) : Int) : Rat) * (((SS (tab l right 4) 4 2 4 : Int) : Rat) / ((den l 4 : Int) : Rat)) + ((ent 4 4 (sig l) : Int) : Rat) * (((SS (tab l right 4) 4 3 4 : Int) : Rat) / ((den l 4 : Int) : Rat)) = _
   grind
  clear c3 d3
  show bf _ _ _ = sm _ [0, 1, 2, 3]
  simp only [bf, sm]
  simp
  grind
end Go.Proofs.Ytkafbmanmffliaa.Kc

/- Plain: right sides of the equations: the sights' weighted rises, and one point against another. -/
namespace Go.Proofs.Ytkafbmanmffliaa.Ke
open Go Go.RowKit YtkafbmanmffliaaW.PrintWords Q Gf Gs Hb Gm Gn Ka Kc
set_option linter.unusedVariables false
set_option linter.unusedSimpArgs false
def ad (r : List Int) (t f c : Int) : List Int := (r.set t.toNat (rd r t + c)).set f.toNat (rd (r.set t.toNat (rd r t + c)) f - c)
theorem ad_len (r : List Int) (t f c : Int) : (ad r t f c).length = r.length := by simp [ad]
theorem rd_set {r : List Int} {t p v : Int} (h0 : 0 ≤ t) (h1 : t < r.length) (hp : 0 ≤ p) : rd (r.set t.toNat v) p = if p = t then v else rd r p := by
 simp only [rd, List.getD_eq_getElem?_getD]
 by_cases e : p = t
 ·subst e
  rw [if_pos rfl, List.getElem?_set_self (by omega)]
  rfl
 ·rw [if_neg e, List.getElem?_set_ne (by omega)]
theorem rd_ad {r : List Int} {t f c p : Int} (ht0 : 0 ≤ t) (ht : t < r.length) (hf0 : 0 ≤ f) (hf : f < r.length) (hp : 0 ≤ p) : rd (ad r t f c) p = rd r p + (if p = t then c else 0) - (if p = f then c else 0) := by
 unfold ad
 rw [rd_set hf0 (by simp; omega) hp, rd_set ht0 ht hf0, rd_set ht0 ht hp]
 by_cases e1 : p = f
 ·subst e1
  rw [if_pos rfl, if_pos rfl]
  by_cases e2 : p = t
  ·subst e2; rw [if_pos rfl, if_pos rfl]
  ·rw [if_neg e2, if_neg e2]; omega
 ·rw [if_neg e1, if_neg e1]
  by_cases e2 : p = t
  ·subst e2; rw [if_pos rfl, if_pos rfl]; omega
  ·rw [if_neg e2, if_neg e2]; omega
theorem pick0 (n : Nat) (t : Int) (ht : t ≤ 0 ∨ (n : Int) < t) (c : Rat) (y : Int → Rat) : sm (fun p : Nat => (if (p : Int) + 1 = t then c else 0) * (y ((p : Int) + 1) - y 0)) (List.range n) = 0 := by
 have h : sm (fun p : Nat => (if (p : Int) + 1 = t then c else 0) * (y ((p : Int) + 1) - y 0)) (List.range n) = sm (fun _ : Nat => (0 : Rat)) (List.range n) := sm_congr (fun p hp => by
  have := List.mem_range.1 hp
  rw [if_neg (by omega)]
  exact Rat.zero_mul _)
 rw [h, sm_zero]
theorem pick (n : Nat) (t : Int) (h0 : 0 ≤ t) (h1 : t ≤ n) (c : Rat) (y : Int → Rat) : sm (fun p : Nat => (if (p : Int) + 1 = t then c else 0) * (y ((p : Int) + 1) - y 0)) (List.range n) = c * (y t - y 0) := by
 by_cases e : t = 0
 ·subst e
  rw [pick0 n 0 (.inl (by omega))]
  grind
 ·induction n with
  | zero => omega
  | succ n ih =>
   rw [List.range_succ, sm_append]
   by_cases e2 : t = (n : Int) + 1
   ·rw [pick0 n t (.inr (by omega))]
    simp only [sm]
    rw [if_pos e2.symm, ← e2]
    grind
   ·rw [ih (by omega)]
    simp only [sm]
    rw [if_neg (by omega)]
    grind
theorem rs_ad {n : Nat} {r : List Int} {t f c : Int} (hl : r.length = n + 1) (ht0 : 0 ≤ t) (ht : t ≤ n) (hf0 : 0 ≤ f) (hf : f ≤ n) (y : Int → Rat) : rs (ad r t f c) n y = rs r n y + (c : Rat) * (y t - y f) := by
 have e : rs (ad r t f c) n y = sm (fun p : Nat => (rd r ((p : Int) + 1) : Rat) * (y ((p : Int) + 1) - y 0) + (if (p : Int) + 1 = t then (c : Rat) else 0) * (y ((p : Int) + 1) - y 0) - (if (p : Int) + 1 = f then (c : Rat) else 0) * (y ((p : Int) + 1) - y 0)) (List.range n) := by
  refine sm_congr (fun p _ => ?_)
  rw [rd_ad ht0 (by omega) hf0 (by omega) (by omega)]
  by_cases e1 : (p : Int) + 1 = t
  ·rw [if_pos e1, if_pos e1]
   by_cases e2 : (p : Int) + 1 = f
   ·rw [if_pos e2, if_pos e2]; push_cast; grind
   ·rw [if_neg e2, if_neg e2]; push_cast; grind
  ·rw [if_neg e1, if_neg e1]
   by_cases e2 : (p : Int) + 1 = f
   ·rw [if_pos e2, if_pos e2]; push_cast; grind
   ·rw [if_neg e2, if_neg e2]; push_cast; grind
 rw [e, sm_sub, sm_add, pick n t ht0 ht, pick n f hf0 hf]
 unfold rs
 grind
def stR (r : List Int) (s : S32) : List Int := ad r s.f1 s.f0 (s.f3 * s.f2)
def rgt (n : Nat) (l : List S32) : List Int := l.foldl stR (List.replicate (n + 1) 0)
def rco (n : Nat) (a b : Int) : List Int := ad (List.replicate (n + 1) 0) b a 1
theorem rd_zeros (n : Nat) (p : Int) : rd (List.replicate n (0 : Int)) p = 0 := by
 simp only [rd, List.getD_eq_getElem?_getD]
 by_cases h : p.toNat < n
 ·simp [h]
 ·rw [List.getElem?_eq_none (by simpa using Nat.le_of_not_lt h)]; rfl
theorem foldl_len (l : List S32) (r : List Int) : (l.foldl stR r).length = r.length := by
 induction l generalizing r with
 | nil => rfl
 | cons s t ih => rw [List.foldl_cons, ih]; exact ad_len _ _ _ _
theorem rgt_len (n : Nat) (l : List S32) : (rgt n l).length = n + 1 := by unfold rgt; rw [foldl_len]; simp
theorem rco_len (n : Nat) (a b : Int) : (rco n a b).length = n + 1 := by unfold rco; rw [ad_len]; simp
theorem mem_at {n : Nat} {l : List S32} (hv : surveyB ((n : Int) + 1) l = true) (s : S32) (hs : s ∈ l) : 0 ≤ s.f0 ∧ s.f0 ≤ n ∧ 0 ≤ s.f1 ∧ s.f1 ≤ n ∧ s.f0 ≠ s.f1 ∧ -100 ≤ s.f2 ∧ s.f2 ≤ 100 ∧ 1 ≤ s.f3 ∧ s.f3 ≤ 3 := by
 unfold surveyB at hv
 simp only [Bool.and_eq_true] at hv
 have hn := hv.1.1
 unfold Ha.inB at hn
 simp only [Bool.and_eq_true, decide_eq_true_eq] at hn
 have := List.all_eq_true.1 hv.2 _ hs
 unfold sightB Ha.inB at this
 simp only [Bool.and_eq_true, decide_eq_true_eq, Bool.not_eq_true', beq_eq_false_iff_ne] at this
 have e : wrap64 ((n : Int) + 1 - 1) = n := by unfold wrap64; omega
 rw [e] at this
 omega
theorem rs_fold {n : Nat} (l : List S32) (h : ∀ s ∈ l, 0 ≤ s.f0 ∧ s.f0 ≤ n ∧ 0 ≤ s.f1 ∧ s.f1 ≤ n) (r : List Int) (hl : r.length = n + 1) (y : Int → Rat) : rs (l.foldl stR r) n y = rs r n y + sm (fun s => ((s.f3 * s.f2 : Int) : Rat) * dif y s) l := by
 induction l generalizing r with
 | nil => simp only [List.foldl_nil, sm]; grind
 | cons s t ih =>
  have hs := h s (by simp)
  rw [List.foldl_cons, ih (fun u hu => h u (by simp [hu])) _ (by unfold stR; rw [ad_len]; exact hl)]
  unfold stR
  rw [rs_ad hl hs.2.2.1 hs.2.2.2 hs.1 hs.2.1]
  simp only [sm]
  unfold dif
  grind
theorem rs_zeros (n : Nat) (y : Int → Rat) : rs (List.replicate (n + 1) 0) n y = 0 := by
 unfold rs
 rw [show (fun p : Nat => (rd (List.replicate (n + 1) (0 : Int)) ((p : Int) + 1) : Rat) * (y ((p : Int) + 1) - y 0)) = fun _ => 0 from by
  funext p
  rw [rd_zeros]
  exact Rat.zero_mul _]
 exact sm_zero
theorem rs_rgt {n : Nat} {l : List S32} (hv : surveyB ((n : Int) + 1) l = true) (y : Int → Rat) : rs (rgt n l) n y = sm (fun s => ((s.f3 * s.f2 : Int) : Rat) * dif y s) l := by
 unfold rgt
 rw [rs_fold l (fun s hs => by have := mem_at hv s hs; omega) _ (by simp), rs_zeros]
 grind
theorem rd_out {r : List Int} {p : Int} (h : r.length ≤ p.toNat) : rd r p = 0 := by
 simp only [rd, List.getD_eq_getElem?_getD]
 rw [List.getElem?_eq_none h]; rfl
theorem rd_neg (r : List Int) {p : Int} (h : p ≤ 0) : rd r p = rd r 0 := by
 simp only [rd]
 rw [show p.toNat = (0 : Int).toNat by omega]
theorem rd_bound {r : List Int} {m : Int} (hm : 0 ≤ m) (h : ∀ p : Int, 0 ≤ p → p < r.length → -m ≤ rd r p ∧ rd r p ≤ m) (p : Int) : -m ≤ rd r p ∧ rd r p ≤ m := by
 by_cases h1 : r.length ≤ p.toNat
 ·rw [rd_out h1]; omega
 ·by_cases h2 : p ≤ 0
  ·rw [rd_neg r h2]; exact h 0 (by omega) (by omega)
  ·exact h p (by omega) (by omega)
theorem ad_size {r : List Int} {t f c m k : Int} (hk0 : 0 ≤ k) (hc : -k ≤ c ∧ c ≤ k) (hm : 0 ≤ m) (h : ∀ p : Int, -m ≤ rd r p ∧ rd r p ≤ m) (ht0 : 0 ≤ t) (ht : t < r.length) (hf0 : 0 ≤ f) (hf : f < r.length) (hne : t ≠ f) (p : Int) : -(m + k) ≤ rd (ad r t f c) p ∧ rd (ad r t f c) p ≤ m + k := by
 refine rd_bound (by omega) (fun q hq _ => ?_) p
 have := h q
 rw [rd_ad ht0 ht hf0 hf hq]
 split <;> split <;> omega
theorem fold_size {n : Nat} (l : List S32) (h : ∀ s ∈ l, 0 ≤ s.f0 ∧ s.f0 ≤ n ∧ 0 ≤ s.f1 ∧ s.f1 ≤ n ∧ s.f0 ≠ s.f1 ∧ -100 ≤ s.f2 ∧ s.f2 ≤ 100 ∧ 1 ≤ s.f3 ∧ s.f3 ≤ 3) (r : List Int) (hl : r.length = n + 1) (m : Int) (hm : 0 ≤ m) (hr : ∀ p : Int, -m ≤ rd r p ∧ rd r p ≤ m) (p : Int) :
  -(m + 300 * l.length) ≤ rd (l.foldl stR r) p ∧ rd (l.foldl stR r) p ≤ m + 300 * l.length := by
 induction l generalizing r m with
 | nil => simpa using hr p
 | cons s t ih =>
  have hs := h s (by simp)
  have hw : -300 ≤ s.f3 * s.f2 ∧ s.f3 * s.f2 ≤ 300 := by
   have c3 : s.f3 = 1 ∨ s.f3 = 2 ∨ s.f3 = 3 := by omega
   rcases c3 with e | e | e <;> rw [e] <;> omega
  have := ih (fun u hu => h u (by simp [hu])) (stR r s) (by unfold stR; rw [ad_len]; exact hl) (m + 300) (by omega) (fun q => ad_size (by omega) hw hm hr hs.2.2.1 (by omega) hs.1 (by omega) (by omega) q)
  rw [List.foldl_cons]
  simp only [List.length_cons]
  push_cast
  omega
theorem rgt_size {n : Nat} {l : List S32} (hv : surveyB ((n : Int) + 1) l = true) (p : Int) : -2400 ≤ rd (rgt n l) p ∧ rd (rgt n l) p ≤ 2400 := by
 have hl8 : l.length ≤ 8 := by
  have := hv
  unfold surveyB at this
  simp only [Bool.and_eq_true, decide_eq_true_eq] at this
  have := this.1.2
  omega
 have := fold_size l (mem_at hv) (List.replicate (n + 1) 0) (by simp) 0 (by omega) (fun p => by rw [rd_zeros]; omega) p
 unfold rgt
 omega
theorem rco_size {n : Nat} {a b : Int} (ha0 : 0 ≤ a) (ha : a ≤ n) (hb0 : 0 ≤ b) (hb : b ≤ n) (p : Int) : -2400 ≤ rd (rco n a b) p ∧ rd (rco n a b) p ≤ 2400 := by
 refine rd_bound (by omega) (fun q hq _ => ?_) p
 unfold rco
 rw [rd_ad hb0 (by simp; omega) ha0 (by simp; omega) hq, rd_zeros]
 split <;> split <;> omega
end Go.Proofs.Ytkafbmanmffliaa.Ke

/- Plain: connected surveys: the solution is one alone; the residuals; no other heights have a lesser sum of weighted squares; cofactors. -/
namespace Go.Proofs.Ytkafbmanmffliaa.Kf
open Go Go.RowKit YtkafbmanmffliaaW.PrintWords Q Gf Gs Hb Gm Gn Ka Kc Ke
set_option linter.unusedVariables false
set_option linter.unusedSimpArgs false
theorem conn_v {n : Nat} {l : List S32} (hc : Gm.connB ((n : Int) + 1) l = true) : surveyB ((n : Int) + 1) l = true := by unfold Gm.connB at hc; simp only [Bool.and_eq_true] at hc; exact hc.1
theorem conn_n {n : Nat} {l : List S32} (hc : Gm.connB ((n : Int) + 1) l = true) : 1 ≤ n ∧ n ≤ 4 ∧ l.length ≤ 8 := by
 have hv := conn_v hc
 unfold surveyB Ha.inB at hv
 simp only [Bool.and_eq_true, decide_eq_true_eq] at hv
 have h1 := hv.1.1
 have h2 := hv.1.2
 omega
theorem w_pos {n : Nat} {l : List S32} (hc : Gm.connB ((n : Int) + 1) l = true) : ∀ s ∈ l, (1 : Rat) ≤ (s.f3 : Rat) := fun s hs => by
 have := mem_at (conn_v hc) s hs
 exact_mod_cast this.2.2.2.2.2.2.2.1
theorem term_nonneg {w d : Rat} (hw : 1 ≤ w) : 0 ≤ w * (d * d) := Rat.mul_nonneg (by grind) (sq_nn d)
section
variable {n : Nat} {l : List S32} (hc : Gm.connB ((n : Int) + 1) l = true)
include hc
theorem B_nonneg (x : Int → Rat) : 0 ≤ B l x x := sm_nonneg (fun s hs => term_nonneg (w_pos hc s hs))
end
def hts (n : Nat) (l : List S32) : Int → Rat := xs l (rgt n l) n
def cox (n : Nat) (l : List S32) (a b : Int) : Int → Rat := xs l (rco n a b) n
def res (n : Nat) (l : List S32) (s : S32) : Rat := (s.f2 : Rat) - dif (hts n l) s
def cof (n : Nat) (l : List S32) (a b : Int) : Rat := cox n l a b b - cox n l a b a
section
variable {n : Nat} {l : List S32} (hc : Gm.connB ((n : Int) + 1) l = true)
include hc
theorem ok_rgt : Ok n l (rgt n l) := ok (conn_n hc).2.1 hc _ (rgt_size (conn_v hc))
theorem ok_rco {a b : Int} (ha0 : 0 ≤ a) (ha : a ≤ n) (hb0 : 0 ≤ b) (hb : b ≤ n) : Ok n l (rco n a b) := ok (conn_n hc).2.1 hc _ (rco_size ha0 ha hb0 hb)
theorem adj (y : Int → Rat) : B l (hts n l) y = sm (fun s => ((s.f3 * s.f2 : Int) : Rat) * dif y s) l :=
 (weak (conn_n hc).2.1 (conn_n hc).1 (ok_rgt hc) y).trans (rs_rgt (conn_v hc) y)
theorem normal (y : Int → Rat) : sm (fun s => (s.f3 : Rat) * (res n l s * dif y s)) l = 0 := by
 have h := adj hc y
 have e : sm (fun s => (s.f3 : Rat) * (res n l s * dif y s)) l = sm (fun s => ((s.f3 * s.f2 : Int) : Rat) * dif y s) l - B l (hts n l) y := by
  unfold B
  rw [← sm_sub]
  refine sm_congr (fun s _ => ?_)
  unfold res
  push_cast
  grind
 rw [e, h]
 grind
theorem least (y : Int → Rat) : sm (fun s => (s.f3 : Rat) * (res n l s * res n l s)) l ≤ sm (fun s => (s.f3 : Rat) * (((s.f2 : Rat) - dif y s) * ((s.f2 : Rat) - dif y s))) l := by
 have h := normal hc (fun p => hts n l p - y p)
 have h2 := B_nonneg hc (fun p => hts n l p - y p)
 have e : sm (fun s => (s.f3 : Rat) * (((s.f2 : Rat) - dif y s) * ((s.f2 : Rat) - dif y s))) l =
   sm (fun s => (s.f3 : Rat) * (res n l s * res n l s)) l + 2 * sm (fun s => (s.f3 : Rat) * (res n l s * dif (fun p => hts n l p - y p) s)) l + B l (fun p => hts n l p - y p) (fun p => hts n l p - y p) := by
  unfold B
  rw [← sm_mul, ← sm_add, ← sm_add]
  refine sm_congr (fun s _ => ?_)
  unfold res dif
  grind
 rw [e, h]
 grind
end
end Go.Proofs.Ytkafbmanmffliaa.Kf

/- The reference's l10Solve, its numbers told by minors, as an own row. -/
namespace Go.Proofs.Ytkafbmanmffliaa.Gv
open Go Go.RowKit YtkafbmanmffliaaW.PrintWords YtkafbmanmffliaaW.PrintLast YtkafbmanmffliaaW.PrintMore Q Gd Gf Ge Gi Hb Ha Hc Gs Gl Gn Kc Ke Kf
set_option linter.unusedVariables false
set_option linter.unusedSimpArgs false
theorem T.of_cb {B : Nat} {W : World} {g cap : Nat} {xs : List Int} (h : Cb W 2 g cap (xs.map (Value.int .i64))) (hB : B ≤ g) : T B W (.slice (some ⟨g, 0, none⟩) xs.length cap) xs := by
 obtain ⟨cs, h1, h2, h3, h4, h5, h6⟩ := h
 have ho : W.ownsRow B 2 1 (.slice (some ⟨g, 0, none⟩) xs.length cap) xs.length (encs (Value.int .i64) xs) :=
  ⟨by simp [encs], .inr ⟨g, cap, cs, rfl, hB, h1, by simpa using h3, h4, by simpa using h2, by simpa [encs] using h6⟩⟩
 exact Kd.R_of_own ho (fun _ _ => trivial)
def nuL (l : List S32) (right : List Int) (n : Nat) : List Int := (List.range (n + 1)).map (fun p : Nat => nu l right n p)
theorem nuL_len (l : List S32) (right : List Int) (n : Nat) : (nuL l right n).length = n + 1 := by simp [nuL]
theorem rd_nuL (l : List S32) (right : List Int) (n : Nat) (p : Int) (h0 : 0 ≤ p) (h1 : p ≤ n) : rd (nuL l right n) p = nu l right n p := by
 obtain ⟨q, rfl⟩ : ∃ q : Nat, p = q := ⟨p.toNat, by omega⟩
 simp [rd, nuL, List.getD_eq_getElem?_getD, show q < n + 1 by omega]
theorem rowI_nuL {l : List S32} {right : List Int} {n : Nat} {us : List Value} (h : RowI us (n + 1) (fun k => if k = 0 then 0 else SS (tab l right n) n (k - 1) n)) : us = (nuL l right n).map (Value.int .i64) := by
 apply List.ext_getElem?
 intro k
 by_cases hk : k < n + 1
 ·rw [h.2 k hk]
  simp only [nuL, List.map_map]
  rw [List.getElem?_map, List.getElem?_range hk]
  simp only [Option.map_some, Function.comp]
  by_cases e : k = 0
  ·subst e; rfl
  ·rw [if_neg e]
   unfold nu
   rw [if_neg (by omega)]
   rfl
 ·rw [List.getElem?_eq_none (by have := h.1; omega), List.getElem?_eq_none (by simp [nuL]; omega)]
theorem solveS2_any (n : Nat) (g0 : Nat) (l : List S32) (right : List Int) (hk : Ok n l right) (hn4 : n ≤ 4) (A : Option Addr) (c : Nat) (AR : Option Addr) (cR : Nat) (w : World)
  (hb : w.heap[g0]? = some (.cells #[.int .i64 ((n : Int) + 1), .slice A l.length c] 26 (0, 0))) (hr : Kd.C k32 w A l.length l) (hrr : Kd.C (Kd.int .i64) w AR right.length right) (hrl : right.length = n + 1) (hrs : ∀ i : Int, -2400 ≤ rd right i ∧ rd right i ≤ 2400) :
  Calls Try.prog 115 #[.pointer (some ⟨g0, 0, none⟩), .slice AR right.length cR] w fun e w' => ∃ v : Value, e = .returned (.tuple #[v, .int .i64 (den l n)]) ∧ T w.heap.size w' v (nuL l right n) ∧ Below w.heap.size w w' := by
 refine (solveS_any n hn4 g0 l hk.v A c AR cR right w hb hr hrr hrl (fun i => by have := hrs i; omega) (SS (tab l right n)) (LL (tab l right n)) (fun r k _ _ => rfl) rfl
  (fun c i k hc hi _ hne => SS_step _ c i k (by omega) (by omega) hne) (fun c k hc _ => SS_own _ c k (by omega)) (fun c hc => LL_succ _ c (by omega)) hk.pos hk.size).mono ?_
 rintro e w' ⟨b, cap, us, rfl, h1, h2, h3, h4⟩
 rw [hk.last]
 have e2 := rowI_nuL h3
 subst e2
 have := T.of_cb (B := w.heap.size) h2 h1
 rw [nuL_len] at this
 exact ⟨_, rfl, this, h4⟩
end Go.Proofs.Ytkafbmanmffliaa.Gv

/- Plain: numbers over one denominator in lowest terms: the least common multiple of the fractions' denominators is the denominator by the greatest common divisor of all. No seat: nothing is imported. -/
namespace Go.Proofs.Ytkafbmanmffliaa.Lo
theorem div_dvd {g L m : Nat} (hg : g ∣ L) (h : L ∣ m * g) (hg0 : 0 < g) : L / g ∣ m := by
 obtain ⟨q, rfl⟩ := hg
 rw [Nat.mul_div_cancel_left q hg0]
 rw [Nat.mul_comm m g] at h
 exact (Nat.mul_dvd_mul_iff_left hg0).1 h
theorem dvd_mul_of_div {g L m : Nat} (hg : g ∣ L) (hg0 : 0 < g) (h : L / g ∣ m) : L ∣ m * g := by
 obtain ⟨q, rfl⟩ := hg
 rw [Nat.mul_div_cancel_left q hg0] at h
 rw [Nat.mul_comm m g]
 exact Nat.mul_dvd_mul_left g h
theorem lcm_div {g h L : Nat} (hL : 0 < L) (hg : g ∣ L) (hh : h ∣ L) : Nat.lcm (L / g) (L / h) = L / Nat.gcd g h := by
 have g0 := Nat.pos_of_dvd_of_pos hg hL
 have h0 := Nat.pos_of_dvd_of_pos hh hL
 have k0 : 0 < Nat.gcd g h := Nat.gcd_pos_of_pos_left h g0
 have hk : Nat.gcd g h ∣ L := Nat.dvd_trans (Nat.gcd_dvd_left g h) hg
 apply Nat.dvd_antisymm
 ·apply Nat.lcm_dvd
  ·refine div_dvd hg ?_ g0
   obtain ⟨q, hq⟩ := Nat.gcd_dvd_left g h
   have := dvd_mul_of_div hk k0 (Nat.dvd_refl (L / Nat.gcd g h))
   have e : L / Nat.gcd g h * g = L / Nat.gcd g h * Nat.gcd g h * q := by rw [Nat.mul_assoc, ← hq]
   rw [e]
   exact Nat.dvd_trans this (Nat.dvd_mul_right _ _)
  ·refine div_dvd hh ?_ h0
   obtain ⟨q, hq⟩ := Nat.gcd_dvd_right g h
   have := dvd_mul_of_div hk k0 (Nat.dvd_refl (L / Nat.gcd g h))
   have e : L / Nat.gcd g h * h = L / Nat.gcd g h * Nat.gcd g h * q := by rw [Nat.mul_assoc, ← hq]
   rw [e]
   exact Nat.dvd_trans this (Nat.dvd_mul_right _ _)
 ·refine div_dvd hk ?_ k0
  have a := dvd_mul_of_div hg g0 (Nat.dvd_lcm_left (L / g) (L / h))
  have b := dvd_mul_of_div hh h0 (Nat.dvd_lcm_right (L / g) (L / h))
  have c := Nat.dvd_gcd a b
  rwa [Nat.gcd_mul_left] at c
def gcdAll (g : Nat) (S : List Int) : Nat := S.foldl (fun d s => Nat.gcd d s.natAbs) g
def lcmAll (L b : Nat) (S : List Int) : Nat := S.foldl (fun b s => Nat.lcm b (mkRat s L).den) b
theorem lcm_gcd {L : Nat} (hL : 0 < L) : ∀ (S : List Int) (g : Nat), g ∣ L → lcmAll L (L / g) S = L / gcdAll g S := by
 intro S
 induction S with
 | nil => intro g _; rfl
 | cons s t ih =>
  intro g hg
  have e : Nat.lcm (L / g) (mkRat s L).den = L / Nat.gcd g s.natAbs := by
   rw [Rat.den_mkRat, if_neg (by omega), lcm_div hL hg (Nat.gcd_dvd_left _ _)]
   congr 1
   rw [← Nat.gcd_assoc, Nat.gcd_eq_left hg]
  show lcmAll L (Nat.lcm (L / g) (mkRat s L).den) t = L / gcdAll (Nat.gcd g s.natAbs) t
  rw [e]
  exact ih _ (Nat.dvd_trans (Nat.gcd_dvd_left _ _) hg)
theorem gcd_dvd : ∀ (S : List Int) (g : Nat), gcdAll g S ∣ g ∧ ∀ s ∈ S, gcdAll g S ∣ s.natAbs := by
 intro S
 induction S with
 | nil => intro g; exact ⟨Nat.dvd_refl g, fun s hs => by cases hs⟩
 | cons s t ih =>
  intro g
  obtain ⟨h1, h2⟩ := ih (Nat.gcd g s.natAbs)
  refine ⟨Nat.dvd_trans h1 (Nat.gcd_dvd_left _ _), fun x hx => ?_⟩
  rcases List.mem_cons.1 hx with rfl | hx
  ·exact Nat.dvd_trans h1 (Nat.gcd_dvd_right _ _)
  ·exact h2 x hx
theorem num_eq {L : Nat} (hL : 0 < L) (S : List Int) (s : Int) (hs : s ∈ S) : mkRat s L * ((L / gcdAll L S : Nat) : Rat) = ((s / (gcdAll L S : Int) : Int) : Rat) := by
 obtain ⟨h1, h2⟩ := gcd_dvd S L
 have g0 := Nat.pos_of_dvd_of_pos h1 hL
 obtain ⟨q, hq⟩ := h1
 have h3 : (gcdAll L S : Int) ∣ s := Int.natAbs_dvd_natAbs.1 (by simpa using h2 s hs)
 obtain ⟨r, hr⟩ := h3
 generalize gcdAll L S = G at *
 subst hr
 rw [Int.mul_ediv_cancel_left _ (by omega), hq, Nat.mul_div_cancel_left q g0, Rat.mkRat_eq_div]
 have hG : ((G : Nat) : Rat) ≠ 0 := by
  intro h
  have : G = 0 := by exact_mod_cast h
  omega
 have hq0 : q ≠ 0 := by rintro rfl; omega
 have hQ : ((q : Nat) : Rat) ≠ 0 := by
  intro h
  exact hq0 (by exact_mod_cast h)
 push_cast
 grind
end Go.Proofs.Ytkafbmanmffliaa.Lo

namespace Go.Proofs.Ytkafbmanmffliaa.Q
open Go.RowKit YtkafbmanmffliaaW.PrintWords YtkafbmanmffliaaW.PrintLast YtkafbmanmffliaaW.PrintMore
attribute [local go_sem] max2_int min2_int max_two min_two max_three min_three max_four min_four
set_option linter.unusedVariables false
set_option linter.unusedSimpArgs false
def impl_within.f (a0 : Int) (a1 : Int) (a2 : Int) : Option (Bool) := if a1 ≤ a0 then (some (decide (a0 ≤ a2))) else (some false)
end Go.Proofs.Ytkafbmanmffliaa.Q

namespace Go.Proofs.Ytkafbmanmffliaa.Q
open Go.RowKit YtkafbmanmffliaaW.PrintWords YtkafbmanmffliaaW.PrintLast YtkafbmanmffliaaW.PrintMore
attribute [local go_sem] max2_int min2_int max_two min_two max_three min_three max_four min_four
set_option linter.unusedVariables false
set_option linter.unusedSimpArgs false
def impl_areWithin.f (l0 : List Int) (a1 : Int) (a2 : Int) : Option (Bool) := some (Ha.areIn l0 a1 a2)
end Go.Proofs.Ytkafbmanmffliaa.Q

namespace Go.Proofs.Ytkafbmanmffliaa.Q
open Go.RowKit YtkafbmanmffliaaW.PrintWords YtkafbmanmffliaaW.PrintLast YtkafbmanmffliaaW.PrintMore
attribute [local go_sem] max2_int min2_int max_two min_two max_three min_three max_four min_four
set_option linter.unusedVariables false
set_option linter.unusedSimpArgs false
def impl_ValidSurvey.l0 : Nat → List (S32) → Int → Int → Int → List (S32) → Option (Bool)
 | 0, _, _, _, _, _ => none
 | k + 1, x6, x7, x8, x234000, x234001 => if x8 < x7 then (if 0 ≤ x8 then (if x8 < (x6.length : Int) then ((impl_areWithin.f (([(rd_T32 x6 x8).f0, (rd_T32 x6 x8).f1] : List Int)) 0 (wrap64 (x234000 - 1))).bind fun t240 => (if t240 = true then (if ((rd_T32 x6 x8).f0) = ((rd_T32 x6 x8).f1) then (some false) else ((impl_within.f ((rd_T32 x6 x8).f2) (-100) 100).bind fun t241 => (if t241 = true then ((impl_within.f ((rd_T32 x6 x8).f3) 1 3).bind fun t242 => (if t242 = true then (impl_ValidSurvey.l0 k x6 x7 (wrap64 (x8 + 1)) x234000 x234001) else (some false))) else (some false)))) else (some false))) else (none)) else (none)) else ((impl_within.f x234000 2 5).bind fun t234 => (if t234 = true then (some (decide ((x234001.length : Int) ≤ 8))) else (some false)))
def impl_ValidSurvey.f (k : Nat) (a0_0 : Int) (l0_1 : List (S32)) : Option (Bool) := impl_ValidSurvey.l0 k l0_1 (l0_1.length : Int) 0 a0_0 l0_1
end Go.Proofs.Ytkafbmanmffliaa.Q

/- What the laws' own helpers compute on surveys: the size that a law lets in, a survey's copy, that a copy equals itself, and the program's ValidSurvey. -/
namespace Go.Proofs.Ytkafbmanmffliaa.PuS
open Go.RowKit YtkafbmanmffliaaW.PrintWords Q
theorem wrap_id {x : Int} (h1 : -9223372036854775808 ≤ x) (h2 : x ≤ 9223372036854775807) : wrap64 x = x := by unfold wrap64; omega
theorem getD_nat {α : Type} (l : List α) (k : Nat) (z : α) (h : k < l.length) : l.getD (k : Int).toNat z = l[k] := by
 simp [List.getD_eq_getElem?_getD, h]
theorem rdL_at (l : List S121) (k : Nat) (h : k < l.length) : rd_T121 l k = l[k] := getD_nat l k z121 h
def conv (x : S121) : S32 := ⟨x.f0, x.f1, x.f2, x.f3⟩
theorem szSurvey_eq (p : Int) (l : List S121) (h : l.length ≤ 9223372036854775807) : laws_szSurvey.f p l 1048576 = some (if l.length ≤ 1048576 then 1048576 - (l.length : Int) else -1) := by
 have e : wrap64 (1048576 - (l.length : Int)) = 1048576 - (l.length : Int) := wrap_id (by omega) (by omega)
 simp only [laws_szSurvey.f, laws_szSightS.f, e]
 by_cases hl : l.length ≤ 1048576
 ·rw [if_neg (by omega), if_pos hl]; simp only [Option.bind_some]; rw [if_neg (by omega)]
 ·rw [if_pos (by omega), if_neg hl]; simp
theorem toSightS_loop (l : List S121) (hl : l.length ≤ 1048576) : ∀ (d k i : Nat) (x : List S32), x.length = l.length → i + d = l.length → d < k → (∀ j, j < i → x[j]? = (l.map conv)[j]?) → laws_toSightS.l0 k l x i = some (l.map conv) := by
 intro d
 induction d with
 | zero =>
  intro k i x hx hi hk hj
  obtain ⟨k, rfl⟩ : ∃ m, k = m + 1 := ⟨k - 1, by omega⟩
  simp only [laws_toSightS.l0]
  rw [if_neg (by omega)]
  congr 1
  apply List.ext_getElem?
  intro j
  by_cases h : j < i
  ·exact hj j h
  ·rw [List.getElem?_eq_none (by omega), List.getElem?_eq_none (by simp; omega)]
 | succ d ih =>
  intro k i x hx hi hk hj
  obtain ⟨k, rfl⟩ : ∃ m, k = m + 1 := ⟨k - 1, by omega⟩
  simp only [laws_toSightS.l0, laws_toSight.f, Option.bind_some]
  rw [if_pos (by omega), if_pos (by omega), if_pos (by omega), wrap_id (by omega) (by omega), Int.toNat_natCast, show (i : Int) + 1 = ((i + 1 : Nat) : Int) by omega]
  refine ih k (i + 1) _ (by simp [hx]) (by omega) (by omega) ?_
  intro j hlt
  by_cases h : j = i
  ·subst h
   rw [List.getElem?_set_self (by omega), List.getElem?_map, List.getElem?_eq_getElem (by omega), rdL_at l j (by omega)]
   rfl
  ·rw [List.getElem?_set_ne (by omega)]; exact hj j (by omega)
theorem toSurvey_eq (p : Int) (l : List S121) (hl : l.length ≤ 1048576) (k : Nat) (hk : l.length < k) : laws_toSurvey.f k p l = some (p, l.map conv) := by
 have : laws_toSightS.f k l = some (l.map conv) := by
  simp only [laws_toSightS.f, Int.toNat_natCast]
  rw [if_pos (by omega), if_pos (by omega)]
  exact toSightS_loop l hl l.length k 0 _ (by simp) (by omega) hk (by intro j hj; omega)
 simp [laws_toSurvey.f, this]
theorem eqSightS_loop (l : List S32) (hl : l.length ≤ 1048576) : ∀ (d k i : Nat), i + d = l.length → d < k → laws_eqSightS.l0 k l l i = some true := by
 intro d
 induction d with
 | zero =>
  intro k i hi hk
  obtain ⟨k, rfl⟩ : ∃ m, k = m + 1 := ⟨k - 1, by omega⟩
  simp only [laws_eqSightS.l0]
  rw [if_neg (by omega)]
 | succ d ih =>
  intro k i hi hk
  obtain ⟨k, rfl⟩ : ∃ m, k = m + 1 := ⟨k - 1, by omega⟩
  simp only [laws_eqSightS.l0, laws_eqSight.f, if_true, Option.bind_some]
  rw [if_pos (by omega), if_pos (by omega), if_pos (by omega), wrap_id (by omega) (by omega), show (i : Int) + 1 = ((i + 1 : Nat) : Int) by omega]
  exact ih k (i + 1) (by omega) (by omega)
theorem eqSurvey_eq (p : Int) (l : List S32) (hl : l.length ≤ 1048576) (k : Nat) (hk : l.length < k) : laws_eqSurvey.f k p l p l = some true := by
 have : laws_eqSightS.f k l l = some true := by
  simp only [laws_eqSightS.f, if_true]
  exact eqSightS_loop l hl l.length k 0 (by omega) hk
 simp [laws_eqSurvey.f, this]
end Go.Proofs.Ytkafbmanmffliaa.PuS

/- The program's choice of sights without loops and the reference's are the same: both keep the same parts of connected points. -/
namespace Go.Proofs.Ytkafbmanmffliaa.PuT
open Go.RowKit YtkafbmanmffliaaW.PrintWords Q PuS Hb Hc Hd
structure Sg where
 out : List Int
 grp : List Int
def stepG (st : Sg) (x : S32 × Nat) : Sg :=
 if rd st.grp x.1.f0 = rd st.grp x.1.f1 then st
 else ⟨st.out ++ [(x.2 : Int)], st.grp.map fun v => if v = rd st.grp x.1.f1 then rd st.grp x.1.f0 else v⟩
def startG (pts : Int) : Sg := ⟨[], (List.range pts.toNat).map fun k : Nat => (k : Int)⟩
def atG (pts : Int) (l : List S32) (k : Nat) : Sg := (l.zipIdx.take k).foldl stepG (startG pts)
def treeG (pts : Int) (l : List S32) : Sg := atG pts l l.length
theorem atG_succ (pts : Int) (l : List S32) (k : Nat) (h : k < l.length) : atG pts l (k + 1) = stepG (atG pts l k) (rd_T32 l k, k) := by
 unfold atG
 rw [List.take_succ_eq_append_getElem (by simpa using h), List.foldl_append]
 simp [rd_T32, h, List.getElem_zipIdx]
theorem stepG_len (st : Sg) (x : S32 × Nat) : (stepG st x).grp.length = st.grp.length := by unfold stepG; split <;> simp
theorem atG_len (pts : Int) (l : List S32) (k : Nat) : (atG pts l k).grp.length = pts.toNat := by
 unfold atG
 generalize l.zipIdx.take k = m
 have : ∀ st : Sg, (m.foldl stepG st).grp.length = st.grp.length := by
  induction m with
  | nil => intro st; rfl
  | cons x xs ih => intro st; simp only [List.foldl_cons]; rw [ih, stepG_len]
 rw [this]; simp [startG]
theorem atG_out (pts : Int) (l : List S32) (k : Nat) : (atG pts l k).out.length ≤ k := by
 induction k with
 | zero => simp [atG, startG]
 | succ k ih =>
  by_cases h : k < l.length
  ·rw [atG_succ pts l k h]; unfold stepG; split
   ·omega
   ·simp only [List.length_append, List.length_cons, List.length_nil]; omega
  ·have : atG pts l (k + 1) = atG pts l k := by unfold atG; rw [List.take_of_length_le (by simp; omega), List.take_of_length_le (by simp; omega)]
   rw [this]; omega
theorem rd_map (f : Int → Int) (p : List Int) (x : Nat) (h : x < p.length) : rd (p.map f) x = f (rd p x) := by
 rw [rd_nat _ _ (by simpa using h), rd_nat _ _ h]; simp
theorem merge_eq {a b mn mx px py : Int} (_hab : a ≠ b) (h : (mn = a ∧ mx = b) ∨ (mn = b ∧ mx = a)) :
  ((if px = mx then mn else px) = (if py = mx then mn else py)) ↔ (px = py ∨ ((px = a ∨ px = b) ∧ (py = a ∨ py = b))) := by
 split <;> split <;> omega
def cnt (n : Nat) (p : List Int) : Nat := ((List.range n).filter fun x : Nat => decide (rd p x = (x : Int))).length
theorem filter_drop_one {l : List Nat} (hn : l.Nodup) {q q' : Nat → Bool} {m : Nat} (hm : m ∈ l) (hq : q m = true) (h : ∀ x, x ∈ l → (q' x = true ↔ q x = true ∧ x ≠ m)) : (l.filter q').length + 1 = (l.filter q).length := by
 induction l with
 | nil => simp at hm
 | cons x xs ih =>
  rw [List.nodup_cons] at hn
  have hx := h x (by simp)
  by_cases e : x = m
  ·subst e
   have h1 : q' x = false := by
    cases hc : q' x
    ·rfl
    ·exact absurd rfl (hx.1 hc).2
   have h2 : xs.filter q' = xs.filter q := by
    apply List.filter_congr
    intro y hy
    have hy2 := h y (by simp [hy])
    have : y ≠ x := fun e => hn.1 (e ▸ hy)
    cases hc : q y <;> cases hd : q' y <;> simp_all
   simp [h1, hq, h2]
  ·have hm' : m ∈ xs := by
    rcases List.mem_cons.1 hm with h | h
    ·exact absurd h.symm e
    ·exact h
   have := ih hn.2 hm' (fun y hy => h y (by simp [hy]))
   have hqq : q' x = q x := by
    cases hc : q x <;> cases hd : q' x <;> simp_all
   by_cases hc : q x = true
   ·simp [hqq, hc]; omega
   ·simp [hqq, hc]; omega
structure Inv (n : Nat) (o : List Int) (p g : List Int) : Prop where
 lp : p.length = n
 lg : g.length = n
 eqv : ∀ x y : Nat, x < n → y < n → (rd p x = rd p y ↔ rd g x = rd g y)
 lo : ∀ x : Nat, x < n → 0 ≤ rd p x ∧ rd p x ≤ x
 rep : ∀ x : Nat, x < n → rd p (rd p x) = rd p x
 cn : o.length + cnt n p = n
theorem rd_range (n : Nat) (x : Nat) (h : x < n) : rd ((List.range n).map fun j : Nat => (j : Int)) x = x := by
 rw [rd_nat _ _ (by simpa using h)]; simp
theorem inv_start (n : Nat) : Inv n (Hd.start n).out (Hd.start n).part (startG n).grp where
 lp := by simp [Hd.start]
 lg := by simp [startG]
 eqv := fun x y hx hy => by simp [Hd.start, startG]
 lo := fun x hx => by simp only [Hd.start, Int.toNat_natCast]; rw [rd_range n x hx]; omega
 rep := fun x hx => by simp only [Hd.start, Int.toNat_natCast]; rw [rd_range n x hx, rd_range n x hx]
 cn := by
  have e : ∀ x : Nat, x < n → rd (Hd.start (n : Int)).part x = x := fun x hx => by simp only [Hd.start, Int.toNat_natCast]; exact rd_range n x hx
  have : (List.range n).filter (fun x : Nat => decide (rd (Hd.start (n : Int)).part x = (x : Int))) = List.range n := by
   rw [List.filter_eq_self]
   intro x hx
   exact decide_eq_true (e x (by simpa using hx))
  unfold cnt
  rw [this]; simp [Hd.start]
theorem inv_step {n : Nat} {st : St} {sg : Sg} (h : Inv n st.out st.part sg.grp) (ho : st.out = sg.out) (x : S32 × Nat) (h0 : 0 ≤ x.1.f0) (h1 : x.1.f0 < n) (h2 : 0 ≤ x.1.f1) (h3 : x.1.f1 < n) :
  Inv n (Hd.step st x).out (Hd.step st x).part (stepG sg x).grp ∧ (Hd.step st x).out = (stepG sg x).out := by
 obtain ⟨s, i⟩ := x
 obtain ⟨u, hu⟩ : ∃ u : Nat, s.f0 = (u : Int) := ⟨s.f0.toNat, by simp at h0; omega⟩
 obtain ⟨v, hv⟩ : ∃ v : Nat, s.f1 = (v : Int) := ⟨s.f1.toNat, by simp at h2; omega⟩
 simp only [hu, hv] at h1 h3
 have hun : u < n := by omega
 have hvn : v < n := by omega
 clear h0 h1 h2 h3
 have huv := h.eqv u v hun hvn
 unfold Hd.step stepG
 simp only [hu, hv]
 by_cases hab : rd st.part u = rd st.part v
 ·rw [if_pos hab, if_pos (huv.1 hab)]; exact ⟨h, ho⟩
 ·rw [if_neg hab, if_neg (fun e => hab (huv.2 e))]
  have hmm : (mnI (rd st.part u) (rd st.part v) = rd st.part u ∧ mxI (rd st.part u) (rd st.part v) = rd st.part v) ∨ (mnI (rd st.part u) (rd st.part v) = rd st.part v ∧ mxI (rd st.part u) (rd st.part v) = rd st.part u) := by
   unfold mnI mxI; split <;> split <;> omega
  have hlt : mnI (rd st.part u) (rd st.part v) < mxI (rd st.part u) (rd st.part v) := by unfold mnI mxI; split <;> split <;> omega
  have hP : ∀ y : Nat, y < n → rd (newPart st.part (rd st.part u) (rd st.part v)) y = if rd st.part y = mxI (rd st.part u) (rd st.part v) then mnI (rd st.part u) (rd st.part v) else rd st.part y := fun y hy => rd_map _ _ _ (by rw [h.lp]; exact hy)
  have hG : ∀ y : Nat, y < n → rd (sg.grp.map fun z => if z = rd sg.grp v then rd sg.grp u else z) y = if rd sg.grp y = rd sg.grp v then rd sg.grp u else rd sg.grp y := fun y hy => rd_map _ _ _ (by rw [h.lg]; exact hy)
  have rmn : rd st.part (mnI (rd st.part u) (rd st.part v)) = mnI (rd st.part u) (rd st.part v) := by
   rcases hmm with ⟨e, _⟩ | ⟨e, _⟩ <;> rw [e]
   ·exact h.rep u hun
   ·exact h.rep v hvn
  have rmx : rd st.part (mxI (rd st.part u) (rd st.part v)) = mxI (rd st.part u) (rd st.part v) := by
   rcases hmm with ⟨_, e⟩ | ⟨_, e⟩ <;> rw [e]
   ·exact h.rep v hvn
   ·exact h.rep u hun
  have bu := h.lo u hun
  have bv := h.lo v hvn
  have bmx : 0 ≤ mxI (rd st.part u) (rd st.part v) ∧ mxI (rd st.part u) (rd st.part v) < n := by rcases hmm with ⟨_, e⟩ | ⟨_, e⟩ <;> rw [e] <;> omega
  have bmn : 0 ≤ mnI (rd st.part u) (rd st.part v) := by rcases hmm with ⟨e, _⟩ | ⟨e, _⟩ <;> rw [e] <;> omega
  have hau : ∀ y : Nat, y < n → (rd st.part y = rd st.part u ↔ rd sg.grp y = rd sg.grp u) := fun y hy => h.eqv y u hy hun
  have hav : ∀ y : Nat, y < n → (rd st.part y = rd st.part v ↔ rd sg.grp y = rd sg.grp v) := fun y hy => h.eqv y v hy hvn
  generalize hmn : mnI (rd st.part u) (rd st.part v) = mn at *
  generalize hmx : mxI (rd st.part u) (rd st.part v) = mx at *
  refine ⟨⟨by rw [newPart_len]; exact h.lp, by simp [h.lg], ?_, ?_, ?_, ?_⟩, by rw [ho]⟩
  ·intro y z hy hz
   rw [hP y hy, hP z hz, hG y hy, hG z hz, merge_eq hab hmm, merge_eq (a := rd sg.grp u) (b := rd sg.grp v) (fun e => hab (huv.2 e)) (.inl ⟨rfl, rfl⟩), h.eqv y z hy hz, hau y hy, hav y hy, hau z hz, hav z hz]
  ·intro y hy
   have := h.lo y hy
   rw [hP y hy]; split <;> omega
  ·intro y hy
   have hl := h.lo y hy
   have hr := h.rep y hy
   rw [hP y hy]
   split
   ·obtain ⟨m, hm⟩ : ∃ m : Nat, mn = (m : Int) := ⟨mn.toNat, by omega⟩
    rw [hm] at rmn hlt ⊢
    rw [hP m (by omega), rmn, if_neg (by omega)]
   ·rename_i hne
    obtain ⟨m, hm⟩ : ∃ m : Nat, rd st.part y = (m : Int) := ⟨(rd st.part y).toNat, by omega⟩
    rw [hm] at hr hne hl ⊢
    rw [hP m (by omega), hr, if_neg hne]
  ·obtain ⟨m, hm⟩ : ∃ m : Nat, mx = (m : Int) := ⟨mx.toNat, by omega⟩
   have hc : cnt n (newPart st.part (rd st.part u) (rd st.part v)) + 1 = cnt n st.part := by
    refine filter_drop_one List.nodup_range (m := m) (by simp; omega) (by rw [hm] at rmx; simp [rmx]) ?_
    intro y hy
    have hy' : y < n := by simpa using hy
    rw [hP y hy']
    simp only [decide_eq_true_eq]
    split
    ·rename_i e
     constructor
     ·intro e2
      rw [e2] at rmn
      omega
     ·rintro ⟨e2, e3⟩
      omega
    ·rename_i e
     constructor
     ·intro e2; exact ⟨e2, by omega⟩
     ·intro e2; exact e2.1
   have := h.cn
   simp only [List.length_append, List.length_cons, List.length_nil]
   omega
theorem inv_at {n : Nat} {l : List S32} (hv : surveyB n l = true) : ∀ k, k ≤ l.length → Inv n (at_ n l k).out (at_ n l k).part (atG n l k).grp ∧ (at_ n l k).out = (atG n l k).out := by
 intro k
 induction k with
 | zero => intro _; exact ⟨by rw [at_zero]; exact inv_start n, by simp [at_zero, atG, Hd.start, startG]⟩
 | succ k ih =>
  intro hk
  obtain ⟨h1, h2⟩ := ih (by omega)
  obtain ⟨a, b, c, d⟩ := valid_at hv k (by omega)
  rw [at_succ n l k (by omega), atG_succ n l k (by omega)]
  exact inv_step h1 h2 (rd_T32 l k, k) a b c d
theorem all_zero {n : Nat} {o p g : List Int} (h : Inv n o p g) (hn : 1 ≤ n) : p.all (· == 0) = true ↔ o.length = n - 1 := by
 have hc := h.cn
 have z0 : rd p 0 = 0 := by have := h.lo 0 (by omega); simp at this; omega
 have e1 : p.all (· == 0) = true ↔ ∀ x : Nat, x < n → rd p x = 0 := by
  rw [List.all_eq_true]
  constructor
  ·intro ha x hx
   have := ha (rd p x) (by rw [rd_nat _ _ (by rw [h.lp]; exact hx)]; exact List.getElem_mem _)
   simpa using this
  ·intro ha y hy
   obtain ⟨i, hi, rfl⟩ := List.getElem_of_mem hy
   have := ha i (by rw [← h.lp]; exact hi)
   rw [rd_nat _ _ hi] at this
   simpa using this
 rw [e1]
 constructor
 ·intro ha
  have : (List.range n).filter (fun x : Nat => decide (rd p x = (x : Int))) = [0] := by
   obtain ⟨m, rfl⟩ : ∃ m, n = m + 1 := ⟨n - 1, by omega⟩
   rw [List.range_succ_eq_map, List.filter_cons]
   have h0 : decide (rd p ((0 : Nat) : Int) = ((0 : Nat) : Int)) = true := by simpa using z0
   rw [if_pos h0]
   congr 1
   rw [List.filter_eq_nil_iff]
   intro x hx
   simp only [List.mem_map, List.mem_range] at hx
   obtain ⟨y, hy, rfl⟩ := hx
   have := ha (y + 1) (by omega)
   simp only [Nat.succ_eq_add_one, decide_eq_true_eq]
   omega
  unfold cnt at hc
  rw [this] at hc
  simp at hc; omega
 ·intro hl x hx
  have h1 : cnt n p = 1 := by omega
  have hr := h.rep x hx
  have hb := h.lo x hx
  obtain ⟨m, hm⟩ : ∃ m : Nat, rd p x = (m : Int) := ⟨(rd p x).toNat, by omega⟩
  rw [hm] at hr hb ⊢
  by_cases e : m = 0
  ·simp [e]
  ·exfalso
   unfold cnt at h1
   obtain ⟨y, hy⟩ := List.length_eq_one_iff.1 h1
   have m0 : 0 ∈ (List.range n).filter (fun x : Nat => decide (rd p x = (x : Int))) := by simp; exact ⟨by omega, z0⟩
   have mm : m ∈ (List.range n).filter (fun x : Nat => decide (rd p x = (x : Int))) := by simp; exact ⟨by omega, hr⟩
   rw [hy] at m0 mm
   simp at m0 mm
   omega
theorem out_eq {n : Nat} {l : List S32} (hv : surveyB n l = true) : (treeS n l).out = (treeG n l).out := by
 have := (inv_at hv l.length (Nat.le_refl _)).2
 rwa [at_all] at this
theorem conn_eq {n : Nat} {l : List S32} (hv : surveyB n l = true) : ((treeS n l).part.all (· == 0) = true) ↔ (((treeG n l).out.length : Int) = (n : Int) - 1) := by
 have hp := valid_pts hv
 have h := (inv_at hv l.length (Nat.le_refl _)).1
 rw [at_all] at h
 have := all_zero h (by omega)
 rw [this, ← out_eq hv]
 omega
theorem nat_pts {p : Int} {l : List S32} (hv : surveyB p l = true) : ∃ n : Nat, p = n := ⟨p.toNat, by have := valid_pts hv; omega⟩
def connB (p : Int) (l : List S32) : Bool := surveyB p l && (treeS p l).part.all (· == 0)
theorem specConn_eq (p : Int) (l : List S32) : spec_l10Whole.f p l = some (connB p l, p) := by
 simp only [spec_l10Whole.f, spec_l10Is.f, Option.bind_some, connB]
 by_cases hv : surveyB p l = true
 ·simp only [hv, if_true, spec_l10Tree.f, Bool.true_and]
  cases h : (treeS p l).part.all (· == 0) <;> simp
 ·simp [hv]
end Go.Proofs.Ytkafbmanmffliaa.PuT

