/- Parts of the proof that the law of this seat holds: La, Qf, Gm, Gn, Ka, Kb, Kc, Ke, Kf, Gt, Gu, Gx, Gy, Gv, Gw. -/
import Derived.Test.YtkafbmanmffliaaGBIpk
import Derived.Test.YtkafbmanmffliaaGBIpb
import Derived.Test.YtkafbmanmffliaaGBIpj
import Derived.Test.YtkafbmanmffliaaGBIpi
set_option linter.unusedVariables false
set_option linter.unusedSimpArgs false
/- Plain: minors of matrices of up to four rows: the steps of an elimination without fractions divide without a rest; positive forms have positive leading minors; bounds. No seat: nothing is imported. -/
namespace Go.Proofs.Ytkafbmanmffliaa.La
def d2 (a b c d : Int) : Int := a * d - b * c
def d3 (a0 a1 a2 b0 b1 b2 c0 c1 c2 : Int) : Int := a0 * d2 b1 b2 c1 c2 - a1 * d2 b0 b2 c0 c2 + a2 * d2 b0 b1 c0 c1
def d4 (a0 a1 a2 a3 b0 b1 b2 b3 c0 c1 c2 c3 e0 e1 e2 e3 : Int) : Int :=
 a0 * d3 b1 b2 b3 c1 c2 c3 e1 e2 e3 - a1 * d3 b0 b2 b3 c0 c2 c3 e0 e2 e3 + a2 * d3 b0 b1 b3 c0 c1 c3 e0 e1 e3 - a3 * d3 b0 b1 b2 c0 c1 c2 e0 e1 e2
set_option maxHeartbeats 4000000 in
theorem st3 (a0 a1 a2 a3 b0 b1 b2 b3 c0 c1 c2 c3 e0 e1 e2 e3 : Int) :
  d4 a0 a1 a2 a3 b0 b1 b2 b3 c0 c1 c2 c3 e0 e1 e2 e3 * d2 a0 a1 b0 b1 = d3 a0 a1 a3 b0 b1 b3 e0 e1 e3 * d3 a0 a1 a2 b0 b1 b2 c0 c1 c2 - d3 a0 a1 a2 b0 b1 b2 e0 e1 e2 * d3 a0 a1 a3 b0 b1 b3 c0 c1 c3 := by
 unfold d4 d3 d2; grind
theorem up3_0 (a0 a1 a2 ak b0 b1 b2 bk c0 c1 c2 ck : Int) : d3 ak a1 a2 bk b1 b2 ck c1 c2 * d2 a0 a1 b0 b1 = d2 ak a1 bk b1 * d3 a0 a1 a2 b0 b1 b2 c0 c1 c2 - d2 a2 a1 b2 b1 * d3 a0 a1 ak b0 b1 bk c0 c1 ck := by unfold d3 d2; grind
theorem up3_1 (a0 a1 a2 ak b0 b1 b2 bk c0 c1 c2 ck : Int) : d3 a0 ak a2 b0 bk b2 c0 ck c2 * d2 a0 a1 b0 b1 = d2 a0 ak b0 bk * d3 a0 a1 a2 b0 b1 b2 c0 c1 c2 - d2 a0 a2 b0 b2 * d3 a0 a1 ak b0 b1 bk c0 c1 ck := by unfold d3 d2; grind
set_option maxHeartbeats 8000000 in
theorem up4_0 (a0 a1 a2 a3 ak b0 b1 b2 b3 bk c0 c1 c2 c3 ck e0 e1 e2 e3 ek : Int) :
  d4 ak a1 a2 a3 bk b1 b2 b3 ck c1 c2 c3 ek e1 e2 e3 * d3 a0 a1 a2 b0 b1 b2 c0 c1 c2 = d3 ak a1 a2 bk b1 b2 ck c1 c2 * d4 a0 a1 a2 a3 b0 b1 b2 b3 c0 c1 c2 c3 e0 e1 e2 e3 - d3 a3 a1 a2 b3 b1 b2 c3 c1 c2 * d4 a0 a1 a2 ak b0 b1 b2 bk c0 c1 c2 ck e0 e1 e2 ek := by
 unfold d4 d3 d2; grind
set_option maxHeartbeats 8000000 in
theorem up4_1 (a0 a1 a2 a3 ak b0 b1 b2 b3 bk c0 c1 c2 c3 ck e0 e1 e2 e3 ek : Int) :
  d4 a0 ak a2 a3 b0 bk b2 b3 c0 ck c2 c3 e0 ek e2 e3 * d3 a0 a1 a2 b0 b1 b2 c0 c1 c2 = d3 a0 ak a2 b0 bk b2 c0 ck c2 * d4 a0 a1 a2 a3 b0 b1 b2 b3 c0 c1 c2 c3 e0 e1 e2 e3 - d3 a0 a3 a2 b0 b3 b2 c0 c3 c2 * d4 a0 a1 a2 ak b0 b1 b2 bk c0 c1 c2 ck e0 e1 e2 ek := by
 unfold d4 d3 d2; grind
set_option maxHeartbeats 8000000 in
theorem up4_2 (a0 a1 a2 a3 ak b0 b1 b2 b3 bk c0 c1 c2 c3 ck e0 e1 e2 e3 ek : Int) :
  d4 a0 a1 ak a3 b0 b1 bk b3 c0 c1 ck c3 e0 e1 ek e3 * d3 a0 a1 a2 b0 b1 b2 c0 c1 c2 = d3 a0 a1 ak b0 b1 bk c0 c1 ck * d4 a0 a1 a2 a3 b0 b1 b2 b3 c0 c1 c2 c3 e0 e1 e2 e3 - d3 a0 a1 a3 b0 b1 b3 c0 c1 c3 * d4 a0 a1 a2 ak b0 b1 b2 bk c0 c1 c2 ck e0 e1 e2 ek := by
 unfold d4 d3 d2; grind
def qf (a b c d e f g h i j x y z u : Int) : Int := a * x * x + e * y * y + h * z * z + j * u * u + 2 * (b * x * y + c * x * z + d * x * u + f * y * z + g * y * u + i * z * u)
theorem qf2 (a b c d e f g h i j : Int) : qf a b c d e f g h i j (-b) a 0 0 = a * d2 a b b e := by unfold qf d2; grind
theorem qf3 (a b c d e f g h i j : Int) : qf a b c d e f g h i j (- d2 c b f e) (- d2 a c b f) (d2 a b b e) 0 = d2 a b b e * d3 a b c b e f c f h := by unfold qf d3 d2; grind
set_option maxHeartbeats 8000000 in
theorem qf4 (a b c d e f g h i j : Int) : qf a b c d e f g h i j (- d3 d b c g e f i f h) (- d3 a d c b g f c i h) (- d3 a b d b e g c f i) (d3 a b c b e f c f h) = d3 a b c b e f c f h * d4 a b c d b e f g c f h i d g i j := by
 unfold qf d4 d3 d2; grind
theorem mul_pos_right {a b : Int} (ha : 0 < a) (h : 0 < a * b) : 0 < b := by
 rcases Int.lt_trichotomy b 0 with hb | hb | hb
 ·have := Int.mul_neg_of_pos_of_neg ha hb; omega
 ·subst hb; simp at h
 ·exact hb
theorem minors_pos {a b c d e f g h i j : Int} (hq : ∀ x y z u : Int, ¬ (x = 0 ∧ y = 0 ∧ z = 0 ∧ u = 0) → 0 < qf a b c d e f g h i j x y z u) :
  0 < a ∧ 0 < d2 a b b e ∧ 0 < d3 a b c b e f c f h ∧ 0 < d4 a b c d b e f g c f h i d g i j := by
 have h1 : 0 < a := by
  have := hq 1 0 0 0 (by omega)
  unfold qf at this
  simpa using this
 have h2 : 0 < d2 a b b e := by
  have := hq (-b) a 0 0 (by omega)
  rw [qf2] at this
  exact mul_pos_right h1 this
 have h3 : 0 < d3 a b c b e f c f h := by
  have := hq (- d2 c b f e) (- d2 a c b f) (d2 a b b e) 0 (by omega)
  rw [qf3] at this
  exact mul_pos_right h2 this
 have h4 : 0 < d4 a b c d b e f g c f h i d g i j := by
  have := hq (- d3 d b c g e f i f h) (- d3 a d c b g f c i h) (- d3 a b d b e g c f i) (d3 a b c b e f c f h) (by omega)
  rw [qf4] at this
  exact mul_pos_right h3 this
 exact ⟨h1, h2, h3, h4⟩
theorem sq_nonneg' (x : Int) : 0 ≤ x * x := by
 rcases Int.le_total 0 x with h | h
 ·exact Int.mul_nonneg h h
 ·exact Int.mul_nonneg_of_nonpos_of_nonpos h h
theorem mul_le {a b c d : Int} (ha : 0 ≤ a) (hd : 0 ≤ d) (h1 : a ≤ b) (h2 : c ≤ d) : a * c ≤ b * d :=
 Int.le_trans (Int.mul_le_mul_of_nonneg_left h2 ha) (Int.mul_le_mul_of_nonneg_right h1 hd)
end Go.Proofs.Ytkafbmanmffliaa.La

/- Plain: the grounded sums of weights over sights between points 0 .. 4: their form is the weighted sum of squares of differences. No seat: nothing is imported. -/
namespace Go.Proofs.Ytkafbmanmffliaa.Qf
structure Si where
 f : Int
 t : Int
 w : Int
def qf (a b c d e f g h i j x y z u : Int) : Int := a * x * x + e * y * y + h * z * z + j * u * u + 2 * (b * x * y + c * x * z + d * x * u + f * y * z + g * y * u + i * z * u)
def con (s : Si) (p q : Int) : Int := if p = q then (if s.f = p ∨ s.t = p then s.w else 0) else (if (s.f = p ∧ s.t = q) ∨ (s.f = q ∧ s.t = p) then - s.w else 0)
def ent (p q : Int) : List Si → Int
 | [] => 0
 | s :: r => con s p q + ent p q r
def sq (x : Int → Int) : List Si → Int
 | [] => 0
 | s :: r => s.w * (x s.f - x s.t) * (x s.f - x s.t) + sq x r
def form (L : List Si) (x : Int → Int) : Int := qf (ent 1 1 L) (ent 1 2 L) (ent 1 3 L) (ent 1 4 L) (ent 2 2 L) (ent 2 3 L) (ent 2 4 L) (ent 3 3 L) (ent 3 4 L) (ent 4 4 L) (x 1) (x 2) (x 3) (x 4)
theorem qf_add (a b c d e f g h i j a' b' c' d' e' f' g' h' i' j' x y z u : Int) : qf (a + a') (b + b') (c + c') (d + d') (e + e') (f + f') (g + g') (h + h') (i + i') (j + j') x y z u = qf a b c d e f g h i j x y z u + qf a' b' c' d' e' f' g' h' i' j' x y z u := by unfold qf; grind
theorem one (s : Si) (x : Int → Int) (h0 : x 0 = 0) (hf : 0 ≤ s.f ∧ s.f ≤ 4) (ht : 0 ≤ s.t ∧ s.t ≤ 4) (hne : s.f ≠ s.t) :
  qf (con s 1 1) (con s 1 2) (con s 1 3) (con s 1 4) (con s 2 2) (con s 2 3) (con s 2 4) (con s 3 3) (con s 3 4) (con s 4 4) (x 1) (x 2) (x 3) (x 4) = s.w * (x s.f - x s.t) * (x s.f - x s.t) := by
 obtain ⟨f, t, w⟩ := s
 simp only at hf ht hne ⊢
 have cf : f = 0 ∨ f = 1 ∨ f = 2 ∨ f = 3 ∨ f = 4 := by omega
 have ct : t = 0 ∨ t = 1 ∨ t = 2 ∨ t = 3 ∨ t = 4 := by omega
 rcases cf with rfl | rfl | rfl | rfl | rfl <;> rcases ct with rfl | rfl | rfl | rfl | rfl <;> first | exact absurd rfl hne | (simp [con, qf, h0]; try grind)
theorem form_eq (L : List Si) (x : Int → Int) (h0 : x 0 = 0) (hv : ∀ s ∈ L, (0 ≤ s.f ∧ s.f ≤ 4) ∧ (0 ≤ s.t ∧ s.t ≤ 4) ∧ s.f ≠ s.t) : form L x = sq x L := by
 induction L with
 | nil => simp [form, ent, sq, qf]
 | cons s r ih =>
  have h := hv s (by simp)
  unfold form
  simp only [ent, qf_add, sq]
  rw [one s x h0 h.1 h.2.1 h.2.2]
  have := ih (fun t ht => hv t (by simp [ht]))
  unfold form at this
  rw [this]
theorem sq_nonneg (L : List Si) (x : Int → Int) (hw : ∀ s ∈ L, 0 ≤ s.w) : 0 ≤ sq x L := by
 induction L with
 | nil => simp [sq]
 | cons s r ih =>
  have h1 := ih (fun t ht => hw t (by simp [ht]))
  have h2 := hw s (by simp)
  have h3 : 0 ≤ (x s.f - x s.t) * (x s.f - x s.t) := by
   rcases Int.le_total 0 (x s.f - x s.t) with h | h
   ·exact Int.mul_nonneg h h
   ·exact Int.mul_nonneg_of_nonpos_of_nonpos h h
  have h4 := Int.mul_nonneg h2 h3
  rw [← Int.mul_assoc] at h4
  unfold sq
  omega
theorem sq_zero (L : List Si) (x : Int → Int) (hw : ∀ s ∈ L, 0 < s.w) (h : sq x L = 0) : ∀ s ∈ L, x s.f = x s.t := by
 induction L with
 | nil => intro s hs; cases hs
 | cons s r ih =>
  have h1 := sq_nonneg r x (fun t ht => Int.le_of_lt (hw t (by simp [ht])))
  have h2 := hw s (by simp)
  have h3 : 0 ≤ (x s.f - x s.t) * (x s.f - x s.t) := by
   rcases Int.le_total 0 (x s.f - x s.t) with h | h
   ·exact Int.mul_nonneg h h
   ·exact Int.mul_nonneg_of_nonpos_of_nonpos h h
  have h4 := Int.mul_nonneg (Int.le_of_lt h2) h3
  rw [← Int.mul_assoc] at h4
  unfold sq at h
  intro t ht
  rcases List.mem_cons.1 ht with rfl | ht
  ·have h5 : t.w * (x t.f - x t.t) * (x t.f - x t.t) = 0 := by omega
   rcases Int.mul_eq_zero.1 h5 with h6 | h6
   ·rcases Int.mul_eq_zero.1 h6 with h7 | h7
    ·omega
    ·omega
   ·omega
  ·exact ih (fun t ht => hw t (by simp [ht])) (by omega) t ht
end Go.Proofs.Ytkafbmanmffliaa.Qf

/- Plain: the table of a connected survey: its leading minors are positive; the elimination without fractions, told by minors; the fractions' elimination beside it. -/
namespace Go.Proofs.Ytkafbmanmffliaa.Gm
open Go Go.RowKit YtkafbmanmffliaaW.PrintWords Q Gf Gs Gl Hb Hd La Qf
def connB (p : Int) (l : List S32) : Bool := surveyB p l && (treeS p l).part.all (· == 0)
def Same (x : Int → Int) (n : Nat) (part : List Int) : Prop := part.length = n ∧ ∀ p : Nat, p < n → x (rd part p) = x p
theorem rd_getElem (l : List Int) (k : Nat) (h : k < l.length) : rd l k = l[k] := by simp [rd, List.getD_eq_getElem?_getD, h]
theorem same_step {x : Int → Int} {n : Nat} {st : Hd.St} (h : Same x n st.part) (y : S32 × Nat) (h0 : 0 ≤ y.1.f0 ∧ y.1.f0 < n) (h1 : 0 ≤ y.1.f1 ∧ y.1.f1 < n) (hx : x y.1.f0 = x y.1.f1) : Same x n (Hd.step st y).part := by
 unfold Hd.step
 split
 ·exact h
 ·refine ⟨by simp [newPart_len, h.1], fun p hp => ?_⟩
  show x (rd (newPart st.part _ _) p) = x p
  have hl : p < st.part.length := by rw [h.1]; exact hp
  rw [rd_getElem _ p (by simp [newPart_len, hl])]
  have hq := h.2 p hp
  rw [rd_getElem _ p hl] at hq
  simp only [newPart, List.getElem_map]
  split
  ·rename_i e
   have e0 := h.2 y.1.f0.toNat (by omega)
   have e1 := h.2 y.1.f1.toNat (by omega)
   rw [Int.toNat_of_nonneg h0.1] at e0
   rw [Int.toNat_of_nonneg h1.1] at e1
   have em : x (mxI (rd st.part y.1.f0) (rd st.part y.1.f1)) = x y.1.f0 := by
    unfold mxI
    split
    ·exact e0
    ·rw [e1, hx]
   have en : x (mnI (rd st.part y.1.f0) (rd st.part y.1.f1)) = x y.1.f0 := by
    unfold mnI
    split
    ·exact e0
    ·rw [e1, hx]
   rw [en, ← em, ← e]
   exact hq
  ·exact hq
theorem same_all {n : Nat} {l : List S32} (hv : surveyB n l = true) {x : Int → Int} (hx : ∀ k, k < l.length → x (rd_T32 l k).f0 = x (rd_T32 l k).f1) : ∀ k, k ≤ l.length → Same x n (at_ n l k).part := by
 intro k
 induction k with
 | zero =>
  intro _
  rw [at_zero]
  refine ⟨by simp [Hd.start], fun p hp => ?_⟩
  rw [rd_getElem _ p (by simp [Hd.start, hp])]
  simp [Hd.start]
 | succ k ih =>
  intro hk
  rw [at_succ _ _ _ (by omega)]
  have := valid_at hv k (by omega)
  exact same_step (ih (by omega)) _ ⟨this.1, this.2.1⟩ ⟨this.2.2.1, this.2.2.2⟩ (hx k (by omega))
theorem conn_zero {n : Nat} {l : List S32} (hc : connB n l = true) {x : Int → Int} (hx : ∀ k, k < l.length → x (rd_T32 l k).f0 = x (rd_T32 l k).f1) (p : Nat) (hp : p < n) : x p = x 0 := by
 unfold connB at hc
 simp only [Bool.and_eq_true] at hc
 have h := same_all hc.1 hx l.length (Nat.le_refl _)
 rw [at_all] at h
 have hl : p < (treeS n l).part.length := by rw [h.1]; exact hp
 have h2 := h.2 p hp
 rw [rd_getElem _ p hl] at h2
 have h3 := List.all_eq_true.1 hc.2 _ (List.getElem_mem hl)
 rw [← h2, beq_iff_eq.1 h3]
def sig (l : List S32) : List Si := l.map fun s => ⟨s.f0, s.f1, s.f3⟩
theorem ent_append (p q : Int) (L : List Si) (s : Si) : ent p q (L ++ [s]) = ent p q L + con s p q := by
 induction L with
 | nil => simp [ent]
 | cons a r ih => simp only [List.cons_append, ent, ih]; omega
theorem dl_eq (w p q : Int) (r k : Nat) : dl w p q r k = if (r : Int) = p ∧ (k : Int) = q then (if p = q then w else - w) else 0 := by
 unfold dl
 by_cases h : (r : Int) = p ∧ (k : Int) = q
 ·rw [if_pos h, if_pos ⟨by omega, by omega, h⟩]
 ·rw [if_neg h, if_neg (by omega)]
set_option maxHeartbeats 8000000 in
theorem con_dl (f t w : Int) (hf : f ≠ t) (r k : Nat) : dl w (f - 1) (f - 1) r k + dl w (f - 1) (t - 1) r k + dl w (t - 1) (f - 1) r k + dl w (t - 1) (t - 1) r k = con ⟨f, t, w⟩ ((r : Int) + 1) ((k : Int) + 1) := by
 rw [dl_eq, dl_eq, dl_eq, dl_eq, if_pos (rfl : f - 1 = f - 1), if_pos (rfl : t - 1 = t - 1), if_neg (show ¬ f - 1 = t - 1 by omega), if_neg (show ¬ t - 1 = f - 1 by omega)]
 unfold con
 dsimp only
 by_cases h : (r : Int) + 1 = (k : Int) + 1
 ·rw [if_pos h, if_neg (show ¬ ((r : Int) = f - 1 ∧ (k : Int) = t - 1) by omega), if_neg (show ¬ ((r : Int) = t - 1 ∧ (k : Int) = f - 1) by omega)]
  by_cases h1 : (r : Int) = f - 1
  ·rw [if_pos ⟨h1, by omega⟩, if_neg (by omega), if_pos (by omega)]; omega
  ·rw [if_neg (by omega)]
   by_cases h2 : (r : Int) = t - 1
   ·rw [if_pos ⟨h2, by omega⟩, if_pos (by omega)]; omega
   ·rw [if_neg (by omega), if_neg (by omega)]; rfl
 ·rw [if_neg h, if_neg (show ¬ ((r : Int) = f - 1 ∧ (k : Int) = f - 1) by omega), if_neg (show ¬ ((r : Int) = t - 1 ∧ (k : Int) = t - 1) by omega)]
  by_cases h1 : (r : Int) = f - 1 ∧ (k : Int) = t - 1
  ·rw [if_pos h1, if_neg (by omega), if_pos (by omega)]; omega
  ·rw [if_neg h1]
   by_cases h2 : (r : Int) = t - 1 ∧ (k : Int) = f - 1
   ·rw [if_pos h2, if_pos (by omega)]; omega
   ·rw [if_neg h2, if_neg (by omega)]; rfl
theorem sgs_ent {n : Nat} {l : List S32} (hv : surveyB ((n : Int) + 1) l = true) (M : TI) (i : Nat) (hi : i ≤ l.length) (r k : Nat) : sgs l M i r k = M r k + ent ((r : Int) + 1) ((k : Int) + 1) (sig (l.take i)) := by
 induction i with
 | zero => simp [sgs, sig, ent]
 | succ i ih =>
  have hs := sight_at hv i (by omega)
  have e : l.take (i + 1) = l.take i ++ [rd_T32 l i] := by
   rw [List.take_succ_eq_append_getElem (by omega)]
   simp [rd_T32, show i < l.length by omega]
  rw [e]
  unfold sig
  rw [List.map_append, List.map_singleton, ent_append]
  have hd := con_dl (rd_T32 l i).f0 (rd_T32 l i).f1 (rd_T32 l i).f3 hs.2.2.2.2.1 r k
  show stp _ _ _ (stp _ _ _ (stp _ _ _ (stp _ _ _ (sgs l M i)))) r k = _
  simp only [stp_dl, ih (by omega)]
  unfold sig
  have a1 : ptq ((rd_T32 l i).f0 - 1) ((rd_T32 l i).f1 - 1) (0 / 2) = (rd_T32 l i).f0 - 1 := rfl
  have a2 : ptq ((rd_T32 l i).f0 - 1) ((rd_T32 l i).f1 - 1) (1 % 2) = (rd_T32 l i).f1 - 1 := rfl
  rw [a1, a2]
  omega
theorem tab_ent {n : Nat} {l : List S32} (hv : surveyB ((n : Int) + 1) l = true) (right : List Int) (r k : Nat) : tab l right n r k = MI0 right n r k + ent ((r : Int) + 1) ((k : Int) + 1) (sig l) := by
 unfold tab
 rw [sgs_ent hv _ _ (Nat.le_refl _), List.take_length]
theorem ent_out (p q : Int) (L : List Si) (h : ∀ s ∈ L, s.f ≠ q ∧ s.t ≠ q) (hpq : p ≠ q) : ent p q L = 0 := by
 induction L with
 | nil => rfl
 | cons s r ih =>
  have h1 := h s (by simp)
  have h2 := ih (fun t ht => h t (by simp [ht]))
  simp only [ent, h2]
  unfold con
  rw [if_neg hpq, if_neg (by omega)]
  rfl
theorem ent_symm (p q : Int) (L : List Si) : ent p q L = ent q p L := by
 induction L with
 | nil => rfl
 | cons s r ih =>
  simp only [ent, ih]
  unfold con
  by_cases h : p = q
  ·subst h; rfl
  ·rw [if_neg h, if_neg (Ne.symm h)]
   congr 1
   by_cases h2 : (s.f = p ∧ s.t = q) ∨ (s.f = q ∧ s.t = p)
   ·rw [if_pos h2, if_pos (by omega)]
   ·rw [if_neg h2, if_neg (by omega)]
theorem ent_size (p q : Int) (L : List Si) (h : ∀ s ∈ L, 0 ≤ s.w ∧ s.w ≤ 3) : -(3 * (L.length : Int)) ≤ ent p q L ∧ ent p q L ≤ 3 * L.length := by
 induction L with
 | nil => simp [ent]
 | cons s r ih =>
  have h1 := h s (by simp)
  have h2 := ih (fun t ht => h t (by simp [ht]))
  simp only [ent, List.length_cons]
  unfold con
  split <;> split <;> omega
theorem sig_mem {n : Nat} {l : List S32} (hv : surveyB ((n : Int) + 1) l = true) : ∀ s ∈ sig l, (0 ≤ s.f ∧ s.f ≤ n) ∧ (0 ≤ s.t ∧ s.t ≤ n) ∧ s.f ≠ s.t ∧ 1 ≤ s.w ∧ s.w ≤ 3 := by
 intro s hs
 unfold sig at hs
 obtain ⟨t, ht, rfl⟩ := List.mem_map.1 hs
 obtain ⟨k, hk, rfl⟩ := List.getElem_of_mem ht
 have := sight_at hv k hk
 simp only [rd_T32, Int.toNat_natCast] at this
 rw [List.getD_eq_getElem?_getD, List.getElem?_eq_getElem hk] at this
 simp only [Option.getD_some] at this
 dsimp only
 omega
def E (l : List S32) (p q : Nat) : Int := ent ((p : Int) + 1) ((q : Int) + 1) (sig l)
theorem E_symm (l : List S32) (p q : Nat) : E l p q = E l q p := ent_symm _ _ _
def fx (x y z u : Int) (p : Int) : Int := if p = 1 then x else if p = 2 then y else if p = 3 then z else if p = 4 then u else 0
def one_ (b : Prop) [Decidable b] : Int := if b then 1 else 0
theorem minors {n : Nat} {l : List S32} (hn : n ≤ 4) (hc : connB ((n : Int) + 1) l = true) :
  0 < E l 0 0 + one_ (n < 1) ∧ 0 < d2 (E l 0 0 + one_ (n < 1)) (E l 0 1) (E l 0 1) (E l 1 1 + one_ (n < 2)) ∧ 0 < d3 (E l 0 0 + one_ (n < 1)) (E l 0 1) (E l 0 2) (E l 0 1) (E l 1 1 + one_ (n < 2)) (E l 1 2) (E l 0 2) (E l 1 2) (E l 2 2 + one_ (n < 3)) ∧
   0 < d4 (E l 0 0 + one_ (n < 1)) (E l 0 1) (E l 0 2) (E l 0 3) (E l 0 1) (E l 1 1 + one_ (n < 2)) (E l 1 2) (E l 1 3) (E l 0 2) (E l 1 2) (E l 2 2 + one_ (n < 3)) (E l 2 3) (E l 0 3) (E l 1 3) (E l 2 3) (E l 3 3 + one_ (n < 4)) := by
 have hv : surveyB ((n : Int) + 1) l = true := by unfold connB at hc; simp only [Bool.and_eq_true] at hc; exact hc.1
 have hm := sig_mem hv
 refine minors_pos (fun x y z u h0 => ?_)
 have h1 := form_eq (sig l) (fx x y z u) rfl (fun s hs => by have := hm s hs; omega)
 have h2 := sq_nonneg (sig l) (fx x y z u) (fun s hs => by have := hm s hs; omega)
 have h3 : La.qf (E l 0 0 + one_ (n < 1)) (E l 0 1) (E l 0 2) (E l 0 3) (E l 1 1 + one_ (n < 2)) (E l 1 2) (E l 1 3) (E l 2 2 + one_ (n < 3)) (E l 2 3) (E l 3 3 + one_ (n < 4)) x y z u =
   Qf.sq (fx x y z u) (sig l) + (one_ (n < 1) * (x * x) + one_ (n < 2) * (y * y) + one_ (n < 3) * (z * z) + one_ (n < 4) * (u * u)) := by
  rw [← h1]
  show La.qf _ _ _ _ _ _ _ _ _ _ x y z u = Qf.qf (E l 0 0) (E l 0 1) (E l 0 2) (E l 0 3) (E l 1 1) (E l 1 2) (E l 1 3) (E l 2 2) (E l 2 3) (E l 3 3) x y z u + _
  unfold La.qf Qf.qf
  generalize one_ (n < 1) = o1
  generalize one_ (n < 2) = o2
  generalize one_ (n < 3) = o3
  generalize one_ (n < 4) = o4
  grind
 rw [h3]
 have o : ∀ (b : Prop) [Decidable b], 0 ≤ one_ b := fun b _ => by unfold one_; split <;> omega
 have q1 := Int.mul_nonneg (o (n < 1)) (sq_nonneg' x)
 have q2 := Int.mul_nonneg (o (n < 2)) (sq_nonneg' y)
 have q3 := Int.mul_nonneg (o (n < 3)) (sq_nonneg' z)
 have q4 := Int.mul_nonneg (o (n < 4)) (sq_nonneg' u)
 by_cases hz : Qf.sq (fx x y z u) (sig l) = 0
 ·have h4 := sq_zero (sig l) (fx x y z u) (fun s hs => by have := hm s hs; omega) hz
  have h5 : ∀ k, k < l.length → fx x y z u (rd_T32 l k).f0 = fx x y z u (rd_T32 l k).f1 := by
   intro k hk
   have := h4 ⟨l[k].f0, l[k].f1, l[k].f3⟩ (List.mem_map.2 ⟨l[k], List.getElem_mem hk, rfl⟩)
   simp only [rd_T32, Int.toNat_natCast]
   rw [List.getD_eq_getElem?_getD, List.getElem?_eq_getElem hk]
   exact this
  have hc' : connB ((n + 1 : Nat) : Int) l = true := by exact_mod_cast hc
  have hzero : ∀ p : Nat, p < n + 1 → fx x y z u p = 0 := fun p hp => (conn_zero hc' h5 p hp).trans rfl
  have sqp : ∀ a : Int, a ≠ 0 → 0 < a * a := by
   intro a ha
   rcases Int.lt_or_gt_of_ne ha with h | h
   ·exact Int.mul_pos_of_neg_of_neg h h
   ·exact Int.mul_pos h h
  have c1 : x ≠ 0 → n < 1 := by
   intro hx
   apply Nat.lt_of_not_le
   intro hle
   exact hx (hzero 1 (by omega))
  have c2 : y ≠ 0 → n < 2 := by
   intro hx
   apply Nat.lt_of_not_le
   intro hle
   exact hx (hzero 2 (by omega))
  have c3 : z ≠ 0 → n < 3 := by
   intro hx
   apply Nat.lt_of_not_le
   intro hle
   exact hx (hzero 3 (by omega))
  have c4 : u ≠ 0 → n < 4 := by
   intro hx
   apply Nat.lt_of_not_le
   intro hle
   exact hx (hzero 4 (by omega))
  have ob : ∀ (b : Prop) [Decidable b], b → one_ b = 1 := fun b _ hb => by unfold one_; rw [if_pos hb]
  by_cases hx : x = 0
  ·by_cases hy : y = 0
   ·by_cases hz2 : z = 0
    ·have hu : u ≠ 0 := by omega
     have := sqp u hu
     rw [ob _ (c4 hu), Int.one_mul] at q4 ⊢
     omega
    ·have := sqp z hz2
     rw [ob _ (c3 hz2), Int.one_mul] at q3 ⊢
     omega
   ·have := sqp y hy
    rw [ob _ (c2 hy), Int.one_mul] at q2 ⊢
    omega
  ·have := sqp x hx
   rw [ob _ (c1 hx), Int.one_mul] at q1 ⊢
   omega
 ·omega
end Go.Proofs.Ytkafbmanmffliaa.Gm

/- Plain: the elimination without fractions told by minors, and the fractions' beside it. -/
namespace Go.Proofs.Ytkafbmanmffliaa.Gn
open Go Go.RowKit YtkafbmanmffliaaW.PrintWords Q Gf Gs Hb La Gm
def SS (A : TI) : Nat → TI
 | 0 => A
 | 1 => fun i k => if i = 0 then A 0 k else d2 (A 0 0) (A 0 k) (A i 0) (A i k)
 | 2 => fun i k => if i = 0 then d2 (A 0 k) (A 0 1) (A 1 k) (A 1 1) else if i = 1 then d2 (A 0 0) (A 0 k) (A 1 0) (A 1 k) else d3 (A 0 0) (A 0 1) (A 0 k) (A 1 0) (A 1 1) (A 1 k) (A i 0) (A i 1) (A i k)
 | 3 => fun i k => if i = 0 then d3 (A 0 k) (A 0 1) (A 0 2) (A 1 k) (A 1 1) (A 1 2) (A 2 k) (A 2 1) (A 2 2) else if i = 1 then d3 (A 0 0) (A 0 k) (A 0 2) (A 1 0) (A 1 k) (A 1 2) (A 2 0) (A 2 k) (A 2 2) else if i = 2 then d3 (A 0 0) (A 0 1) (A 0 k) (A 1 0) (A 1 1) (A 1 k) (A 2 0) (A 2 1) (A 2 k)
   else d4 (A 0 0) (A 0 1) (A 0 2) (A 0 k) (A 1 0) (A 1 1) (A 1 2) (A 1 k) (A 2 0) (A 2 1) (A 2 2) (A 2 k) (A i 0) (A i 1) (A i 2) (A i k)
 | _ + 4 => fun i k => if i = 0 then d4 (A 0 k) (A 0 1) (A 0 2) (A 0 3) (A 1 k) (A 1 1) (A 1 2) (A 1 3) (A 2 k) (A 2 1) (A 2 2) (A 2 3) (A 3 k) (A 3 1) (A 3 2) (A 3 3) else if i = 1 then d4 (A 0 0) (A 0 k) (A 0 2) (A 0 3) (A 1 0) (A 1 k) (A 1 2) (A 1 3) (A 2 0) (A 2 k) (A 2 2) (A 2 3) (A 3 0) (A 3 k) (A 3 2) (A 3 3)
   else if i = 2 then d4 (A 0 0) (A 0 1) (A 0 k) (A 0 3) (A 1 0) (A 1 1) (A 1 k) (A 1 3) (A 2 0) (A 2 1) (A 2 k) (A 2 3) (A 3 0) (A 3 1) (A 3 k) (A 3 3) else d4 (A 0 0) (A 0 1) (A 0 2) (A 0 k) (A 1 0) (A 1 1) (A 1 2) (A 1 k) (A 2 0) (A 2 1) (A 2 2) (A 2 k) (A 3 0) (A 3 1) (A 3 2) (A 3 k)
def LL (A : TI) : Nat → Int
 | 0 => 1
 | 1 => A 0 0
 | 2 => d2 (A 0 0) (A 0 1) (A 1 0) (A 1 1)
 | 3 => d3 (A 0 0) (A 0 1) (A 0 2) (A 1 0) (A 1 1) (A 1 2) (A 2 0) (A 2 1) (A 2 2)
 | _ + 4 => d4 (A 0 0) (A 0 1) (A 0 2) (A 0 3) (A 1 0) (A 1 1) (A 1 2) (A 1 3) (A 2 0) (A 2 1) (A 2 2) (A 2 3) (A 3 0) (A 3 1) (A 3 2) (A 3 3)
theorem LL_succ (A : TI) (c : Nat) (hc : c < 4) : LL A (c + 1) = SS A c c c := by
 match c, hc with
 | 0, _ => rfl
 | 1, _ => rfl
 | 2, _ => rfl
 | 3, _ => rfl
theorem SS_own (A : TI) (c k : Nat) (hc : c < 4) : SS A (c + 1) c k = SS A c c k := by
 match c, hc with
 | 0, _ => rfl
 | 1, _ => rfl
 | 2, _ => rfl
 | 3, _ => rfl
theorem SS_step (A : TI) (c i k : Nat) (hc : c < 4) (hi : i < 4) (hne : i ≠ c) : SS A (c + 1) i k * LL A c = SS A c i k * SS A c c c - SS A c i c * SS A c c k := by
 match c, hc, i, hi with
 | 0, _, 0, _ => exact absurd rfl hne
 | 0, _, 1, _ => show d2 _ _ _ _ * 1 = _ * _ - _ * _; unfold d2 SS; grind
 | 0, _, 2, _ => show d2 _ _ _ _ * 1 = _ * _ - _ * _; unfold d2 SS; grind
 | 0, _, 3, _ => show d2 _ _ _ _ * 1 = _ * _ - _ * _; unfold d2 SS; grind
 | 1, _, 0, _ => show d2 (A 0 k) (A 0 1) (A 1 k) (A 1 1) * A 0 0 = A 0 k * d2 (A 0 0) (A 0 1) (A 1 0) (A 1 1) - A 0 1 * d2 (A 0 0) (A 0 k) (A 1 0) (A 1 k); unfold d2; grind
 | 1, _, 1, _ => exact absurd rfl hne
 | 1, _, 2, _ => show d3 (A 0 0) (A 0 1) (A 0 k) (A 1 0) (A 1 1) (A 1 k) (A 2 0) (A 2 1) (A 2 k) * A 0 0 = d2 (A 0 0) (A 0 k) (A 2 0) (A 2 k) * d2 (A 0 0) (A 0 1) (A 1 0) (A 1 1) - d2 (A 0 0) (A 0 1) (A 2 0) (A 2 1) * d2 (A 0 0) (A 0 k) (A 1 0) (A 1 k); unfold d3 d2; grind
 | 1, _, 3, _ => show d3 (A 0 0) (A 0 1) (A 0 k) (A 1 0) (A 1 1) (A 1 k) (A 3 0) (A 3 1) (A 3 k) * A 0 0 = d2 (A 0 0) (A 0 k) (A 3 0) (A 3 k) * d2 (A 0 0) (A 0 1) (A 1 0) (A 1 1) - d2 (A 0 0) (A 0 1) (A 3 0) (A 3 1) * d2 (A 0 0) (A 0 k) (A 1 0) (A 1 k); unfold d3 d2; grind
 | 2, _, 0, _ => exact up3_0 ..
 | 2, _, 1, _ => exact up3_1 ..
 | 2, _, 2, _ => exact absurd rfl hne
 | 2, _, 3, _ => exact st3 ..
 | 3, _, 0, _ => exact up4_0 ..
 | 3, _, 1, _ => exact up4_1 ..
 | 3, _, 2, _ => exact up4_2 ..
 | 3, _, 3, _ => exact absurd rfl hne
def Bd (X a : Int) : Prop := -X ≤ a ∧ a ≤ X
theorem mulb {X Y a b : Int} (hX : 0 ≤ X) (hY : 0 ≤ Y) (ha : Bd X a) (hb : Bd Y b) : Bd (X * Y) (a * b) := by
 obtain ⟨x, rfl⟩ := Int.eq_ofNat_of_zero_le hX
 obtain ⟨y, rfl⟩ := Int.eq_ofNat_of_zero_le hY
 unfold Bd at *
 have h1 : a.natAbs * b.natAbs ≤ x * y := Nat.mul_le_mul (by omega) (by omega)
 have h2 : (a * b).natAbs = a.natAbs * b.natAbs := Int.natAbs_mul a b
 have h3 : ((x * y : Nat) : Int) = (x : Int) * (y : Int) := by push_cast; rfl
 omega
theorem d2_b {P Q a b c d : Int} (hP : 0 ≤ P) (hQ : 0 ≤ Q) (ha : Bd P a) (hb : Bd Q b) (hc : Bd P c) (hd : Bd Q d) : Bd (2 * (P * Q)) (d2 a b c d) := by
 have h1 := mulb hP hQ ha hd
 have h2 := mulb hQ hP hb hc
 rw [Int.mul_comm Q P] at h2
 unfold Bd d2 at *
 omega
theorem d3_b {P Q R a0 a1 a2 b0 b1 b2 c0 c1 c2 : Int} (hP : 0 ≤ P) (hQ : 0 ≤ Q) (hR : 0 ≤ R) (ha0 : Bd P a0) (ha1 : Bd Q a1) (ha2 : Bd R a2) (hb0 : Bd P b0) (hb1 : Bd Q b1) (hb2 : Bd R b2) (hc0 : Bd P c0) (hc1 : Bd Q c1) (hc2 : Bd R c2) :
  Bd (6 * (P * (Q * R))) (d3 a0 a1 a2 b0 b1 b2 c0 c1 c2) := by
 have m1 : 0 ≤ 2 * (Q * R) := by have := Int.mul_nonneg hQ hR; omega
 have m2 : 0 ≤ 2 * (P * R) := by have := Int.mul_nonneg hP hR; omega
 have m3 : 0 ≤ 2 * (P * Q) := by have := Int.mul_nonneg hP hQ; omega
 have h1 := mulb hP m1 ha0 (d2_b hQ hR hb1 hb2 hc1 hc2)
 have h2 := mulb hQ m2 ha1 (d2_b hP hR hb0 hb2 hc0 hc2)
 have h3 := mulb hR m3 ha2 (d2_b hP hQ hb0 hb1 hc0 hc1)
 rw [show P * (2 * (Q * R)) = 2 * (P * (Q * R)) by grind] at h1
 rw [show Q * (2 * (P * R)) = 2 * (P * (Q * R)) by grind] at h2
 rw [show R * (2 * (P * Q)) = 2 * (P * (Q * R)) by grind] at h3
 unfold Bd d3 at *
 omega
theorem d4_b {P Q R T a0 a1 a2 a3 b0 b1 b2 b3 c0 c1 c2 c3 e0 e1 e2 e3 : Int} (hP : 0 ≤ P) (hQ : 0 ≤ Q) (hR : 0 ≤ R) (hT : 0 ≤ T) (ha0 : Bd P a0) (ha1 : Bd Q a1) (ha2 : Bd R a2) (ha3 : Bd T a3) (hb0 : Bd P b0) (hb1 : Bd Q b1) (hb2 : Bd R b2) (hb3 : Bd T b3)
  (hc0 : Bd P c0) (hc1 : Bd Q c1) (hc2 : Bd R c2) (hc3 : Bd T c3) (he0 : Bd P e0) (he1 : Bd Q e1) (he2 : Bd R e2) (he3 : Bd T e3) : Bd (24 * (P * (Q * (R * T)))) (d4 a0 a1 a2 a3 b0 b1 b2 b3 c0 c1 c2 c3 e0 e1 e2 e3) := by
 have n1 := Int.mul_nonneg hQ (Int.mul_nonneg hR hT)
 have n2 := Int.mul_nonneg hP (Int.mul_nonneg hR hT)
 have n3 := Int.mul_nonneg hP (Int.mul_nonneg hQ hT)
 have n4 := Int.mul_nonneg hP (Int.mul_nonneg hQ hR)
 have h1 := mulb hP (by omega) ha0 (d3_b hQ hR hT hb1 hb2 hb3 hc1 hc2 hc3 he1 he2 he3)
 have h2 := mulb hQ (by omega) ha1 (d3_b hP hR hT hb0 hb2 hb3 hc0 hc2 hc3 he0 he2 he3)
 have h3 := mulb hR (by omega) ha2 (d3_b hP hQ hT hb0 hb1 hb3 hc0 hc1 hc3 he0 he1 he3)
 have h4 := mulb hT (by omega) ha3 (d3_b hP hQ hR hb0 hb1 hb2 hc0 hc1 hc2 he0 he1 he2)
 rw [show P * (6 * (Q * (R * T))) = 6 * (P * (Q * (R * T))) by grind] at h1
 rw [show Q * (6 * (P * (R * T))) = 6 * (P * (Q * (R * T))) by grind] at h2
 rw [show R * (6 * (P * (Q * T))) = 6 * (P * (Q * (R * T))) by grind] at h3
 rw [show T * (6 * (P * (Q * R))) = 6 * (P * (Q * (R * T))) by grind] at h4
 unfold Bd d4 at *
 omega
theorem Bd.mono {X Y a : Int} (h : Bd X a) (hXY : X ≤ Y) : Bd Y a := by unfold Bd at *; omega
theorem SS_size {A : TI} {n : Nat} (hn : n ≤ 4) (h1 : ∀ r k, r < n → k < n → Bd 24 (A r k)) (h2 : ∀ r k, r < n → k ≤ n → Bd 2400 (A r k)) (c i k : Nat) (hc : c ≤ n) (hi : i < n) (hk : k ≤ n) : Bd 1073741824 (SS A c i k) := by
 have p : (0 : Int) ≤ 24 := by decide
 have q : (0 : Int) ≤ 2400 := by decide
 match c, (show c ≤ 4 by omega) with
 | 0, _ => exact (h2 i k hi hk).mono (by decide)
 | 1, _ =>
  have a := fun r k hr hk => h1 r k (show r < n by omega) (show k < n by omega)
  show Bd _ (if i = 0 then _ else _)
  split
  ·exact (h2 0 k (by omega) hk).mono (by decide)
  ·exact (d2_b p q (h1 0 0 (by omega) (by omega)) (h2 0 k (by omega) hk) (h1 i 0 hi (by omega)) (h2 i k hi hk)).mono (by decide)
 | 2, _ =>
  show Bd _ (if i = 0 then _ else if i = 1 then _ else _)
  split
  ·exact (d2_b q p (h2 0 k (by omega) hk) (h1 0 1 (by omega) (by omega)) (h2 1 k (by omega) hk) (h1 1 1 (by omega) (by omega))).mono (by decide)
  ·split
   ·exact (d2_b p q (h1 0 0 (by omega) (by omega)) (h2 0 k (by omega) hk) (h1 1 0 (by omega) (by omega)) (h2 1 k (by omega) hk)).mono (by decide)
   ·exact (d3_b p p q (h1 0 0 (by omega) (by omega)) (h1 0 1 (by omega) (by omega)) (h2 0 k (by omega) hk) (h1 1 0 (by omega) (by omega)) (h1 1 1 (by omega) (by omega)) (h2 1 k (by omega) hk) (h1 i 0 hi (by omega)) (h1 i 1 hi (by omega)) (h2 i k hi hk)).mono (by decide)
 | 3, _ =>
  have a : ∀ r k, r < 3 → k < 3 → Bd 24 (A r k) := fun r k hr hk => h1 r k (by omega) (by omega)
  have b : ∀ r, r < 3 → Bd 2400 (A r k) := fun r hr => h2 r k (by omega) hk
  show Bd _ (if i = 0 then _ else if i = 1 then _ else if i = 2 then _ else _)
  split
  ·exact (d3_b q p p (b 0 (by decide)) (a 0 1 (by decide) (by decide)) (a 0 2 (by decide) (by decide)) (b 1 (by decide)) (a 1 1 (by decide) (by decide)) (a 1 2 (by decide) (by decide)) (b 2 (by decide)) (a 2 1 (by decide) (by decide)) (a 2 2 (by decide) (by decide))).mono (by decide)
  ·split
   ·exact (d3_b p q p (a 0 0 (by decide) (by decide)) (b 0 (by decide)) (a 0 2 (by decide) (by decide)) (a 1 0 (by decide) (by decide)) (b 1 (by decide)) (a 1 2 (by decide) (by decide)) (a 2 0 (by decide) (by decide)) (b 2 (by decide)) (a 2 2 (by decide) (by decide))).mono (by decide)
   ·split
    ·exact (d3_b p p q (a 0 0 (by decide) (by decide)) (a 0 1 (by decide) (by decide)) (b 0 (by decide)) (a 1 0 (by decide) (by decide)) (a 1 1 (by decide) (by decide)) (b 1 (by decide)) (a 2 0 (by decide) (by decide)) (a 2 1 (by decide) (by decide)) (b 2 (by decide))).mono (by decide)
    ·exact (d4_b p p p q (a 0 0 (by decide) (by decide)) (a 0 1 (by decide) (by decide)) (a 0 2 (by decide) (by decide)) (b 0 (by decide)) (a 1 0 (by decide) (by decide)) (a 1 1 (by decide) (by decide)) (a 1 2 (by decide) (by decide)) (b 1 (by decide)) (a 2 0 (by decide) (by decide)) (a 2 1 (by decide) (by decide)) (a 2 2 (by decide) (by decide)) (b 2 (by decide)) (h1 i 0 hi (by omega)) (h1 i 1 hi (by omega)) (h1 i 2 hi (by omega)) (h2 i k hi hk)).mono (by decide)
 | 4, _ =>
  have a : ∀ r k, r < 4 → k < 4 → Bd 24 (A r k) := fun r k hr hk => h1 r k (by omega) (by omega)
  have b : ∀ r, r < 4 → Bd 2400 (A r k) := fun r hr => h2 r k (by omega) hk
  show Bd _ (if i = 0 then _ else if i = 1 then _ else if i = 2 then _ else _)
  split
  ·exact (d4_b q p p p (b 0 (by decide)) (a 0 1 (by decide) (by decide)) (a 0 2 (by decide) (by decide)) (a 0 3 (by decide) (by decide)) (b 1 (by decide)) (a 1 1 (by decide) (by decide)) (a 1 2 (by decide) (by decide)) (a 1 3 (by decide) (by decide)) (b 2 (by decide)) (a 2 1 (by decide) (by decide)) (a 2 2 (by decide) (by decide)) (a 2 3 (by decide) (by decide)) (b 3 (by decide)) (a 3 1 (by decide) (by decide)) (a 3 2 (by decide) (by decide)) (a 3 3 (by decide) (by decide))).mono (by decide)
  ·split
   ·exact (d4_b p q p p (a 0 0 (by decide) (by decide)) (b 0 (by decide)) (a 0 2 (by decide) (by decide)) (a 0 3 (by decide) (by decide)) (a 1 0 (by decide) (by decide)) (b 1 (by decide)) (a 1 2 (by decide) (by decide)) (a 1 3 (by decide) (by decide)) (a 2 0 (by decide) (by decide)) (b 2 (by decide)) (a 2 2 (by decide) (by decide)) (a 2 3 (by decide) (by decide)) (a 3 0 (by decide) (by decide)) (b 3 (by decide)) (a 3 2 (by decide) (by decide)) (a 3 3 (by decide) (by decide))).mono (by decide)
   ·split
    ·exact (d4_b p p q p (a 0 0 (by decide) (by decide)) (a 0 1 (by decide) (by decide)) (b 0 (by decide)) (a 0 3 (by decide) (by decide)) (a 1 0 (by decide) (by decide)) (a 1 1 (by decide) (by decide)) (b 1 (by decide)) (a 1 3 (by decide) (by decide)) (a 2 0 (by decide) (by decide)) (a 2 1 (by decide) (by decide)) (b 2 (by decide)) (a 2 3 (by decide) (by decide)) (a 3 0 (by decide) (by decide)) (a 3 1 (by decide) (by decide)) (b 3 (by decide)) (a 3 3 (by decide) (by decide))).mono (by decide)
    ·exact (d4_b p p p q (a 0 0 (by decide) (by decide)) (a 0 1 (by decide) (by decide)) (a 0 2 (by decide) (by decide)) (b 0 (by decide)) (a 1 0 (by decide) (by decide)) (a 1 1 (by decide) (by decide)) (a 1 2 (by decide) (by decide)) (b 1 (by decide)) (a 2 0 (by decide) (by decide)) (a 2 1 (by decide) (by decide)) (a 2 2 (by decide) (by decide)) (b 2 (by decide)) (a 3 0 (by decide) (by decide)) (a 3 1 (by decide) (by decide)) (a 3 2 (by decide) (by decide)) (b 3 (by decide))).mono (by decide)
theorem gj_SS {A : TI} {n : Nat} (hn : n ≤ 4) (hp : ∀ c, c ≤ n → 0 < LL A c) (c : Nat) (hc : c ≤ n) : ∀ r k, r < n → ((SS A c r k : Int) : Rat) = ((LL A c : Int) : Rat) * gj (cst A) c r k := by
 induction c with
 | zero => intro r k _; show ((A r k : Int) : Rat) = ((1 : Int) : Rat) * ((A r k : Int) : Rat); grind
 | succ c ih =>
  intro r k hr
  have hl : ((LL A c : Int) : Rat) ≠ 0 := by
   intro h
   have h2 := hp c (by omega)
   have h3 : LL A c = 0 := by exact_mod_cast h
   omega
  have hcc := ih (by omega) c c (by omega)
  have hL := LL_succ A c (by omega)
  have hpc : ((SS A c c c : Int) : Rat) ≠ 0 := by
   intro h
   have h2 := hp (c + 1) (by omega)
   rw [hL] at h2
   have h3 : SS A c c c = 0 := by exact_mod_cast h
   omega
  have hrc : gj (cst A) c c c ≠ 0 := by
   intro h
   rw [h] at hcc
   apply hpc
   rw [hcc]
   grind
  have hck := ih (by omega) c k (by omega)
  rw [hL]
  by_cases e : r = c
  ·subst e
   rw [SS_own A r k (by omega), hck, hcc]
   show _ = _ * (if r = r then _ else _)
   rw [if_pos rfl]
   grind
  ·have h1 := SS_step A c r k (by omega) (by omega) e
   have h2 : ((SS A (c + 1) r k : Int) : Rat) * ((LL A c : Int) : Rat) = ((SS A c r k : Int) : Rat) * ((SS A c c c : Int) : Rat) - ((SS A c r c : Int) : Rat) * ((SS A c c k : Int) : Rat) := by exact_mod_cast h1
   rw [ih (by omega) r k hr, hcc, ih (by omega) r c hr, hck] at h2
   rw [hcc]
   show _ = _ * (if r = c then _ else _)
   rw [if_neg e]
   grind
theorem gj_piv {A : TI} {n : Nat} (hn : n ≤ 4) (hp : ∀ c, c ≤ n → 0 < LL A c) (c : Nat) (hc : c < n) : gj (cst A) c c c ≠ 0 := by
 intro h
 have h1 := gj_SS hn hp c (by omega) c c hc
 rw [h] at h1
 have h2 := hp (c + 1) (by omega)
 rw [LL_succ A c (by omega)] at h2
 have h3 : ((SS A c c c : Int) : Rat) = 0 := by rw [h1]; grind
 have h4 : SS A c c c = 0 := by exact_mod_cast h3
 omega
theorem tab_E {n : Nat} {l : List S32} (hv : surveyB ((n : Int) + 1) l = true) (right : List Int) (r k : Nat) (hk : k < n) : tab l right n r k = E l r k := by
 rw [tab_ent hv]
 unfold MI0 E
 rw [if_neg (by omega)]
 omega
theorem tab_right {n : Nat} {l : List S32} (hv : surveyB ((n : Int) + 1) l = true) (right : List Int) (r : Nat) (hr : r < n) : tab l right n r n = rd right ((r : Int) + 1) := by
 rw [tab_ent hv, ent_out _ _ _ (fun s hs => by have := sig_mem hv s hs; omega) (by omega)]
 unfold MI0
 rw [if_pos rfl]
 omega
theorem E_size {n : Nat} {l : List S32} (hv : surveyB ((n : Int) + 1) l = true) (hl : l.length ≤ 8) (r k : Nat) : Bd 24 (E l r k) := by
 have := ent_size ((r : Int) + 1) ((k : Int) + 1) (sig l) (fun s hs => by have := sig_mem hv s hs; omega)
 have hs : (sig l).length = l.length := by simp [sig]
 unfold Bd E
 omega
def den (l : List S32) (n : Nat) : Int := LL (E l) n
theorem LL_congr {A B : TI} {n : Nat} (hn : n ≤ 4) (h : ∀ r k, r < n → k < n → A r k = B r k) (c : Nat) (hc : c ≤ n) : LL A c = LL B c := by
 match c, (show c ≤ 4 by omega) with
 | 0, _ => rfl
 | 1, _ => exact h 0 0 (by omega) (by omega)
 | 2, _ =>
  unfold LL
  rw [h 0 0 (by omega) (by omega), h 0 1 (by omega) (by omega), h 1 0 (by omega) (by omega), h 1 1 (by omega) (by omega)]
 | 3, _ =>
  have a : ∀ r k, r < 3 → k < 3 → A r k = B r k := fun r k hr hk => h r k (by omega) (by omega)
  unfold LL
  rw [a 0 0 (by decide) (by decide), a 0 1 (by decide) (by decide), a 0 2 (by decide) (by decide), a 1 0 (by decide) (by decide), a 1 1 (by decide) (by decide), a 1 2 (by decide) (by decide), a 2 0 (by decide) (by decide), a 2 1 (by decide) (by decide), a 2 2 (by decide) (by decide)]
 | 4, _ =>
  have a : ∀ r k, r < 4 → k < 4 → A r k = B r k := fun r k hr hk => h r k (by omega) (by omega)
  unfold LL
  rw [a 0 0 (by decide) (by decide), a 0 1 (by decide) (by decide), a 0 2 (by decide) (by decide), a 0 3 (by decide) (by decide), a 1 0 (by decide) (by decide), a 1 1 (by decide) (by decide), a 1 2 (by decide) (by decide), a 1 3 (by decide) (by decide),
   a 2 0 (by decide) (by decide), a 2 1 (by decide) (by decide), a 2 2 (by decide) (by decide), a 2 3 (by decide) (by decide), a 3 0 (by decide) (by decide), a 3 1 (by decide) (by decide), a 3 2 (by decide) (by decide), a 3 3 (by decide) (by decide)]
theorem LL_E_pos {n : Nat} {l : List S32} (hn : n ≤ 4) (hc : Gm.connB ((n : Int) + 1) l = true) (c : Nat) (hcn : c ≤ n) : 0 < LL (E l) c := by
 obtain ⟨h1, h2, h3, h4⟩ := minors hn hc
 have o : ∀ j, j ≤ c → one_ (n < j) = 0 := fun j hj => by unfold one_; rw [if_neg (by omega)]
 match c, (show c ≤ 4 by omega) with
 | 0, _ => show (0 : Int) < 1; decide
 | 1, _ =>
  rw [o 1 (by omega), Int.add_zero] at h1
  exact h1
 | 2, _ =>
  rw [o 1 (by omega), o 2 (by omega), Int.add_zero, Int.add_zero] at h2
  show 0 < d2 _ _ (E l 1 0) _
  rw [E_symm l 1 0]
  exact h2
 | 3, _ =>
  rw [o 1 (by omega), o 2 (by omega), o 3 (by omega), Int.add_zero, Int.add_zero, Int.add_zero] at h3
  show 0 < d3 _ _ _ (E l 1 0) _ _ (E l 2 0) (E l 2 1) _
  rw [E_symm l 1 0, E_symm l 2 0, E_symm l 2 1]
  exact h3
 | 4, _ =>
  rw [o 1 (by omega), o 2 (by omega), o 3 (by omega), o 4 (by omega), Int.add_zero, Int.add_zero, Int.add_zero, Int.add_zero] at h4
  show 0 < d4 _ _ _ _ (E l 1 0) _ _ _ (E l 2 0) (E l 2 1) _ _ (E l 3 0) (E l 3 1) (E l 3 2) _
  rw [E_symm l 1 0, E_symm l 2 0, E_symm l 2 1, E_symm l 3 0, E_symm l 3 1, E_symm l 3 2]
  exact h4
structure Ok (n : Nat) (l : List S32) (right : List Int) : Prop where
 v : surveyB ((n : Int) + 1) l = true
 pos : ∀ c, c ≤ n → 0 < LL (tab l right n) c
 size : ∀ c i k, c ≤ n → i < n → k ≤ n → -1073741824 ≤ SS (tab l right n) c i k ∧ SS (tab l right n) c i k ≤ 1073741824
 piv : ∀ c, c < n → gj (cst (tab l right n)) c c c ≠ 0
 last : LL (tab l right n) n = den l n
 sol : ∀ r, r < n → gj (cst (tab l right n)) n r n = ((SS (tab l right n) n r n : Int) : Rat) / ((den l n : Int) : Rat)
theorem ok {n : Nat} {l : List S32} (hn : n ≤ 4) (hc : Gm.connB ((n : Int) + 1) l = true) (right : List Int) (hr : ∀ i : Int, -2400 ≤ rd right i ∧ rd right i ≤ 2400) : Ok n l right := by
 have hv : surveyB ((n : Int) + 1) l = true := by unfold Gm.connB at hc; simp only [Bool.and_eq_true] at hc; exact hc.1
 have hl8 : l.length ≤ 8 := by
  have := hv
  unfold surveyB at this
  simp only [Bool.and_eq_true, decide_eq_true_eq] at this
  have := this.1.2
  omega
 have hE : ∀ r k, r < n → k < n → tab l right n r k = E l r k := fun r k _ hk => tab_E hv right r k hk
 have hp : ∀ c, c ≤ n → 0 < LL (tab l right n) c := fun c hcn => by rw [LL_congr hn hE c hcn]; exact LL_E_pos hn hc c hcn
 have hlast : LL (tab l right n) n = den l n := LL_congr hn hE n (Nat.le_refl _)
 have b1 : ∀ r k, r < n → k < n → Bd 24 (tab l right n r k) := fun r k hr hk => by rw [hE r k hr hk]; exact E_size hv hl8 r k
 have b2 : ∀ r k, r < n → k ≤ n → Bd 2400 (tab l right n r k) := fun r k hr2 hk => by
  by_cases e : k = n
  ·subst e
   rw [tab_right hv right r hr2]
   exact hr _
  ·exact (b1 r k hr2 (by omega)).mono (by decide)
 refine ⟨hv, hp, fun c i k h1 h2 h3 => SS_size hn b1 b2 c i k h1 h2 h3, fun c hc2 => gj_piv hn hp c hc2, hlast, fun r hr2 => ?_⟩
 have h1 := gj_SS hn hp n (Nat.le_refl _) r n hr2
 have hl : ((den l n : Int) : Rat) ≠ 0 := by
  intro h
  have h2 := hp n (Nat.le_refl _)
  rw [hlast] at h2
  have h3 : den l n = 0 := by exact_mod_cast h
  omega
 rw [hlast] at h1
 rw [h1]
 grind
end Go.Proofs.Ytkafbmanmffliaa.Gn

/- Plain: sums over lists of fractions. No seat: nothing is imported. -/
namespace Go.Proofs.Ytkafbmanmffliaa.Ka
def sm {α : Type} (g : α → Rat) : List α → Rat
 | [] => 0
 | s :: r => g s + sm g r
section
variable {α β : Type} {g h : α → Rat} {l : List α}
theorem sm_congr (e : ∀ s, s ∈ l → g s = h s) : sm g l = sm h l := by
 induction l with
 | nil => rfl
 | cons s r ih =>
  unfold sm
  rw [e s (by simp), ih (fun t ht => e t (by simp [ht]))]
theorem sm_append (a b : List α) : sm g (a ++ b) = sm g a + sm g b := by
 induction a with
 | nil => simp [sm, Rat.zero_add]
 | cons s r ih => simp only [List.cons_append, sm, ih]; grind
theorem sm_add : sm (fun s => g s + h s) l = sm g l + sm h l := by
 induction l with
 | nil => simp [sm, Rat.add_zero]
 | cons s r ih => simp only [sm, ih]; grind
theorem sm_sub : sm (fun s => g s - h s) l = sm g l - sm h l := by
 induction l with
 | nil => simp only [sm]; grind
 | cons s r ih => simp only [sm, ih]; grind
theorem sm_zero : sm (fun _ : α => (0 : Rat)) l = 0 := by
 induction l with
 | nil => rfl
 | cons s r ih => simp only [sm, ih]; grind
end
end Go.Proofs.Ytkafbmanmffliaa.Ka

/- Plain: Cramer's rule for up to four rows. -/
namespace Go.Proofs.Ytkafbmanmffliaa.Kb
open La
theorem cr2_0 (a0 a1 ak b0 b1 bk : Int) : a0 * d2 ak a1 bk b1 + a1 * d2 a0 ak b0 bk = d2 a0 a1 b0 b1 * ak := by unfold d2; grind
theorem cr2_1 (a0 a1 ak b0 b1 bk : Int) : b0 * d2 ak a1 bk b1 + b1 * d2 a0 ak b0 bk = d2 a0 a1 b0 b1 * bk := by unfold d2; grind
theorem cr3_0 (a0 a1 a2 ak b0 b1 b2 bk c0 c1 c2 ck : Int) : a0 * d3 ak a1 a2 bk b1 b2 ck c1 c2 + a1 * d3 a0 ak a2 b0 bk b2 c0 ck c2 + a2 * d3 a0 a1 ak b0 b1 bk c0 c1 ck = d3 a0 a1 a2 b0 b1 b2 c0 c1 c2 * ak := by unfold d3 d2; grind
theorem cr3_1 (a0 a1 a2 ak b0 b1 b2 bk c0 c1 c2 ck : Int) : b0 * d3 ak a1 a2 bk b1 b2 ck c1 c2 + b1 * d3 a0 ak a2 b0 bk b2 c0 ck c2 + b2 * d3 a0 a1 ak b0 b1 bk c0 c1 ck = d3 a0 a1 a2 b0 b1 b2 c0 c1 c2 * bk := by unfold d3 d2; grind
theorem cr3_2 (a0 a1 a2 ak b0 b1 b2 bk c0 c1 c2 ck : Int) : c0 * d3 ak a1 a2 bk b1 b2 ck c1 c2 + c1 * d3 a0 ak a2 b0 bk b2 c0 ck c2 + c2 * d3 a0 a1 ak b0 b1 bk c0 c1 ck = d3 a0 a1 a2 b0 b1 b2 c0 c1 c2 * ck := by unfold d3 d2; grind
set_option maxHeartbeats 8000000 in
theorem cr4 (x0 x1 x2 x3 a0 a1 a2 a3 ak b0 b1 b2 b3 bk c0 c1 c2 c3 ck e0 e1 e2 e3 ek : Int) :
  x0 * d4 ak a1 a2 a3 bk b1 b2 b3 ck c1 c2 c3 ek e1 e2 e3 + x1 * d4 a0 ak a2 a3 b0 bk b2 b3 c0 ck c2 c3 e0 ek e2 e3 + x2 * d4 a0 a1 ak a3 b0 b1 bk b3 c0 c1 ck c3 e0 e1 ek e3 + x3 * d4 a0 a1 a2 ak b0 b1 b2 bk c0 c1 c2 ck e0 e1 e2 ek =
   ak * d4 x0 x1 x2 x3 b0 b1 b2 b3 c0 c1 c2 c3 e0 e1 e2 e3 + bk * d4 a0 a1 a2 a3 x0 x1 x2 x3 c0 c1 c2 c3 e0 e1 e2 e3 + ck * d4 a0 a1 a2 a3 b0 b1 b2 b3 x0 x1 x2 x3 e0 e1 e2 e3 + ek * d4 a0 a1 a2 a3 b0 b1 b2 b3 c0 c1 c2 c3 x0 x1 x2 x3 := by
 unfold d4 d3 d2; grind
theorem d4_same (a0 a1 a2 a3 b0 b1 b2 b3 c0 c1 c2 c3 : Int) :
  d4 a0 a1 a2 a3 a0 a1 a2 a3 b0 b1 b2 b3 c0 c1 c2 c3 = 0 ∧ d4 a0 a1 a2 a3 b0 b1 b2 b3 a0 a1 a2 a3 c0 c1 c2 c3 = 0 ∧ d4 a0 a1 a2 a3 b0 b1 b2 b3 c0 c1 c2 c3 a0 a1 a2 a3 = 0 ∧
  d4 b0 b1 b2 b3 a0 a1 a2 a3 a0 a1 a2 a3 c0 c1 c2 c3 = 0 ∧ d4 b0 b1 b2 b3 a0 a1 a2 a3 c0 c1 c2 c3 a0 a1 a2 a3 = 0 ∧ d4 b0 b1 b2 b3 c0 c1 c2 c3 a0 a1 a2 a3 a0 a1 a2 a3 = 0 := by
 unfold d4 d3 d2; grind
end Go.Proofs.Ytkafbmanmffliaa.Kb

/- Plain: the form of a survey's weights at two functions of its points; the numbers that the elimination ends in solve it. -/
namespace Go.Proofs.Ytkafbmanmffliaa.Kc
open Go Go.RowKit YtkafbmanmffliaaW.PrintWords Q Gf Gs La Qf Gm Gn Ka Kb
def dif (x : Int → Rat) (s : S32) : Rat := x s.f1 - x s.f0
def B (l : List S32) (x y : Int → Rat) : Rat := sm (fun s => (s.f3 : Rat) * (dif x s * dif y s)) l
def bf (e : Int → Int → Int) (x y : Int → Rat) : Rat :=
 y 1 * (e 1 1 * x 1 + e 1 2 * x 2 + e 1 3 * x 3 + e 1 4 * x 4) + y 2 * (e 2 1 * x 1 + e 2 2 * x 2 + e 2 3 * x 3 + e 2 4 * x 4) + y 3 * (e 3 1 * x 1 + e 3 2 * x 2 + e 3 3 * x 3 + e 3 4 * x 4) + y 4 * (e 4 1 * x 1 + e 4 2 * x 2 + e 4 3 * x 3 + e 4 4 * x 4)
theorem bf_add (e e' : Int → Int → Int) (x y : Int → Rat) : bf (fun p q => e p q + e' p q) x y = bf e x y + bf e' x y := by
 unfold bf
 simp only [Rat.intCast_add]
 grind
set_option maxHeartbeats 8000000 in
theorem bf_one (s : Si) (x y : Int → Rat) (h0 : x 0 = 0) (k0 : y 0 = 0) (hf : 0 ≤ s.f ∧ s.f ≤ 4) (ht : 0 ≤ s.t ∧ s.t ≤ 4) (hne : s.f ≠ s.t) :
  bf (fun p q => con s p q) x y = (s.w : Rat) * ((x s.t - x s.f) * (y s.t - y s.f)) := by
 obtain ⟨f, t, w⟩ := s
 simp only at hf ht hne ⊢
 have cf : f = 0 ∨ f = 1 ∨ f = 2 ∨ f = 3 ∨ f = 4 := by omega
 have ct : t = 0 ∨ t = 1 ∨ t = 2 ∨ t = 3 ∨ t = 4 := by omega
 rcases cf with rfl | rfl | rfl | rfl | rfl <;> rcases ct with rfl | rfl | rfl | rfl | rfl <;> first | exact absurd rfl hne | (simp [con, bf, h0, k0]; try grind)
theorem B_eq (l : List S32) (x y : Int → Rat) (h0 : x 0 = 0) (k0 : y 0 = 0) (hv : ∀ s ∈ l, (0 ≤ s.f0 ∧ s.f0 ≤ 4) ∧ (0 ≤ s.f1 ∧ s.f1 ≤ 4) ∧ s.f0 ≠ s.f1) : B l x y = bf (fun p q => ent p q (sig l)) x y := by
 induction l with
 | nil => simp [B, sm, bf, sig, ent]; grind
 | cons s r ih =>
  have h := hv s (by simp)
  have e : bf (fun p q => ent p q (sig (s :: r))) x y = bf (fun p q => con ⟨s.f0, s.f1, s.f3⟩ p q) x y + bf (fun p q => ent p q (sig r)) x y := bf_add _ _ _ _
  rw [e, bf_one _ x y h0 k0 h.1 h.2.1 h.2.2, ← ih (fun t ht => hv t (by simp [ht]))]
  rfl
theorem B_shift (l : List S32) (x y : Int → Rat) (c : Rat) : B l x (fun p => y p - c) = B l x y := sm_congr (fun s _ => by unfold dif; grind)
theorem cram1 (A : TI) : A 0 0 * SS A 1 0 1 = LL A 1 * A 0 1 := rfl
theorem cram2 (A : TI) : (A 0 0 * SS A 2 0 2 + A 0 1 * SS A 2 1 2 = LL A 2 * A 0 2) ∧ (A 1 0 * SS A 2 0 2 + A 1 1 * SS A 2 1 2 = LL A 2 * A 1 2) := ⟨cr2_0 .., cr2_1 ..⟩
theorem cram3 (A : TI) : (A 0 0 * SS A 3 0 3 + A 0 1 * SS A 3 1 3 + A 0 2 * SS A 3 2 3 = LL A 3 * A 0 3) ∧ (A 1 0 * SS A 3 0 3 + A 1 1 * SS A 3 1 3 + A 1 2 * SS A 3 2 3 = LL A 3 * A 1 3) ∧ (A 2 0 * SS A 3 0 3 + A 2 1 * SS A 3 1 3 + A 2 2 * SS A 3 2 3 = LL A 3 * A 2 3) :=
 ⟨cr3_0 .., cr3_1 .., cr3_2 ..⟩
theorem cram4 (A : TI) (r : Nat) (hr : r < 4) : A r 0 * SS A 4 0 4 + A r 1 * SS A 4 1 4 + A r 2 * SS A 4 2 4 + A r 3 * SS A 4 3 4 = LL A 4 * A r 4 := by
 have h := cr4 (A r 0) (A r 1) (A r 2) (A r 3) (A 0 0) (A 0 1) (A 0 2) (A 0 3) (A 0 4) (A 1 0) (A 1 1) (A 1 2) (A 1 3) (A 1 4) (A 2 0) (A 2 1) (A 2 2) (A 2 3) (A 2 4) (A 3 0) (A 3 1) (A 3 2) (A 3 3) (A 3 4)
 refine Eq.trans h ?_
 match r, hr with
 | 0, _ =>
  rw [(d4_same (A 0 0) (A 0 1) (A 0 2) (A 0 3) (A 2 0) (A 2 1) (A 2 2) (A 2 3) (A 3 0) (A 3 1) (A 3 2) (A 3 3)).1, (d4_same (A 0 0) (A 0 1) (A 0 2) (A 0 3) (A 1 0) (A 1 1) (A 1 2) (A 1 3) (A 3 0) (A 3 1) (A 3 2) (A 3 3)).2.1, (d4_same (A 0 0) (A 0 1) (A 0 2) (A 0 3) (A 1 0) (A 1 1) (A 1 2) (A 1 3) (A 2 0) (A 2 1) (A 2 2) (A 2 3)).2.2.1]
  show A 0 4 * LL A 4 + _ + _ + _ = _
  grind
 | 1, _ =>
  rw [(d4_same (A 1 0) (A 1 1) (A 1 2) (A 1 3) (A 2 0) (A 2 1) (A 2 2) (A 2 3) (A 3 0) (A 3 1) (A 3 2) (A 3 3)).1, (d4_same (A 1 0) (A 1 1) (A 1 2) (A 1 3) (A 0 0) (A 0 1) (A 0 2) (A 0 3) (A 3 0) (A 3 1) (A 3 2) (A 3 3)).2.2.2.1, (d4_same (A 1 0) (A 1 1) (A 1 2) (A 1 3) (A 0 0) (A 0 1) (A 0 2) (A 0 3) (A 2 0) (A 2 1) (A 2 2) (A 2 3)).2.2.2.2.1]
  show _ + A 1 4 * LL A 4 + _ + _ = _
  grind
 | 2, _ =>
  rw [(d4_same (A 2 0) (A 2 1) (A 2 2) (A 2 3) (A 1 0) (A 1 1) (A 1 2) (A 1 3) (A 3 0) (A 3 1) (A 3 2) (A 3 3)).2.1, (d4_same (A 2 0) (A 2 1) (A 2 2) (A 2 3) (A 0 0) (A 0 1) (A 0 2) (A 0 3) (A 3 0) (A 3 1) (A 3 2) (A 3 3)).2.2.2.1, (d4_same (A 2 0) (A 2 1) (A 2 2) (A 2 3) (A 0 0) (A 0 1) (A 0 2) (A 0 3) (A 1 0) (A 1 1) (A 1 2) (A 1 3)).2.2.2.2.2]
  show _ + _ + A 2 4 * LL A 4 + _ = _
  grind
 | 3, _ =>
  rw [(d4_same (A 3 0) (A 3 1) (A 3 2) (A 3 3) (A 1 0) (A 1 1) (A 1 2) (A 1 3) (A 2 0) (A 2 1) (A 2 2) (A 2 3)).2.2.1, (d4_same (A 3 0) (A 3 1) (A 3 2) (A 3 3) (A 0 0) (A 0 1) (A 0 2) (A 0 3) (A 2 0) (A 2 1) (A 2 2) (A 2 3)).2.2.2.2.1, (d4_same (A 3 0) (A 3 1) (A 3 2) (A 3 3) (A 0 0) (A 0 1) (A 0 2) (A 0 3) (A 1 0) (A 1 1) (A 1 2) (A 1 3)).2.2.2.2.2]
  show _ + _ + _ + A 3 4 * LL A 4 = _
  grind
def nu (l : List S32) (right : List Int) (n : Nat) (p : Int) : Int := if p ≤ 0 then 0 else SS (tab l right n) n (p.toNat - 1) n
def xs (l : List S32) (right : List Int) (n : Nat) (p : Int) : Rat := (nu l right n p : Rat) / (den l n : Rat)
theorem nu_zero (l : List S32) (right : List Int) (n : Nat) : nu l right n 0 = 0 := rfl
theorem xs_zero (l : List S32) (right : List Int) (n : Nat) : xs l right n 0 = 0 := by unfold xs; rw [nu_zero, Rat.div_def]; exact Rat.zero_mul _
def rs (right : List Int) (n : Nat) (y : Int → Rat) : Rat := sm (fun p : Nat => (rd right ((p : Int) + 1) : Rat) * (y ((p : Int) + 1) - y 0)) (List.range n)
theorem ent_zero (p q : Int) (L : List Si) (h : ∀ s ∈ L, s.f ≠ q ∧ s.t ≠ q) : ent p q L = 0 := by
 induction L with
 | nil => rfl
 | cons s r ih =>
  have h1 := h s (by simp)
  simp only [ent, ih (fun t ht => h t (by simp [ht]))]
  unfold con
  split
  ·rw [if_neg (by omega)]; rfl
  ·rw [if_neg (by omega)]; rfl
theorem den_ne {n : Nat} {l : List S32} {right : List Int} (h : Ok n l right) : (den l n : Rat) ≠ 0 := by
 intro e
 have h2 := h.pos n (Nat.le_refl _)
 rw [h.last] at h2
 have h3 : den l n = 0 := by exact_mod_cast e
 omega
theorem weak {n : Nat} {l : List S32} {right : List Int} (hn : n ≤ 4) (hn1 : 1 ≤ n) (h : Ok n l right) (y : Int → Rat) : B l (xs l right n) y = rs right n y := by
 have hm := sig_mem h.v
 have hd := den_ne h
 have hv : ∀ s ∈ l, (0 ≤ s.f0 ∧ s.f0 ≤ 4) ∧ (0 ≤ s.f1 ∧ s.f1 ≤ 4) ∧ s.f0 ≠ s.f1 := fun s hs => by
  have := hm ⟨s.f0, s.f1, s.f3⟩ (List.mem_map.2 ⟨s, hs, rfl⟩)
  dsimp only at this
  omega
 rw [← B_shift l _ y (y 0), B_eq l _ _ (xs_zero _ _ _) (by grind) hv]
 have z1 : ∀ p q : Int, (n : Int) < q → ent p q (sig l) = 0 := fun p q hq => ent_zero p q _ (fun s hs => by have := hm s hs; omega)
 have z2 : ∀ p q : Int, (n : Int) < p → ent p q (sig l) = 0 := fun p q hp => by rw [ent_symm]; exact z1 q p hp
 have hE : ∀ r k : Nat, k < n → tab l right n r k = ent ((r : Int) + 1) ((k : Int) + 1) (sig l) := fun r k hk => tab_E h.v right r k hk
 have hR : ∀ r : Nat, r < n → tab l right n r n = rd right ((r : Int) + 1) := fun r hr => tab_right h.v right r hr
 have hL := h.last
 have cs : ∀ r : Nat, r < n → True := fun _ _ => trivial
 match n, hn1, hn with
 | 1, _, _ =>
  have c0 := cram1 (tab l right 1)
  rw [hE 0 0 (by decide), hR 0 (by decide), hL] at c0
  have d0 : ((ent 1 1 (sig l) : Int) : Rat) * ((SS (tab l right 1) 1 0 1 : Int) : Rat) = ((den l 1 : Int) : Rat) * ((rd right 1 : Int) : Rat) := by exact_mod_cast c0
  have e0 : ((ent 1 1 (sig l) : Int) : Rat) * xs l right 1 1 = ((rd right 1 : Int) : Rat) := by
   show ((ent 1 1 (sig l) : Int) : Rat) * (((SS (tab l right 1) 1 0 1 : Int) : Rat) / ((den l 1 : Int) : Rat)) = _
   grind
  clear c0 d0
  show bf _ _ _ = sm _ [0]
  simp only [bf, sm, z1 _ 2 (by decide), z1 _ 3 (by decide), z1 _ 4 (by decide), z2 2 _ (by decide), z2 3 _ (by decide), z2 4 _ (by decide)]
  simp
  grind
 | 2, _, _ =>
  have c0 := (cram2 (tab l right 2)).1
  rw [hE 0 0 (by decide), hE 0 1 (by decide), hR 0 (by decide), hL] at c0
  have d0 : ((ent 1 1 (sig l) : Int) : Rat) * ((SS (tab l right 2) 2 0 2 : Int) : Rat) + ((ent 1 2 (sig l) : Int) : Rat) * ((SS (tab l right 2) 2 1 2 : Int) : Rat) = ((den l 2 : Int) : Rat) * ((rd right 1 : Int) : Rat) := by exact_mod_cast c0
  have e0 : ((ent 1 1 (sig l) : Int) : Rat) * xs l right 2 1 + ((ent 1 2 (sig l) : Int) : Rat) * xs l right 2 2 = ((rd right 1 : Int) : Rat) := by
   show ((ent 1 1 (sig l) : Int) : Rat) * (((SS (tab l right 2) 2 0 2 : Int) : Rat) / ((den l 2 : Int) : Rat)) + ((ent 1 2 (sig l) : Int) : Rat) * (((SS (tab l right 2) 2 1 2 : Int) : Rat) / ((den l 2 : Int) : Rat)) = _
   grind
  clear c0 d0
  have c1 := (cram2 (tab l right 2)).2
  rw [hE 1 0 (by decide), hE 1 1 (by decide), hR 1 (by decide), hL] at c1
  have d1 : ((ent 2 1 (sig l) : Int) : Rat) * ((SS (tab l right 2) 2 0 2 : Int) : Rat) + ((ent 2 2 (sig l) : Int) : Rat) * ((SS (tab l right 2) 2 1 2 : Int) : Rat) = ((den l 2 : Int) : Rat) * ((rd right 2 : Int) : Rat) := by exact_mod_cast c1
  have e1 : ((ent 2 1 (sig l) : Int) : Rat) * xs l right 2 1 + ((ent 2 2 (sig l) : Int) : Rat) * xs l right 2 2 = ((rd right 2 : Int) : Rat) := by
   show ((ent 2 1 (sig l) : Int) : Rat) * (((SS (tab l right 2) 2 0 2 : Int) : Rat) / ((den l 2 : Int) : Rat)) + ((ent 2 2 (sig l) : Int) : Rat) * (((SS (tab l right 2) 2 1 2 : Int) : Rat) / ((den l 2 : Int) : Rat)) = _
   grind
  clear c1 d1
  show bf _ _ _ = sm _ [0, 1]
  simp only [bf, sm, z1 _ 3 (by decide), z1 _ 4 (by decide), z2 3 _ (by decide), z2 4 _ (by decide)]
  simp
  grind
 | 3, _, _ =>
  have c0 := (cram3 (tab l right 3)).1
  rw [hE 0 0 (by decide), hE 0 1 (by decide), hE 0 2 (by decide), hR 0 (by decide), hL] at c0
  have d0 : ((ent 1 1 (sig l) : Int) : Rat) * ((SS (tab l right 3) 3 0 3 : Int) : Rat) + ((ent 1 2 (sig l) : Int) : Rat) * ((SS (tab l right 3) 3 1 3 : Int) : Rat) + ((ent 1 3 (sig l) : Int) : Rat) * ((SS (tab l right 3) 3 2 3 : Int) : Rat) = ((den l 3 : Int) : Rat) * ((rd right 1 : Int) : Rat) := by exact_mod_cast c0
  have e0 : ((ent 1 1 (sig l) : Int) : Rat) * xs l right 3 1 + ((ent 1 2 (sig l) : Int) : Rat) * xs l right 3 2 + ((ent 1 3 (sig l) : Int) : Rat) * xs l right 3 3 = ((rd right 1 : Int) : Rat) := by
   show ((ent 1 1 (sig l) : Int) : Rat) * (((SS (tab l right 3) 3 0 3 : Int) : Rat) / ((den l 3 : Int) : Rat)) + ((ent 1 2 (sig l) : Int) : Rat) * (((SS (tab l right 3) 3 1 3 : Int) : Rat) / ((den l 3 : Int) : Rat)) + ((ent 1 3 (sig l) : Int) : Rat) * (((SS (tab l right 3) 3 2 3 : Int) : Rat) / ((den l 3 : Int) : Rat)) = _
   grind
  clear c0 d0
  have c1 := (cram3 (tab l right 3)).2.1
  rw [hE 1 0 (by decide), hE 1 1 (by decide), hE 1 2 (by decide), hR 1 (by decide), hL] at c1
  have d1 : ((ent 2 1 (sig l) : Int) : Rat) * ((SS (tab l right 3) 3 0 3 : Int) : Rat) + ((ent 2 2 (sig l) : Int) : Rat) * ((SS (tab l right 3) 3 1 3 : Int) : Rat) + ((ent 2 3 (sig l) : Int) : Rat) * ((SS (tab l right 3) 3 2 3 : Int) : Rat) = ((den l 3 : Int) : Rat) * ((rd right 2 : Int) : Rat) := by exact_mod_cast c1
  have e1 : ((ent 2 1 (sig l) : Int) : Rat) * xs l right 3 1 + ((ent 2 2 (sig l) : Int) : Rat) * xs l right 3 2 + ((ent 2 3 (sig l) : Int) : Rat) * xs l right 3 3 = ((rd right 2 : Int) : Rat) := by
   show ((ent 2 1 (sig l) : Int) : Rat) * (((SS (tab l right 3) 3 0 3 : Int) : Rat) / ((den l 3 : Int) : Rat)) + ((ent 2 2 (sig l) : Int) : Rat) * (((SS (tab l right 3) 3 1 3 : Int) : Rat) / ((den l 3 : Int) : Rat)) + ((ent 2 3 (sig l) : Int) : Rat) * (((SS (tab l right 3) 3 2 3 : Int) : Rat) / ((den l 3 : Int) : Rat)) = _
   grind
  clear c1 d1
  have c2 := (cram3 (tab l right 3)).2.2
  rw [hE 2 0 (by decide), hE 2 1 (by decide), hE 2 2 (by decide), hR 2 (by decide), hL] at c2
  have d2 : ((ent 3 1 (sig l) : Int) : Rat) * ((SS (tab l right 3) 3 0 3 : Int) : Rat) + ((ent 3 2 (sig l) : Int) : Rat) * ((SS (tab l right 3) 3 1 3 : Int) : Rat) + ((ent 3 3 (sig l) : Int) : Rat) * ((SS (tab l right 3) 3 2 3 : Int) : Rat) = ((den l 3 : Int) : Rat) * ((rd right 3 : Int) : Rat) := by exact_mod_cast c2
  have e2 : ((ent 3 1 (sig l) : Int) : Rat) * xs l right 3 1 + ((ent 3 2 (sig l) : Int) : Rat) * xs l right 3 2 + ((ent 3 3 (sig l) : Int) : Rat) * xs l right 3 3 = ((rd right 3 : Int) : Rat) := by
   show ((ent 3 1 (sig l) : Int) : Rat) * (((SS (tab l right 3) 3 0 3 : Int) : Rat) / ((den l 3 : Int) : Rat)) + ((ent 3 2 (sig l) : Int) : Rat) * (((SS (tab l right 3) 3 1 3 : Int) : Rat) / ((den l 3 : Int) : Rat)) + ((ent 3 3 (sig l) : Int) : Rat) * (((SS (tab l right 3) 3 2 3 : Int) : Rat) / ((den l 3 : Int) : Rat)) = _
   grind
  clear c2 d2
  show bf _ _ _ = sm _ [0, 1, 2]
  simp only [bf, sm, z1 _ 4 (by decide), z2 4 _ (by decide)]
  simp
  grind
 | 4, _, _ =>
  have c0 := cram4 (tab l right 4) 0 (by decide)
  rw [hE 0 0 (by decide), hE 0 1 (by decide), hE 0 2 (by decide), hE 0 3 (by decide), hR 0 (by decide), hL] at c0
  have d0 : ((ent 1 1 (sig l) : Int) : Rat) * ((SS (tab l right 4) 4 0 4 : Int) : Rat) + ((ent 1 2 (sig l) : Int) : Rat) * ((SS (tab l right 4) 4 1 4 : Int) : Rat) + ((ent 1 3 (sig l) : Int) : Rat) * ((SS (tab l right 4) 4 2 4 : Int) : Rat) + ((ent 1 4 (sig l) : Int) : Rat) * ((SS (tab l right 4) 4 3 4 : Int) : Rat) = ((den l 4 : Int) : Rat) * ((rd right 1 : Int) : Rat) := by exact_mod_cast c0
  have e0 : ((ent 1 1 (sig l) : Int) : Rat) * xs l right 4 1 + ((ent 1 2 (sig l) : Int) : Rat) * xs l right 4 2 + ((ent 1 3 (sig l) : Int) : Rat) * xs l right 4 3 + ((ent 1 4 (sig l) : Int) : Rat) * xs l right 4 4 = ((rd right 1 : Int) : Rat) := by
   show ((ent 1 1 (sig l) : Int) : Rat) * (((SS (tab l right 4) 4 0 4 : Int) : Rat) / ((den l 4 : Int) : Rat)) + ((ent 1 2 (sig l) : Int) : Rat) * (((SS (tab l right 4) 4 1 4 : Int) : Rat) / ((den l 4 : Int) : Rat)) + ((ent 1 3 (sig l) : Int) : Rat) * (((SS (tab l right 4) 4 2 4 : Int) : Rat) / ((den l 4 : Int) : Rat)) + ((ent 1 4 (sig l) : Int) : Rat) * (((SS (tab l right 4) 4 3 4 : Int) : Rat) / ((den l 4 : Int) : Rat)) = _
   grind
  clear c0 d0
  have c1 := cram4 (tab l right 4) 1 (by decide)
  rw [hE 1 0 (by decide), hE 1 1 (by decide), hE 1 2 (by decide), hE 1 3 (by decide), hR 1 (by decide), hL] at c1
  have d1 : ((ent 2 1 (sig l) : Int) : Rat) * ((SS (tab l right 4) 4 0 4 : Int) : Rat) + ((ent 2 2 (sig l) : Int) : Rat) * ((SS (tab l right 4) 4 1 4 : Int) : Rat) + ((ent 2 3 (sig l) : Int) : Rat) * ((SS (tab l right 4) 4 2 4 : Int) : Rat) + ((ent 2 4 (sig l) : Int) : Rat) * ((SS (tab l right 4) 4 3 4 : Int) : Rat) = ((den l 4 : Int) : Rat) * ((rd right 2 : Int) : Rat) := by exact_mod_cast c1
  have e1 : ((ent 2 1 (sig l) : Int) : Rat) * xs l right 4 1 + ((ent 2 2 (sig l) : Int) : Rat) * xs l right 4 2 + ((ent 2 3 (sig l) : Int) : Rat) * xs l right 4 3 + ((ent 2 4 (sig l) : Int) : Rat) * xs l right 4 4 = ((rd right 2 : Int) : Rat) := by
   show ((ent 2 1 (sig l) : Int) : Rat) * (((SS (tab l right 4) 4 0 4 : Int) : Rat) / ((den l 4 : Int) : Rat)) + ((ent 2 2 (sig l) : Int) : Rat) * (((SS (tab l right 4) 4 1 4 : Int) : Rat) / ((den l 4 : Int) : Rat)) + ((ent 2 3 (sig l) : Int) : Rat) * (((SS (tab l right 4) 4 2 4 : Int) : Rat) / ((den l 4 : Int) : Rat)) + ((ent 2 4 (sig l) : Int) : Rat) * (((SS (tab l right 4) 4 3 4 : Int) : Rat) / ((den l 4 : Int) : Rat)) = _
   grind
  clear c1 d1
  have c2 := cram4 (tab l right 4) 2 (by decide)
  rw [hE 2 0 (by decide), hE 2 1 (by decide), hE 2 2 (by decide), hE 2 3 (by decide), hR 2 (by decide), hL] at c2
  have d2 : ((ent 3 1 (sig l) : Int) : Rat) * ((SS (tab l right 4) 4 0 4 : Int) : Rat) + ((ent 3 2 (sig l) : Int) : Rat) * ((SS (tab l right 4) 4 1 4 : Int) : Rat) + ((ent 3 3 (sig l) : Int) : Rat) * ((SS (tab l right 4) 4 2 4 : Int) : Rat) + ((ent 3 4 (sig l) : Int) : Rat) * ((SS (tab l right 4) 4 3 4 : Int) : Rat) = ((den l 4 : Int) : Rat) * ((rd right 3 : Int) : Rat) := by exact_mod_cast c2
  have e2 : ((ent 3 1 (sig l) : Int) : Rat) * xs l right 4 1 + ((ent 3 2 (sig l) : Int) : Rat) * xs l right 4 2 + ((ent 3 3 (sig l) : Int) : Rat) * xs l right 4 3 + ((ent 3 4 (sig l) : Int) : Rat) * xs l right 4 4 = ((rd right 3 : Int) : Rat) := by
   show ((ent 3 1 (sig l) : Int) : Rat) * (((SS (tab l right 4) 4 0 4 : Int) : Rat) / ((den l 4 : Int) : Rat)) + ((ent 3 2 (sig l) : Int) : Rat) * (((SS (tab l right 4) 4 1 4 : Int) : Rat) / ((den l 4 : Int) : Rat)) + ((ent 3 3 (sig l) : Int) : Rat) * (((SS (tab l right 4) 4 2 4 : Int) : Rat) / ((den l 4 : Int) : Rat)) + ((ent 3 4 (sig l) : Int) : Rat) * (((SS (tab l right 4) 4 3 4 : Int) : Rat) / ((den l 4 : Int) : Rat)) = _
   grind
  clear c2 d2
  have c3 := cram4 (tab l right 4) 3 (by decide)
  rw [hE 3 0 (by decide), hE 3 1 (by decide), hE 3 2 (by decide), hE 3 3 (by decide), hR 3 (by decide), hL] at c3
  have d3 : ((ent 4 1 (sig l) : Int) : Rat) * ((SS (tab l right 4) 4 0 4 : Int) : Rat) + ((ent 4 2 (sig l) : Int) : Rat) * ((SS (tab l right 4) 4 1 4 : Int) : Rat) + ((ent 4 3 (sig l) : Int) : Rat) * ((SS (tab l right 4) 4 2 4 : Int) : Rat) + ((ent 4 4 (sig l) : Int) : Rat) * ((SS (tab l right 4) 4 3 4 : Int) : Rat) = ((den l 4 : Int) : Rat) * ((rd right 4 : Int) : Rat) := by exact_mod_cast c3
  have e3 : ((ent 4 1 (sig l) : Int) : Rat) * xs l right 4 1 + ((ent 4 2 (sig l) : Int) : Rat) * xs l right 4 2 + ((ent 4 3 (sig l) : Int) : Rat) * xs l right 4 3 + ((ent 4 4 (sig l) : Int) : Rat) * xs l right 4 4 = ((rd right 4 : Int) : Rat) := by
   show ((ent 4 1 (sig l) : Int) : Rat) * (((SS (tab l right 4) 4 0 4 : Int) : Rat) / ((den l 4 : Int) : Rat)) + ((ent 4 2 (sig l) : Int) : Rat) * (((SS (tab l right 4) 4 1 4 : Int) : Rat) / ((den l 4 : Int) : Rat)) + ((ent 4 3 (sig l) : Int) : Rat) * (((SS (tab l right 4) 4 2 4 : Int) : Rat) / ((den l 4 : Int) : Rat)) + ((ent 4 4 (sig l) : Int) : Rat) * (((SS (tab l right 4) 4 3 4 : Int) : Rat) / ((den l 4 : Int) : Rat)) = _
   grind
  clear c3 d3
  show bf _ _ _ = sm _ [0, 1, 2, 3]
  simp only [bf, sm]
  simp
  grind
end Go.Proofs.Ytkafbmanmffliaa.Kc

/- Plain: right sides of the equations: the sights' weighted rises, and one point against another. -/
namespace Go.Proofs.Ytkafbmanmffliaa.Ke
open Go Go.RowKit YtkafbmanmffliaaW.PrintWords Q Gs Hb Ka Kc
def ad (r : List Int) (t f c : Int) : List Int := (r.set t.toNat (rd r t + c)).set f.toNat (rd (r.set t.toNat (rd r t + c)) f - c)
theorem ad_len (r : List Int) (t f c : Int) : (ad r t f c).length = r.length := by simp [ad]
theorem rd_set {r : List Int} {t p v : Int} (h0 : 0 ≤ t) (h1 : t < r.length) (hp : 0 ≤ p) : rd (r.set t.toNat v) p = if p = t then v else rd r p := by
 simp only [rd, List.getD_eq_getElem?_getD]
 by_cases e : p = t
 ·subst e
  rw [if_pos rfl, List.getElem?_set_self (by omega)]
  rfl
 ·rw [if_neg e, List.getElem?_set_ne (by omega)]
theorem rd_ad {r : List Int} {t f c p : Int} (ht0 : 0 ≤ t) (ht : t < r.length) (hf0 : 0 ≤ f) (hf : f < r.length) (hp : 0 ≤ p) : rd (ad r t f c) p = rd r p + (if p = t then c else 0) - (if p = f then c else 0) := by
 unfold ad
 rw [rd_set hf0 (by simp; omega) hp, rd_set ht0 ht hf0, rd_set ht0 ht hp]
 by_cases e1 : p = f
 ·subst e1
  rw [if_pos rfl, if_pos rfl]
  by_cases e2 : p = t
  ·subst e2; rw [if_pos rfl, if_pos rfl]
  ·rw [if_neg e2, if_neg e2]; omega
 ·rw [if_neg e1, if_neg e1]
  by_cases e2 : p = t
  ·subst e2; rw [if_pos rfl, if_pos rfl]; omega
  ·rw [if_neg e2, if_neg e2]; omega
theorem pick0 (n : Nat) (t : Int) (ht : t ≤ 0 ∨ (n : Int) < t) (c : Rat) (y : Int → Rat) : sm (fun p : Nat => (if (p : Int) + 1 = t then c else 0) * (y ((p : Int) + 1) - y 0)) (List.range n) = 0 := by
 have h : sm (fun p : Nat => (if (p : Int) + 1 = t then c else 0) * (y ((p : Int) + 1) - y 0)) (List.range n) = sm (fun _ : Nat => (0 : Rat)) (List.range n) := sm_congr (fun p hp => by
  have := List.mem_range.1 hp
  rw [if_neg (by omega)]
  exact Rat.zero_mul _)
 rw [h, sm_zero]
theorem pick (n : Nat) (t : Int) (h0 : 0 ≤ t) (h1 : t ≤ n) (c : Rat) (y : Int → Rat) : sm (fun p : Nat => (if (p : Int) + 1 = t then c else 0) * (y ((p : Int) + 1) - y 0)) (List.range n) = c * (y t - y 0) := by
 by_cases e : t = 0
 ·subst e
  rw [pick0 n 0 (.inl (by omega))]
  grind
 ·induction n with
  | zero => omega
  | succ n ih =>
   rw [List.range_succ, sm_append]
   by_cases e2 : t = (n : Int) + 1
   ·rw [pick0 n t (.inr (by omega))]
    simp only [sm]
    rw [if_pos e2.symm, ← e2]
    grind
   ·rw [ih (by omega)]
    simp only [sm]
    rw [if_neg (by omega)]
    grind
theorem rs_ad {n : Nat} {r : List Int} {t f c : Int} (hl : r.length = n + 1) (ht0 : 0 ≤ t) (ht : t ≤ n) (hf0 : 0 ≤ f) (hf : f ≤ n) (y : Int → Rat) : rs (ad r t f c) n y = rs r n y + (c : Rat) * (y t - y f) := by
 have e : rs (ad r t f c) n y = sm (fun p : Nat => (rd r ((p : Int) + 1) : Rat) * (y ((p : Int) + 1) - y 0) + (if (p : Int) + 1 = t then (c : Rat) else 0) * (y ((p : Int) + 1) - y 0) - (if (p : Int) + 1 = f then (c : Rat) else 0) * (y ((p : Int) + 1) - y 0)) (List.range n) := by
  refine sm_congr (fun p _ => ?_)
  rw [rd_ad ht0 (by omega) hf0 (by omega) (by omega)]
  by_cases e1 : (p : Int) + 1 = t
  ·rw [if_pos e1, if_pos e1]
   by_cases e2 : (p : Int) + 1 = f
   ·rw [if_pos e2, if_pos e2]; push_cast; grind
   ·rw [if_neg e2, if_neg e2]; push_cast; grind
  ·rw [if_neg e1, if_neg e1]
   by_cases e2 : (p : Int) + 1 = f
   ·rw [if_pos e2, if_pos e2]; push_cast; grind
   ·rw [if_neg e2, if_neg e2]; push_cast; grind
 rw [e, sm_sub, sm_add, pick n t ht0 ht, pick n f hf0 hf]
 unfold rs
 grind
def stR (r : List Int) (s : S32) : List Int := ad r s.f1 s.f0 (s.f3 * s.f2)
def rgt (n : Nat) (l : List S32) : List Int := l.foldl stR (List.replicate (n + 1) 0)
def rco (n : Nat) (a b : Int) : List Int := ad (List.replicate (n + 1) 0) b a 1
theorem rd_zeros (n : Nat) (p : Int) : rd (List.replicate n (0 : Int)) p = 0 := by
 simp only [rd, List.getD_eq_getElem?_getD]
 by_cases h : p.toNat < n
 ·simp [h]
 ·rw [List.getElem?_eq_none (by simpa using Nat.le_of_not_lt h)]; rfl
theorem foldl_len (l : List S32) (r : List Int) : (l.foldl stR r).length = r.length := by
 induction l generalizing r with
 | nil => rfl
 | cons s t ih => rw [List.foldl_cons, ih]; exact ad_len _ _ _ _
theorem rgt_len (n : Nat) (l : List S32) : (rgt n l).length = n + 1 := by unfold rgt; rw [foldl_len]; simp
theorem mem_at {n : Nat} {l : List S32} (hv : surveyB ((n : Int) + 1) l = true) (s : S32) (hs : s ∈ l) : 0 ≤ s.f0 ∧ s.f0 ≤ n ∧ 0 ≤ s.f1 ∧ s.f1 ≤ n ∧ s.f0 ≠ s.f1 ∧ -100 ≤ s.f2 ∧ s.f2 ≤ 100 ∧ 1 ≤ s.f3 ∧ s.f3 ≤ 3 := by
 unfold surveyB at hv
 simp only [Bool.and_eq_true] at hv
 have hn := hv.1.1
 unfold Ha.inB at hn
 simp only [Bool.and_eq_true, decide_eq_true_eq] at hn
 have := List.all_eq_true.1 hv.2 _ hs
 unfold sightB Ha.inB at this
 simp only [Bool.and_eq_true, decide_eq_true_eq, Bool.not_eq_true', beq_eq_false_iff_ne] at this
 have e : wrap64 ((n : Int) + 1 - 1) = n := by unfold wrap64; omega
 rw [e] at this
 omega
theorem rs_fold {n : Nat} (l : List S32) (h : ∀ s ∈ l, 0 ≤ s.f0 ∧ s.f0 ≤ n ∧ 0 ≤ s.f1 ∧ s.f1 ≤ n) (r : List Int) (hl : r.length = n + 1) (y : Int → Rat) : rs (l.foldl stR r) n y = rs r n y + sm (fun s => ((s.f3 * s.f2 : Int) : Rat) * dif y s) l := by
 induction l generalizing r with
 | nil => simp only [List.foldl_nil, sm]; grind
 | cons s t ih =>
  have hs := h s (by simp)
  rw [List.foldl_cons, ih (fun u hu => h u (by simp [hu])) _ (by unfold stR; rw [ad_len]; exact hl)]
  unfold stR
  rw [rs_ad hl hs.2.2.1 hs.2.2.2 hs.1 hs.2.1]
  simp only [sm]
  unfold dif
  grind
theorem rs_zeros (n : Nat) (y : Int → Rat) : rs (List.replicate (n + 1) 0) n y = 0 := by
 unfold rs
 rw [show (fun p : Nat => (rd (List.replicate (n + 1) (0 : Int)) ((p : Int) + 1) : Rat) * (y ((p : Int) + 1) - y 0)) = fun _ => 0 from by
  funext p
  rw [rd_zeros]
  exact Rat.zero_mul _]
 exact sm_zero
theorem rs_rgt {n : Nat} {l : List S32} (hv : surveyB ((n : Int) + 1) l = true) (y : Int → Rat) : rs (rgt n l) n y = sm (fun s => ((s.f3 * s.f2 : Int) : Rat) * dif y s) l := by
 unfold rgt
 rw [rs_fold l (fun s hs => by have := mem_at hv s hs; omega) _ (by simp), rs_zeros]
 grind
theorem rd_out {r : List Int} {p : Int} (h : r.length ≤ p.toNat) : rd r p = 0 := by
 simp only [rd, List.getD_eq_getElem?_getD]
 rw [List.getElem?_eq_none h]; rfl
theorem rd_neg (r : List Int) {p : Int} (h : p ≤ 0) : rd r p = rd r 0 := by
 simp only [rd]
 rw [show p.toNat = (0 : Int).toNat by omega]
theorem rd_bound {r : List Int} {m : Int} (hm : 0 ≤ m) (h : ∀ p : Int, 0 ≤ p → p < r.length → -m ≤ rd r p ∧ rd r p ≤ m) (p : Int) : -m ≤ rd r p ∧ rd r p ≤ m := by
 by_cases h1 : r.length ≤ p.toNat
 ·rw [rd_out h1]; omega
 ·by_cases h2 : p ≤ 0
  ·rw [rd_neg r h2]; exact h 0 (by omega) (by omega)
  ·exact h p (by omega) (by omega)
theorem ad_size {r : List Int} {t f c m k : Int} (hk0 : 0 ≤ k) (hc : -k ≤ c ∧ c ≤ k) (hm : 0 ≤ m) (h : ∀ p : Int, -m ≤ rd r p ∧ rd r p ≤ m) (ht0 : 0 ≤ t) (ht : t < r.length) (hf0 : 0 ≤ f) (hf : f < r.length) (hne : t ≠ f) (p : Int) : -(m + k) ≤ rd (ad r t f c) p ∧ rd (ad r t f c) p ≤ m + k := by
 refine rd_bound (by omega) (fun q hq _ => ?_) p
 have := h q
 rw [rd_ad ht0 ht hf0 hf hq]
 split <;> split <;> omega
theorem fold_size {n : Nat} (l : List S32) (h : ∀ s ∈ l, 0 ≤ s.f0 ∧ s.f0 ≤ n ∧ 0 ≤ s.f1 ∧ s.f1 ≤ n ∧ s.f0 ≠ s.f1 ∧ -100 ≤ s.f2 ∧ s.f2 ≤ 100 ∧ 1 ≤ s.f3 ∧ s.f3 ≤ 3) (r : List Int) (hl : r.length = n + 1) (m : Int) (hm : 0 ≤ m) (hr : ∀ p : Int, -m ≤ rd r p ∧ rd r p ≤ m) (p : Int) :
  -(m + 300 * l.length) ≤ rd (l.foldl stR r) p ∧ rd (l.foldl stR r) p ≤ m + 300 * l.length := by
 induction l generalizing r m with
 | nil => simpa using hr p
 | cons s t ih =>
  have hs := h s (by simp)
  have hw : -300 ≤ s.f3 * s.f2 ∧ s.f3 * s.f2 ≤ 300 := by
   have c3 : s.f3 = 1 ∨ s.f3 = 2 ∨ s.f3 = 3 := by omega
   rcases c3 with e | e | e <;> rw [e] <;> omega
  have := ih (fun u hu => h u (by simp [hu])) (stR r s) (by unfold stR; rw [ad_len]; exact hl) (m + 300) (by omega) (fun q => ad_size (by omega) hw hm hr hs.2.2.1 (by omega) hs.1 (by omega) (by omega) q)
  rw [List.foldl_cons]
  simp only [List.length_cons]
  push_cast
  omega
theorem rgt_size {n : Nat} {l : List S32} (hv : surveyB ((n : Int) + 1) l = true) (p : Int) : -2400 ≤ rd (rgt n l) p ∧ rd (rgt n l) p ≤ 2400 := by
 have hl8 : l.length ≤ 8 := by
  have := hv
  unfold surveyB at this
  simp only [Bool.and_eq_true, decide_eq_true_eq] at this
  have := this.1.2
  omega
 have := fold_size l (mem_at hv) (List.replicate (n + 1) 0) (by simp) 0 (by omega) (fun p => by rw [rd_zeros]; omega) p
 unfold rgt
 omega
end Go.Proofs.Ytkafbmanmffliaa.Ke

/- Plain: connected surveys: the solution is one alone; the residuals; no other heights have a lesser sum of weighted squares; cofactors. -/
namespace Go.Proofs.Ytkafbmanmffliaa.Kf
open Go Go.RowKit YtkafbmanmffliaaW.PrintWords Q Gf Gs Hb Gm Gn Ka Kc Ke
theorem conn_v {n : Nat} {l : List S32} (hc : Gm.connB ((n : Int) + 1) l = true) : surveyB ((n : Int) + 1) l = true := by unfold Gm.connB at hc; simp only [Bool.and_eq_true] at hc; exact hc.1
theorem conn_n {n : Nat} {l : List S32} (hc : Gm.connB ((n : Int) + 1) l = true) : 1 ≤ n ∧ n ≤ 4 ∧ l.length ≤ 8 := by
 have hv := conn_v hc
 unfold surveyB Ha.inB at hv
 simp only [Bool.and_eq_true, decide_eq_true_eq] at hv
 have h1 := hv.1.1
 have h2 := hv.1.2
 omega
section
variable {n : Nat} {l : List S32} (hc : Gm.connB ((n : Int) + 1) l = true)
include hc
end
def hts (n : Nat) (l : List S32) : Int → Rat := xs l (rgt n l) n
def cox (n : Nat) (l : List S32) (a b : Int) : Int → Rat := xs l (rco n a b) n
def res (n : Nat) (l : List S32) (s : S32) : Rat := (s.f2 : Rat) - dif (hts n l) s
def cof (n : Nat) (l : List S32) (a b : Int) : Rat := cox n l a b b - cox n l a b a
section
variable {n : Nat} {l : List S32} (hc : Gm.connB ((n : Int) + 1) l = true)
include hc
theorem ok_rgt : Ok n l (rgt n l) := ok (conn_n hc).2.1 hc _ (rgt_size (conn_v hc))
theorem adj (y : Int → Rat) : B l (hts n l) y = sm (fun s => ((s.f3 * s.f2 : Int) : Rat) * dif y s) l :=
 (weak (conn_n hc).2.1 (conn_n hc).1 (ok_rgt hc) y).trans (rs_rgt (conn_v hc) y)
theorem normal (y : Int → Rat) : sm (fun s => (s.f3 : Rat) * (res n l s * dif y s)) l = 0 := by
 have h := adj hc y
 have e : sm (fun s => (s.f3 : Rat) * (res n l s * dif y s)) l = sm (fun s => ((s.f3 * s.f2 : Int) : Rat) * dif y s) l - B l (hts n l) y := by
  unfold B
  rw [← sm_sub]
  refine sm_congr (fun s _ => ?_)
  unfold res
  push_cast
  grind
 rw [e, h]
 grind
end
end Go.Proofs.Ytkafbmanmffliaa.Kf

/- The program's adjusted heights: the right side is made, the equations are solved. -/
namespace Go.Proofs.Ytkafbmanmffliaa.Gt
open Go Go.RowKit YtkafbmanmffliaaW.PrintWords YtkafbmanmffliaaW.PrintLast YtkafbmanmffliaaW.PrintMore Q Bg Dd Bi Rt Ra Gd Gf Ge Hb Hc Gs Gn Kc Ke Kf
theorem mk28 (n : Nat) (hn : n ≤ 5) : ∀ W : World, (Instr.makeSlice 28 (.int .i64 (n : Int)) (.int .i64 (n : Int))).run Try.prog W = .ok (.slice (some ⟨W.heap.size, 0, none⟩) n n) (W.alloc (.cells (madeCells #[.int .i64 0] n) 2)) :=
 print_make_of 28 2 (.int .i64 0) 8 Try.underlying28 info2 rfl (by decide) n (by omega)
theorem T.made {B : Nat} (W : World) (n : Nat) (hn : n ≤ 5) (hB : B ≤ W.heap.size) : T B (W.alloc (.cells (madeCells #[.int .i64 0] n) 2)) (.slice (some ⟨W.heap.size, 0, none⟩) n n) (List.replicate n 0) := by
 have h := own_made_of (enc := Value.int .i64) (d := 0) W B 2 n hB (by omega)
 exact Kd.R_of_own (by simpa using h) (fun _ _ => trivial)
theorem solve_xs {n : Nat} {l : List S32} {right : List Int} (h : Ok n l right) {wq wz : World} {b cap : Nat} {us : List Value} (hr : RowIn wq wz b cap (n + 1) us (fun k => if k = 0 then 0 else gj (cst (tab l right n)) n (k - 1) n)) :
  RowIn wq wz b cap (n + 1) us (fun k => xs l right n k) := by
 refine hr.congr (fun k hk => ?_)
 by_cases e : k = 0
 ·subst e
  rw [if_pos rfl]
  exact (xs_zero l right n).symm
 ·rw [if_neg e, h.sol (k - 1) (by omega)]
  unfold xs nu
  rw [if_neg (by omega)]
  rfl
def rgtAt (n : Nat) (l : List S32) (i : Nat) : List Int := rgt n (l.take i)
theorem rgtAt_zero (n : Nat) (l : List S32) : rgtAt n l 0 = List.replicate (n + 1) 0 := by simp [rgtAt, rgt]
theorem rgtAt_all (n : Nat) (l : List S32) : rgtAt n l l.length = rgt n l := by simp [rgtAt]
theorem rgtAt_succ (n : Nat) (l : List S32) (i : Nat) (h : i < l.length) : rgtAt n l (i + 1) = stR (rgtAt n l i) (rd_T32 l i) := by
 unfold rgtAt rgt
 have e : l.take (i + 1) = l.take i ++ [rd_T32 l i] := by
  rw [List.take_succ_eq_append_getElem h]
  simp [rd_T32, h]
 rw [e, List.foldl_append]
 rfl
theorem rgtAt_len (n : Nat) (l : List S32) (i : Nat) : (rgtAt n l i).length = n + 1 := rgt_len _ _
theorem rgtAt_size {n : Nat} {l : List S32} (hv : surveyB ((n : Int) + 1) l = true) (i : Nat) (p : Int) : -2400 ≤ rd (rgtAt n l i) p ∧ rd (rgtAt n l i) p ≤ 2400 := by
 have hl8 : l.length ≤ 8 := by
  have := hv
  unfold surveyB at this
  simp only [Bool.and_eq_true, decide_eq_true_eq] at this
  have := this.1.2
  omega
 have := fold_size (l.take i) (fun s hs => mem_at hv s (List.mem_of_mem_take hs)) (List.replicate (n + 1) 0) (by simp) 0 (by omega) (fun p => by rw [rd_zeros]; omega) p
 have hl : (l.take i).length ≤ 8 := by simp; omega
 unfold rgtAt rgt
 omega
theorem T.drewN {B : Nat} {W : World} {v : Value} {xs : List Int} (h : T B W v xs) : T B W.drew v xs := h.below (below_drew (Below.refl _ _))
set_option maxHeartbeats 4000000 in
set_option maxRecDepth 100000 in
theorem adjusted_any (n : Nat) (l : List S32) (hc : Gm.connB ((n : Int) + 1) l = true) (A : Option Addr) (c : Nat) (w : World) (hr : Kd.C k32 w A l.length l) (hcl : l.length ≤ c) :
  Calls Try.prog 60 #[.agg #[.int .i64 ((n : Int) + 1), .slice A l.length c]] w fun e w' => ∃ (b cap : Nat) (us : List Value), e = .returned (.slice (some ⟨b, 0, none⟩) (n + 1) cap) ∧ RowIn w w' b cap (n + 1) us (fun k => hts n l k) := by
 have hu26 := Try.underlying26
 have hu32 := Try.underlying32
 have hn := conn_n hc
 have hn4 := hn.2.1
 have hl8 := hn.2.2
 have mk := mk28 (n + 1) (by omega)
 rw [show ((n + 1 : Nat) : Int) = (n : Int) + 1 by omega] at mk
 have hbx := below_alloc (Below.refl w.heap.size w) (SX ((n : Int) + 1) A l.length c)
 have HR := Aside0.mk (Kd.C_below hr hbx)
 have HX := Aside0.mk (heap_alloc_new w (SX ((n : Int) + 1) A l.length c))
 have HC := Aside0.mk hc
 have HV := Aside0.mk (conn_v hc)
 have HCL := Aside0.mk hcl
 clear hr hc hcl hn hbx
 go_enter Try.func60, Try.ntmps60
 go_wp2_with (fail)
 obtain ⟨W0, hW0⟩ : ∃ W0, W0 = w.alloc (SX ((n : Int) + 1) A l.length c) := ⟨_, rfl⟩
 have hs0 : W0.heap.size = w.heap.size + 1 := by rw [hW0]; simp
 rw [← hW0] at HR HX
 rw [← hW0]
 have HW0 := Aside0.mk hW0
 clear hW0 mk
 have t0 := Aside0.mk (T.made W0 (n + 1) (by omega) (Nat.le_refl W0.heap.size))
 have tb := Aside0.mk (below_alloc (Below.refl W0.heap.size W0) (.cells (madeCells #[.int .i64 0] (n + 1)) 2))
 obtain ⟨g, hg⟩ : ∃ g, g = w.heap.size + 1 := ⟨_, rfl⟩
 rw [← hg] at hs0
 rw [← hg]
 rw [hs0] at t0
 have HS0 := Aside0.mk (And.intro hs0 hg)
 clear hs0 hg
 go_loopw [12] (fun v12 wz => ∃ i : Nat, v12 = .int .i64 (i : Int) ∧ i ≤ l.length ∧ Aside0 (T g wz (.slice (some ⟨g, 0, none⟩) (n + 1) (n + 1)) (rgtAt n l i)) ∧ Aside0 (Below W0.heap.size W0 wz)) (fun v _ => l.length - (intOf v).toNat)
 case atStart => exact ⟨0, rfl, by omega, ⟨by rw [rgtAt_zero]; exact t0.out⟩, tb⟩
 case round =>
  clear t0 tb
  obtain ⟨i, rfl, hi, HT, HB⟩ := hrel
  by_cases hlt : i < l.length
  ·have p1 : decide ((i : Int) < (l.length : Int)) = true := decide_eq_true (by omega)
   obtain ⟨ad, e, x0, x1, x2, x3⟩ := at_T32 (Kd.C_below HR.out HB.out) (i : Int) (by omega) (by omega)
   subst e
   rw [Int.toNat_natCast] at x0 x1 x2 x3
   have hm : rd_T32 l i ∈ l := by simp only [rd_T32, Int.toNat_natCast]; rw [List.getD_eq_getElem?_getD, List.getElem?_eq_getElem hlt]; simp
   have hva := mem_at HV.out _ hm
   have HSU := Aside0.mk (rgtAt_succ n l i hlt)
   obtain ⟨s, hs⟩ : ∃ s, s = rd_T32 l i := ⟨_, rfl⟩
   rw [← hs] at x0 x1 x2 x3 hva HSU
   clear hs hm
   obtain ⟨f, t, ri, wt⟩ := s
   dsimp only at x0 x1 x2 x3 hva
   obtain ⟨y0, y1, y2, y3, y4, y5, y6, y7, y8⟩ := hva
   obtain ⟨f, rfl⟩ : ∃ q : Nat, f = q := ⟨f.toNat, by omega⟩
   obtain ⟨t, rfl⟩ : ∃ q : Nat, t = q := ⟨t.toNat, by omega⟩
   obtain ⟨r, hr⟩ : ∃ r, r = rgtAt n l i := ⟨_, rfl⟩
   have hrl : r.length = n + 1 := by rw [hr]; exact rgtAt_len n l i
   have hz : ∀ p : Int, -2400 ≤ rd r p ∧ rd r p ≤ 2400 := fun p => by rw [hr]; exact rgtAt_size HV.out i p
   rw [← hr] at HT HSU
   have hwr : -300 ≤ wt * ri ∧ wt * ri ≤ 300 := by
    have c3 : wt = 1 ∨ wt = 2 ∨ wt = 3 := by omega
    rcases c3 with e | e | e <;> rw [e] <;> omega
   obtain ⟨k, hk⟩ : ∃ k, k = wt * ri := ⟨_, rfl⟩
   rw [← hk] at hwr
   have hw1 : wrap64 (wt * ri) = k := by rw [← hk]; unfold wrap64; omega
   have HSU2 := Aside0.mk (show rgtAt n l (i + 1) = (r.set t (rd r (t : Int) + k)).set f (rd (r.set t (rd r (t : Int) + k)) (f : Int) - k) by rw [HSU.out, hk]; rfl)
   obtain ⟨v1, hv1⟩ : ∃ v1, v1 = rd r (t : Int) + k := ⟨_, rfl⟩
   have hzt := hz t
   have hw2 : wrap64 (rd r (t : Int) + k) = v1 := by rw [← hv1]; unfold wrap64; omega
   obtain ⟨r1, hr1⟩ : ∃ r1, r1 = r.set t v1 := ⟨_, rfl⟩
   have hzf := (ad_size (r := r) (t := t) (f := f) (m := 2400) (k := 0) (c := 0) (by omega) (by omega) (by omega) hz (by omega) (by omega) (by omega) (by omega) (by omega) f)
   have hzf1 : -2700 ≤ rd r1 (f : Int) ∧ rd r1 (f : Int) ≤ 2700 := by
    have e := rd_set (r := r) (t := t) (p := f) (v := v1) (by omega) (by omega) (by omega)
    rw [Int.toNat_natCast, ← hr1] at e
    rw [e]
    have := hz f
    split <;> omega
   obtain ⟨v2, hv2⟩ : ∃ v2, v2 = rd r1 (f : Int) - k := ⟨_, rfl⟩
   have hw3 : wrap64 (rd r1 (f : Int) - k) = v2 := by rw [← hv2]; unfold wrap64; omega
   have HSU3 := Aside0.mk (show rgtAt n l (i + 1) = r1.set f v2 by rw [HSU2.out, ← hv1, ← hr1, ← hv2])
   have HR1 := Aside0.mk hr1
   obtain ⟨vt, hvt⟩ : ∃ vt, vt = rd r (t : Int) := ⟨_, rfl⟩
   rw [← hvt] at hw2
   obtain ⟨vf, hvf⟩ : ∃ vf, vf = rd r1 (f : Int) := ⟨_, rfl⟩
   rw [← hvf] at hw3
   have HVT := Aside0.mk hvt
   have HVF := Aside0.mk hvf
   have HRL := Aside0.mk hrl
   clear hr hz hwr hk hv1 hv2 hzt hzf hzf1 hr1 hvt hvf hrl HSU HSU2
   have HBA := Aside0.mk (below_alloc (Below.refl wr.heap.size wr) (.cells #[.int .i64 (f : Int), .int .i64 (t : Int), .int .i64 ri, .int .i64 wt] 32))
   have HNA := Aside0.mk (heap_alloc_new wr (.cells #[.int .i64 (f : Int), .int .i64 (t : Int), .int .i64 ri, .int .i64 wt] 32))
   have HT1 := Aside0.mk (HT.out.below HBA.out)
   obtain ⟨z0, z1⟩ := HT1.out.cell t (by omega)
   rw [← HVT.out] at z0
   have i1 : (0 ≤ (t : Int)) = True := eq_true (by omega)
   have i2 : ((t : Int) < (n : Int) + 1) = True := eq_true (by omega)
   have i3 : (0 ≤ (f : Int)) = True := eq_true (by omega)
   have i4 : ((f : Int) < (n : Int) + 1) = True := eq_true (by omega)
   go_wp2_with (fail)
   go_region
   have hp1 := HT1.out.put t v1
   have hb1 := (HB.out.trans (HBA.out.mono (HB.out.size))).setCell (p := ⟨g, t, none⟩) (by show W0.heap.size ≤ g; rw [HS0.out.1]; exact Nat.le_refl _) (.int .i64 v1)
   rw [← HR1.out] at hp1
   have HT2 := Aside0.mk (hp1.1.below (below_drew (Below.refl _ _)))
   have HB2 := Aside0.mk (below_drew hb1)
   have hgs := HT.out.lt (k := g) rfl
   have HN2 := Aside0.mk (blk_drew (blk_grown HNA.out hp1.2 (by intro e; have := Option.some.inj e; omega)))
   clear hp1 hb1 hgs z0 z1
   obtain ⟨wa, hwa⟩ : ∃ wa, wa = ((wr.alloc (.cells #[.int .i64 (f : Int), .int .i64 (t : Int), .int .i64 ri, .int .i64 wt] 32)).setCell ⟨g, t, none⟩ (.int .i64 v1)).drew := ⟨_, rfl⟩
   rw [← hwa] at HT2 HB2 HN2
   rw [← hwa]
   clear hwa
   obtain ⟨z0, z1⟩ := HT2.out.cell f (by omega)
   rw [← HVF.out] at z0
   have k0 : wa.cell? ⟨wr.heap.size, 0, none⟩ = some (.int .i64 (f : Int)) := (blk_cell HN2.out 0).trans rfl
   have k2 : wa.cell? ⟨wr.heap.size, 2, none⟩ = some (.int .i64 ri) := (blk_cell HN2.out 2).trans rfl
   have k3 : wa.cell? ⟨wr.heap.size, 3, none⟩ = some (.int .i64 wt) := (blk_cell HN2.out 3).trans rfl
   go_wp2_with (fail)
   go_region
   have hp2 := HT2.out.put f v2
   have hb2 := HB2.out.setCell (p := ⟨g, f, none⟩) (by show W0.heap.size ≤ g; rw [HS0.out.1]; exact Nat.le_refl _) (.int .i64 v2)
   rw [← HSU3.out] at hp2
   have HT3 := Aside0.mk (hp2.1.below (below_drew (Below.refl _ _)))
   have HB3 := Aside0.mk (below_drew hb2)
   clear hp2 hb2
   go_wp2_with (fail)
   go_roundw
   case rel => exact ⟨i + 1, by go_num, by omega, HT3, HB3⟩
   case measure => simp [intOf]; omega
  ·obtain rfl : l.length = i := by omega
   have p1 : decide ((l.length : Int) < (l.length : Int)) = false := decide_eq_false (by omega)
   rw [rgtAt_all] at HT
   have hok := ok_rgt HC.out
   have hC : Kd.C (Kd.int .i64) wr (some ⟨g, 0, none⟩) (rgt n l).length (rgt n l) := (Kd.R_reads' HT.out).2.2
   have hsv := solve_any n hn4 l HV.out A c (some ⟨g, 0, none⟩) (n + 1) (rgt n l) wr (Kd.C_below HR.out HB.out) HCL.out hC (rgt_len n l) (fun i => by have := rgt_size HV.out i; omega) hok.piv
   rw [rgt_len] at hsv
   have HOK := Aside0.mk hok
   have hbk := blk_below HX.out HB.out
   have hcx : wr.cell? ⟨w.heap.size, 0, none⟩ = some (.int .i64 ((n : Int) + 1)) := (blk_cell hbk 0).trans rfl
   have hcy : wr.cell? ⟨w.heap.size, 1, none⟩ = some (.slice A l.length c) := (blk_cell hbk 1).trans rfl
   clear hok hC hbk
   go_wp2_with (fail)
   refine hsv.mono ?_
   rintro e w1 ⟨b, cap, us, rfl, h1⟩
   have H1 := Aside0.mk (solve_xs HOK.out h1)
   clear h1 hsv
   go_wp2_with (fail)
   go_ret
   exact ⟨b, cap, us, rfl, H1.out.outer (by rw [HW0.out]; exact below_alloc (Below.refl _ _) _) HB.out⟩
end Go.Proofs.Ytkafbmanmffliaa.Gt

/- The program's residuals, cofactors, redundancies and weighted squares: rows of fractions. -/
namespace Go.Proofs.Ytkafbmanmffliaa.Gu
open Go Go.RowKit YtkafbmanmffliaaW.PrintWords YtkafbmanmffliaaW.PrintLast YtkafbmanmffliaaW.PrintMore Q Bg Dd Bi Rt Rx Ra Gd Ge Gi Hc Gs Gn Kc Ke Kf Gt
theorem RowIn.growF {wq wr w1 w2 : World} {b cap j pb g1 cap1 : Nat} {us : List Value} {F : Nat → Rat} {x : Rat} (h : RowIn wq wr b cap j us F) (hb1 : Below wr.heap.size wr w1) (hx : RI w1 pb x)
  (hc : Cb w2 74 g1 cap1 (us ++ [.pointer (some ⟨pb, 0, none⟩)])) (hat : g1 = b ∨ w1.heap.size ≤ g1) (hg : w1.grownBy w2 (some b)) (e : x = F j) : RowIn wq w2 g1 cap1 (j + 1) (us ++ [.pointer (some ⟨pb, 0, none⟩)]) F := by
 refine (h.grow hb1 hx hc hat hg).congr (fun k hk => ?_)
 show (if k = j then _ else _) = _
 by_cases e2 : k = j
 ·rw [if_pos e2, e2]; exact e
 ·rw [if_neg e2]
theorem sm31 {z : Int} (h : -2147483648 < z ∧ z < 2147483648) : Sm 31 (z : Rat) := by
 have e : (2 : Nat) ^ 31 = 2147483648 := by decide
 refine Sm.int ?_ (by omega)
 rw [e]
 omega
theorem sm_xs {n : Nat} (hn4 : n ≤ 4) {l : List S32} {right : List Int} (h : Ok n l right) (p : Int) (h0 : 0 ≤ p) (hp : p ≤ n) : Sm 31 (xs l right n p) := by
 have hd := h.pos n (Nat.le_refl _)
 rw [h.last] at hd
 have hd2 : den l n ≤ 1073741824 := by
  rw [← h.last]
  by_cases e : n = 0
  ·subst e; show (1 : Int) ≤ _; decide
  ·obtain ⟨m, rfl⟩ : ∃ m, n = m + 1 := ⟨n - 1, by omega⟩
   rw [LL_succ _ m (by omega)]
   exact (h.size m m m (by omega) (by omega) (by omega)).2
 have e31 : (2 : Nat) ^ 31 = 2147483648 := by decide
 have hn : (nu l right n p).natAbs < 2 ^ 31 := by
  rw [e31]
  unfold nu
  split
  ·decide
  ·have := h.size n (p.toNat - 1) n (Nat.le_refl _) (by omega) (Nat.le_refl _)
   omega
 have := Sm.divInt (a := nu l right n p) (b := den l n) (by omega) hn (by rw [e31]; omega)
 unfold xs
 rw [Rat.divInt_eq_div] at this
 exact this
set_option maxHeartbeats 8000000 in
set_option maxRecDepth 100000 in
theorem residuals_any (n : Nat) (l : List S32) (hc : Gm.connB ((n : Int) + 1) l = true) (A : Option Addr) (c : Nat) (w : World) (hr : Kd.C k32 w A l.length l) (hcl : l.length ≤ c) :
  Calls Try.prog 61 #[.agg #[.int .i64 ((n : Int) + 1), .slice A l.length c]] w fun e w' => ∃ (b cap : Nat) (us : List Value), e = .returned (.slice (some ⟨b, 0, none⟩) l.length cap) ∧ RowIn w w' b cap l.length us (fun k => res n l (rd_T32 l k)) := by
 have hu26 := Try.underlying26
 have hu32 := Try.underlying32
 have hu24 := Try.underlying24
 have hu69 := Try.underlying69
 have hn := conn_n hc
 have hn4 := hn.2.1
 have hl8 := hn.2.2
 have hbx := below_alloc (Below.refl w.heap.size w) (SX ((n : Int) + 1) A l.length c)
 have HR := Aside0.mk (Kd.C_below hr hbx)
 have HX := Aside0.mk (heap_alloc_new w (SX ((n : Int) + 1) A l.length c))
 have HC := Aside0.mk hc
 have HV := Aside0.mk (conn_v hc)
 have HCL := Aside0.mk hcl
 clear hr hc hcl hn hbx
 have hadj := adjusted_any n l HC.out A c (w.alloc (SX ((n : Int) + 1) A l.length c)) HR.out HCL.out
 have HS31 := Aside0.mk (fun p h0 hp => sm_xs hn4 (ok_rgt HC.out) p h0 hp)
 go_enter Try.func61, Try.ntmps61
 go_wp2_with (go_at_call 60; (with_reducible refine hadj.mono ?_); rintro e w1 ⟨bH, capH, usH, rfl, hH⟩; have HH := Aside0.mk hH; have HX1 := Aside0.mk (blk_below HX.out hH.2.2.2); have HR1 := Aside0.mk (Kd.C_below HR.out hH.2.2.2); have cx : (w1.alloc (.cells #[] 74)).cell? ⟨w.heap.size, 1, none⟩ = some (.slice A l.length c) := (blk_cell (blk_alloc HX1.out _) 1).trans rfl; clear hH hadj)
 obtain ⟨wq, rfl⟩ : ∃ wq, wq = w1 := ⟨_, rfl⟩
 have t0 := Aside0.mk (RowIn.new wq (fun k => res n l (rd_T32 l k)))
 clear cx
 go_loopw [4, 13] (fun v4 v13 wz => ∃ (i b cap2 : Nat) (us : List Value), v4 = .slice (some ⟨b, 0, none⟩) i cap2 ∧ v13 = .int .i64 (i : Int) ∧ i ≤ l.length ∧ Aside0 (RowIn wq wz b cap2 i us (fun k => res n l (rd_T32 l k)))) (fun _ v _ => l.length - (intOf v).toNat)
 case atStart => exact ⟨0, _, 0, [], rfl, rfl, by omega, t0⟩
 case round =>
  clear t0
  obtain ⟨i, b, cap2, us, rfl, rfl, hi, HI⟩ := hrel
  by_cases hlt : i < l.length
  ·have p1 : decide ((i : Int) < (l.length : Int)) = true := decide_eq_true (by omega)
   obtain ⟨ad, e, x0, x1, x2, x3⟩ := at_T32 (Kd.C_below HR1.out (below_weaken (Below.refl _ _) (Nat.le_refl _) HI.out.2.2.2)) (i : Int) (by omega) (by omega)
   subst e
   rw [Int.toNat_natCast] at x0 x1 x2 x3
   have hm : rd_T32 l i ∈ l := by simp only [rd_T32, Int.toNat_natCast]; rw [List.getD_eq_getElem?_getD, List.getElem?_eq_getElem hlt]; simp
   have hva := mem_at HV.out _ hm
   have HRES := Aside0.mk (show res n l (rd_T32 l i) = ((rd_T32 l i).f2 : Rat) - hts n l (rd_T32 l i).f1 + hts n l (rd_T32 l i).f0 from by unfold res dif; grind)
   obtain ⟨s, hs⟩ : ∃ s, s = rd_T32 l i := ⟨_, rfl⟩
   rw [← hs] at x0 x1 x2 x3 hva HRES
   have HS := Aside0.mk hs
   clear hs hm
   obtain ⟨f, t, ri, wt⟩ := s
   dsimp only at x0 x1 x2 x3 hva HRES
   obtain ⟨y0, y1, y2, y3, y4, y5, y6, y7, y8⟩ := hva
   obtain ⟨f, rfl⟩ : ∃ q : Nat, f = q := ⟨f.toNat, by omega⟩
   obtain ⟨t, rfl⟩ : ∃ q : Nat, t = q := ⟨t.toNat, by omega⟩
   have hba := below_alloc (Below.refl wr.heap.size wr) (.cells #[.int .i64 (f : Int), .int .i64 (t : Int), .int .i64 ri, .int .i64 wt] 32)
   have hna := heap_alloc_new wr (.cells #[.int .i64 (f : Int), .int .i64 (t : Int), .int .i64 ri, .int .i64 wt] 32)
   have hH := HH.out.below (below_step HI.out.2.2.2 hba)
   obtain ⟨pt, e0, e1, hpt⟩ := row_at hH.2.1 hH.2.2.1 (show t < n + 1 by omega)
   obtain ⟨pf, e2, e3, hpf⟩ := row_at hH.2.1 hH.2.2.1 (show f < n + 1 by omega)
   have HPT := Aside0.mk hpt
   have HPF := Aside0.mk hpf
   have HT31 := Aside0.mk (HS31.out t (by omega) (by omega))
   have HF31 := Aside0.mk (HS31.out f (by omega) (by omega))
   have i1 : (0 ≤ (t : Int)) = True := eq_true (by omega)
   have i2 : ((t : Int) < (n : Int) + 1) = True := eq_true (by omega)
   have i3 : (0 ≤ (f : Int)) = True := eq_true (by omega)
   have i4 : ((f : Int) < (n : Int) + 1) = True := eq_true (by omega)
   have r0 : -9223372036854775808 ≤ ri := by omega
   have r1 : ri ≤ 9223372036854775807 := by omega
   have HRI := Aside0.mk (show Sm 31 ((ri : Int) : Rat) from sm31 (by omega))
   obtain ⟨wa, hwa⟩ : ∃ wa, wa = wr.alloc (.cells #[.int .i64 (f : Int), .int .i64 (t : Int), .int .i64 ri, .int .i64 wt] 32) := ⟨_, rfl⟩
   rw [← hwa] at hba hna e0 e2 HPT HPF
   have c0 : wa.cell? ⟨wr.heap.size, 0, none⟩ = some (.int .i64 (f : Int)) := (blk_cell hna 0).trans rfl
   have c1 : wa.cell? ⟨wr.heap.size, 1, none⟩ = some (.int .i64 (t : Int)) := (blk_cell hna 1).trans rfl
   have c2 : wa.cell? ⟨wr.heap.size, 2, none⟩ = some (.int .i64 ri) := (blk_cell hna 2).trans rfl
   have HI := Aside0.mk (HI.out.below hba)
   clear hH hpt hpf hna hba e1 e3
   go_wp2_with (fail)
   rw [← hwa]
   clear hwa x0 x1 x2 x3
   have HXF := Aside0.mk (show ((ri : Int) : Rat) - hts n l (t : Int) + hts n l (f : Int) = res n l (rd_T32 l i) by rw [← HS.out, HRES.out])
   refine start_ (n:=19) (S := fun w' => w'.cell? ⟨wr.heap.size, 0, none⟩ = some (.int .i64 (f : Int)) ∧ w'.cell? ⟨wr.heap.size, 1, none⟩ = some (.int .i64 (t : Int)) ∧ w'.cell? ⟨wr.heap.size, 2, none⟩ = some (.int .i64 ri) ∧ w'.cell? ⟨bH, t, none⟩ = some (.pointer (some ⟨pt, 0, none⟩)) ∧ w'.cell? ⟨bH, f, none⟩ = some (.pointer (some ⟨pf, 0, none⟩))) (ds:=[17]) #[false,false,false,false,false,false,false,false,false,false,false,false,false,false,false,false,false,false,false] (by kernel_rfl) rfl rfl ⟨c0, c1, c2, e0, e2⟩ (fun hHeld => ?_)
   refine pure_ (i:=0) (N:=some 17) (v:=?_) (a':=?_) #[true,false,false,false,false,false,false,false,false,false,false,false,false,false,false,false,false,false,false] rfl rfl (by kernel_rfl) (fun _ _ _ h => h) (Or.inl ⟨by rfl, ?_⟩) ?_ ?_
   rotate_left
   ·intro w'
    go_simp
    with_reducible rfl
   rotate_left
   ·simp only [Act.put, List.setIfInBounds_toArray, List.set_cons_zero, List.set_cons_succ, i64_w, i32_w]
    rfl
   refine pure_ (i:=1) (N:=some 18) (v:=?_) (a':=?_) #[true,true,false,false,false,false,false,false,false,false,false,false,false,false,false,false,false,false,false] rfl rfl (by kernel_rfl) (fun _ _ _ h => h) (Or.inl ⟨by rfl, ?_⟩) ?_ ?_
   rotate_left
   ·intro w'
    go_simp
    with_reducible rfl
   rotate_left
   ·simp only [Act.put, List.setIfInBounds_toArray, List.set_cons_zero, List.set_cons_succ, i64_w, i32_w]
    rfl
   refine pure_ (i:=4) (N:=some 21) (v:=?_) (a':=?_) #[true,true,false,false,true,false,false,false,false,false,false,false,false,false,false,false,false,false,false] rfl rfl (by kernel_rfl) (fun _ _ _ h => h) (Or.inl ⟨by rfl, ?_⟩) ?_ ?_
   rotate_left
   ·intro w'
    go_simp
    with_reducible rfl
   rotate_left
   ·simp only [Act.put, List.setIfInBounds_toArray, List.set_cons_zero, List.set_cons_succ, i64_w, i32_w]
    rfl
   refine pure_ (i:=5) (N:=some 22) (v:=?_) (a':=?_) #[true,true,false,false,true,true,false,false,false,false,false,false,false,false,false,false,false,false,false] rfl rfl (by kernel_rfl) (fun _ _ _ h => h) (Or.inl ⟨by rfl, ?_⟩) ?_ ?_
   rotate_left
   ·intro w'
    go_simp
    with_reducible rfl
   rotate_left
   ·simp only [Act.put, List.setIfInBounds_toArray, List.set_cons_zero, List.set_cons_succ, i64_w, i32_w]
    rfl
   refine pure_ (i:=10) (N:=some 27) (v:=?_) (a':=?_) #[true,true,false,false,true,true,false,false,false,false,true,false,false,false,false,false,false,false,false] rfl rfl (by kernel_rfl) (fun _ _ _ h => h) (Or.inl ⟨by rfl, ?_⟩) ?_ ?_
   rotate_left
   ·intro w'
    go_simp
    with_reducible rfl
   rotate_left
   ·simp only [Act.put, List.setIfInBounds_toArray, List.set_cons_zero, List.set_cons_succ, i64_w, i32_w]
    rfl
   refine pure_ (i:=11) (N:=some 28) (v:=?_) (a':=?_) #[true,true,false,false,true,true,false,false,false,false,true,true,false,false,false,false,false,false,false] rfl rfl (by kernel_rfl) (fun _ _ _ h => h) (Or.inl ⟨by rfl, ?_⟩) ?_ ?_
   rotate_left
   ·intro w'
    go_simp
    with_reducible rfl
   rotate_left
   ·simp only [Act.put, List.setIfInBounds_toArray, List.set_cons_zero, List.set_cons_succ, i64_w, i32_w]
    rfl
   refine take_ (i:=2) (N:=some 19) (v:=?_) (a':=?_) #[true,true,true,false,true,true,false,false,false,false,true,true,false,false,false,false,false,false,false] rfl rfl (by kernel_rfl) (fun _ _ _ h => h) (Or.inl ⟨by rfl, ?_⟩) hHeld ?_ ?_
   rotate_left
   ·rintro w' ⟨s0, s1, s2, s3, s4⟩
    go_simp
    with_reducible rfl
   rotate_left
   ·simp only [Act.put, List.setIfInBounds_toArray, List.set_cons_zero, List.set_cons_succ, i64_w, i32_w]
    rfl
   refine take_ (i:=6) (N:=some 23) (v:=?_) (a':=?_) #[true,true,true,false,true,true,true,false,false,false,true,true,false,false,false,false,false,false,false] rfl rfl (by kernel_rfl) (fun _ _ _ h => h) (Or.inl ⟨by rfl, ?_⟩) hHeld ?_ ?_
   rotate_left
   ·rintro w' ⟨s0, s1, s2, s3, s4⟩
    go_simp
    with_reducible rfl
   rotate_left
   ·simp only [Act.put, List.setIfInBounds_toArray, List.set_cons_zero, List.set_cons_succ, i64_w, i32_w]
    rfl
   refine pure_ (i:=7) (N:=some 24) (v:=?_) (a':=?_) #[true,true,true,false,true,true,true,true,false,false,true,true,false,false,false,false,false,false,false] rfl rfl (by kernel_rfl) (fun _ _ _ h => h) (Or.inl ⟨by rfl, ?_⟩) ?_ ?_
   rotate_left
   ·intro w'
    go_simp
    with_reducible rfl
   rotate_left
   ·simp only [Act.put, List.setIfInBounds_toArray, List.set_cons_zero, List.set_cons_succ, i64_w, i32_w]
    rfl
   refine take_ (i:=8) (N:=some 25) (v:=?_) (a':=?_) #[true,true,true,false,true,true,true,true,true,false,true,true,false,false,false,false,false,false,false] rfl rfl (by kernel_rfl) (fun _ _ _ h => h) (Or.inl ⟨by rfl, ?_⟩) hHeld ?_ ?_
   rotate_left
   ·rintro w' ⟨s0, s1, s2, s3, s4⟩
    go_simp
    with_reducible rfl
   rotate_left
   ·simp only [Act.put, List.setIfInBounds_toArray, List.set_cons_zero, List.set_cons_succ, i64_w, i32_w]
    rfl
   refine take_ (i:=12) (N:=some 29) (v:=?_) (a':=?_) #[true,true,true,false,true,true,true,true,true,false,true,true,true,false,false,false,false,false,false] rfl rfl (by kernel_rfl) (fun _ _ _ h => h) (Or.inl ⟨by rfl, ?_⟩) hHeld ?_ ?_
   rotate_left
   ·rintro w' ⟨s0, s1, s2, s3, s4⟩
    go_simp
    with_reducible rfl
   rotate_left
   ·simp only [Act.put, List.setIfInBounds_toArray, List.set_cons_zero, List.set_cons_succ, i64_w, i32_w]
    rfl
   refine pure_ (i:=13) (N:=some 30) (v:=?_) (a':=?_) #[true,true,true,false,true,true,true,true,true,false,true,true,true,true,false,false,false,false,false] rfl rfl (by kernel_rfl) (fun _ _ _ h => h) (Or.inl ⟨by rfl, ?_⟩) ?_ ?_
   rotate_left
   ·intro w'
    go_simp
    with_reducible rfl
   rotate_left
   ·simp only [Act.put, List.setIfInBounds_toArray, List.set_cons_zero, List.set_cons_succ, i64_w, i32_w]
    rfl
   refine take_ (i:=14) (N:=some 31) (v:=?_) (a':=?_) #[true,true,true,false,true,true,true,true,true,false,true,true,true,true,true,false,false,false,false] rfl rfl (by kernel_rfl) (fun _ _ _ h => h) (Or.inl ⟨by rfl, ?_⟩) hHeld ?_ ?_
   rotate_left
   ·rintro w' ⟨s0, s1, s2, s3, s4⟩
    go_simp
    with_reducible rfl
   rotate_left
   ·simp only [Act.put, List.setIfInBounds_toArray, List.set_cons_zero, List.set_cons_succ, i64_w, i32_w]
    rfl
   refine one_ (i:=3) (N:=some 20) #[true,true,true,true,true,true,true,true,true,false,true,true,true,true,true,false,false,false,false] rfl rfl (by kernel_rfl) (by decide) (fun K_ hK => ?_)
   refine goes_ Try.func66 (by kernel_rfl) rfl #[.int .i64 ri] (by rfl) rfl rfl (by (try simp only [List.map_toArray, List.map_cons, List.map_nil]); first | done | rfl) ?_
   refine (whole_any ri _ r0 r1).mono ?_
   rintro e w1 ⟨pz1, rfl, hpz, hri, hb1⟩
   have HB1 := Aside0.mk (below_step (below_drew (Below.refl wa.heap.size wa)) hb1)
   have HZ1 := Aside0.mk hri
   have HO1 := Aside0.mk hb1
   clear hpz hri hb1
   refine ⟨_, rfl, ?_⟩
   refine hK.out _ _ (⟨(HB1.out.cell (World.block_lt_of_cell? _ _ c0)).trans c0, (HB1.out.cell (World.block_lt_of_cell? _ _ c1)).trans c1, (HB1.out.cell (World.block_lt_of_cell? _ _ c2)).trans c2, (HB1.out.cell (World.block_lt_of_cell? _ _ e0)).trans e0, (HB1.out.cell (World.block_lt_of_cell? _ _ e2)).trans e2⟩) (fun hHeld => ?_)
   clear hK K_
   refine norm_ (a':=?_) ?_ ?_
   rotate_left
   ·show Act.put _ (some 20) _ = _
    simp only [Act.put, List.setIfInBounds_toArray, List.set_cons_zero, List.set_cons_succ, i64_w, i32_w]
    rfl
   refine one_ (i:=9) (N:=some 26) #[true,true,true,true,true,true,true,true,true,true,true,true,true,true,true,false,false,false,false] rfl rfl (by kernel_rfl) (by decide) (fun K_ hK => ?_)
   refine goes_ Try.func65 (by kernel_rfl) rfl #[.pointer (some ⟨pz1, 0, none⟩), .pointer (some ⟨pt, 0, none⟩)] (by rfl) rfl rfl (by (try simp only [List.map_toArray, List.map_cons, List.map_nil]); first | done | rfl) ?_
   refine (ratMinus_any pz1 pt ((ri : Int) : Rat) (hts n l (t : Int)) 31 w1 HZ1.out (RI.below HPT.out HB1.out) (by omega) HRI.out HT31.out).mono ?_
   rintro e w2 ⟨pz2, rfl, hpz, hri, hb1⟩
   have HB2 := Aside0.mk (below_step HB1.out hb1)
   have HZ2 := Aside0.mk hri
   have HO2 := Aside0.mk hb1
   clear hpz hri hb1
   refine ⟨_, rfl, ?_⟩
   refine hK.out _ _ (⟨(HB2.out.cell (World.block_lt_of_cell? _ _ c0)).trans c0, (HB2.out.cell (World.block_lt_of_cell? _ _ c1)).trans c1, (HB2.out.cell (World.block_lt_of_cell? _ _ c2)).trans c2, (HB2.out.cell (World.block_lt_of_cell? _ _ e0)).trans e0, (HB2.out.cell (World.block_lt_of_cell? _ _ e2)).trans e2⟩) (fun hHeld => ?_)
   clear hK K_
   refine norm_ (a':=?_) ?_ ?_
   rotate_left
   ·show Act.put _ (some 26) _ = _
    simp only [Act.put, List.setIfInBounds_toArray, List.set_cons_zero, List.set_cons_succ, i64_w, i32_w]
    rfl
   refine one_ (i:=15) (N:=some 32) #[true,true,true,true,true,true,true,true,true,true,true,true,true,true,true,true,false,false,false] rfl rfl (by kernel_rfl) (by decide) (fun K_ hK => ?_)
   refine goes_ Try.func68 (by kernel_rfl) rfl #[.pointer (some ⟨pz2, 0, none⟩), .pointer (some ⟨pf, 0, none⟩)] (by rfl) rfl rfl (by (try simp only [List.map_toArray, List.map_cons, List.map_nil]); first | done | rfl) ?_
   refine (ratPlus_any pz2 pf (((ri : Int) : Rat) - hts n l (t : Int)) (hts n l (f : Int)) 63 w2 HZ2.out (RI.below HPF.out HB2.out) (by omega) (Sm.sub HRI.out HT31.out) (Sm.mono (by omega) HF31.out)).mono ?_
   rintro e w3 ⟨pz3, rfl, hpz, hri, hb1⟩
   have HB3 := Aside0.mk (below_step HB2.out hb1)
   have HZ3 := Aside0.mk hri
   have HO3 := Aside0.mk hb1
   clear hpz hri hb1
   refine ⟨_, rfl, ?_⟩
   refine hK.out _ _ (⟨(HB3.out.cell (World.block_lt_of_cell? _ _ c0)).trans c0, (HB3.out.cell (World.block_lt_of_cell? _ _ c1)).trans c1, (HB3.out.cell (World.block_lt_of_cell? _ _ c2)).trans c2, (HB3.out.cell (World.block_lt_of_cell? _ _ e0)).trans e0, (HB3.out.cell (World.block_lt_of_cell? _ _ e2)).trans e2⟩) (fun hHeld => ?_)
   clear hK K_
   refine norm_ (a':=?_) ?_ ?_
   rotate_left
   ·show Act.put _ (some 32) _ = _
    simp only [Act.put, List.setIfInBounds_toArray, List.set_cons_zero, List.set_cons_succ, i64_w, i32_w]
    rfl
   refine one_ (i:=16) (N:=some 33) #[true,true,true,true,true,true,true,true,true,true,true,true,true,true,true,true,true,false,false] rfl rfl (by kernel_rfl) (by decide) (fun K_ hK => ?_)
   refine value_ (v := .slice (some ⟨w3.heap.size, 0, none⟩) 1 1) (w1 := w3.alloc (.cells #[.pointer (some ⟨pz3, 0, none⟩)] 74)) (by rfl) rfl ?_ ?_
   ·go_simp
    first | done | exact ⟨rfl, rfl⟩ | rfl
   have HBA := Aside0.mk (below_step HB3.out (below_alloc (Below.refl w3.heap.size w3) (.cells #[.pointer (some ⟨pz3, 0, none⟩)] 74)))
   have HCA := Aside0.mk ((blk_cell (heap_alloc_new w3 (.cells #[.pointer (some ⟨pz3, 0, none⟩)] 74)) 0).trans rfl)
   have HZA := Aside0.mk (RI.below HZ3.out (below_alloc (Below.refl w3.heap.size w3) (.cells #[.pointer (some ⟨pz3, 0, none⟩)] 74)))
   refine hK.out _ _ (⟨(HBA.out.cell (World.block_lt_of_cell? _ _ c0)).trans c0, (HBA.out.cell (World.block_lt_of_cell? _ _ c1)).trans c1, (HBA.out.cell (World.block_lt_of_cell? _ _ c2)).trans c2, (HBA.out.cell (World.block_lt_of_cell? _ _ e0)).trans e0, (HBA.out.cell (World.block_lt_of_cell? _ _ e2)).trans e2⟩) (fun hHeld => ?_)
   clear hK K_
   refine norm_ (a':=?_) ?_ ?_
   rotate_left
   ·show Act.put _ (some 33) _ = _
    simp only [Act.put, List.setIfInBounds_toArray, List.set_cons_zero, List.set_cons_succ, i64_w, i32_w]
    rfl
   refine last_ (i:=17) (N:=some 34) #[true,true,true,true,true,true,true,true,true,true,true,true,true,true,true,true,true,true,false] rfl rfl (by kernel_rfl) (by decide) (fun K_ hK => ?_)
   refine Cb.append_step (by rfl) (.tmp 17) (.tmp 33) 69 74 (.pointer none) 8 rfl Try.underlying69 info74 rfl (Pv.ptr _) (by decide) b cap2 w3.heap.size i us (.pointer (some ⟨pz3, 0, none⟩)) HI.out.len rfl rfl HCA.out rfl (Pv.ptr _) (HI.out.below HBA.out).2.1 (by rw [HI.out.len]; omega) ?_
   intro g1 cap1 w9 h1 h2 h3
   have HN := Aside0.mk (RowIn.growF HI.out HBA.out HZA.out h1 h2 h3 HXF.out)
   clear h1 h2 h3
   refine hK.out _ _ ?_
   clear hK K_
   refine norm_ (a':=?_) ?_ ?_
   rotate_left
   ·show Act.put _ (some 34) _ = _
    simp only [Act.put, List.setIfInBounds_toArray, List.set_cons_zero, List.set_cons_succ, i64_w, i32_w]
    rfl
   refine pure_ (i:=18) (N:=some 4) (v:=?_) (a':=?_) #[true,true,true,true,true,true,true,true,true,true,true,true,true,true,true,true,true,true,true] rfl rfl (by kernel_rfl) (fun _ _ _ h => h) (Or.inl ⟨by rfl, ?_⟩) ?_ ?_
   rotate_left
   ·intro w'
    go_simp
    with_reducible rfl
   rotate_left
   ·simp only [Act.put, List.setIfInBounds_toArray, List.set_cons_zero, List.set_cons_succ, i64_w, i32_w]
    rfl
   refine done_ (by kernel_rfl) ?_
   go_wp2_with (fail)
   go_roundw
   case rel => exact ⟨i + 1, g1, cap1, _, by go_num, by go_num, by omega, HN⟩
   case measure => simp [intOf]; omega
  ·obtain rfl : l.length = i := by omega
   have p1 : decide ((l.length : Int) < (l.length : Int)) = false := decide_eq_false (by omega)
   go_wp2_with (fail)
   go_ret
   exact ⟨b, cap2, us, rfl, HI.out.outer (below_alloc (Below.refl _ _) _) HH.out.2.2.2⟩
end Go.Proofs.Ytkafbmanmffliaa.Gu

/- The program's cofactor of two points. -/
namespace Go.Proofs.Ytkafbmanmffliaa.Gx
open Go Go.RowKit YtkafbmanmffliaaW.PrintWords YtkafbmanmffliaaW.PrintLast YtkafbmanmffliaaW.PrintMore Q Hc
end Go.Proofs.Ytkafbmanmffliaa.Gx

/- The program's redundancies. -/
namespace Go.Proofs.Ytkafbmanmffliaa.Gy
open Go Go.RowKit YtkafbmanmffliaaW.PrintWords YtkafbmanmffliaaW.PrintLast YtkafbmanmffliaaW.PrintMore Q Kf
def red (n : Nat) (l : List S32) (s : S32) : Rat := ((1 : Int) : Rat) - (s.f3 : Rat) * cof n l s.f0 s.f1
end Go.Proofs.Ytkafbmanmffliaa.Gy

/- The reference's l10Solve, its numbers told by minors, as an own row. -/
namespace Go.Proofs.Ytkafbmanmffliaa.Gv
open Go Go.RowKit YtkafbmanmffliaaW.PrintWords YtkafbmanmffliaaW.PrintLast YtkafbmanmffliaaW.PrintMore Q Gd Ge Gi Hc Gs Gl Gn Kc
theorem T.of_cb {B : Nat} {W : World} {g cap : Nat} {xs : List Int} (h : Cb W 2 g cap (xs.map (Value.int .i64))) (hB : B ≤ g) : T B W (.slice (some ⟨g, 0, none⟩) xs.length cap) xs := by
 obtain ⟨cs, h1, h2, h3, h4, h5, h6⟩ := h
 have ho : W.ownsRow B 2 1 (.slice (some ⟨g, 0, none⟩) xs.length cap) xs.length (encs (Value.int .i64) xs) :=
  ⟨by simp [encs], .inr ⟨g, cap, cs, rfl, hB, h1, by simpa using h3, h4, by simpa using h2, by simpa [encs] using h6⟩⟩
 exact Kd.R_of_own ho (fun _ _ => trivial)
def nuL (l : List S32) (right : List Int) (n : Nat) : List Int := (List.range (n + 1)).map (fun p : Nat => nu l right n p)
theorem nuL_len (l : List S32) (right : List Int) (n : Nat) : (nuL l right n).length = n + 1 := by simp [nuL]
theorem rd_nuL (l : List S32) (right : List Int) (n : Nat) (p : Int) (h0 : 0 ≤ p) (h1 : p ≤ n) : rd (nuL l right n) p = nu l right n p := by
 obtain ⟨q, rfl⟩ : ∃ q : Nat, p = q := ⟨p.toNat, by omega⟩
 simp [rd, nuL, List.getD_eq_getElem?_getD, show q < n + 1 by omega]
theorem rowI_nuL {l : List S32} {right : List Int} {n : Nat} {us : List Value} (h : RowI us (n + 1) (fun k => if k = 0 then 0 else SS (tab l right n) n (k - 1) n)) : us = (nuL l right n).map (Value.int .i64) := by
 apply List.ext_getElem?
 intro k
 by_cases hk : k < n + 1
 ·rw [h.2 k hk]
  simp only [nuL, List.map_map]
  rw [List.getElem?_map, List.getElem?_range hk]
  simp only [Option.map_some, Function.comp]
  by_cases e : k = 0
  ·subst e; rfl
  ·rw [if_neg e]
   unfold nu
   rw [if_neg (by omega)]
   rfl
 ·rw [List.getElem?_eq_none (by have := h.1; omega), List.getElem?_eq_none (by simp [nuL]; omega)]
theorem solveS2_any (n : Nat) (g0 : Nat) (l : List S32) (right : List Int) (hk : Ok n l right) (hn4 : n ≤ 4) (A : Option Addr) (c : Nat) (AR : Option Addr) (cR : Nat) (w : World)
  (hb : w.heap[g0]? = some (.cells #[.int .i64 ((n : Int) + 1), .slice A l.length c] 26 (0, 0))) (hr : Kd.C k32 w A l.length l) (hrr : Kd.C (Kd.int .i64) w AR right.length right) (hrl : right.length = n + 1) (hrs : ∀ i : Int, -2400 ≤ rd right i ∧ rd right i ≤ 2400) :
  Calls Try.prog 115 #[.pointer (some ⟨g0, 0, none⟩), .slice AR right.length cR] w fun e w' => ∃ v : Value, e = .returned (.tuple #[v, .int .i64 (den l n)]) ∧ T w.heap.size w' v (nuL l right n) ∧ Below w.heap.size w w' := by
 refine (solveS_any n hn4 g0 l hk.v A c AR cR right w hb hr hrr hrl (fun i => by have := hrs i; omega) (SS (tab l right n)) (LL (tab l right n)) (fun r k _ _ => rfl) rfl
  (fun c i k hc hi _ hne => SS_step _ c i k (by omega) (by omega) hne) (fun c k hc _ => SS_own _ c k (by omega)) (fun c hc => LL_succ _ c (by omega)) hk.pos hk.size).mono ?_
 rintro e w' ⟨b, cap, us, rfl, h1, h2, h3, h4⟩
 rw [hk.last]
 have e2 := rowI_nuL h3
 subst e2
 have := T.of_cb (B := w.heap.size) h2 h1
 rw [nuL_len] at this
 exact ⟨_, rfl, this, h4⟩
end Go.Proofs.Ytkafbmanmffliaa.Gv

/- The program's list: fractions as a denominator and numerators. -/
namespace Go.Proofs.Ytkafbmanmffliaa.Gw
open Go Go.RowKit YtkafbmanmffliaaW.PrintWords YtkafbmanmffliaaW.PrintLast YtkafbmanmffliaaW.PrintMore Q Dd Bi Bj Rt Ra Gd Ge Gi Hc
def lc (F : Nat → Rat) : Nat → Nat
 | 0 => 1
 | k + 1 => Nat.lcm (lc F k) (F k).den
theorem T.of_cb {B : Nat} {W : World} {g cap : Nat} {xs : List Int} (h : Cb W 2 g cap (xs.map (Value.int .i64))) (hB : B ≤ g) : T B W (.slice (some ⟨g, 0, none⟩) xs.length cap) xs := by
 obtain ⟨cs, h1, h2, h3, h4, h5, h6⟩ := h
 have ho : W.ownsRow B 2 1 (.slice (some ⟨g, 0, none⟩) xs.length cap) xs.length (encs (Value.int .i64) xs) :=
  ⟨by simp [encs], .inr ⟨g, cap, cs, rfl, hB, h1, by simpa using h3, h4, by simpa using h2, by simpa [encs] using h6⟩⟩
 exact Kd.R_of_own ho (fun _ _ => trivial)
def NumIn (wq wz : World) (b cap : Nat) (xs : List Int) : Prop := wq.heap.size ≤ b ∧ Cb wz 2 b cap (xs.map (Value.int .i64)) ∧ Below wq.heap.size wq wz
theorem NumIn.below {wq wz w1 : World} {b cap : Nat} {xs : List Int} (h : NumIn wq wz b cap xs) (hb : Below wz.heap.size wz w1) : NumIn wq w1 b cap xs := ⟨h.1, h.2.1.below hb, below_step h.2.2 hb⟩
theorem NumIn.new (wq : World) : NumIn wq (wq.alloc (.cells #[] 2)) wq.heap.size 0 [] := ⟨Nat.le_refl _, Cb.nil_new _ _, below_alloc (Below.refl _ _) _⟩
theorem NumIn.grow {wq wr w1 w2 : World} {b cap g1 cap1 : Nat} {xs : List Int} {z : Int} (h : NumIn wq wr b cap xs) (hb1 : Below wr.heap.size wr w1) (hc : Cb w2 2 g1 cap1 (xs.map (Value.int .i64) ++ [.int .i64 z])) (hat : g1 = b ∨ w1.heap.size ≤ g1) (hg : w1.grownBy w2 (some b)) :
  NumIn wq w2 g1 cap1 (xs ++ [z]) := by
 have h1 := h.below hb1
 have hs := h1.2.2.size
 refine ⟨?_, by rw [List.map_append]; exact hc, below_grownB h1.2.2 (Nat.le_refl _) hg h.1⟩
 have := h1.1
 rcases hat with e | e <;> omega
def numL (F : Nat → Rat) (L m : Nat) : List Int := (List.range m).map (fun k => (F k * ((L : Int) : Rat)).num)
end Go.Proofs.Ytkafbmanmffliaa.Gw

