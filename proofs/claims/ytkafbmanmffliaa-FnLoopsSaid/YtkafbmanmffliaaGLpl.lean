/- Parts of the proof that the law of this seat holds: Ke, Kf, Gt, Gu, Gx, Gy, Gv, Gw, Lo, Q89, Q90, Q98, Q99, Q100, Q101, Q102, Q103, Q18, Q21, Q22, PuS, Q11, Q94, Q95, Q96, Lo2, Q10, Q13, Q14, PuT. -/
import Derived.Test.YtkafbmanmffliaaGLpk
import Derived.Test.YtkafbmanmffliaaGLpi
import Derived.Test.YtkafbmanmffliaaGLpj
import Derived.Test.YtkafbmanmffliaaGLph
import Derived.Test.YtkafbmanmffliaaGLpa
set_option linter.unusedVariables false
set_option linter.unusedSimpArgs false
/- Plain: right sides of the equations: the sights' weighted rises, and one point against another. -/
namespace Go.Proofs.Ytkafbmanmffliaa.Ke
open Go Go.RowKit YtkafbmanmffliaaW.PrintWords Q Gs Hb Ka Kc
def ad (r : List Int) (t f c : Int) : List Int := (r.set t.toNat (rd r t + c)).set f.toNat (rd (r.set t.toNat (rd r t + c)) f - c)
theorem ad_len (r : List Int) (t f c : Int) : (ad r t f c).length = r.length := by simp [ad]
theorem rd_set {r : List Int} {t p v : Int} (h0 : 0 ≤ t) (h1 : t < r.length) (hp : 0 ≤ p) : rd (r.set t.toNat v) p = if p = t then v else rd r p := by
 simp only [rd, List.getD_eq_getElem?_getD]
 by_cases e : p = t
 ·subst e
  rw [if_pos rfl, List.getElem?_set_self (by omega)]
  rfl
 ·rw [if_neg e, List.getElem?_set_ne (by omega)]
theorem rd_ad {r : List Int} {t f c p : Int} (ht0 : 0 ≤ t) (ht : t < r.length) (hf0 : 0 ≤ f) (hf : f < r.length) (hp : 0 ≤ p) : rd (ad r t f c) p = rd r p + (if p = t then c else 0) - (if p = f then c else 0) := by
 unfold ad
 rw [rd_set hf0 (by simp; omega) hp, rd_set ht0 ht hf0, rd_set ht0 ht hp]
 by_cases e1 : p = f
 ·subst e1
  rw [if_pos rfl, if_pos rfl]
  by_cases e2 : p = t
  ·subst e2; rw [if_pos rfl, if_pos rfl]
  ·rw [if_neg e2, if_neg e2]; omega
 ·rw [if_neg e1, if_neg e1]
  by_cases e2 : p = t
  ·subst e2; rw [if_pos rfl, if_pos rfl]; omega
  ·rw [if_neg e2, if_neg e2]; omega
theorem pick0 (n : Nat) (t : Int) (ht : t ≤ 0 ∨ (n : Int) < t) (c : Rat) (y : Int → Rat) : sm (fun p : Nat => (if (p : Int) + 1 = t then c else 0) * (y ((p : Int) + 1) - y 0)) (List.range n) = 0 := by
 have h : sm (fun p : Nat => (if (p : Int) + 1 = t then c else 0) * (y ((p : Int) + 1) - y 0)) (List.range n) = sm (fun _ : Nat => (0 : Rat)) (List.range n) := sm_congr (fun p hp => by
  have := List.mem_range.1 hp
  rw [if_neg (by omega)]
  exact Rat.zero_mul _)
 rw [h, sm_zero]
theorem pick (n : Nat) (t : Int) (h0 : 0 ≤ t) (h1 : t ≤ n) (c : Rat) (y : Int → Rat) : sm (fun p : Nat => (if (p : Int) + 1 = t then c else 0) * (y ((p : Int) + 1) - y 0)) (List.range n) = c * (y t - y 0) := by
 by_cases e : t = 0
 ·subst e
  rw [pick0 n 0 (.inl (by omega))]
  grind
 ·induction n with
  | zero => omega
  | succ n ih =>
   rw [List.range_succ, sm_append]
   by_cases e2 : t = (n : Int) + 1
   ·rw [pick0 n t (.inr (by omega))]
    simp only [sm]
    rw [if_pos e2.symm, ← e2]
    grind
   ·rw [ih (by omega)]
    simp only [sm]
    rw [if_neg (by omega)]
    grind
theorem rs_ad {n : Nat} {r : List Int} {t f c : Int} (hl : r.length = n + 1) (ht0 : 0 ≤ t) (ht : t ≤ n) (hf0 : 0 ≤ f) (hf : f ≤ n) (y : Int → Rat) : rs (ad r t f c) n y = rs r n y + (c : Rat) * (y t - y f) := by
 have e : rs (ad r t f c) n y = sm (fun p : Nat => (rd r ((p : Int) + 1) : Rat) * (y ((p : Int) + 1) - y 0) + (if (p : Int) + 1 = t then (c : Rat) else 0) * (y ((p : Int) + 1) - y 0) - (if (p : Int) + 1 = f then (c : Rat) else 0) * (y ((p : Int) + 1) - y 0)) (List.range n) := by
  refine sm_congr (fun p _ => ?_)
  rw [rd_ad ht0 (by omega) hf0 (by omega) (by omega)]
  by_cases e1 : (p : Int) + 1 = t
  ·rw [if_pos e1, if_pos e1]
   by_cases e2 : (p : Int) + 1 = f
   ·rw [if_pos e2, if_pos e2]; push_cast; grind
   ·rw [if_neg e2, if_neg e2]; push_cast; grind
  ·rw [if_neg e1, if_neg e1]
   by_cases e2 : (p : Int) + 1 = f
   ·rw [if_pos e2, if_pos e2]; push_cast; grind
   ·rw [if_neg e2, if_neg e2]; push_cast; grind
 rw [e, sm_sub, sm_add, pick n t ht0 ht, pick n f hf0 hf]
 unfold rs
 grind
def stR (r : List Int) (s : S32) : List Int := ad r s.f1 s.f0 (s.f3 * s.f2)
def rgt (n : Nat) (l : List S32) : List Int := l.foldl stR (List.replicate (n + 1) 0)
def rco (n : Nat) (a b : Int) : List Int := ad (List.replicate (n + 1) 0) b a 1
theorem rd_zeros (n : Nat) (p : Int) : rd (List.replicate n (0 : Int)) p = 0 := by
 simp only [rd, List.getD_eq_getElem?_getD]
 by_cases h : p.toNat < n
 ·simp [h]
 ·rw [List.getElem?_eq_none (by simpa using Nat.le_of_not_lt h)]; rfl
theorem foldl_len (l : List S32) (r : List Int) : (l.foldl stR r).length = r.length := by
 induction l generalizing r with
 | nil => rfl
 | cons s t ih => rw [List.foldl_cons, ih]; exact ad_len _ _ _ _
theorem rgt_len (n : Nat) (l : List S32) : (rgt n l).length = n + 1 := by unfold rgt; rw [foldl_len]; simp
theorem mem_at {n : Nat} {l : List S32} (hv : surveyB ((n : Int) + 1) l = true) (s : S32) (hs : s ∈ l) : 0 ≤ s.f0 ∧ s.f0 ≤ n ∧ 0 ≤ s.f1 ∧ s.f1 ≤ n ∧ s.f0 ≠ s.f1 ∧ -100 ≤ s.f2 ∧ s.f2 ≤ 100 ∧ 1 ≤ s.f3 ∧ s.f3 ≤ 3 := by
 unfold surveyB at hv
 simp only [Bool.and_eq_true] at hv
 have hn := hv.1.1
 unfold Ha.inB at hn
 simp only [Bool.and_eq_true, decide_eq_true_eq] at hn
 have := List.all_eq_true.1 hv.2 _ hs
 unfold sightB Ha.inB at this
 simp only [Bool.and_eq_true, decide_eq_true_eq, Bool.not_eq_true', beq_eq_false_iff_ne] at this
 have e : wrap64 ((n : Int) + 1 - 1) = n := by unfold wrap64; omega
 rw [e] at this
 omega
theorem rs_fold {n : Nat} (l : List S32) (h : ∀ s ∈ l, 0 ≤ s.f0 ∧ s.f0 ≤ n ∧ 0 ≤ s.f1 ∧ s.f1 ≤ n) (r : List Int) (hl : r.length = n + 1) (y : Int → Rat) : rs (l.foldl stR r) n y = rs r n y + sm (fun s => ((s.f3 * s.f2 : Int) : Rat) * dif y s) l := by
 induction l generalizing r with
 | nil => simp only [List.foldl_nil, sm]; grind
 | cons s t ih =>
  have hs := h s (by simp)
  rw [List.foldl_cons, ih (fun u hu => h u (by simp [hu])) _ (by unfold stR; rw [ad_len]; exact hl)]
  unfold stR
  rw [rs_ad hl hs.2.2.1 hs.2.2.2 hs.1 hs.2.1]
  simp only [sm]
  unfold dif
  grind
theorem rs_zeros (n : Nat) (y : Int → Rat) : rs (List.replicate (n + 1) 0) n y = 0 := by
 unfold rs
 rw [show (fun p : Nat => (rd (List.replicate (n + 1) (0 : Int)) ((p : Int) + 1) : Rat) * (y ((p : Int) + 1) - y 0)) = fun _ => 0 from by
  funext p
  rw [rd_zeros]
  exact Rat.zero_mul _]
 exact sm_zero
theorem rs_rgt {n : Nat} {l : List S32} (hv : surveyB ((n : Int) + 1) l = true) (y : Int → Rat) : rs (rgt n l) n y = sm (fun s => ((s.f3 * s.f2 : Int) : Rat) * dif y s) l := by
 unfold rgt
 rw [rs_fold l (fun s hs => by have := mem_at hv s hs; omega) _ (by simp), rs_zeros]
 grind
theorem rd_out {r : List Int} {p : Int} (h : r.length ≤ p.toNat) : rd r p = 0 := by
 simp only [rd, List.getD_eq_getElem?_getD]
 rw [List.getElem?_eq_none h]; rfl
theorem rd_neg (r : List Int) {p : Int} (h : p ≤ 0) : rd r p = rd r 0 := by
 simp only [rd]
 rw [show p.toNat = (0 : Int).toNat by omega]
theorem rd_bound {r : List Int} {m : Int} (hm : 0 ≤ m) (h : ∀ p : Int, 0 ≤ p → p < r.length → -m ≤ rd r p ∧ rd r p ≤ m) (p : Int) : -m ≤ rd r p ∧ rd r p ≤ m := by
 by_cases h1 : r.length ≤ p.toNat
 ·rw [rd_out h1]; omega
 ·by_cases h2 : p ≤ 0
  ·rw [rd_neg r h2]; exact h 0 (by omega) (by omega)
  ·exact h p (by omega) (by omega)
theorem ad_size {r : List Int} {t f c m k : Int} (hk0 : 0 ≤ k) (hc : -k ≤ c ∧ c ≤ k) (hm : 0 ≤ m) (h : ∀ p : Int, -m ≤ rd r p ∧ rd r p ≤ m) (ht0 : 0 ≤ t) (ht : t < r.length) (hf0 : 0 ≤ f) (hf : f < r.length) (hne : t ≠ f) (p : Int) : -(m + k) ≤ rd (ad r t f c) p ∧ rd (ad r t f c) p ≤ m + k := by
 refine rd_bound (by omega) (fun q hq _ => ?_) p
 have := h q
 rw [rd_ad ht0 ht hf0 hf hq]
 split <;> split <;> omega
theorem fold_size {n : Nat} (l : List S32) (h : ∀ s ∈ l, 0 ≤ s.f0 ∧ s.f0 ≤ n ∧ 0 ≤ s.f1 ∧ s.f1 ≤ n ∧ s.f0 ≠ s.f1 ∧ -100 ≤ s.f2 ∧ s.f2 ≤ 100 ∧ 1 ≤ s.f3 ∧ s.f3 ≤ 3) (r : List Int) (hl : r.length = n + 1) (m : Int) (hm : 0 ≤ m) (hr : ∀ p : Int, -m ≤ rd r p ∧ rd r p ≤ m) (p : Int) :
  -(m + 300 * l.length) ≤ rd (l.foldl stR r) p ∧ rd (l.foldl stR r) p ≤ m + 300 * l.length := by
 induction l generalizing r m with
 | nil => simpa using hr p
 | cons s t ih =>
  have hs := h s (by simp)
  have hw : -300 ≤ s.f3 * s.f2 ∧ s.f3 * s.f2 ≤ 300 := by
   have c3 : s.f3 = 1 ∨ s.f3 = 2 ∨ s.f3 = 3 := by omega
   rcases c3 with e | e | e <;> rw [e] <;> omega
  have := ih (fun u hu => h u (by simp [hu])) (stR r s) (by unfold stR; rw [ad_len]; exact hl) (m + 300) (by omega) (fun q => ad_size (by omega) hw hm hr hs.2.2.1 (by omega) hs.1 (by omega) (by omega) q)
  rw [List.foldl_cons]
  simp only [List.length_cons]
  push_cast
  omega
theorem rgt_size {n : Nat} {l : List S32} (hv : surveyB ((n : Int) + 1) l = true) (p : Int) : -2400 ≤ rd (rgt n l) p ∧ rd (rgt n l) p ≤ 2400 := by
 have hl8 : l.length ≤ 8 := by
  have := hv
  unfold surveyB at this
  simp only [Bool.and_eq_true, decide_eq_true_eq] at this
  have := this.1.2
  omega
 have := fold_size l (mem_at hv) (List.replicate (n + 1) 0) (by simp) 0 (by omega) (fun p => by rw [rd_zeros]; omega) p
 unfold rgt
 omega
end Go.Proofs.Ytkafbmanmffliaa.Ke

/- Plain: connected surveys: the solution is one alone; the residuals; no other heights have a lesser sum of weighted squares; cofactors. -/
namespace Go.Proofs.Ytkafbmanmffliaa.Kf
open Go Go.RowKit YtkafbmanmffliaaW.PrintWords Q Gf Gs Hb Gm Gn Ka Kc Ke
theorem conn_v {n : Nat} {l : List S32} (hc : Gm.connB ((n : Int) + 1) l = true) : surveyB ((n : Int) + 1) l = true := by unfold Gm.connB at hc; simp only [Bool.and_eq_true] at hc; exact hc.1
theorem conn_n {n : Nat} {l : List S32} (hc : Gm.connB ((n : Int) + 1) l = true) : 1 ≤ n ∧ n ≤ 4 ∧ l.length ≤ 8 := by
 have hv := conn_v hc
 unfold surveyB Ha.inB at hv
 simp only [Bool.and_eq_true, decide_eq_true_eq] at hv
 have h1 := hv.1.1
 have h2 := hv.1.2
 omega
theorem conn_rat {n : Nat} {l : List S32} (hc : Gm.connB ((n : Int) + 1) l = true) {x : Int → Rat} (hx : ∀ s ∈ l, x s.f0 = x s.f1) (p : Int) (h0 : 0 ≤ p) (hp : p ≤ n) : x p = x 0 := by
 have hc' : Gm.connB ((n + 1 : Nat) : Int) l = true := by exact_mod_cast hc
 have h := conn_zero hc' (x := fun q => if x q = x p then 1 else 0) (fun k hk => by
  have hm : rd_T32 l k ∈ l := by simp only [rd_T32, Int.toNat_natCast]; rw [List.getD_eq_getElem?_getD, List.getElem?_eq_getElem hk]; simp
  rw [hx _ hm]) p.toNat (by omega)
 rw [Int.toNat_of_nonneg h0, if_pos rfl] at h
 by_cases e : x 0 = x p
 ·exact e.symm
 ·rw [if_neg e] at h; omega
theorem w_pos {n : Nat} {l : List S32} (hc : Gm.connB ((n : Int) + 1) l = true) : ∀ s ∈ l, (1 : Rat) ≤ (s.f3 : Rat) := fun s hs => by
 have := mem_at (conn_v hc) s hs
 exact_mod_cast this.2.2.2.2.2.2.2.1
theorem term_nonneg {w d : Rat} (hw : 1 ≤ w) : 0 ≤ w * (d * d) := Rat.mul_nonneg (by grind) (sq_nn d)
theorem term_zero {w d : Rat} (hw : 1 ≤ w) (h : w * (d * d) = 0) : d = 0 := by
 rcases Rat.mul_eq_zero.1 h with h | h
 ·grind
 ·exact sq_zero_r h
section
variable {n : Nat} {l : List S32} (hc : Gm.connB ((n : Int) + 1) l = true)
include hc
theorem B_nonneg (x : Int → Rat) : 0 ≤ B l x x := sm_nonneg (fun s hs => term_nonneg (w_pos hc s hs))
theorem B_zero {x : Int → Rat} (h : B l x x = 0) : ∀ s ∈ l, x s.f0 = x s.f1 := fun s hs => by
 have h1 := sm_zero_all (fun s hs => term_nonneg (d := dif x s) (w_pos hc s hs)) h s hs
 have := term_zero (w_pos hc s hs) h1
 unfold dif at this
 grind
theorem B_const {x : Int → Rat} (h : B l x x = 0) (p : Int) (h0 : 0 ≤ p) (hp : p ≤ n) : x p = x 0 := conn_rat hc (B_zero hc h) p h0 hp
theorem uniq {x x' : Int → Rat} (h : ∀ y, B l x y = B l x' y) (h0 : x 0 = x' 0) (p : Int) (hp0 : 0 ≤ p) (hp : p ≤ n) : x p = x' p := by
 have e : B l (fun p => x p - x' p) (fun p => x p - x' p) = 0 := by rw [B_sub, h]; grind
 have := B_const hc e p hp0 hp
 grind
end
def hts (n : Nat) (l : List S32) : Int → Rat := xs l (rgt n l) n
def cox (n : Nat) (l : List S32) (a b : Int) : Int → Rat := xs l (rco n a b) n
def res (n : Nat) (l : List S32) (s : S32) : Rat := (s.f2 : Rat) - dif (hts n l) s
def cof (n : Nat) (l : List S32) (a b : Int) : Rat := cox n l a b b - cox n l a b a
section
variable {n : Nat} {l : List S32} (hc : Gm.connB ((n : Int) + 1) l = true)
include hc
theorem ok_rgt : Ok n l (rgt n l) := ok (conn_n hc).2.1 hc _ (rgt_size (conn_v hc))
theorem adj (y : Int → Rat) : B l (hts n l) y = sm (fun s => ((s.f3 * s.f2 : Int) : Rat) * dif y s) l :=
 (weak (conn_n hc).2.1 (conn_n hc).1 (ok_rgt hc) y).trans (rs_rgt (conn_v hc) y)
theorem normal (y : Int → Rat) : sm (fun s => (s.f3 : Rat) * (res n l s * dif y s)) l = 0 := by
 have h := adj hc y
 have e : sm (fun s => (s.f3 : Rat) * (res n l s * dif y s)) l = sm (fun s => ((s.f3 * s.f2 : Int) : Rat) * dif y s) l - B l (hts n l) y := by
  unfold B
  rw [← sm_sub]
  refine sm_congr (fun s _ => ?_)
  unfold res
  push_cast
  grind
 rw [e, h]
 grind
end
end Go.Proofs.Ytkafbmanmffliaa.Kf

/- The program's adjusted heights: the right side is made, the equations are solved. -/
namespace Go.Proofs.Ytkafbmanmffliaa.Gt
open Go Go.RowKit YtkafbmanmffliaaW.PrintWords YtkafbmanmffliaaW.PrintLast YtkafbmanmffliaaW.PrintMore Q Bg Dd Bi Rt Ra Gd Gf Ge Hb Hc Gs Gn Kc Ke Kf
theorem mk28 (n : Nat) (hn : n ≤ 5) : ∀ W : World, (Instr.makeSlice 28 (.int .i64 (n : Int)) (.int .i64 (n : Int))).run Try.prog W = .ok (.slice (some ⟨W.heap.size, 0, none⟩) n n) (W.alloc (.cells (madeCells #[.int .i64 0] n) 2)) :=
 print_make_of 28 2 (.int .i64 0) 8 Try.underlying28 info2 rfl (by decide) n (by omega)
theorem T.made {B : Nat} (W : World) (n : Nat) (hn : n ≤ 5) (hB : B ≤ W.heap.size) : T B (W.alloc (.cells (madeCells #[.int .i64 0] n) 2)) (.slice (some ⟨W.heap.size, 0, none⟩) n n) (List.replicate n 0) := by
 have h := own_made_of (enc := Value.int .i64) (d := 0) W B 2 n hB (by omega)
 exact Kd.R_of_own (by simpa using h) (fun _ _ => trivial)
theorem solve_xs {n : Nat} {l : List S32} {right : List Int} (h : Ok n l right) {wq wz : World} {b cap : Nat} {us : List Value} (hr : RowIn wq wz b cap (n + 1) us (fun k => if k = 0 then 0 else gj (cst (tab l right n)) n (k - 1) n)) :
  RowIn wq wz b cap (n + 1) us (fun k => xs l right n k) := by
 refine hr.congr (fun k hk => ?_)
 by_cases e : k = 0
 ·subst e
  rw [if_pos rfl]
  exact (xs_zero l right n).symm
 ·rw [if_neg e, h.sol (k - 1) (by omega)]
  unfold xs nu
  rw [if_neg (by omega)]
  rfl
def rgtAt (n : Nat) (l : List S32) (i : Nat) : List Int := rgt n (l.take i)
theorem rgtAt_zero (n : Nat) (l : List S32) : rgtAt n l 0 = List.replicate (n + 1) 0 := by simp [rgtAt, rgt]
theorem rgtAt_all (n : Nat) (l : List S32) : rgtAt n l l.length = rgt n l := by simp [rgtAt]
theorem rgtAt_succ (n : Nat) (l : List S32) (i : Nat) (h : i < l.length) : rgtAt n l (i + 1) = stR (rgtAt n l i) (rd_T32 l i) := by
 unfold rgtAt rgt
 have e : l.take (i + 1) = l.take i ++ [rd_T32 l i] := by
  rw [List.take_succ_eq_append_getElem h]
  simp [rd_T32, h]
 rw [e, List.foldl_append]
 rfl
theorem rgtAt_len (n : Nat) (l : List S32) (i : Nat) : (rgtAt n l i).length = n + 1 := rgt_len _ _
theorem rgtAt_size {n : Nat} {l : List S32} (hv : surveyB ((n : Int) + 1) l = true) (i : Nat) (p : Int) : -2400 ≤ rd (rgtAt n l i) p ∧ rd (rgtAt n l i) p ≤ 2400 := by
 have hl8 : l.length ≤ 8 := by
  have := hv
  unfold surveyB at this
  simp only [Bool.and_eq_true, decide_eq_true_eq] at this
  have := this.1.2
  omega
 have := fold_size (l.take i) (fun s hs => mem_at hv s (List.mem_of_mem_take hs)) (List.replicate (n + 1) 0) (by simp) 0 (by omega) (fun p => by rw [rd_zeros]; omega) p
 have hl : (l.take i).length ≤ 8 := by simp; omega
 unfold rgtAt rgt
 omega
theorem T.drewN {B : Nat} {W : World} {v : Value} {xs : List Int} (h : T B W v xs) : T B W.drew v xs := h.below (below_drew (Below.refl _ _))
set_option maxHeartbeats 4000000 in
set_option maxRecDepth 100000 in
theorem adjusted_any (n : Nat) (l : List S32) (hc : Gm.connB ((n : Int) + 1) l = true) (A : Option Addr) (c : Nat) (w : World) (hr : Kd.C k32 w A l.length l) (hcl : l.length ≤ c) :
  Calls Try.prog 60 #[.agg #[.int .i64 ((n : Int) + 1), .slice A l.length c]] w fun e w' => ∃ (b cap : Nat) (us : List Value), e = .returned (.slice (some ⟨b, 0, none⟩) (n + 1) cap) ∧ RowIn w w' b cap (n + 1) us (fun k => hts n l k) := by
 have hu26 := Try.underlying26
 have hu32 := Try.underlying32
 have hn := conn_n hc
 have hn4 := hn.2.1
 have hl8 := hn.2.2
 have mk := mk28 (n + 1) (by omega)
 rw [show ((n + 1 : Nat) : Int) = (n : Int) + 1 by omega] at mk
 have hbx := below_alloc (Below.refl w.heap.size w) (SX ((n : Int) + 1) A l.length c)
 have HR := Aside0.mk (Kd.C_below hr hbx)
 have HX := Aside0.mk (heap_alloc_new w (SX ((n : Int) + 1) A l.length c))
 have HC := Aside0.mk hc
 have HV := Aside0.mk (conn_v hc)
 have HCL := Aside0.mk hcl
 clear hr hc hcl hn hbx
 go_enter Try.func60, Try.ntmps60
 go_wp2_with (fail)
 obtain ⟨W0, hW0⟩ : ∃ W0, W0 = w.alloc (SX ((n : Int) + 1) A l.length c) := ⟨_, rfl⟩
 have hs0 : W0.heap.size = w.heap.size + 1 := by rw [hW0]; simp
 rw [← hW0] at HR HX
 rw [← hW0]
 have HW0 := Aside0.mk hW0
 clear hW0 mk
 have t0 := Aside0.mk (T.made W0 (n + 1) (by omega) (Nat.le_refl W0.heap.size))
 have tb := Aside0.mk (below_alloc (Below.refl W0.heap.size W0) (.cells (madeCells #[.int .i64 0] (n + 1)) 2))
 obtain ⟨g, hg⟩ : ∃ g, g = w.heap.size + 1 := ⟨_, rfl⟩
 rw [← hg] at hs0
 rw [← hg]
 rw [hs0] at t0
 have HS0 := Aside0.mk (And.intro hs0 hg)
 clear hs0 hg
 go_loopw [12] (fun v12 wz => ∃ i : Nat, v12 = .int .i64 (i : Int) ∧ i ≤ l.length ∧ Aside0 (T g wz (.slice (some ⟨g, 0, none⟩) (n + 1) (n + 1)) (rgtAt n l i)) ∧ Aside0 (Below W0.heap.size W0 wz)) (fun v _ => l.length - (intOf v).toNat)
 case atStart => exact ⟨0, rfl, by omega, ⟨by rw [rgtAt_zero]; exact t0.out⟩, tb⟩
 case round =>
  clear t0 tb
  obtain ⟨i, rfl, hi, HT, HB⟩ := hrel
  by_cases hlt : i < l.length
  ·have p1 : decide ((i : Int) < (l.length : Int)) = true := decide_eq_true (by omega)
   obtain ⟨ad, e, x0, x1, x2, x3⟩ := at_T32 (Kd.C_below HR.out HB.out) (i : Int) (by omega) (by omega)
   subst e
   rw [Int.toNat_natCast] at x0 x1 x2 x3
   have hm : rd_T32 l i ∈ l := by simp only [rd_T32, Int.toNat_natCast]; rw [List.getD_eq_getElem?_getD, List.getElem?_eq_getElem hlt]; simp
   have hva := mem_at HV.out _ hm
   have HSU := Aside0.mk (rgtAt_succ n l i hlt)
   obtain ⟨s, hs⟩ : ∃ s, s = rd_T32 l i := ⟨_, rfl⟩
   rw [← hs] at x0 x1 x2 x3 hva HSU
   clear hs hm
   obtain ⟨f, t, ri, wt⟩ := s
   dsimp only at x0 x1 x2 x3 hva
   obtain ⟨y0, y1, y2, y3, y4, y5, y6, y7, y8⟩ := hva
   obtain ⟨f, rfl⟩ : ∃ q : Nat, f = q := ⟨f.toNat, by omega⟩
   obtain ⟨t, rfl⟩ : ∃ q : Nat, t = q := ⟨t.toNat, by omega⟩
   obtain ⟨r, hr⟩ : ∃ r, r = rgtAt n l i := ⟨_, rfl⟩
   have hrl : r.length = n + 1 := by rw [hr]; exact rgtAt_len n l i
   have hz : ∀ p : Int, -2400 ≤ rd r p ∧ rd r p ≤ 2400 := fun p => by rw [hr]; exact rgtAt_size HV.out i p
   rw [← hr] at HT HSU
   have hwr : -300 ≤ wt * ri ∧ wt * ri ≤ 300 := by
    have c3 : wt = 1 ∨ wt = 2 ∨ wt = 3 := by omega
    rcases c3 with e | e | e <;> rw [e] <;> omega
   obtain ⟨k, hk⟩ : ∃ k, k = wt * ri := ⟨_, rfl⟩
   rw [← hk] at hwr
   have hw1 : wrap64 (wt * ri) = k := by rw [← hk]; unfold wrap64; omega
   have HSU2 := Aside0.mk (show rgtAt n l (i + 1) = (r.set t (rd r (t : Int) + k)).set f (rd (r.set t (rd r (t : Int) + k)) (f : Int) - k) by rw [HSU.out, hk]; rfl)
   obtain ⟨v1, hv1⟩ : ∃ v1, v1 = rd r (t : Int) + k := ⟨_, rfl⟩
   have hzt := hz t
   have hw2 : wrap64 (rd r (t : Int) + k) = v1 := by rw [← hv1]; unfold wrap64; omega
   obtain ⟨r1, hr1⟩ : ∃ r1, r1 = r.set t v1 := ⟨_, rfl⟩
   have hzf := (ad_size (r := r) (t := t) (f := f) (m := 2400) (k := 0) (c := 0) (by omega) (by omega) (by omega) hz (by omega) (by omega) (by omega) (by omega) (by omega) f)
   have hzf1 : -2700 ≤ rd r1 (f : Int) ∧ rd r1 (f : Int) ≤ 2700 := by
    have e := rd_set (r := r) (t := t) (p := f) (v := v1) (by omega) (by omega) (by omega)
    rw [Int.toNat_natCast, ← hr1] at e
    rw [e]
    have := hz f
    split <;> omega
   obtain ⟨v2, hv2⟩ : ∃ v2, v2 = rd r1 (f : Int) - k := ⟨_, rfl⟩
   have hw3 : wrap64 (rd r1 (f : Int) - k) = v2 := by rw [← hv2]; unfold wrap64; omega
   have HSU3 := Aside0.mk (show rgtAt n l (i + 1) = r1.set f v2 by rw [HSU2.out, ← hv1, ← hr1, ← hv2])
   have HR1 := Aside0.mk hr1
   obtain ⟨vt, hvt⟩ : ∃ vt, vt = rd r (t : Int) := ⟨_, rfl⟩
   rw [← hvt] at hw2
   obtain ⟨vf, hvf⟩ : ∃ vf, vf = rd r1 (f : Int) := ⟨_, rfl⟩
   rw [← hvf] at hw3
   have HVT := Aside0.mk hvt
   have HVF := Aside0.mk hvf
   have HRL := Aside0.mk hrl
   clear hr hz hwr hk hv1 hv2 hzt hzf hzf1 hr1 hvt hvf hrl HSU HSU2
   have HBA := Aside0.mk (below_alloc (Below.refl wr.heap.size wr) (.cells #[.int .i64 (f : Int), .int .i64 (t : Int), .int .i64 ri, .int .i64 wt] 32))
   have HNA := Aside0.mk (heap_alloc_new wr (.cells #[.int .i64 (f : Int), .int .i64 (t : Int), .int .i64 ri, .int .i64 wt] 32))
   have HT1 := Aside0.mk (HT.out.below HBA.out)
   obtain ⟨z0, z1⟩ := HT1.out.cell t (by omega)
   rw [← HVT.out] at z0
   have i1 : (0 ≤ (t : Int)) = True := eq_true (by omega)
   have i2 : ((t : Int) < (n : Int) + 1) = True := eq_true (by omega)
   have i3 : (0 ≤ (f : Int)) = True := eq_true (by omega)
   have i4 : ((f : Int) < (n : Int) + 1) = True := eq_true (by omega)
   go_wp2_with (fail)
   go_region
   have hp1 := HT1.out.put t v1
   have hb1 := (HB.out.trans (HBA.out.mono (HB.out.size))).setCell (p := ⟨g, t, none⟩) (by show W0.heap.size ≤ g; rw [HS0.out.1]; exact Nat.le_refl _) (.int .i64 v1)
   rw [← HR1.out] at hp1
   have HT2 := Aside0.mk (hp1.1.below (below_drew (Below.refl _ _)))
   have HB2 := Aside0.mk (below_drew hb1)
   have hgs := HT.out.lt (k := g) rfl
   have HN2 := Aside0.mk (blk_drew (blk_grown HNA.out hp1.2 (by intro e; have := Option.some.inj e; omega)))
   clear hp1 hb1 hgs z0 z1
   obtain ⟨wa, hwa⟩ : ∃ wa, wa = ((wr.alloc (.cells #[.int .i64 (f : Int), .int .i64 (t : Int), .int .i64 ri, .int .i64 wt] 32)).setCell ⟨g, t, none⟩ (.int .i64 v1)).drew := ⟨_, rfl⟩
   rw [← hwa] at HT2 HB2 HN2
   rw [← hwa]
   clear hwa
   obtain ⟨z0, z1⟩ := HT2.out.cell f (by omega)
   rw [← HVF.out] at z0
   have k0 : wa.cell? ⟨wr.heap.size, 0, none⟩ = some (.int .i64 (f : Int)) := (blk_cell HN2.out 0).trans rfl
   have k2 : wa.cell? ⟨wr.heap.size, 2, none⟩ = some (.int .i64 ri) := (blk_cell HN2.out 2).trans rfl
   have k3 : wa.cell? ⟨wr.heap.size, 3, none⟩ = some (.int .i64 wt) := (blk_cell HN2.out 3).trans rfl
   go_wp2_with (fail)
   go_region
   have hp2 := HT2.out.put f v2
   have hb2 := HB2.out.setCell (p := ⟨g, f, none⟩) (by show W0.heap.size ≤ g; rw [HS0.out.1]; exact Nat.le_refl _) (.int .i64 v2)
   rw [← HSU3.out] at hp2
   have HT3 := Aside0.mk (hp2.1.below (below_drew (Below.refl _ _)))
   have HB3 := Aside0.mk (below_drew hb2)
   clear hp2 hb2
   go_wp2_with (fail)
   go_roundw
   case rel => exact ⟨i + 1, by go_num, by omega, HT3, HB3⟩
   case measure => simp [intOf]; omega
  ·obtain rfl : l.length = i := by omega
   have p1 : decide ((l.length : Int) < (l.length : Int)) = false := decide_eq_false (by omega)
   rw [rgtAt_all] at HT
   have hok := ok_rgt HC.out
   have hC : Kd.C (Kd.int .i64) wr (some ⟨g, 0, none⟩) (rgt n l).length (rgt n l) := (Kd.R_reads' HT.out).2.2
   have hsv := solve_any n hn4 l HV.out A c (some ⟨g, 0, none⟩) (n + 1) (rgt n l) wr (Kd.C_below HR.out HB.out) HCL.out hC (rgt_len n l) (fun i => by have := rgt_size HV.out i; omega) hok.piv
   rw [rgt_len] at hsv
   have HOK := Aside0.mk hok
   have hbk := blk_below HX.out HB.out
   have hcx : wr.cell? ⟨w.heap.size, 0, none⟩ = some (.int .i64 ((n : Int) + 1)) := (blk_cell hbk 0).trans rfl
   have hcy : wr.cell? ⟨w.heap.size, 1, none⟩ = some (.slice A l.length c) := (blk_cell hbk 1).trans rfl
   clear hok hC hbk
   go_wp2_with (fail)
   refine hsv.mono ?_
   rintro e w1 ⟨b, cap, us, rfl, h1⟩
   have H1 := Aside0.mk (solve_xs HOK.out h1)
   clear h1 hsv
   go_wp2_with (fail)
   go_ret
   exact ⟨b, cap, us, rfl, H1.out.outer (by rw [HW0.out]; exact below_alloc (Below.refl _ _) _) HB.out⟩
end Go.Proofs.Ytkafbmanmffliaa.Gt

/- The program's residuals, cofactors, redundancies and weighted squares: rows of fractions. -/
namespace Go.Proofs.Ytkafbmanmffliaa.Gu
open Go Go.RowKit YtkafbmanmffliaaW.PrintWords YtkafbmanmffliaaW.PrintLast YtkafbmanmffliaaW.PrintMore Q Bg Dd Bi Rt Rx Ra Gd Ge Gi Hc Gs Gn Kc Ke Kf Gt
theorem RowIn.growF {wq wr w1 w2 : World} {b cap j pb g1 cap1 : Nat} {us : List Value} {F : Nat → Rat} {x : Rat} (h : RowIn wq wr b cap j us F) (hb1 : Below wr.heap.size wr w1) (hx : RI w1 pb x)
  (hc : Cb w2 74 g1 cap1 (us ++ [.pointer (some ⟨pb, 0, none⟩)])) (hat : g1 = b ∨ w1.heap.size ≤ g1) (hg : w1.grownBy w2 (some b)) (e : x = F j) : RowIn wq w2 g1 cap1 (j + 1) (us ++ [.pointer (some ⟨pb, 0, none⟩)]) F := by
 refine (h.grow hb1 hx hc hat hg).congr (fun k hk => ?_)
 show (if k = j then _ else _) = _
 by_cases e2 : k = j
 ·rw [if_pos e2, e2]; exact e
 ·rw [if_neg e2]
theorem sm31 {z : Int} (h : -2147483648 < z ∧ z < 2147483648) : Sm 31 (z : Rat) := by
 have e : (2 : Nat) ^ 31 = 2147483648 := by decide
 refine Sm.int ?_ (by omega)
 rw [e]
 omega
theorem sm_xs {n : Nat} (hn4 : n ≤ 4) {l : List S32} {right : List Int} (h : Ok n l right) (p : Int) (h0 : 0 ≤ p) (hp : p ≤ n) : Sm 31 (xs l right n p) := by
 have hd := h.pos n (Nat.le_refl _)
 rw [h.last] at hd
 have hd2 : den l n ≤ 1073741824 := by
  rw [← h.last]
  by_cases e : n = 0
  ·subst e; show (1 : Int) ≤ _; decide
  ·obtain ⟨m, rfl⟩ : ∃ m, n = m + 1 := ⟨n - 1, by omega⟩
   rw [LL_succ _ m (by omega)]
   exact (h.size m m m (by omega) (by omega) (by omega)).2
 have e31 : (2 : Nat) ^ 31 = 2147483648 := by decide
 have hn : (nu l right n p).natAbs < 2 ^ 31 := by
  rw [e31]
  unfold nu
  split
  ·decide
  ·have := h.size n (p.toNat - 1) n (Nat.le_refl _) (by omega) (Nat.le_refl _)
   omega
 have := Sm.divInt (a := nu l right n p) (b := den l n) (by omega) hn (by rw [e31]; omega)
 unfold xs
 rw [Rat.divInt_eq_div] at this
 exact this
set_option maxHeartbeats 8000000 in
set_option maxRecDepth 100000 in
theorem residuals_any (n : Nat) (l : List S32) (hc : Gm.connB ((n : Int) + 1) l = true) (A : Option Addr) (c : Nat) (w : World) (hr : Kd.C k32 w A l.length l) (hcl : l.length ≤ c) :
  Calls Try.prog 61 #[.agg #[.int .i64 ((n : Int) + 1), .slice A l.length c]] w fun e w' => ∃ (b cap : Nat) (us : List Value), e = .returned (.slice (some ⟨b, 0, none⟩) l.length cap) ∧ RowIn w w' b cap l.length us (fun k => res n l (rd_T32 l k)) := by
 have hu26 := Try.underlying26
 have hu32 := Try.underlying32
 have hu24 := Try.underlying24
 have hu69 := Try.underlying69
 have hn := conn_n hc
 have hn4 := hn.2.1
 have hl8 := hn.2.2
 have hbx := below_alloc (Below.refl w.heap.size w) (SX ((n : Int) + 1) A l.length c)
 have HR := Aside0.mk (Kd.C_below hr hbx)
 have HX := Aside0.mk (heap_alloc_new w (SX ((n : Int) + 1) A l.length c))
 have HC := Aside0.mk hc
 have HV := Aside0.mk (conn_v hc)
 have HCL := Aside0.mk hcl
 clear hr hc hcl hn hbx
 have hadj := adjusted_any n l HC.out A c (w.alloc (SX ((n : Int) + 1) A l.length c)) HR.out HCL.out
 have HS31 := Aside0.mk (fun p h0 hp => sm_xs hn4 (ok_rgt HC.out) p h0 hp)
 go_enter Try.func61, Try.ntmps61
 go_wp2_with (go_at_call 60; (with_reducible refine hadj.mono ?_); rintro e w1 ⟨bH, capH, usH, rfl, hH⟩; have HH := Aside0.mk hH; have HX1 := Aside0.mk (blk_below HX.out hH.2.2.2); have HR1 := Aside0.mk (Kd.C_below HR.out hH.2.2.2); have cx : (w1.alloc (.cells #[] 74)).cell? ⟨w.heap.size, 1, none⟩ = some (.slice A l.length c) := (blk_cell (blk_alloc HX1.out _) 1).trans rfl; clear hH hadj)
 obtain ⟨wq, rfl⟩ : ∃ wq, wq = w1 := ⟨_, rfl⟩
 have t0 := Aside0.mk (RowIn.new wq (fun k => res n l (rd_T32 l k)))
 clear cx
 go_loopw [4, 13] (fun v4 v13 wz => ∃ (i b cap2 : Nat) (us : List Value), v4 = .slice (some ⟨b, 0, none⟩) i cap2 ∧ v13 = .int .i64 (i : Int) ∧ i ≤ l.length ∧ Aside0 (RowIn wq wz b cap2 i us (fun k => res n l (rd_T32 l k)))) (fun _ v _ => l.length - (intOf v).toNat)
 case atStart => exact ⟨0, _, 0, [], rfl, rfl, by omega, t0⟩
 case round =>
  clear t0
  obtain ⟨i, b, cap2, us, rfl, rfl, hi, HI⟩ := hrel
  by_cases hlt : i < l.length
  ·have p1 : decide ((i : Int) < (l.length : Int)) = true := decide_eq_true (by omega)
   obtain ⟨ad, e, x0, x1, x2, x3⟩ := at_T32 (Kd.C_below HR1.out (below_weaken (Below.refl _ _) (Nat.le_refl _) HI.out.2.2.2)) (i : Int) (by omega) (by omega)
   subst e
   rw [Int.toNat_natCast] at x0 x1 x2 x3
   have hm : rd_T32 l i ∈ l := by simp only [rd_T32, Int.toNat_natCast]; rw [List.getD_eq_getElem?_getD, List.getElem?_eq_getElem hlt]; simp
   have hva := mem_at HV.out _ hm
   have HRES := Aside0.mk (show res n l (rd_T32 l i) = ((rd_T32 l i).f2 : Rat) - hts n l (rd_T32 l i).f1 + hts n l (rd_T32 l i).f0 from by unfold res dif; grind)
   obtain ⟨s, hs⟩ : ∃ s, s = rd_T32 l i := ⟨_, rfl⟩
   rw [← hs] at x0 x1 x2 x3 hva HRES
   have HS := Aside0.mk hs
   clear hs hm
   obtain ⟨f, t, ri, wt⟩ := s
   dsimp only at x0 x1 x2 x3 hva HRES
   obtain ⟨y0, y1, y2, y3, y4, y5, y6, y7, y8⟩ := hva
   obtain ⟨f, rfl⟩ : ∃ q : Nat, f = q := ⟨f.toNat, by omega⟩
   obtain ⟨t, rfl⟩ : ∃ q : Nat, t = q := ⟨t.toNat, by omega⟩
   have hba := below_alloc (Below.refl wr.heap.size wr) (.cells #[.int .i64 (f : Int), .int .i64 (t : Int), .int .i64 ri, .int .i64 wt] 32)
   have hna := heap_alloc_new wr (.cells #[.int .i64 (f : Int), .int .i64 (t : Int), .int .i64 ri, .int .i64 wt] 32)
   have hH := HH.out.below (below_step HI.out.2.2.2 hba)
   obtain ⟨pt, e0, e1, hpt⟩ := row_at hH.2.1 hH.2.2.1 (show t < n + 1 by omega)
   obtain ⟨pf, e2, e3, hpf⟩ := row_at hH.2.1 hH.2.2.1 (show f < n + 1 by omega)
   have HPT := Aside0.mk hpt
   have HPF := Aside0.mk hpf
   have HT31 := Aside0.mk (HS31.out t (by omega) (by omega))
   have HF31 := Aside0.mk (HS31.out f (by omega) (by omega))
   have i1 : (0 ≤ (t : Int)) = True := eq_true (by omega)
   have i2 : ((t : Int) < (n : Int) + 1) = True := eq_true (by omega)
   have i3 : (0 ≤ (f : Int)) = True := eq_true (by omega)
   have i4 : ((f : Int) < (n : Int) + 1) = True := eq_true (by omega)
   have r0 : -9223372036854775808 ≤ ri := by omega
   have r1 : ri ≤ 9223372036854775807 := by omega
   have HRI := Aside0.mk (show Sm 31 ((ri : Int) : Rat) from sm31 (by omega))
   obtain ⟨wa, hwa⟩ : ∃ wa, wa = wr.alloc (.cells #[.int .i64 (f : Int), .int .i64 (t : Int), .int .i64 ri, .int .i64 wt] 32) := ⟨_, rfl⟩
   rw [← hwa] at hba hna e0 e2 HPT HPF
   have c0 : wa.cell? ⟨wr.heap.size, 0, none⟩ = some (.int .i64 (f : Int)) := (blk_cell hna 0).trans rfl
   have c1 : wa.cell? ⟨wr.heap.size, 1, none⟩ = some (.int .i64 (t : Int)) := (blk_cell hna 1).trans rfl
   have c2 : wa.cell? ⟨wr.heap.size, 2, none⟩ = some (.int .i64 ri) := (blk_cell hna 2).trans rfl
   have HI := Aside0.mk (HI.out.below hba)
   clear hH hpt hpf hna hba e1 e3
   go_wp2_with (fail)
   rw [← hwa]
   clear hwa x0 x1 x2 x3
   have HXF := Aside0.mk (show ((ri : Int) : Rat) - hts n l (t : Int) + hts n l (f : Int) = res n l (rd_T32 l i) by rw [← HS.out, HRES.out])
   refine start_ (n:=19) (S := fun w' => w'.cell? ⟨wr.heap.size, 0, none⟩ = some (.int .i64 (f : Int)) ∧ w'.cell? ⟨wr.heap.size, 1, none⟩ = some (.int .i64 (t : Int)) ∧ w'.cell? ⟨wr.heap.size, 2, none⟩ = some (.int .i64 ri) ∧ w'.cell? ⟨bH, t, none⟩ = some (.pointer (some ⟨pt, 0, none⟩)) ∧ w'.cell? ⟨bH, f, none⟩ = some (.pointer (some ⟨pf, 0, none⟩))) (ds:=[17]) #[false,false,false,false,false,false,false,false,false,false,false,false,false,false,false,false,false,false,false] (by kernel_rfl) rfl rfl ⟨c0, c1, c2, e0, e2⟩ (fun hHeld => ?_)
   refine pure_ (i:=0) (N:=some 17) (v:=?_) (a':=?_) #[true,false,false,false,false,false,false,false,false,false,false,false,false,false,false,false,false,false,false] rfl rfl (by kernel_rfl) (fun _ _ _ h => h) (Or.inl ⟨by rfl, ?_⟩) ?_ ?_
   rotate_left
   ·intro w'
    go_simp
    with_reducible rfl
   rotate_left
   ·simp only [Act.put, List.setIfInBounds_toArray, List.set_cons_zero, List.set_cons_succ, i64_w, i32_w]
    rfl
   refine pure_ (i:=1) (N:=some 18) (v:=?_) (a':=?_) #[true,true,false,false,false,false,false,false,false,false,false,false,false,false,false,false,false,false,false] rfl rfl (by kernel_rfl) (fun _ _ _ h => h) (Or.inl ⟨by rfl, ?_⟩) ?_ ?_
   rotate_left
   ·intro w'
    go_simp
    with_reducible rfl
   rotate_left
   ·simp only [Act.put, List.setIfInBounds_toArray, List.set_cons_zero, List.set_cons_succ, i64_w, i32_w]
    rfl
   refine pure_ (i:=4) (N:=some 21) (v:=?_) (a':=?_) #[true,true,false,false,true,false,false,false,false,false,false,false,false,false,false,false,false,false,false] rfl rfl (by kernel_rfl) (fun _ _ _ h => h) (Or.inl ⟨by rfl, ?_⟩) ?_ ?_
   rotate_left
   ·intro w'
    go_simp
    with_reducible rfl
   rotate_left
   ·simp only [Act.put, List.setIfInBounds_toArray, List.set_cons_zero, List.set_cons_succ, i64_w, i32_w]
    rfl
   refine pure_ (i:=5) (N:=some 22) (v:=?_) (a':=?_) #[true,true,false,false,true,true,false,false,false,false,false,false,false,false,false,false,false,false,false] rfl rfl (by kernel_rfl) (fun _ _ _ h => h) (Or.inl ⟨by rfl, ?_⟩) ?_ ?_
   rotate_left
   ·intro w'
    go_simp
    with_reducible rfl
   rotate_left
   ·simp only [Act.put, List.setIfInBounds_toArray, List.set_cons_zero, List.set_cons_succ, i64_w, i32_w]
    rfl
   refine pure_ (i:=10) (N:=some 27) (v:=?_) (a':=?_) #[true,true,false,false,true,true,false,false,false,false,true,false,false,false,false,false,false,false,false] rfl rfl (by kernel_rfl) (fun _ _ _ h => h) (Or.inl ⟨by rfl, ?_⟩) ?_ ?_
   rotate_left
   ·intro w'
    go_simp
    with_reducible rfl
   rotate_left
   ·simp only [Act.put, List.setIfInBounds_toArray, List.set_cons_zero, List.set_cons_succ, i64_w, i32_w]
    rfl
   refine pure_ (i:=11) (N:=some 28) (v:=?_) (a':=?_) #[true,true,false,false,true,true,false,false,false,false,true,true,false,false,false,false,false,false,false] rfl rfl (by kernel_rfl) (fun _ _ _ h => h) (Or.inl ⟨by rfl, ?_⟩) ?_ ?_
   rotate_left
   ·intro w'
    go_simp
    with_reducible rfl
   rotate_left
   ·simp only [Act.put, List.setIfInBounds_toArray, List.set_cons_zero, List.set_cons_succ, i64_w, i32_w]
    rfl
   refine take_ (i:=2) (N:=some 19) (v:=?_) (a':=?_) #[true,true,true,false,true,true,false,false,false,false,true,true,false,false,false,false,false,false,false] rfl rfl (by kernel_rfl) (fun _ _ _ h => h) (Or.inl ⟨by rfl, ?_⟩) hHeld ?_ ?_
   rotate_left
   ·rintro w' ⟨s0, s1, s2, s3, s4⟩
    go_simp
    with_reducible rfl
   rotate_left
   ·simp only [Act.put, List.setIfInBounds_toArray, List.set_cons_zero, List.set_cons_succ, i64_w, i32_w]
    rfl
   refine take_ (i:=6) (N:=some 23) (v:=?_) (a':=?_) #[true,true,true,false,true,true,true,false,false,false,true,true,false,false,false,false,false,false,false] rfl rfl (by kernel_rfl) (fun _ _ _ h => h) (Or.inl ⟨by rfl, ?_⟩) hHeld ?_ ?_
   rotate_left
   ·rintro w' ⟨s0, s1, s2, s3, s4⟩
    go_simp
    with_reducible rfl
   rotate_left
   ·simp only [Act.put, List.setIfInBounds_toArray, List.set_cons_zero, List.set_cons_succ, i64_w, i32_w]
    rfl
   refine pure_ (i:=7) (N:=some 24) (v:=?_) (a':=?_) #[true,true,true,false,true,true,true,true,false,false,true,true,false,false,false,false,false,false,false] rfl rfl (by kernel_rfl) (fun _ _ _ h => h) (Or.inl ⟨by rfl, ?_⟩) ?_ ?_
   rotate_left
   ·intro w'
    go_simp
    with_reducible rfl
   rotate_left
   ·simp only [Act.put, List.setIfInBounds_toArray, List.set_cons_zero, List.set_cons_succ, i64_w, i32_w]
    rfl
   refine take_ (i:=8) (N:=some 25) (v:=?_) (a':=?_) #[true,true,true,false,true,true,true,true,true,false,true,true,false,false,false,false,false,false,false] rfl rfl (by kernel_rfl) (fun _ _ _ h => h) (Or.inl ⟨by rfl, ?_⟩) hHeld ?_ ?_
   rotate_left
   ·rintro w' ⟨s0, s1, s2, s3, s4⟩
    go_simp
    with_reducible rfl
   rotate_left
   ·simp only [Act.put, List.setIfInBounds_toArray, List.set_cons_zero, List.set_cons_succ, i64_w, i32_w]
    rfl
   refine take_ (i:=12) (N:=some 29) (v:=?_) (a':=?_) #[true,true,true,false,true,true,true,true,true,false,true,true,true,false,false,false,false,false,false] rfl rfl (by kernel_rfl) (fun _ _ _ h => h) (Or.inl ⟨by rfl, ?_⟩) hHeld ?_ ?_
   rotate_left
   ·rintro w' ⟨s0, s1, s2, s3, s4⟩
    go_simp
    with_reducible rfl
   rotate_left
   ·simp only [Act.put, List.setIfInBounds_toArray, List.set_cons_zero, List.set_cons_succ, i64_w, i32_w]
    rfl
   refine pure_ (i:=13) (N:=some 30) (v:=?_) (a':=?_) #[true,true,true,false,true,true,true,true,true,false,true,true,true,true,false,false,false,false,false] rfl rfl (by kernel_rfl) (fun _ _ _ h => h) (Or.inl ⟨by rfl, ?_⟩) ?_ ?_
   rotate_left
   ·intro w'
    go_simp
    with_reducible rfl
   rotate_left
   ·simp only [Act.put, List.setIfInBounds_toArray, List.set_cons_zero, List.set_cons_succ, i64_w, i32_w]
    rfl
   refine take_ (i:=14) (N:=some 31) (v:=?_) (a':=?_) #[true,true,true,false,true,true,true,true,true,false,true,true,true,true,true,false,false,false,false] rfl rfl (by kernel_rfl) (fun _ _ _ h => h) (Or.inl ⟨by rfl, ?_⟩) hHeld ?_ ?_
   rotate_left
   ·rintro w' ⟨s0, s1, s2, s3, s4⟩
    go_simp
    with_reducible rfl
   rotate_left
   ·simp only [Act.put, List.setIfInBounds_toArray, List.set_cons_zero, List.set_cons_succ, i64_w, i32_w]
    rfl
   refine one_ (i:=3) (N:=some 20) #[true,true,true,true,true,true,true,true,true,false,true,true,true,true,true,false,false,false,false] rfl rfl (by kernel_rfl) (by decide) (fun K_ hK => ?_)
   refine goes_ Try.func66 (by kernel_rfl) rfl #[.int .i64 ri] (by rfl) rfl rfl (by (try simp only [List.map_toArray, List.map_cons, List.map_nil]); first | done | rfl) ?_
   refine (whole_any ri _ r0 r1).mono ?_
   rintro e w1 ⟨pz1, rfl, hpz, hri, hb1⟩
   have HB1 := Aside0.mk (below_step (below_drew (Below.refl wa.heap.size wa)) hb1)
   have HZ1 := Aside0.mk hri
   have HO1 := Aside0.mk hb1
   clear hpz hri hb1
   refine ⟨_, rfl, ?_⟩
   refine hK.out _ _ (⟨(HB1.out.cell (World.block_lt_of_cell? _ _ c0)).trans c0, (HB1.out.cell (World.block_lt_of_cell? _ _ c1)).trans c1, (HB1.out.cell (World.block_lt_of_cell? _ _ c2)).trans c2, (HB1.out.cell (World.block_lt_of_cell? _ _ e0)).trans e0, (HB1.out.cell (World.block_lt_of_cell? _ _ e2)).trans e2⟩) (fun hHeld => ?_)
   clear hK K_
   refine norm_ (a':=?_) ?_ ?_
   rotate_left
   ·show Act.put _ (some 20) _ = _
    simp only [Act.put, List.setIfInBounds_toArray, List.set_cons_zero, List.set_cons_succ, i64_w, i32_w]
    rfl
   refine one_ (i:=9) (N:=some 26) #[true,true,true,true,true,true,true,true,true,true,true,true,true,true,true,false,false,false,false] rfl rfl (by kernel_rfl) (by decide) (fun K_ hK => ?_)
   refine goes_ Try.func65 (by kernel_rfl) rfl #[.pointer (some ⟨pz1, 0, none⟩), .pointer (some ⟨pt, 0, none⟩)] (by rfl) rfl rfl (by (try simp only [List.map_toArray, List.map_cons, List.map_nil]); first | done | rfl) ?_
   refine (ratMinus_any pz1 pt ((ri : Int) : Rat) (hts n l (t : Int)) 31 w1 HZ1.out (RI.below HPT.out HB1.out) (by omega) HRI.out HT31.out).mono ?_
   rintro e w2 ⟨pz2, rfl, hpz, hri, hb1⟩
   have HB2 := Aside0.mk (below_step HB1.out hb1)
   have HZ2 := Aside0.mk hri
   have HO2 := Aside0.mk hb1
   clear hpz hri hb1
   refine ⟨_, rfl, ?_⟩
   refine hK.out _ _ (⟨(HB2.out.cell (World.block_lt_of_cell? _ _ c0)).trans c0, (HB2.out.cell (World.block_lt_of_cell? _ _ c1)).trans c1, (HB2.out.cell (World.block_lt_of_cell? _ _ c2)).trans c2, (HB2.out.cell (World.block_lt_of_cell? _ _ e0)).trans e0, (HB2.out.cell (World.block_lt_of_cell? _ _ e2)).trans e2⟩) (fun hHeld => ?_)
   clear hK K_
   refine norm_ (a':=?_) ?_ ?_
   rotate_left
   ·show Act.put _ (some 26) _ = _
    simp only [Act.put, List.setIfInBounds_toArray, List.set_cons_zero, List.set_cons_succ, i64_w, i32_w]
    rfl
   refine one_ (i:=15) (N:=some 32) #[true,true,true,true,true,true,true,true,true,true,true,true,true,true,true,true,false,false,false] rfl rfl (by kernel_rfl) (by decide) (fun K_ hK => ?_)
   refine goes_ Try.func68 (by kernel_rfl) rfl #[.pointer (some ⟨pz2, 0, none⟩), .pointer (some ⟨pf, 0, none⟩)] (by rfl) rfl rfl (by (try simp only [List.map_toArray, List.map_cons, List.map_nil]); first | done | rfl) ?_
   refine (ratPlus_any pz2 pf (((ri : Int) : Rat) - hts n l (t : Int)) (hts n l (f : Int)) 63 w2 HZ2.out (RI.below HPF.out HB2.out) (by omega) (Sm.sub HRI.out HT31.out) (Sm.mono (by omega) HF31.out)).mono ?_
   rintro e w3 ⟨pz3, rfl, hpz, hri, hb1⟩
   have HB3 := Aside0.mk (below_step HB2.out hb1)
   have HZ3 := Aside0.mk hri
   have HO3 := Aside0.mk hb1
   clear hpz hri hb1
   refine ⟨_, rfl, ?_⟩
   refine hK.out _ _ (⟨(HB3.out.cell (World.block_lt_of_cell? _ _ c0)).trans c0, (HB3.out.cell (World.block_lt_of_cell? _ _ c1)).trans c1, (HB3.out.cell (World.block_lt_of_cell? _ _ c2)).trans c2, (HB3.out.cell (World.block_lt_of_cell? _ _ e0)).trans e0, (HB3.out.cell (World.block_lt_of_cell? _ _ e2)).trans e2⟩) (fun hHeld => ?_)
   clear hK K_
   refine norm_ (a':=?_) ?_ ?_
   rotate_left
   ·show Act.put _ (some 32) _ = _
    simp only [Act.put, List.setIfInBounds_toArray, List.set_cons_zero, List.set_cons_succ, i64_w, i32_w]
    rfl
   refine one_ (i:=16) (N:=some 33) #[true,true,true,true,true,true,true,true,true,true,true,true,true,true,true,true,true,false,false] rfl rfl (by kernel_rfl) (by decide) (fun K_ hK => ?_)
   refine value_ (v := .slice (some ⟨w3.heap.size, 0, none⟩) 1 1) (w1 := w3.alloc (.cells #[.pointer (some ⟨pz3, 0, none⟩)] 74)) (by rfl) rfl ?_ ?_
   ·go_simp
    first | done | exact ⟨rfl, rfl⟩ | rfl
   have HBA := Aside0.mk (below_step HB3.out (below_alloc (Below.refl w3.heap.size w3) (.cells #[.pointer (some ⟨pz3, 0, none⟩)] 74)))
   have HCA := Aside0.mk ((blk_cell (heap_alloc_new w3 (.cells #[.pointer (some ⟨pz3, 0, none⟩)] 74)) 0).trans rfl)
   have HZA := Aside0.mk (RI.below HZ3.out (below_alloc (Below.refl w3.heap.size w3) (.cells #[.pointer (some ⟨pz3, 0, none⟩)] 74)))
   refine hK.out _ _ (⟨(HBA.out.cell (World.block_lt_of_cell? _ _ c0)).trans c0, (HBA.out.cell (World.block_lt_of_cell? _ _ c1)).trans c1, (HBA.out.cell (World.block_lt_of_cell? _ _ c2)).trans c2, (HBA.out.cell (World.block_lt_of_cell? _ _ e0)).trans e0, (HBA.out.cell (World.block_lt_of_cell? _ _ e2)).trans e2⟩) (fun hHeld => ?_)
   clear hK K_
   refine norm_ (a':=?_) ?_ ?_
   rotate_left
   ·show Act.put _ (some 33) _ = _
    simp only [Act.put, List.setIfInBounds_toArray, List.set_cons_zero, List.set_cons_succ, i64_w, i32_w]
    rfl
   refine last_ (i:=17) (N:=some 34) #[true,true,true,true,true,true,true,true,true,true,true,true,true,true,true,true,true,true,false] rfl rfl (by kernel_rfl) (by decide) (fun K_ hK => ?_)
   refine Cb.append_step (by rfl) (.tmp 17) (.tmp 33) 69 74 (.pointer none) 8 rfl Try.underlying69 info74 rfl (Pv.ptr _) (by decide) b cap2 w3.heap.size i us (.pointer (some ⟨pz3, 0, none⟩)) HI.out.len rfl rfl HCA.out rfl (Pv.ptr _) (HI.out.below HBA.out).2.1 (by rw [HI.out.len]; omega) ?_
   intro g1 cap1 w9 h1 h2 h3
   have HN := Aside0.mk (RowIn.growF HI.out HBA.out HZA.out h1 h2 h3 HXF.out)
   clear h1 h2 h3
   refine hK.out _ _ ?_
   clear hK K_
   refine norm_ (a':=?_) ?_ ?_
   rotate_left
   ·show Act.put _ (some 34) _ = _
    simp only [Act.put, List.setIfInBounds_toArray, List.set_cons_zero, List.set_cons_succ, i64_w, i32_w]
    rfl
   refine pure_ (i:=18) (N:=some 4) (v:=?_) (a':=?_) #[true,true,true,true,true,true,true,true,true,true,true,true,true,true,true,true,true,true,true] rfl rfl (by kernel_rfl) (fun _ _ _ h => h) (Or.inl ⟨by rfl, ?_⟩) ?_ ?_
   rotate_left
   ·intro w'
    go_simp
    with_reducible rfl
   rotate_left
   ·simp only [Act.put, List.setIfInBounds_toArray, List.set_cons_zero, List.set_cons_succ, i64_w, i32_w]
    rfl
   refine done_ (by kernel_rfl) ?_
   go_wp2_with (fail)
   go_roundw
   case rel => exact ⟨i + 1, g1, cap1, _, by go_num, by go_num, by omega, HN⟩
   case measure => simp [intOf]; omega
  ·obtain rfl : l.length = i := by omega
   have p1 : decide ((l.length : Int) < (l.length : Int)) = false := decide_eq_false (by omega)
   go_wp2_with (fail)
   go_ret
   exact ⟨b, cap2, us, rfl, HI.out.outer (below_alloc (Below.refl _ _) _) HH.out.2.2.2⟩
end Go.Proofs.Ytkafbmanmffliaa.Gu

/- The program's cofactor of two points. -/
namespace Go.Proofs.Ytkafbmanmffliaa.Gx
open Go Go.RowKit YtkafbmanmffliaaW.PrintWords YtkafbmanmffliaaW.PrintLast YtkafbmanmffliaaW.PrintMore Q Hc
end Go.Proofs.Ytkafbmanmffliaa.Gx

/- The program's redundancies. -/
namespace Go.Proofs.Ytkafbmanmffliaa.Gy
open Go Go.RowKit YtkafbmanmffliaaW.PrintWords YtkafbmanmffliaaW.PrintLast YtkafbmanmffliaaW.PrintMore Q Kf
def red (n : Nat) (l : List S32) (s : S32) : Rat := ((1 : Int) : Rat) - (s.f3 : Rat) * cof n l s.f0 s.f1
end Go.Proofs.Ytkafbmanmffliaa.Gy

/- The reference's l10Solve, its numbers told by minors, as an own row. -/
namespace Go.Proofs.Ytkafbmanmffliaa.Gv
open Go Go.RowKit YtkafbmanmffliaaW.PrintWords YtkafbmanmffliaaW.PrintLast YtkafbmanmffliaaW.PrintMore Q Gd Ge Gi Hc Gl Kc
theorem T.of_cb {B : Nat} {W : World} {g cap : Nat} {xs : List Int} (h : Cb W 2 g cap (xs.map (Value.int .i64))) (hB : B ≤ g) : T B W (.slice (some ⟨g, 0, none⟩) xs.length cap) xs := by
 obtain ⟨cs, h1, h2, h3, h4, h5, h6⟩ := h
 have ho : W.ownsRow B 2 1 (.slice (some ⟨g, 0, none⟩) xs.length cap) xs.length (encs (Value.int .i64) xs) :=
  ⟨by simp [encs], .inr ⟨g, cap, cs, rfl, hB, h1, by simpa using h3, h4, by simpa using h2, by simpa [encs] using h6⟩⟩
 exact Kd.R_of_own ho (fun _ _ => trivial)
def nuL (l : List S32) (right : List Int) (n : Nat) : List Int := (List.range (n + 1)).map (fun p : Nat => nu l right n p)
theorem nuL_len (l : List S32) (right : List Int) (n : Nat) : (nuL l right n).length = n + 1 := by simp [nuL]
end Go.Proofs.Ytkafbmanmffliaa.Gv

/- The program's list: fractions as a denominator and numerators. -/
namespace Go.Proofs.Ytkafbmanmffliaa.Gw
open Go Go.RowKit YtkafbmanmffliaaW.PrintWords YtkafbmanmffliaaW.PrintLast YtkafbmanmffliaaW.PrintMore Q Bg Dd Bi Bj Bk Bm Bn Rt Ru Rx Ra Gd Ge Gi Hc
def lc (F : Nat → Rat) : Nat → Nat
 | 0 => 1
 | k + 1 => Nat.lcm (lc F k) (F k).den
theorem lc_dvd {F : Nat → Rat} {m D : Nat} (h : ∀ k, k < m → (F k).den ∣ D) (k : Nat) (hk : k ≤ m) : lc F k ∣ D := by
 induction k with
 | zero => exact Nat.one_dvd _
 | succ k ih => exact Nat.lcm_dvd (ih (by omega)) (h k (by omega))
theorem lcm_step (a b : Nat) (hb : 0 < b) : (a : Int) * ((b : Int).tdiv ((Int.gcd (a : Int) (b : Int) : Nat) : Int)) = (Nat.lcm a b : Nat) := by
 rw [Int.gcd_natCast_natCast, Int.tdiv_eq_ediv_of_nonneg (by omega)]
 have hg : 0 < Nat.gcd a b := Nat.gcd_pos_of_pos_right a hb
 obtain ⟨q, hq⟩ := Nat.gcd_dvd_right a b
 have e : Nat.lcm a b = a * q := by
  unfold Nat.lcm
  generalize Nat.gcd a b = g at *
  subst hq
  rw [Nat.mul_left_comm]
  exact Nat.mul_div_cancel_left _ hg
 rw [e]
 generalize Nat.gcd a b = g at *
 subst hq
 push_cast
 rw [Int.mul_ediv_cancel_left _ (by omega)]
theorem T.of_cb {B : Nat} {W : World} {g cap : Nat} {xs : List Int} (h : Cb W 2 g cap (xs.map (Value.int .i64))) (hB : B ≤ g) : T B W (.slice (some ⟨g, 0, none⟩) xs.length cap) xs := by
 obtain ⟨cs, h1, h2, h3, h4, h5, h6⟩ := h
 have ho : W.ownsRow B 2 1 (.slice (some ⟨g, 0, none⟩) xs.length cap) xs.length (encs (Value.int .i64) xs) :=
  ⟨by simp [encs], .inr ⟨g, cap, cs, rfl, hB, h1, by simpa using h3, h4, by simpa using h2, by simpa [encs] using h6⟩⟩
 exact Kd.R_of_own ho (fun _ _ => trivial)
def NumIn (wq wz : World) (b cap : Nat) (xs : List Int) : Prop := wq.heap.size ≤ b ∧ Cb wz 2 b cap (xs.map (Value.int .i64)) ∧ Below wq.heap.size wq wz
theorem NumIn.below {wq wz w1 : World} {b cap : Nat} {xs : List Int} (h : NumIn wq wz b cap xs) (hb : Below wz.heap.size wz w1) : NumIn wq w1 b cap xs := ⟨h.1, h.2.1.below hb, below_step h.2.2 hb⟩
theorem NumIn.new (wq : World) : NumIn wq (wq.alloc (.cells #[] 2)) wq.heap.size 0 [] := ⟨Nat.le_refl _, Cb.nil_new _ _, below_alloc (Below.refl _ _) _⟩
theorem NumIn.grow {wq wr w1 w2 : World} {b cap g1 cap1 : Nat} {xs : List Int} {z : Int} (h : NumIn wq wr b cap xs) (hb1 : Below wr.heap.size wr w1) (hc : Cb w2 2 g1 cap1 (xs.map (Value.int .i64) ++ [.int .i64 z])) (hat : g1 = b ∨ w1.heap.size ≤ g1) (hg : w1.grownBy w2 (some b)) :
  NumIn wq w2 g1 cap1 (xs ++ [z]) := by
 have h1 := h.below hb1
 have hs := h1.2.2.size
 refine ⟨?_, by rw [List.map_append]; exact hc, below_grownB h1.2.2 (Nat.le_refl _) hg h.1⟩
 have := h1.1
 rcases hat with e | e <;> omega
def numL (F : Nat → Rat) (L m : Nat) : List Int := (List.range m).map (fun k => (F k * ((L : Int) : Rat)).num)
theorem numL_succ (F : Nat → Rat) (L m : Nat) : numL F L (m + 1) = numL F L m ++ [(F m * ((L : Int) : Rat)).num] := by simp [numL, List.range_succ]
theorem numL_len (F : Nat → Rat) (L m : Nat) : (numL F L m).length = m := by simp [numL]
set_option maxHeartbeats 8000000 in
set_option maxRecDepth 100000 in
theorem list_any (b cap m : Nat) (us : List Value) (F : Nat → Rat) (D : Nat) (w : World) (hC : Cb w 74 b cap us) (hF : RowF w us m F) (hm8 : m ≤ 8) (hD0 : 0 < D) (hD : D < 2 ^ 62) (hdv : ∀ k, k < m → (F k).den ∣ D) (hsm : ∀ k, k < m → Sm 62 (F k)) (hn : ∀ k, k < m → (F k * ((lc F m : Int) : Rat)).num.natAbs < 2 ^ 63) :
  Calls Try.prog 59 #[.slice (some ⟨b, 0, none⟩) m cap] w fun e w' => ∃ v : Value, e = .returned (.tuple #[.int .i64 (lc F m : Nat), v]) ∧ T w.heap.size w' v (numL F (lc F m) m) ∧ Below w.heap.size w w' := by
 have hu69 := Try.underlying69
 have hlc : ∀ k, k ≤ m → lc F k < 2 ^ 62 := fun k hk => Nat.lt_of_le_of_lt (Nat.le_of_dvd hD0 (lc_dvd hdv k hk)) hD
 have HCC := Aside0.mk hC
 have HF := Aside0.mk hF
 have HLC := Aside0.mk hlc
 have HSM := Aside0.mk hsm
 have HNN := Aside0.mk hn
 clear hC hF hlc hsm hn hdv hD hD0
 go_enter Try.func59, Try.ntmps59
 go_wp2_with (fail)
 refine (newBig_any 1 w (by decide) (by decide)).mono ?_
 rintro e w1 ⟨p1, rfl, hp1, hbi, hrec, hb1⟩
 have HB1 := Aside0.mk (show BI w1 p1 0 ((lc F 0 : Nat) : Int) from hbi)
 have HW1 := Aside0.mk hb1
 clear hp1 hbi hrec hb1
 go_wp2_with (fail)
 go_loopw [4, 14] (fun v4 v14 wz => ∃ (i p : Nat), v4 = .pointer (some ⟨p, 0, none⟩) ∧ v14 = .int .i64 (i : Int) ∧ i ≤ m ∧ Aside0 (BI wz p 0 ((lc F i : Nat) : Int)) ∧ Aside0 (Below w.heap.size w wz)) (fun _ v _ => m - (intOf v).toNat)
 case atStart => exact ⟨0, p1, rfl, rfl, by omega, HB1, HW1⟩
 case round =>
  clear HB1 HW1
  obtain ⟨i, p, rfl, rfl, hi, HB, HW⟩ := hrel
  by_cases hlt : i < m
  ·have q1 : decide ((i : Int) < (m : Int)) = true := decide_eq_true (by omega)
   obtain ⟨px, c0, c1, hpx⟩ := row_at (HCC.out.below HW.out) (HF.out.par (Par.of_below HW.out)) hlt
   have HPX := Aside0.mk hpx
   have HS := Aside0.mk (HSM.out i hlt)
   have HL := Aside0.mk (HLC.out i (by omega))
   have hba := below_alloc (Below.refl wr.heap.size wr) ZB
   have hc1 := denom_any px (F i) 62 (wr.alloc ZB) (hpx.below hba) (by decide) HS.out
   have HBA := Aside0.mk hba
   have i1 : (0 ≤ (i : Int)) = True := eq_true (by omega)
   have i2 : ((i : Int) < (m : Int)) = True := eq_true (by omega)
   clear hpx hba
   go_wp2_with (fail)
   refine hc1.mono ?_
   rintro e w1 ⟨q1, rfl, g1, g2, g3, g4⟩
   have H1 := Aside0.mk g2
   have HB1 := Aside0.mk (HBA.out.trans (g4.mono (by rw [World.size_alloc]; omega)))
   have hc2 := gcd_any wr.heap.size 0 p 0 q1 0 ((lc F i : Nat) : Int) ((F i).den : Int) 62 w1 (HB.out.below HB1.out) g2 ((Rec.new wr).below g4) (by decide) (by have := HL.out; omega) (by have := HS.out.2; omega)
   have HR1 := Aside0.mk ((Rec.new wr).below g4)
   clear g1 g2 g3 g4 hc1 HBA
   go_wp2_with (fail)
   refine hc2.mono ?_
   rintro e w2 ⟨rfl, hp⟩
   have HG := Aside0.mk (hp.bi HR1.out)
   have HB2 := Aside0.mk (HB1.out.trans (hp.below (Nat.le_refl _) HB1.out.size))
   clear hp hc2
   have HBA := Aside0.mk (below_alloc (below_alloc (Below.refl w2.heap.size w2) ZB) ZB)
   have HRA := Aside0.mk ((Rec.new w2).below (below_alloc (Below.refl (w2.alloc ZB).heap.size (w2.alloc ZB)) ZB))
   have hc1 := denom_any px (F i) 62 ((w2.alloc ZB).alloc ZB) (HPX.out.below (below_step HB2.out HBA.out)) (by decide) HS.out
   have hsz : (w2.alloc ZB).heap.size = w2.heap.size + 1 := World.size_alloc _ _
   have hsz2 : ((w2.alloc ZB).alloc ZB).heap.size = w2.heap.size + 1 + 1 := by rw [World.size_alloc, hsz]
   go_wp2_with (fail)
   refine hc1.mono ?_
   rintro e w3 ⟨q3, rfl, g1, g2, g3, g4⟩
   have HQ3 := Aside0.mk g2
   have HB3 := Aside0.mk (HBA.out.trans (g4.mono (by rw [hsz2]; omega)))
   have HR23 := Aside0.mk (HRA.out.below g4)
   have HR25 := Aside0.mk ((Rec.new (w2.alloc ZB)).below g4)
   rw [hsz] at HR25
   have hgp : 0 < Int.gcd ((lc F i : Nat) : Int) ((F i).den : Int) := by
    rw [Int.gcd_natCast_natCast]
    exact Nat.gcd_pos_of_pos_right _ (F i).den_pos
   have hgl : Int.gcd ((lc F i : Nat) : Int) ((F i).den : Int) < 2 ^ 62 := by
    rw [Int.gcd_natCast_natCast]
    exact Nat.lt_of_le_of_lt (Nat.le_of_dvd (F i).den_pos (Nat.gcd_dvd_right _ _)) HS.out.2
   have hst := lcm_step (lc F i) (F i).den (F i).den_pos
   obtain ⟨G, hG⟩ : ∃ G, G = Int.gcd ((lc F i : Nat) : Int) ((F i).den : Int) := ⟨_, rfl⟩
   rw [← hG] at hst hgp hgl HG
   have hc2 := quo_any (w2.heap.size + 1) 0 q3 0 wr.heap.size 0 (w2.heap.size + 1) ((F i).den : Int) (G : Int) 62 w3 g2 (HG.out.below HB3.out) HR25.out (Nat.le_refl _) (by decide) (by have := HS.out.2; omega) (by omega) (by omega)
   have hqs : (((F i).den : Int).tdiv (G : Int)).natAbs < 2 ^ 62 := by
    rw [Int.tdiv_eq_ediv_of_nonneg (by omega), ← Int.natCast_ediv, Int.natAbs_natCast]
    exact Nat.lt_of_le_of_lt (Nat.div_le_self _ _) HS.out.2
   obtain ⟨qt, hqt⟩ : ∃ qt, qt = ((F i).den : Int).tdiv (G : Int) := ⟨_, rfl⟩
   rw [← hqt] at hst hqs hc2
   have HQS := Aside0.mk (And.intro hst hqs)
   clear g1 g2 g3 g4 hc1 HBA HRA hG hgp hgl hst hqs hqt
   go_wp2_with (fail)
   refine hc2.mono ?_
   rintro e w4 ⟨rfl, g1, g2, g3⟩
   have hs23 : w2.heap.size + 1 ≤ w3.heap.size := by have := HB3.out.size; have := HR23.out.lt; have := HR25.out.lt; omega
   have HB4 := Aside0.mk (HB3.out.trans (g3.mono (by omega)))
   have HR4 := Aside0.mk (show Rec w4 w2.heap.size 0 by
    obtain ⟨cs, T, n0, A0, k0, c0, e1, e2⟩ := HR23.out
    exact ⟨cs, T, n0, A0, k0, c0, (g3.block _ (by omega)).trans e1, e2⟩)
   have hc1 := mul_any w2.heap.size 0 p 0 (w2.heap.size + 1) 0 ((lc F i : Nat) : Int) qt 62 w4 (HB.out.below (below_step HB2.out HB4.out)) g1 HR4.out (by decide) (by have := HL.out; omega) HQS.out.2
   clear g1 g2 g3 hc2 hs23
   go_wp2_with (fail)
   refine hc1.mono ?_
   rintro e w5 ⟨rfl, hp⟩
   have HM := Aside0.mk (hp.bi HR4.out)
   have HB5 := Aside0.mk (HB4.out.trans (hp.below (Nat.le_refl _) HB4.out.size))
   clear hp hc1
   go_wp2_with (fail)
   go_roundw
   case rel => exact ⟨i + 1, w2.heap.size, rfl, by go_num, by omega, ⟨by have h := HM.out; rw [HQS.out.1] at h; exact h⟩, ⟨below_step HW.out (below_step HB2.out HB5.out)⟩⟩
   case measure => simp [intOf]; omega
  ·obtain rfl : m = i := by omega
   have q1 : decide ((m : Int) < (m : Int)) = false := decide_eq_false (by omega)
   go_wp2_with (fail)
   obtain ⟨wq, rfl⟩ : ∃ wq, wq = wr := ⟨_, rfl⟩
   have hba := below_alloc (Below.refl wq.heap.size wq) (.cells #[] 2)
   have HT := Aside0.mk (show NumIn wq (wq.alloc (.cells #[] 2)) wq.heap.size 0 (numL F (lc F m) 0) from NumIn.new wq)
   clear hba
   obtain ⟨L, hL⟩ : ∃ L, L = lc F m := ⟨_, rfl⟩
   have HL := Aside0.mk (show L < 2 ^ 62 by rw [hL]; exact HLC.out m (Nat.le_refl _))
   have HL2 := Aside0.mk (show ∀ k, k < m → (F k * ((L : Int) : Rat)).num.natAbs < 2 ^ 63 by rw [hL]; exact HNN.out)
   rw [← hL] at HT HB
   have HLE := Aside0.mk hL
   have HSL := Aside0.mk (show Sm 62 ((L : Int) : Rat) from Sm.int (i := 62) (by have := HL.out; omega) (by decide))
   clear hL
   go_loopw [8, 35] (fun v8 v35 wz => ∃ (i g cg : Nat), v8 = .slice (some ⟨g, 0, none⟩) i cg ∧ v35 = .int .i64 (i : Int) ∧ i ≤ m ∧ Aside0 (NumIn wq wz g cg (numL F L i))) (fun _ v _ => m - (intOf v).toNat)
   case atStart => exact ⟨0, _, 0, rfl, rfl, by omega, HT⟩
   case round =>
    clear HT
    obtain ⟨i, g, cg, rfl, rfl, hi, HT⟩ := hrel
    by_cases hlt : i < m
    ·have q2 : decide ((i : Int) < (m : Int)) = true := decide_eq_true (by omega)
     have HQ := Aside0.mk HT.out.2.2
     obtain ⟨px, c0, c1, hpx⟩ := row_at (HCC.out.below (below_step HW.out HQ.out)) (HF.out.par (Par.of_below (below_step HW.out HQ.out))) hlt
     have HPX := Aside0.mk hpx
     have HS := Aside0.mk (HSM.out i hlt)
     have HN := Aside0.mk (HL2.out i hlt)
     have hba := below_alloc (Below.refl wr.heap.size wr) ZR
     have hc1 := setInt_any wr.heap.size p 0 wr.heap.size (L : Int) 62 (wr.alloc ZR) ((HB.out.below HQ.out).below hba) (RR.new wr) (Nat.le_refl _) (by decide) (by decide) (by have := HL.out; omega)
     have HBA := Aside0.mk hba
     have i1 : (0 ≤ (i : Int)) = True := eq_true (by omega)
     have i2 : ((i : Int) < (m : Int)) = True := eq_true (by omega)
     clear hpx hba
     go_wp2_with (fail)
     refine hc1.mono ?_
     rintro e w1 ⟨rfl, g1, g2⟩
     have HB1 := Aside0.mk (HBA.out.trans g2)
     have hc2 := ratTimes_any px wr.heap.size (F i) ((L : Int) : Rat) 62 w1 (HPX.out.below HB1.out) g1 (by decide) HS.out HSL.out
     clear g1 g2 hc1 HBA
     go_wp2_with (fail)
     refine hc2.mono ?_
     rintro e w2 ⟨p2, rfl, g1, g2, g3⟩
     have HB2 := Aside0.mk (below_step HB1.out g3)
     have hc1 := num_any p2 (F i * ((L : Int) : Rat)) 124 w2 g2 (by decide) (Sm.mul HS.out HSL.out)
     clear g1 g2 g3 hc2
     go_wp2_with (fail)
     refine hc1.mono ?_
     rintro e w3 ⟨p3, rfl, g1, g2, g3, g4⟩
     have HB3 := Aside0.mk (below_step HB2.out g4)
     obtain ⟨z, hz⟩ : ∃ z, z = (F i * ((L : Int) : Rat)).num := ⟨_, rfl⟩
     rw [← hz] at HN g2
     have e63 : (2 : Nat) ^ 63 = 9223372036854775808 := by decide
     have hc2 := int64_any p3 0 z w3 g2 (by have := HN.out; omega) (by have := HN.out; omega)
     have HZ := Aside0.mk hz
     clear g1 g2 g3 g4 hc1 hz e63
     go_wp2_with (fail)
     refine hc2.mono ?_
     rintro e w4 ⟨rfl, g1⟩
     have HB4 := Aside0.mk (below_step HB3.out g1)
     clear g1 hc2
     have hba := below_alloc (Below.refl w4.heap.size w4) (.cells #[.int .i64 z] 2)
     have HBA := Aside0.mk (below_step HB4.out hba)
     clear hba
     go_wp2_with ((with_reducible refine gate_builtin (b := .append) (xs := #[.tmp 39, .tmp 47]) rfl ?_); at_builtin; refine Cb.append rfl (.tmp 39) (.tmp 47) 28 2 (.int .i64 0) 8 rfl Try.underlying28 info2 rfl (Pv.i64 _) (by decide) g cg i _ (.int .i64 z) (by rw [List.length_map, numL_len]) rfl rfl rfl (Pv.i64 _) (HT.out.below HB4.out).2.1 (by rw [List.length_map, numL_len]; omega) ?_; intro g1 cap1 w5 h1 h2 h3; have HT5 := Aside0.mk (HT.out.grow HB4.out h1 h2 h3); clear h1 h2 h3)
     rw [HZ.out, ← numL_succ] at HT5
     go_roundw
     case rel => exact ⟨i + 1, g1, cap1, by go_num, by go_num, by omega, HT5⟩
     case measure => simp [intOf]; omega
    ·obtain rfl : m = i := by omega
     have q2 : decide ((m : Int) < (m : Int)) = false := decide_eq_false (by omega)
     have e62 : (2 : Nat) ^ 62 = 4611686018427387904 := by decide
     have hc1 := int64_any p 0 (L : Int) wr (HB.out.below HT.out.2.2) (by have := HL.out; omega) (by have := HL.out; omega)
     clear e62
     go_wp2_with (fail)
     refine hc1.mono ?_
     rintro e w1 ⟨rfl, g1⟩
     have HG := Aside0.mk g1
     clear g1 hc1
     go_wp2_with (fail)
     go_ret2
     have h := HT.out.below HG.out
     have ht := T.of_cb (B := w.heap.size) h.2.1 (Nat.le_trans HW.out.size h.1)
     rw [numL_len] at ht
     refine ⟨_, ?_, by rw [← HLE.out]; exact ht, below_step HW.out h.2.2⟩
     rw [← HLE.out]
     rfl
end Go.Proofs.Ytkafbmanmffliaa.Gw

/- Plain: numbers over one denominator in lowest terms: the least common multiple of the fractions' denominators is the denominator by the greatest common divisor of all. No seat: nothing is imported. -/
namespace Go.Proofs.Ytkafbmanmffliaa.Lo
theorem div_dvd {g L m : Nat} (hg : g ∣ L) (h : L ∣ m * g) (hg0 : 0 < g) : L / g ∣ m := by
 obtain ⟨q, rfl⟩ := hg
 rw [Nat.mul_div_cancel_left q hg0]
 rw [Nat.mul_comm m g] at h
 exact (Nat.mul_dvd_mul_iff_left hg0).1 h
theorem dvd_mul_of_div {g L m : Nat} (hg : g ∣ L) (hg0 : 0 < g) (h : L / g ∣ m) : L ∣ m * g := by
 obtain ⟨q, rfl⟩ := hg
 rw [Nat.mul_div_cancel_left q hg0] at h
 rw [Nat.mul_comm m g]
 exact Nat.mul_dvd_mul_left g h
theorem lcm_div {g h L : Nat} (hL : 0 < L) (hg : g ∣ L) (hh : h ∣ L) : Nat.lcm (L / g) (L / h) = L / Nat.gcd g h := by
 have g0 := Nat.pos_of_dvd_of_pos hg hL
 have h0 := Nat.pos_of_dvd_of_pos hh hL
 have k0 : 0 < Nat.gcd g h := Nat.gcd_pos_of_pos_left h g0
 have hk : Nat.gcd g h ∣ L := Nat.dvd_trans (Nat.gcd_dvd_left g h) hg
 apply Nat.dvd_antisymm
 ·apply Nat.lcm_dvd
  ·refine div_dvd hg ?_ g0
   obtain ⟨q, hq⟩ := Nat.gcd_dvd_left g h
   have := dvd_mul_of_div hk k0 (Nat.dvd_refl (L / Nat.gcd g h))
   have e : L / Nat.gcd g h * g = L / Nat.gcd g h * Nat.gcd g h * q := by rw [Nat.mul_assoc, ← hq]
   rw [e]
   exact Nat.dvd_trans this (Nat.dvd_mul_right _ _)
  ·refine div_dvd hh ?_ h0
   obtain ⟨q, hq⟩ := Nat.gcd_dvd_right g h
   have := dvd_mul_of_div hk k0 (Nat.dvd_refl (L / Nat.gcd g h))
   have e : L / Nat.gcd g h * h = L / Nat.gcd g h * Nat.gcd g h * q := by rw [Nat.mul_assoc, ← hq]
   rw [e]
   exact Nat.dvd_trans this (Nat.dvd_mul_right _ _)
 ·refine div_dvd hk ?_ k0
  have a := dvd_mul_of_div hg g0 (Nat.dvd_lcm_left (L / g) (L / h))
  have b := dvd_mul_of_div hh h0 (Nat.dvd_lcm_right (L / g) (L / h))
  have c := Nat.dvd_gcd a b
  rwa [Nat.gcd_mul_left] at c
def gcdAll (g : Nat) (S : List Int) : Nat := S.foldl (fun d s => Nat.gcd d s.natAbs) g
def lcmAll (L b : Nat) (S : List Int) : Nat := S.foldl (fun b s => Nat.lcm b (mkRat s L).den) b
theorem lcm_gcd {L : Nat} (hL : 0 < L) : ∀ (S : List Int) (g : Nat), g ∣ L → lcmAll L (L / g) S = L / gcdAll g S := by
 intro S
 induction S with
 | nil => intro g _; rfl
 | cons s t ih =>
  intro g hg
  have e : Nat.lcm (L / g) (mkRat s L).den = L / Nat.gcd g s.natAbs := by
   rw [Rat.den_mkRat, if_neg (by omega), lcm_div hL hg (Nat.gcd_dvd_left _ _)]
   congr 1
   rw [← Nat.gcd_assoc, Nat.gcd_eq_left hg]
  show lcmAll L (Nat.lcm (L / g) (mkRat s L).den) t = L / gcdAll (Nat.gcd g s.natAbs) t
  rw [e]
  exact ih _ (Nat.dvd_trans (Nat.gcd_dvd_left _ _) hg)
theorem gcd_dvd : ∀ (S : List Int) (g : Nat), gcdAll g S ∣ g ∧ ∀ s ∈ S, gcdAll g S ∣ s.natAbs := by
 intro S
 induction S with
 | nil => intro g; exact ⟨Nat.dvd_refl g, fun s hs => by cases hs⟩
 | cons s t ih =>
  intro g
  obtain ⟨h1, h2⟩ := ih (Nat.gcd g s.natAbs)
  refine ⟨Nat.dvd_trans h1 (Nat.gcd_dvd_left _ _), fun x hx => ?_⟩
  rcases List.mem_cons.1 hx with rfl | hx
  ·exact Nat.dvd_trans h1 (Nat.gcd_dvd_right _ _)
  ·exact h2 x hx
theorem num_eq {L : Nat} (hL : 0 < L) (S : List Int) (s : Int) (hs : s ∈ S) : mkRat s L * ((L / gcdAll L S : Nat) : Rat) = ((s / (gcdAll L S : Int) : Int) : Rat) := by
 obtain ⟨h1, h2⟩ := gcd_dvd S L
 have g0 := Nat.pos_of_dvd_of_pos h1 hL
 obtain ⟨q, hq⟩ := h1
 have h3 : (gcdAll L S : Int) ∣ s := Int.natAbs_dvd_natAbs.1 (by simpa using h2 s hs)
 obtain ⟨r, hr⟩ := h3
 generalize gcdAll L S = G at *
 subst hr
 rw [Int.mul_ediv_cancel_left _ (by omega), hq, Nat.mul_div_cancel_left q g0, Rat.mkRat_eq_div]
 have hG : ((G : Nat) : Rat) ≠ 0 := by
  intro h
  have : G = 0 := by exact_mod_cast h
  omega
 have hq0 : q ≠ 0 := by rintro rfl; omega
 have hQ : ((q : Nat) : Rat) ≠ 0 := by
  intro h
  exact hq0 (by exact_mod_cast h)
 push_cast
 grind
end Go.Proofs.Ytkafbmanmffliaa.Lo

namespace Go.Proofs.Ytkafbmanmffliaa.Q
open Go.RowKit YtkafbmanmffliaaW.PrintWords YtkafbmanmffliaaW.PrintLast YtkafbmanmffliaaW.PrintMore
attribute [local go_sem] max2_int min2_int max_two min_two max_three min_three max_four min_four
def laws_szSightS.f (l0 : List (S121)) (a1 : Int) : Option (Int) := if (wrap64 (a1 - (l0.length : Int))) < 0 then (some (-1)) else (some (wrap64 (a1 - (l0.length : Int))))
end Go.Proofs.Ytkafbmanmffliaa.Q

namespace Go.Proofs.Ytkafbmanmffliaa.Q
open Go.RowKit YtkafbmanmffliaaW.PrintWords YtkafbmanmffliaaW.PrintLast YtkafbmanmffliaaW.PrintMore
attribute [local go_sem] max2_int min2_int max_two min_two max_three min_three max_four min_four
def laws_szSurvey.f (a0_0 : Int) (l0_1 : List (S121)) (a1 : Int) : Option (Int) := (laws_szSightS.f l0_1 a1).bind fun t373 => (if t373 < 0 then (some (-1)) else (some t373))
end Go.Proofs.Ytkafbmanmffliaa.Q

namespace Go.Proofs.Ytkafbmanmffliaa.Q
open Go.RowKit YtkafbmanmffliaaW.PrintWords YtkafbmanmffliaaW.PrintLast YtkafbmanmffliaaW.PrintMore
attribute [local go_sem] max2_int min2_int max_two min_two max_three min_three max_four min_four
def laws_toSight.f (a0_0 : Int) (a0_1 : Int) (a0_2 : Int) (a0_3 : Int) : Option (Int × Int × Int × Int) := some (a0_0, a0_1, a0_2, a0_3)
end Go.Proofs.Ytkafbmanmffliaa.Q

namespace Go.Proofs.Ytkafbmanmffliaa.Q
open Go.RowKit YtkafbmanmffliaaW.PrintWords YtkafbmanmffliaaW.PrintLast YtkafbmanmffliaaW.PrintMore
attribute [local go_sem] max2_int min2_int max_two min_two max_three min_three max_four min_four
def laws_toSightS.l0 : Nat → List (S121) → List (S32) → Int → Option ((List (S32)))
 | 0, _, _, _ => none
 | k + 1, x0, x3, x4 => if x4 < (x0.length : Int) then (if 0 ≤ x4 then ((laws_toSight.f ((rd_T121 x0 x4).f0) ((rd_T121 x0 x4).f1) ((rd_T121 x0 x4).f2) ((rd_T121 x0 x4).f3)).bind fun bt431 => (if x4 < (x3.length : Int) then (laws_toSightS.l0 k x0 (x3.set (x4 : Int).toNat (⟨bt431.1, bt431.2.1, bt431.2.2.1, bt431.2.2.2⟩ : S32)) (wrap64 (x4 + 1))) else (none))) else (none)) else (some x3)
def laws_toSightS.f (k : Nat) (l0 : List (S121)) : Option ((List (S32))) := if 0 ≤ (l0.length : Int) then (if ((l0.length : Int) : Int).toNat ≤ 8796093022208 then (laws_toSightS.l0 k l0 (List.replicate ((l0.length : Int) : Int).toNat z32) 0) else (none)) else (none)
theorem laws_toSightS.mono_l : ∀ k, (∀ y0 y1 y2, LeO (laws_toSightS.l0 k y0 y1 y2) (laws_toSightS.l0 (k + 1) y0 y1 y2))
 | 0 => fun _ _ _ r h => by simp [laws_toSightS.l0] at h
 | k + 1 => by
  have ih0 := laws_toSightS.mono_l k
  ·intro y0 y1 y2
   unfold laws_toSightS.l0
   repeat' first
   | (with_reducible exact ih0 _ _ _)
   | (with_reducible exact LeO.refl _)
   | (with_reducible exact LeO.none _)
   | (with_reducible refine LeO.ite ?_ ?_)
   | (with_reducible refine LeO.bind ?_ (fun _ => ?_))
   | exact ih0 _ _ _
   | exact LeO.none _
   | refine LeO.ite ?_ ?_
   | refine LeO.bind ?_ (fun _ => ?_)
theorem laws_toSightS.mono : ∀ a0 k, LeO (laws_toSightS.f k a0) (laws_toSightS.f (k + 1) a0) := by
 intro a0 k
 have ih0 := laws_toSightS.mono_l k
 unfold laws_toSightS.f
 repeat' first
   | (with_reducible exact ih0 _ _ _)
   | (with_reducible exact LeO.refl _)
   | (with_reducible exact LeO.none _)
   | (with_reducible refine LeO.ite ?_ ?_)
   | (with_reducible refine LeO.bind ?_ (fun _ => ?_))
   | exact ih0 _ _ _
   | exact LeO.none _
   | refine LeO.ite ?_ ?_
   | refine LeO.bind ?_ (fun _ => ?_)
end Go.Proofs.Ytkafbmanmffliaa.Q

namespace Go.Proofs.Ytkafbmanmffliaa.Q
open Go.RowKit YtkafbmanmffliaaW.PrintWords YtkafbmanmffliaaW.PrintLast YtkafbmanmffliaaW.PrintMore
attribute [local go_sem] max2_int min2_int max_two min_two max_three min_three max_four min_four
def laws_toSurvey.f (k : Nat) (a0_0 : Int) (l0_1 : List (S121)) : Option (Int × (List (S32))) := (laws_toSightS.f k l0_1).bind fun t439 => (some (a0_0, t439))
theorem laws_toSurvey.mono : ∀ a0 a1 k, LeO (laws_toSurvey.f k a0 a1) (laws_toSurvey.f (k + 1) a0 a1) := by
 intro a0 a1 k
 unfold laws_toSurvey.f
 repeat' first
   | (with_reducible exact laws_toSightS.mono _ _)
   | (with_reducible exact LeO.refl _)
   | (with_reducible exact LeO.none _)
   | (with_reducible refine LeO.ite ?_ ?_)
   | (with_reducible refine LeO.bind ?_ (fun _ => ?_))
   | exact laws_toSightS.mono _ _
   | exact LeO.none _
   | refine LeO.ite ?_ ?_
   | refine LeO.bind ?_ (fun _ => ?_)
end Go.Proofs.Ytkafbmanmffliaa.Q

namespace Go.Proofs.Ytkafbmanmffliaa.Q
open Go.RowKit YtkafbmanmffliaaW.PrintWords YtkafbmanmffliaaW.PrintLast YtkafbmanmffliaaW.PrintMore
attribute [local go_sem] max2_int min2_int max_two min_two max_three min_three max_four min_four
def laws_eqSight.f (a0_0 : Int) (a0_1 : Int) (a0_2 : Int) (a0_3 : Int) (a1_0 : Int) (a1_1 : Int) (a1_2 : Int) (a1_3 : Int) : Option (Bool) := if a0_0 = a1_0 then (if a0_1 = a1_1 then (if a0_2 = a1_2 then (if a0_3 = a1_3 then (some true) else (some false)) else (some false)) else (some false)) else (some false)
end Go.Proofs.Ytkafbmanmffliaa.Q

namespace Go.Proofs.Ytkafbmanmffliaa.Q
open Go.RowKit YtkafbmanmffliaaW.PrintWords YtkafbmanmffliaaW.PrintLast YtkafbmanmffliaaW.PrintMore
attribute [local go_sem] max2_int min2_int max_two min_two max_three min_three max_four min_four
def laws_eqSightS.l0 : Nat → List (S32) → List (S32) → Int → Option (Bool)
 | 0, _, _, _ => none
 | k + 1, x0, x1, x5 => if x5 < (x0.length : Int) then (if 0 ≤ x5 then (if x5 < (x1.length : Int) then ((laws_eqSight.f ((rd_T32 x0 x5).f0) ((rd_T32 x0 x5).f1) ((rd_T32 x0 x5).f2) ((rd_T32 x0 x5).f3) ((rd_T32 x1 x5).f0) ((rd_T32 x1 x5).f1) ((rd_T32 x1 x5).f2) ((rd_T32 x1 x5).f3)).bind fun t446 => (if t446 = true then (laws_eqSightS.l0 k x0 x1 (wrap64 (x5 + 1))) else (some false))) else (none)) else (none)) else (some true)
def laws_eqSightS.f (k : Nat) (l0 : List (S32)) (l1 : List (S32)) : Option (Bool) := if (l0.length : Int) = (l1.length : Int) then (laws_eqSightS.l0 k l0 l1 0) else (some false)
theorem laws_eqSightS.mono_l : ∀ k, (∀ y0 y1 y2, LeO (laws_eqSightS.l0 k y0 y1 y2) (laws_eqSightS.l0 (k + 1) y0 y1 y2))
 | 0 => fun _ _ _ r h => by simp [laws_eqSightS.l0] at h
 | k + 1 => by
  have ih0 := laws_eqSightS.mono_l k
  ·intro y0 y1 y2
   unfold laws_eqSightS.l0
   repeat' first
   | (with_reducible exact ih0 _ _ _)
   | (with_reducible exact LeO.refl _)
   | (with_reducible exact LeO.none _)
   | (with_reducible refine LeO.ite ?_ ?_)
   | (with_reducible refine LeO.bind ?_ (fun _ => ?_))
   | exact ih0 _ _ _
   | exact LeO.none _
   | refine LeO.ite ?_ ?_
   | refine LeO.bind ?_ (fun _ => ?_)
theorem laws_eqSightS.mono : ∀ a0 a1 k, LeO (laws_eqSightS.f k a0 a1) (laws_eqSightS.f (k + 1) a0 a1) := by
 intro a0 a1 k
 have ih0 := laws_eqSightS.mono_l k
 unfold laws_eqSightS.f
 repeat' first
   | (with_reducible exact ih0 _ _ _)
   | (with_reducible exact LeO.refl _)
   | (with_reducible exact LeO.none _)
   | (with_reducible refine LeO.ite ?_ ?_)
   | (with_reducible refine LeO.bind ?_ (fun _ => ?_))
   | exact ih0 _ _ _
   | exact LeO.none _
   | refine LeO.ite ?_ ?_
   | refine LeO.bind ?_ (fun _ => ?_)
def laws_eqSightS.T6 : Bool × List (List Nat × List Nat) := (true, [([], []), ([], []), ([0, 1], [0, 1]), ([2], [2]), ([], []), ([], []), ([4, 5], [4, 5]), ([6], [6]), ([3, 7], [3, 7]), ([8], [8])])
def laws_eqSightS.B6 : List Nat := [0, 0, 3, 7, 0, 0, 48, 112, 255, 511]
theorem laws_eqSightS.tab6 : rtab .any (opsOf Try.f74 6) = laws_eqSightS.T6 := by kernel_rfl
theorem laws_eqSightS.bits6 : waitsOk laws_eqSightS.T6.2 laws_eqSightS.B6 = true := by kernel_rfl
end Go.Proofs.Ytkafbmanmffliaa.Q

namespace Go.Proofs.Ytkafbmanmffliaa.Q
open Go.RowKit YtkafbmanmffliaaW.PrintWords YtkafbmanmffliaaW.PrintLast YtkafbmanmffliaaW.PrintMore
attribute [local go_sem] max2_int min2_int max_two min_two max_three min_three max_four min_four
def laws_eqSurvey.f (k : Nat) (a0_0 : Int) (l0_1 : List (S32)) (a1_0 : Int) (l1_1 : List (S32)) : Option (Bool) := if a0_0 = a1_0 then ((laws_eqSightS.f k l0_1 l1_1).bind fun t449 => (if t449 = true then (some true) else (some false))) else (some false)
theorem laws_eqSurvey.mono : ∀ a0 a1 a2 a3 k, LeO (laws_eqSurvey.f k a0 a1 a2 a3) (laws_eqSurvey.f (k + 1) a0 a1 a2 a3) := by
 intro a0 a1 a2 a3 k
 unfold laws_eqSurvey.f
 repeat' first
   | (with_reducible exact laws_eqSightS.mono _ _ _)
   | (with_reducible exact LeO.refl _)
   | (with_reducible exact LeO.none _)
   | (with_reducible refine LeO.ite ?_ ?_)
   | (with_reducible refine LeO.bind ?_ (fun _ => ?_))
   | exact laws_eqSightS.mono _ _ _
   | exact LeO.none _
   | refine LeO.ite ?_ ?_
   | refine LeO.bind ?_ (fun _ => ?_)
end Go.Proofs.Ytkafbmanmffliaa.Q

namespace Go.Proofs.Ytkafbmanmffliaa.Q
open Go.RowKit YtkafbmanmffliaaW.PrintWords YtkafbmanmffliaaW.PrintLast YtkafbmanmffliaaW.PrintMore
attribute [local go_sem] max2_int min2_int max_two min_two max_three min_three max_four min_four
def impl_within.f (a0 : Int) (a1 : Int) (a2 : Int) : Option (Bool) := if a1 ≤ a0 then (some (decide (a0 ≤ a2))) else (some false)
end Go.Proofs.Ytkafbmanmffliaa.Q

namespace Go.Proofs.Ytkafbmanmffliaa.Q
open Go.RowKit YtkafbmanmffliaaW.PrintWords YtkafbmanmffliaaW.PrintLast YtkafbmanmffliaaW.PrintMore
attribute [local go_sem] max2_int min2_int max_two min_two max_three min_three max_four min_four
def impl_areWithin.f (l0 : List Int) (a1 : Int) (a2 : Int) : Option (Bool) := some (Ha.areIn l0 a1 a2)
end Go.Proofs.Ytkafbmanmffliaa.Q

namespace Go.Proofs.Ytkafbmanmffliaa.Q
open Go.RowKit YtkafbmanmffliaaW.PrintWords YtkafbmanmffliaaW.PrintLast YtkafbmanmffliaaW.PrintMore
attribute [local go_sem] max2_int min2_int max_two min_two max_three min_three max_four min_four
def impl_ValidSurvey.l0 : Nat → List (S32) → Int → Int → Int → List (S32) → Option (Bool)
 | 0, _, _, _, _, _ => none
 | k + 1, x6, x7, x8, x234000, x234001 => if x8 < x7 then (if 0 ≤ x8 then (if x8 < (x6.length : Int) then ((impl_areWithin.f (([(rd_T32 x6 x8).f0, (rd_T32 x6 x8).f1] : List Int)) 0 (wrap64 (x234000 - 1))).bind fun t240 => (if t240 = true then (if ((rd_T32 x6 x8).f0) = ((rd_T32 x6 x8).f1) then (some false) else ((impl_within.f ((rd_T32 x6 x8).f2) (-100) 100).bind fun t241 => (if t241 = true then ((impl_within.f ((rd_T32 x6 x8).f3) 1 3).bind fun t242 => (if t242 = true then (impl_ValidSurvey.l0 k x6 x7 (wrap64 (x8 + 1)) x234000 x234001) else (some false))) else (some false)))) else (some false))) else (none)) else (none)) else ((impl_within.f x234000 2 5).bind fun t234 => (if t234 = true then (some (decide ((x234001.length : Int) ≤ 8))) else (some false)))
def impl_ValidSurvey.f (k : Nat) (a0_0 : Int) (l0_1 : List (S32)) : Option (Bool) := impl_ValidSurvey.l0 k l0_1 (l0_1.length : Int) 0 a0_0 l0_1
theorem impl_ValidSurvey.mono_l : ∀ k, (∀ y0 y1 y2 y3 y4, LeO (impl_ValidSurvey.l0 k y0 y1 y2 y3 y4) (impl_ValidSurvey.l0 (k + 1) y0 y1 y2 y3 y4))
 | 0 => fun _ _ _ _ _ r h => by simp [impl_ValidSurvey.l0] at h
 | k + 1 => by
  have ih0 := impl_ValidSurvey.mono_l k
  ·intro y0 y1 y2 y3 y4
   unfold impl_ValidSurvey.l0
   repeat' first
   | (with_reducible exact ih0 _ _ _ _ _)
   | (with_reducible exact LeO.refl _)
   | (with_reducible exact LeO.none _)
   | (with_reducible refine LeO.ite ?_ ?_)
   | (with_reducible refine LeO.bind ?_ (fun _ => ?_))
   | exact ih0 _ _ _ _ _
   | exact LeO.none _
   | refine LeO.ite ?_ ?_
   | refine LeO.bind ?_ (fun _ => ?_)
theorem impl_ValidSurvey.mono : ∀ a0 a1 k, LeO (impl_ValidSurvey.f k a0 a1) (impl_ValidSurvey.f (k + 1) a0 a1) := by
 intro a0 a1 k
 have ih0 := impl_ValidSurvey.mono_l k
 unfold impl_ValidSurvey.f
 repeat' first
   | (with_reducible exact ih0 _ _ _ _ _)
   | (with_reducible exact LeO.refl _)
   | (with_reducible exact LeO.none _)
   | (with_reducible refine LeO.ite ?_ ?_)
   | (with_reducible refine LeO.bind ?_ (fun _ => ?_))
   | exact ih0 _ _ _ _ _
   | exact LeO.none _
   | refine LeO.ite ?_ ?_
   | refine LeO.bind ?_ (fun _ => ?_)
end Go.Proofs.Ytkafbmanmffliaa.Q

/- What the laws' own helpers compute on surveys: the size that a law lets in, a survey's copy, that a copy equals itself, and the program's ValidSurvey. -/
namespace Go.Proofs.Ytkafbmanmffliaa.PuS
open Go.RowKit YtkafbmanmffliaaW.PrintWords Q
theorem wrap_id {x : Int} (h1 : -9223372036854775808 ≤ x) (h2 : x ≤ 9223372036854775807) : wrap64 x = x := by unfold wrap64; omega
def conv (x : S121) : S32 := ⟨x.f0, x.f1, x.f2, x.f3⟩
end Go.Proofs.Ytkafbmanmffliaa.PuS

namespace Go.Proofs.Ytkafbmanmffliaa.Q
open Go.RowKit YtkafbmanmffliaaW.PrintWords YtkafbmanmffliaaW.PrintLast YtkafbmanmffliaaW.PrintMore
attribute [local go_sem] max2_int min2_int max_two min_two max_three min_three max_four min_four
def spec_l00Max.f (a0 : Int) (a1 : Int) : Option (Int) := if a0 > a1 then (some a0) else (some a1)
end Go.Proofs.Ytkafbmanmffliaa.Q

namespace Go.Proofs.Ytkafbmanmffliaa.Q
open Go.RowKit YtkafbmanmffliaaW.PrintWords YtkafbmanmffliaaW.PrintLast YtkafbmanmffliaaW.PrintMore
attribute [local go_sem] max2_int min2_int max_two min_two max_three min_three max_four min_four
def spec_l02Abs.f (a0 : Int) : Option (Int) := (spec_l00Max.f a0 (wrap64 (-a0))).bind fun t407 => (some t407)
end Go.Proofs.Ytkafbmanmffliaa.Q

namespace Go.Proofs.Ytkafbmanmffliaa.Q
open Go.RowKit YtkafbmanmffliaaW.PrintWords YtkafbmanmffliaaW.PrintLast YtkafbmanmffliaaW.PrintMore
attribute [local go_sem] max2_int min2_int max_two min_two max_three min_three max_four min_four
def spec_l10Gcd.l0 : Nat → Int → Int → Option (Int)
 | 0, _, _ => none
 | k + 1, x0, x1 => if x1 > 0 then (if x1 = 0 then (none) else (spec_l10Gcd.l0 k x1 (Int.tmod x0 x1))) else (some x0)
def spec_l10Gcd.f (k : Nat) (a0 : Int) (a1 : Int) : Option (Int) := (spec_l02Abs.f a0).bind fun t408 => ((spec_l02Abs.f a1).bind fun t409 => (spec_l10Gcd.l0 k t408 t409))
theorem spec_l10Gcd.mono_l : ∀ k, (∀ y0 y1, LeO (spec_l10Gcd.l0 k y0 y1) (spec_l10Gcd.l0 (k + 1) y0 y1))
 | 0 => fun _ _ r h => by simp [spec_l10Gcd.l0] at h
 | k + 1 => by
  have ih0 := spec_l10Gcd.mono_l k
  ·intro y0 y1
   unfold spec_l10Gcd.l0
   repeat' first
   | (with_reducible exact ih0 _ _)
   | (with_reducible exact LeO.refl _)
   | (with_reducible exact LeO.none _)
   | (with_reducible refine LeO.ite ?_ ?_)
   | (with_reducible refine LeO.bind ?_ (fun _ => ?_))
   | exact ih0 _ _
   | exact LeO.none _
   | refine LeO.ite ?_ ?_
   | refine LeO.bind ?_ (fun _ => ?_)
theorem spec_l10Gcd.mono : ∀ a0 a1 k, LeO (spec_l10Gcd.f k a0 a1) (spec_l10Gcd.f (k + 1) a0 a1) := by
 intro a0 a1 k
 have ih0 := spec_l10Gcd.mono_l k
 unfold spec_l10Gcd.f
 repeat' first
   | (with_reducible exact ih0 _ _)
   | (with_reducible exact LeO.refl _)
   | (with_reducible exact LeO.none _)
   | (with_reducible refine LeO.ite ?_ ?_)
   | (with_reducible refine LeO.bind ?_ (fun _ => ?_))
   | exact ih0 _ _
   | exact LeO.none _
   | refine LeO.ite ?_ ?_
   | refine LeO.bind ?_ (fun _ => ?_)
end Go.Proofs.Ytkafbmanmffliaa.Q

namespace Go.Proofs.Ytkafbmanmffliaa.Q
open Go.RowKit YtkafbmanmffliaaW.PrintWords YtkafbmanmffliaaW.PrintLast YtkafbmanmffliaaW.PrintMore
attribute [local go_sem] max2_int min2_int max_two min_two max_three min_three max_four min_four
mutual
def spec_l10Lowest.l0 : Nat → List Int → Int → Int → Int → Option (Int × List Int)
 | 0, _, _, _, _ => none
 | k + 1, x0, x1, x6, x7 => if x7 < (x0.length : Int) then (if 0 ≤ x7 then ((spec_l10Gcd.f k x6 (rd x0 x7)).bind fun t411 => (spec_l10Lowest.l0 k x0 x1 t411 (wrap64 (x7 + 1)))) else (none)) else (spec_l10Lowest.l1 k x0 x1 x6 (([] : List Int)) 0)
def spec_l10Lowest.l1 : Nat → List Int → Int → Int → List Int → Int → Option (Int × List Int)
 | 0, _, _, _, _, _ => none
 | k + 1, x0, x1, x6, x8, x9 => if x9 < (x0.length : Int) then (if 0 ≤ x9 then (if x6 = 0 then (none) else (if x8.length < 17592186044416 then (spec_l10Lowest.l1 k x0 x1 x6 (x8 ++ [wrap64 (Int.tdiv (rd x0 x9) x6)]) (wrap64 (x9 + 1))) else (none))) else (none)) else (if x6 = 0 then (none) else (some (wrap64 (Int.tdiv x1 x6), x8)))
end
def spec_l10Lowest.f (k : Nat) (l0 : List Int) (a1 : Int) : Option (Int × List Int) := spec_l10Lowest.l0 k l0 a1 a1 0
theorem spec_l10Lowest.mono_l : ∀ k, (∀ y0 y1 y2 y3, LeO (spec_l10Lowest.l0 k y0 y1 y2 y3) (spec_l10Lowest.l0 (k + 1) y0 y1 y2 y3)) ∧ (∀ y0 y1 y2 y3 y4, LeO (spec_l10Lowest.l1 k y0 y1 y2 y3 y4) (spec_l10Lowest.l1 (k + 1) y0 y1 y2 y3 y4))
 | 0 => ⟨fun _ _ _ _ r h => by simp [spec_l10Lowest.l0] at h, fun _ _ _ _ _ r h => by simp [spec_l10Lowest.l1] at h⟩
 | k + 1 => by
  obtain ⟨ih0, ih1⟩ := spec_l10Lowest.mono_l k
  refine ⟨?_, ?_⟩
  ·intro y0 y1 y2 y3
   unfold spec_l10Lowest.l0
   repeat' first
   | (with_reducible exact ih0 _ _ _ _)
   | (with_reducible exact ih1 _ _ _ _ _)
   | (with_reducible exact spec_l10Gcd.mono _ _ _)
   | (with_reducible exact LeO.refl _)
   | (with_reducible exact LeO.none _)
   | (with_reducible refine LeO.ite ?_ ?_)
   | (with_reducible refine LeO.bind ?_ (fun _ => ?_))
   | exact ih0 _ _ _ _
   | exact ih1 _ _ _ _ _
   | exact spec_l10Gcd.mono _ _ _
   | exact LeO.none _
   | refine LeO.ite ?_ ?_
   | refine LeO.bind ?_ (fun _ => ?_)
  ·intro y0 y1 y2 y3 y4
   unfold spec_l10Lowest.l1
   repeat' first
   | (with_reducible exact ih0 _ _ _ _)
   | (with_reducible exact ih1 _ _ _ _ _)
   | (with_reducible exact spec_l10Gcd.mono _ _ _)
   | (with_reducible exact LeO.refl _)
   | (with_reducible exact LeO.none _)
   | (with_reducible refine LeO.ite ?_ ?_)
   | (with_reducible refine LeO.bind ?_ (fun _ => ?_))
   | exact ih0 _ _ _ _
   | exact ih1 _ _ _ _ _
   | exact spec_l10Gcd.mono _ _ _
   | exact LeO.none _
   | refine LeO.ite ?_ ?_
   | refine LeO.bind ?_ (fun _ => ?_)
theorem spec_l10Lowest.mono : ∀ a0 a1 k, LeO (spec_l10Lowest.f k a0 a1) (spec_l10Lowest.f (k + 1) a0 a1) := by
 intro a0 a1 k
 obtain ⟨ih0, ih1⟩ := spec_l10Lowest.mono_l k
 unfold spec_l10Lowest.f
 repeat' first
   | (with_reducible exact ih0 _ _ _ _)
   | (with_reducible exact ih1 _ _ _ _ _)
   | (with_reducible exact spec_l10Gcd.mono _ _ _)
   | (with_reducible exact LeO.refl _)
   | (with_reducible exact LeO.none _)
   | (with_reducible refine LeO.ite ?_ ?_)
   | (with_reducible refine LeO.bind ?_ (fun _ => ?_))
   | exact ih0 _ _ _ _
   | exact ih1 _ _ _ _ _
   | exact spec_l10Gcd.mono _ _ _
   | exact LeO.none _
   | refine LeO.ite ?_ ?_
   | refine LeO.bind ?_ (fun _ => ?_)
end Go.Proofs.Ytkafbmanmffliaa.Q

/- Plain: the program's list of fractions over one denominator is the reference's in lowest terms; the reference's l10Gcd and l10Lowest. -/
namespace Go.Proofs.Ytkafbmanmffliaa.Lo2
open Go Go.RowKit YtkafbmanmffliaaW.PrintWords Q Ra Gw Lo
theorem lcmAll_append (L b : Nat) (S T : List Int) : lcmAll L b (S ++ T) = lcmAll L (lcmAll L b S) T := by simp [lcmAll]
theorem lc_take {S : List Int} {D : Nat} {F : Nat → Rat} (hF : ∀ k (h : k < S.length), F k = mkRat S[k] D) (m : Nat) (hm : m ≤ S.length) : lc F m = lcmAll D 1 (S.take m) := by
 induction m with
 | zero => rfl
 | succ m ih =>
  rw [List.take_succ_eq_append_getElem (by omega), lcmAll_append, ← ih (by omega)]
  show Nat.lcm (lc F m) (F m).den = Nat.lcm (lc F m) (mkRat S[m] D).den
  rw [hF m (by omega)]
theorem lc_low {S : List Int} {D : Nat} (hD : 0 < D) {F : Nat → Rat} (hF : ∀ k (h : k < S.length), F k = mkRat S[k] D) : lc F S.length = D / gcdAll D S := by
 rw [lc_take hF _ (Nat.le_refl _), List.take_length, ← lcm_gcd hD S D (Nat.dvd_refl D), Nat.div_self hD]
def lowL (D : Nat) (S : List Int) : List Int := S.map (fun s => s / (gcdAll D S : Int))
theorem numL_low {S : List Int} {D : Nat} (hD : 0 < D) {F : Nat → Rat} (hF : ∀ k (h : k < S.length), F k = mkRat S[k] D) : numL F (lc F S.length) S.length = lowL D S := by
 rw [lc_low hD hF]
 unfold numL lowL
 apply List.ext_getElem
 ·simp
 ·intro k h1 h2
  simp only [List.getElem_map, List.getElem_range]
  have hk : k < S.length := by simpa using h2
  rw [hF k hk]
  have := num_eq hD S S[k] (List.getElem_mem hk)
  rw [show ((((D / gcdAll D S : Nat) : Int) : Rat)) = (((D / gcdAll D S : Nat) : Nat) : Rat) from Rat.intCast_natCast _, this]
  rfl
theorem den_low {S : List Int} {D : Nat} (hD : 0 < D) {F : Nat → Rat} (hF : ∀ k (h : k < S.length), F k = mkRat S[k] D) (k : Nat) (hk : k < S.length) : (F k).den ∣ D := by
 rw [hF k hk, Rat.den_mkRat, if_neg (by omega)]
 exact Nat.div_dvd_of_dvd (Nat.gcd_dvd_left _ _)
theorem num_low {S : List Int} {D : Nat} (hD : 0 < D) {F : Nat → Rat} (hF : ∀ k (h : k < S.length), F k = mkRat S[k] D) (k : Nat) (hk : k < S.length) : (F k * ((lc F S.length : Int) : Rat)).num.natAbs ≤ S[k].natAbs := by
 rw [lc_low hD hF, hF k hk]
 have := num_eq hD S S[k] (List.getElem_mem hk)
 rw [show ((((D / gcdAll D S : Nat) : Int) : Rat)) = (((D / gcdAll D S : Nat) : Nat) : Rat) from Rat.intCast_natCast _, this]
 show (S[k] / (gcdAll D S : Int)).natAbs ≤ _
 rw [Int.natAbs_ediv_of_dvd (Int.natAbs_dvd_natAbs.1 (by simpa using (gcd_dvd S D).2 _ (List.getElem_mem hk))), Int.natAbs_natCast]
 exact Nat.div_le_self _ _
end Go.Proofs.Ytkafbmanmffliaa.Lo2

namespace Go.Proofs.Ytkafbmanmffliaa.Q
open Go.RowKit YtkafbmanmffliaaW.PrintWords YtkafbmanmffliaaW.PrintLast YtkafbmanmffliaaW.PrintMore
attribute [local go_sem] max2_int min2_int max_two min_two max_three min_three max_four min_four
def IsS26 (w0 W : World) (g : Nat) (f0 : Int) (f1 : List (S32)) : Prop := ∃ A1 c1, W.heap[g]? = some (.cells #[.int .i64 f0, .slice A1 f1.length c1] 26 (0, 0)) ∧ w0.heap.size ≤ g ∧ Kd.C k32 w0 A1 f1.length f1
theorem IsS26.grown {w0 W : World} {g : Nat} {f0 : Int} {f1 : List (S32)} {W1 : World} {row : Option Nat} (h : IsS26 w0 W g f0 f1) (hw : W.grownBy W1 row) (hne : some g ≠ row) : IsS26 w0 W1 g f0 f1 := by
 obtain ⟨A1, c1, hb, hg, hr1⟩ := h
 exact ⟨A1, c1, blk_grown hb hw hne, hg, hr1⟩
theorem IsS26.kept {w0 W : World} {g : Nat} {f0 : Int} {f1 : List (S32)} {W1 : World} {S : Nat → Prop} (h : IsS26 w0 W g f0 f1) (hk : Kept W W1 S) (hne : ¬ S g) : IsS26 w0 W1 g f0 f1 := by
 obtain ⟨A1, c1, hb, hg, hr1⟩ := h
 exact ⟨A1, c1, blk_kept hb hk hne, hg, hr1⟩
theorem IsS26.below {w0 W : World} {g : Nat} {f0 : Int} {f1 : List (S32)} {W1 : World} (h : IsS26 w0 W g f0 f1) (hw : Below W.heap.size W W1) : IsS26 w0 W1 g f0 f1 := h.grown (grown_of_below hw none) (by simp)
theorem IsS26.alloc {w0 W : World} {g : Nat} {f0 : Int} {f1 : List (S32)} (h : IsS26 w0 W g f0 f1) (o : Obj) : IsS26 w0 (W.alloc o) g f0 f1 := h.below (below_alloc (Below.refl _ _) o)
theorem IsS26.drewN {w0 W : World} {g : Nat} {f0 : Int} {f1 : List (S32)} (h : IsS26 w0 W g f0 f1) (m : Nat) : IsS26 w0 (W.drewN m) g f0 f1 := h
theorem IsS26.drew {w0 W : World} {g : Nat} {f0 : Int} {f1 : List (S32)} (h : IsS26 w0 W g f0 f1) : IsS26 w0 W.drew g f0 f1 := h
theorem IsS26.at_ {w0 W : World} {g : Nat} {f0 : Int} {f1 : List (S32)} {w' : World} {m : Nat} (hq : W.drewN m = w') (h : IsS26 w0 W g f0 f1) : IsS26 w0 w' g f0 f1 := by subst hq; exact IsS26.drewN h m
theorem IsS26.apart {w0 W : World} {g : Nat} {f0 : Int} {f1 : List (S32)} {α : Type} {d : Kd α} {e : Nat} {base : Nat} {ok : Nat → Prop} {v : Value} {xs : List α} (h : IsS26 w0 W g f0 f1) (ho : d.R e W base ok v xs) (ht : ∀ q, q ∈ e :: d.E → q ≠ 26) : d.R e W base (fun k => ok k ∧ k ≠ g) v xs := by
 obtain ⟨A1, c1, hb, hg, hr1⟩ := h
 exact Kd.R_types ho hb ht
theorem IsS26.own_ne {w0 W : World} {g : Nat} {f0 : Int} {f1 : List (S32)} {α : Type} {d : Kd α} {e : Nat} {base : Nat} {ok : Nat → Prop} {v : Value} {xs : List α} (h : IsS26 w0 W g f0 f1) (ho : d.R e W base ok v xs) (ht : e ≠ 26) : some g ≠ v.ownBlock := by
 obtain ⟨A1, c1, hb, hg, hr1⟩ := h
 exact Kd.R_ne ho hb ht
theorem IsS26.lt {w0 W : World} {g : Nat} {f0 : Int} {f1 : List (S32)} (h : IsS26 w0 W g f0 f1) : g < W.heap.size := by
 obtain ⟨A1, c1, hb, hg, hr1⟩ := h
 exact blk_lt hb
theorem IsS26.ge {w0 W : World} {g : Nat} {f0 : Int} {f1 : List (S32)} (h : IsS26 w0 W g f0 f1) : w0.heap.size ≤ g := by
 obtain ⟨A1, c1, hb, hg, hr1⟩ := h
 exact hg
theorem IsS26.ne_blk {w0 W : World} {g : Nat} {f0 : Int} {f1 : List (S32)} {a : Nat} {cs : Array Value} {t : TypeId} {fr : Nat × Nat} (h : IsS26 w0 W g f0 f1) (hb2 : W.heap[a]? = some (.cells cs t fr)) (ht : t ≠ 26) : g ≠ a := by
 obtain ⟨A1, c1, hb, hg, hr1⟩ := h
 rintro rfl
 rw [hb] at hb2
 injection hb2 with hb2
 injection hb2 with _ ht2
 exact ht ht2.symm
theorem IsS26.far {w0 W : World} {g : Nat} {f0 : Int} {f1 : List (S32)} {p : Addr} (h : IsS26 w0 W g f0 f1) (hne : g ≠ p.block) (u : Value) : IsS26 w0 (W.setCell p u) g f0 f1 := by
 obtain ⟨A1, c1, hb, hg, hr1⟩ := h
 exact ⟨A1, c1, blk_far hb hne u, hg, hr1⟩
theorem IsS26.new (w0 W : World) (A1 : Option Addr) (c1 : Nat) (f0 : Int) (f1 : List (S32)) (hB : Below w0.heap.size w0 W) (hr1 : Kd.C k32 w0 A1 f1.length f1) : IsS26 w0 (W.alloc (.cells #[.int .i64 f0, .slice A1 f1.length c1] 26)) W.heap.size f0 f1 := ⟨A1, c1, by simpa using heap_alloc_new W _, hB.size, hr1⟩
def spec_l10Is.f (s0_0 : Int) (s0_1 : List (S32)) : Option (Bool × Int) := some (Hb.surveyB s0_0 s0_1, s0_0)
end Go.Proofs.Ytkafbmanmffliaa.Q

namespace Go.Proofs.Ytkafbmanmffliaa.Q
open Go.RowKit YtkafbmanmffliaaW.PrintWords YtkafbmanmffliaaW.PrintLast YtkafbmanmffliaaW.PrintMore
attribute [local go_sem] max2_int min2_int max_two min_two max_three min_three max_four min_four
def spec_l10Tree.f (s0_0 : Int) (s0_1 : List (S32)) : Option (List Int × List Int × Bool × Int) :=
 if Hb.surveyB s0_0 s0_1 = true then (if (Hd.treeS s0_0 s0_1).part.all (· == 0) = true then some ((Hd.treeS s0_0 s0_1).out, (Hd.treeS s0_0 s0_1).hts, true, s0_0) else some ([], [], false, s0_0)) else none
end Go.Proofs.Ytkafbmanmffliaa.Q

namespace Go.Proofs.Ytkafbmanmffliaa.Q
open Go.RowKit YtkafbmanmffliaaW.PrintWords YtkafbmanmffliaaW.PrintLast YtkafbmanmffliaaW.PrintMore
attribute [local go_sem] max2_int min2_int max_two min_two max_three min_three max_four min_four
def spec_l10Whole.f (s0_0 : Int) (s0_1 : List (S32)) : Option (Bool × Int) := (spec_l10Is.f s0_0 s0_1).bind fun bt196 => (if bt196.1 = true then ((spec_l10Tree.f bt196.2 s0_1).bind fun bt198 => (some (bt198.2.2.1, bt198.2.2.2))) else (some (false, bt196.2)))
end Go.Proofs.Ytkafbmanmffliaa.Q

/- The program's choice of sights without loops and the reference's are the same: both keep the same parts of connected points. -/
namespace Go.Proofs.Ytkafbmanmffliaa.PuT
open Go.RowKit YtkafbmanmffliaaW.PrintWords Q Hb Hc Hd
structure Sg where
 out : List Int
 grp : List Int
def stepG (st : Sg) (x : S32 × Nat) : Sg :=
 if rd st.grp x.1.f0 = rd st.grp x.1.f1 then st
 else ⟨st.out ++ [(x.2 : Int)], st.grp.map fun v => if v = rd st.grp x.1.f1 then rd st.grp x.1.f0 else v⟩
def startG (pts : Int) : Sg := ⟨[], (List.range pts.toNat).map fun k : Nat => (k : Int)⟩
def atG (pts : Int) (l : List S32) (k : Nat) : Sg := (l.zipIdx.take k).foldl stepG (startG pts)
def treeG (pts : Int) (l : List S32) : Sg := atG pts l l.length
theorem atG_succ (pts : Int) (l : List S32) (k : Nat) (h : k < l.length) : atG pts l (k + 1) = stepG (atG pts l k) (rd_T32 l k, k) := by
 unfold atG
 rw [List.take_succ_eq_append_getElem (by simpa using h), List.foldl_append]
 simp [rd_T32, h, List.getElem_zipIdx]
theorem stepG_len (st : Sg) (x : S32 × Nat) : (stepG st x).grp.length = st.grp.length := by unfold stepG; split <;> simp
theorem atG_len (pts : Int) (l : List S32) (k : Nat) : (atG pts l k).grp.length = pts.toNat := by
 unfold atG
 generalize l.zipIdx.take k = m
 have : ∀ st : Sg, (m.foldl stepG st).grp.length = st.grp.length := by
  induction m with
  | nil => intro st; rfl
  | cons x xs ih => intro st; simp only [List.foldl_cons]; rw [ih, stepG_len]
 rw [this]; simp [startG]
theorem atG_out (pts : Int) (l : List S32) (k : Nat) : (atG pts l k).out.length ≤ k := by
 induction k with
 | zero => simp [atG, startG]
 | succ k ih =>
  by_cases h : k < l.length
  ·rw [atG_succ pts l k h]; unfold stepG; split
   ·omega
   ·simp only [List.length_append, List.length_cons, List.length_nil]; omega
  ·have : atG pts l (k + 1) = atG pts l k := by unfold atG; rw [List.take_of_length_le (by simp; omega), List.take_of_length_le (by simp; omega)]
   rw [this]; omega
theorem rd_map (f : Int → Int) (p : List Int) (x : Nat) (h : x < p.length) : rd (p.map f) x = f (rd p x) := by
 rw [rd_nat _ _ (by simpa using h), rd_nat _ _ h]; simp
theorem merge_eq {a b mn mx px py : Int} (_hab : a ≠ b) (h : (mn = a ∧ mx = b) ∨ (mn = b ∧ mx = a)) :
  ((if px = mx then mn else px) = (if py = mx then mn else py)) ↔ (px = py ∨ ((px = a ∨ px = b) ∧ (py = a ∨ py = b))) := by
 split <;> split <;> omega
def cnt (n : Nat) (p : List Int) : Nat := ((List.range n).filter fun x : Nat => decide (rd p x = (x : Int))).length
theorem filter_drop_one {l : List Nat} (hn : l.Nodup) {q q' : Nat → Bool} {m : Nat} (hm : m ∈ l) (hq : q m = true) (h : ∀ x, x ∈ l → (q' x = true ↔ q x = true ∧ x ≠ m)) : (l.filter q').length + 1 = (l.filter q).length := by
 induction l with
 | nil => simp at hm
 | cons x xs ih =>
  rw [List.nodup_cons] at hn
  have hx := h x (by simp)
  by_cases e : x = m
  ·subst e
   have h1 : q' x = false := by
    cases hc : q' x
    ·rfl
    ·exact absurd rfl (hx.1 hc).2
   have h2 : xs.filter q' = xs.filter q := by
    apply List.filter_congr
    intro y hy
    have hy2 := h y (by simp [hy])
    have : y ≠ x := fun e => hn.1 (e ▸ hy)
    cases hc : q y <;> cases hd : q' y <;> simp_all
   simp [h1, hq, h2]
  ·have hm' : m ∈ xs := by
    rcases List.mem_cons.1 hm with h | h
    ·exact absurd h.symm e
    ·exact h
   have := ih hn.2 hm' (fun y hy => h y (by simp [hy]))
   have hqq : q' x = q x := by
    cases hc : q x <;> cases hd : q' x <;> simp_all
   by_cases hc : q x = true
   ·simp [hqq, hc]; omega
   ·simp [hqq, hc]; omega
structure Inv (n : Nat) (o : List Int) (p g : List Int) : Prop where
 lp : p.length = n
 lg : g.length = n
 eqv : ∀ x y : Nat, x < n → y < n → (rd p x = rd p y ↔ rd g x = rd g y)
 lo : ∀ x : Nat, x < n → 0 ≤ rd p x ∧ rd p x ≤ x
 rep : ∀ x : Nat, x < n → rd p (rd p x) = rd p x
 cn : o.length + cnt n p = n
theorem rd_range (n : Nat) (x : Nat) (h : x < n) : rd ((List.range n).map fun j : Nat => (j : Int)) x = x := by
 rw [rd_nat _ _ (by simpa using h)]; simp
theorem inv_start (n : Nat) : Inv n (Hd.start n).out (Hd.start n).part (startG n).grp where
 lp := by simp [Hd.start]
 lg := by simp [startG]
 eqv := fun x y hx hy => by simp [Hd.start, startG]
 lo := fun x hx => by simp only [Hd.start, Int.toNat_natCast]; rw [rd_range n x hx]; omega
 rep := fun x hx => by simp only [Hd.start, Int.toNat_natCast]; rw [rd_range n x hx, rd_range n x hx]
 cn := by
  have e : ∀ x : Nat, x < n → rd (Hd.start (n : Int)).part x = x := fun x hx => by simp only [Hd.start, Int.toNat_natCast]; exact rd_range n x hx
  have : (List.range n).filter (fun x : Nat => decide (rd (Hd.start (n : Int)).part x = (x : Int))) = List.range n := by
   rw [List.filter_eq_self]
   intro x hx
   exact decide_eq_true (e x (by simpa using hx))
  unfold cnt
  rw [this]; simp [Hd.start]
theorem inv_step {n : Nat} {st : St} {sg : Sg} (h : Inv n st.out st.part sg.grp) (ho : st.out = sg.out) (x : S32 × Nat) (h0 : 0 ≤ x.1.f0) (h1 : x.1.f0 < n) (h2 : 0 ≤ x.1.f1) (h3 : x.1.f1 < n) :
  Inv n (Hd.step st x).out (Hd.step st x).part (stepG sg x).grp ∧ (Hd.step st x).out = (stepG sg x).out := by
 obtain ⟨s, i⟩ := x
 obtain ⟨u, hu⟩ : ∃ u : Nat, s.f0 = (u : Int) := ⟨s.f0.toNat, by simp at h0; omega⟩
 obtain ⟨v, hv⟩ : ∃ v : Nat, s.f1 = (v : Int) := ⟨s.f1.toNat, by simp at h2; omega⟩
 simp only [hu, hv] at h1 h3
 have hun : u < n := by omega
 have hvn : v < n := by omega
 clear h0 h1 h2 h3
 have huv := h.eqv u v hun hvn
 unfold Hd.step stepG
 simp only [hu, hv]
 by_cases hab : rd st.part u = rd st.part v
 ·rw [if_pos hab, if_pos (huv.1 hab)]; exact ⟨h, ho⟩
 ·rw [if_neg hab, if_neg (fun e => hab (huv.2 e))]
  have hmm : (mnI (rd st.part u) (rd st.part v) = rd st.part u ∧ mxI (rd st.part u) (rd st.part v) = rd st.part v) ∨ (mnI (rd st.part u) (rd st.part v) = rd st.part v ∧ mxI (rd st.part u) (rd st.part v) = rd st.part u) := by
   unfold mnI mxI; split <;> split <;> omega
  have hlt : mnI (rd st.part u) (rd st.part v) < mxI (rd st.part u) (rd st.part v) := by unfold mnI mxI; split <;> split <;> omega
  have hP : ∀ y : Nat, y < n → rd (newPart st.part (rd st.part u) (rd st.part v)) y = if rd st.part y = mxI (rd st.part u) (rd st.part v) then mnI (rd st.part u) (rd st.part v) else rd st.part y := fun y hy => rd_map _ _ _ (by rw [h.lp]; exact hy)
  have hG : ∀ y : Nat, y < n → rd (sg.grp.map fun z => if z = rd sg.grp v then rd sg.grp u else z) y = if rd sg.grp y = rd sg.grp v then rd sg.grp u else rd sg.grp y := fun y hy => rd_map _ _ _ (by rw [h.lg]; exact hy)
  have rmn : rd st.part (mnI (rd st.part u) (rd st.part v)) = mnI (rd st.part u) (rd st.part v) := by
   rcases hmm with ⟨e, _⟩ | ⟨e, _⟩ <;> rw [e]
   ·exact h.rep u hun
   ·exact h.rep v hvn
  have rmx : rd st.part (mxI (rd st.part u) (rd st.part v)) = mxI (rd st.part u) (rd st.part v) := by
   rcases hmm with ⟨_, e⟩ | ⟨_, e⟩ <;> rw [e]
   ·exact h.rep v hvn
   ·exact h.rep u hun
  have bu := h.lo u hun
  have bv := h.lo v hvn
  have bmx : 0 ≤ mxI (rd st.part u) (rd st.part v) ∧ mxI (rd st.part u) (rd st.part v) < n := by rcases hmm with ⟨_, e⟩ | ⟨_, e⟩ <;> rw [e] <;> omega
  have bmn : 0 ≤ mnI (rd st.part u) (rd st.part v) := by rcases hmm with ⟨e, _⟩ | ⟨e, _⟩ <;> rw [e] <;> omega
  have hau : ∀ y : Nat, y < n → (rd st.part y = rd st.part u ↔ rd sg.grp y = rd sg.grp u) := fun y hy => h.eqv y u hy hun
  have hav : ∀ y : Nat, y < n → (rd st.part y = rd st.part v ↔ rd sg.grp y = rd sg.grp v) := fun y hy => h.eqv y v hy hvn
  generalize hmn : mnI (rd st.part u) (rd st.part v) = mn at *
  generalize hmx : mxI (rd st.part u) (rd st.part v) = mx at *
  refine ⟨⟨by rw [newPart_len]; exact h.lp, by simp [h.lg], ?_, ?_, ?_, ?_⟩, by rw [ho]⟩
  ·intro y z hy hz
   rw [hP y hy, hP z hz, hG y hy, hG z hz, merge_eq hab hmm, merge_eq (a := rd sg.grp u) (b := rd sg.grp v) (fun e => hab (huv.2 e)) (.inl ⟨rfl, rfl⟩), h.eqv y z hy hz, hau y hy, hav y hy, hau z hz, hav z hz]
  ·intro y hy
   have := h.lo y hy
   rw [hP y hy]; split <;> omega
  ·intro y hy
   have hl := h.lo y hy
   have hr := h.rep y hy
   rw [hP y hy]
   split
   ·obtain ⟨m, hm⟩ : ∃ m : Nat, mn = (m : Int) := ⟨mn.toNat, by omega⟩
    rw [hm] at rmn hlt ⊢
    rw [hP m (by omega), rmn, if_neg (by omega)]
   ·rename_i hne
    obtain ⟨m, hm⟩ : ∃ m : Nat, rd st.part y = (m : Int) := ⟨(rd st.part y).toNat, by omega⟩
    rw [hm] at hr hne hl ⊢
    rw [hP m (by omega), hr, if_neg hne]
  ·obtain ⟨m, hm⟩ : ∃ m : Nat, mx = (m : Int) := ⟨mx.toNat, by omega⟩
   have hc : cnt n (newPart st.part (rd st.part u) (rd st.part v)) + 1 = cnt n st.part := by
    refine filter_drop_one List.nodup_range (m := m) (by simp; omega) (by rw [hm] at rmx; simp [rmx]) ?_
    intro y hy
    have hy' : y < n := by simpa using hy
    rw [hP y hy']
    simp only [decide_eq_true_eq]
    split
    ·rename_i e
     constructor
     ·intro e2
      rw [e2] at rmn
      omega
     ·rintro ⟨e2, e3⟩
      omega
    ·rename_i e
     constructor
     ·intro e2; exact ⟨e2, by omega⟩
     ·intro e2; exact e2.1
   have := h.cn
   simp only [List.length_append, List.length_cons, List.length_nil]
   omega
theorem inv_at {n : Nat} {l : List S32} (hv : surveyB n l = true) : ∀ k, k ≤ l.length → Inv n (at_ n l k).out (at_ n l k).part (atG n l k).grp ∧ (at_ n l k).out = (atG n l k).out := by
 intro k
 induction k with
 | zero => intro _; exact ⟨by rw [at_zero]; exact inv_start n, by simp [at_zero, atG, Hd.start, startG]⟩
 | succ k ih =>
  intro hk
  obtain ⟨h1, h2⟩ := ih (by omega)
  obtain ⟨a, b, c, d⟩ := valid_at hv k (by omega)
  rw [at_succ n l k (by omega), atG_succ n l k (by omega)]
  exact inv_step h1 h2 (rd_T32 l k, k) a b c d
theorem all_zero {n : Nat} {o p g : List Int} (h : Inv n o p g) (hn : 1 ≤ n) : p.all (· == 0) = true ↔ o.length = n - 1 := by
 have hc := h.cn
 have z0 : rd p 0 = 0 := by have := h.lo 0 (by omega); simp at this; omega
 have e1 : p.all (· == 0) = true ↔ ∀ x : Nat, x < n → rd p x = 0 := by
  rw [List.all_eq_true]
  constructor
  ·intro ha x hx
   have := ha (rd p x) (by rw [rd_nat _ _ (by rw [h.lp]; exact hx)]; exact List.getElem_mem _)
   simpa using this
  ·intro ha y hy
   obtain ⟨i, hi, rfl⟩ := List.getElem_of_mem hy
   have := ha i (by rw [← h.lp]; exact hi)
   rw [rd_nat _ _ hi] at this
   simpa using this
 rw [e1]
 constructor
 ·intro ha
  have : (List.range n).filter (fun x : Nat => decide (rd p x = (x : Int))) = [0] := by
   obtain ⟨m, rfl⟩ : ∃ m, n = m + 1 := ⟨n - 1, by omega⟩
   rw [List.range_succ_eq_map, List.filter_cons]
   have h0 : decide (rd p ((0 : Nat) : Int) = ((0 : Nat) : Int)) = true := by simpa using z0
   rw [if_pos h0]
   congr 1
   rw [List.filter_eq_nil_iff]
   intro x hx
   simp only [List.mem_map, List.mem_range] at hx
   obtain ⟨y, hy, rfl⟩ := hx
   have := ha (y + 1) (by omega)
   simp only [Nat.succ_eq_add_one, decide_eq_true_eq]
   omega
  unfold cnt at hc
  rw [this] at hc
  simp at hc; omega
 ·intro hl x hx
  have h1 : cnt n p = 1 := by omega
  have hr := h.rep x hx
  have hb := h.lo x hx
  obtain ⟨m, hm⟩ : ∃ m : Nat, rd p x = (m : Int) := ⟨(rd p x).toNat, by omega⟩
  rw [hm] at hr hb ⊢
  by_cases e : m = 0
  ·simp [e]
  ·exfalso
   unfold cnt at h1
   obtain ⟨y, hy⟩ := List.length_eq_one_iff.1 h1
   have m0 : 0 ∈ (List.range n).filter (fun x : Nat => decide (rd p x = (x : Int))) := by simp; exact ⟨by omega, z0⟩
   have mm : m ∈ (List.range n).filter (fun x : Nat => decide (rd p x = (x : Int))) := by simp; exact ⟨by omega, hr⟩
   rw [hy] at m0 mm
   simp at m0 mm
   omega
theorem out_eq {n : Nat} {l : List S32} (hv : surveyB n l = true) : (treeS n l).out = (treeG n l).out := by
 have := (inv_at hv l.length (Nat.le_refl _)).2
 rwa [at_all] at this
theorem conn_eq {n : Nat} {l : List S32} (hv : surveyB n l = true) : ((treeS n l).part.all (· == 0) = true) ↔ (((treeG n l).out.length : Int) = (n : Int) - 1) := by
 have hp := valid_pts hv
 have h := (inv_at hv l.length (Nat.le_refl _)).1
 rw [at_all] at h
 have := all_zero h (by omega)
 rw [this, ← out_eq hv]
 omega
theorem nat_pts {p : Int} {l : List S32} (hv : surveyB p l = true) : ∃ n : Nat, p = n := ⟨p.toNat, by have := valid_pts hv; omega⟩
def connB (p : Int) (l : List S32) : Bool := surveyB p l && (treeS p l).part.all (· == 0)
end Go.Proofs.Ytkafbmanmffliaa.PuT

