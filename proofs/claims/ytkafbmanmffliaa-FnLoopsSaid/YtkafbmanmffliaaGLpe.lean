/- Parts of the proof that the law of this seat holds: PuK, Dd, De, Bi, Bj. -/
import Derived.Test.YtkafbmanmffliaaGLpc
import Derived.Test.YtkafbmanmffliaaGLpd
import Derived.Deep.CutRange
set_option linter.unusedVariables false
set_option linter.unusedSimpArgs false
/- Plain: the steps of a long division. -/
namespace Go.Proofs.Ytkafbmanmffliaa.PuK
open Go Go.RowKit YtkafbmanmffliaaW.PrintWords YtkafbmanmffliaaW.PrintLast YtkafbmanmffliaaW.PrintMore Q Bg PuG Db
structure Inv (A V : Int) (n m : Nat) (L Q : List Int) (jj : Nat) : Prop where
 lenL : L.length = m
 lenQ : Q.length + n = m
 digL : Dig L
 digQ : Dig Q
 eq : A = val Q * V + val L
 lt : val L < V * bp jj
 zer : ∀ i : Nat, i < jj → rd Q (i : Int) = 0
theorem top3 {l : List Int} (n : Nat) (hl : n + 2 < l.length) : val (l.take (n + 3)) = ((rd l ((n + 2 : Nat) : Int) * 4294967296 + rd l ((n + 1 : Nat) : Int)) * 4294967296 + rd l (n : Int)) * bp n + val (l.take n) := by
 rw [val_take_succ (n + 2) hl, val_take_succ (n + 1) (by omega), val_take_succ n (by omega), rd_at (n + 2) hl, rd_at (n + 1) (by omega), rd_at n (by omega)]
 have b1 : bp (n + 1) = 4294967296 * bp n := rfl
 have b2 : bp (n + 2) = 4294967296 * (4294967296 * bp n) := rfl
 rw [b1, b2]
 grind
theorem top2 {l : List Int} (n : Nat) (hl : l.length = n + 2) : val l = (rd l ((n + 1 : Nat) : Int) * 4294967296 + rd l (n : Int)) * bp n + val (l.take n) := by
 have h := val_take_all (l := l) (n := n + 2) (by omega)
 rw [← h, val_take_succ (n + 1) (by omega), val_take_succ n (by omega), rd_at (n + 1) (by omega), rd_at n (by omega), bp_succ]
 grind
theorem Inv.high {A V : Int} {n m : Nat} {L Q : List Int} {j : Nat} (h : Inv A V n m L Q (j + 1)) (hV : V < bp n) (hj : j + n + 1 ≤ m) : val (L.drop (j + n + 1)) = 0 := by
 have h1 := val_split L (j + n + 1) (by rw [h.lenL]; omega)
 have h2 := val_nonneg (h.digL.take (j + n + 1))
 have h3 := val_nonneg (h.digL.drop (j + n + 1))
 have h4 : V * bp (j + 1) ≤ bp n * bp (j + 1) := Int.mul_le_mul_of_nonneg_right (by omega) (by have := bp_pos (j + 1); omega)
 rw [← bp_add, show n + (j + 1) = j + n + 1 by omega] at h4
 have h5 := h.lt
 have h6 := bp_pos (j + n + 1)
 rcases Int.lt_or_le 0 (val (L.drop (j + n + 1))) with h7 | h7
 ·have : bp (j + n + 1) * 1 ≤ bp (j + n + 1) * val (L.drop (j + n + 1)) := Int.mul_le_mul_of_nonneg_left (by omega) (by omega)
  omega
 ·omega
theorem Inv.win {A V : Int} {n m : Nat} {L Q : List Int} {j : Nat} (h : Inv A V n m L Q (j + 1)) (hV : V < bp n) (hj : j + n + 1 ≤ m) :
  val L = val (L.take j) + bp j * val ((L.drop j).take (n + 1)) ∧ val ((L.drop j).take (n + 1)) < V * 4294967296 := by
 have h1 := val_split L j (by rw [h.lenL]; omega)
 have h2 := val_split (L.drop j) (n + 1) (by rw [List.length_drop, h.lenL]; omega)
 rw [List.drop_drop, ← Nat.add_assoc, h.high hV hj, Int.mul_zero, Int.add_zero] at h2
 rw [h2] at h1
 refine ⟨h1, ?_⟩
 have h3 := h.lt
 have h4 := val_nonneg (h.digL.take j)
 rw [bp_succ] at h3
 have h5 : bp j * val ((L.drop j).take (n + 1)) < bp j * (V * 4294967296) := by
  have : V * (4294967296 * bp j) = bp j * (V * 4294967296) := by grind
  omega
 exact Int.lt_of_mul_lt_mul_left h5 (by have := bp_pos j; omega)
theorem Inv.step {A V : Int} {n m : Nat} {L Q : List Int} {j : Nat} (h : Inv A V n m L Q (j + 1)) (hV : V < bp n) (hj : j + n + 1 ≤ m) {g : Int} {z : List Int} (hg0 : 0 ≤ g) (hg : g < 4294967296)
  (hz : z.length = n + 1) (hd : Dig z) (hv : val z = val ((L.drop j).take (n + 1)) - g * V) (hlt : val z < V) : Inv A V n m (Db.win L j (n + 1) z) (Q.set j g) j := by
 obtain ⟨h1, _⟩ := h.win hV hj
 have hL := h.lenL
 have hq : j < Q.length := by have := h.lenQ; omega
 have hvw : val (Db.win L j (n + 1) z) = val (L.take j) + bp j * val z := by
  unfold Db.win
  rw [val_append, val_append, List.length_take, Nat.min_eq_left (by omega), show j + (n + 1) = j + n + 1 by omega, h.high hV hj]
  omega
 refine ⟨by rw [win_len (by omega) hz, hL], by rw [List.length_set]; exact h.lenQ, ?_, h.digQ.set j hg0 hg, ?_, ?_, ?_⟩
 ·exact Dig.append.2 ⟨Dig.append.2 ⟨h.digL.take j, hd⟩, h.digL.drop _⟩
 ·have hz0 := h.zer j (by omega)
  rw [rd_at j hq] at hz0
  rw [hvw, val_set j hq, hz0, hv, h.eq, h1]
  grind
 ·rw [hvw]
  have h2 := val_lt (h.digL.take j)
  rw [List.length_take, Nat.min_eq_left (by omega)] at h2
  have h3 : bp j * (val z + 1) ≤ bp j * V := Int.mul_le_mul_of_nonneg_left (by omega) (by have := bp_pos j; omega)
  have e : bp j * (val z + 1) = bp j * val z + bp j := by grind
  have e2 : V * bp j = bp j * V := by grind
  omega
 ·intro i hi
  rw [rd_set j g i (by omega), if_neg (by omega)]
  exact h.zer i (by omega)
structure Gs (W V u0 u1 v1 g r : Int) : Prop where
 g0 : 0 ≤ g
 r0 : 0 ≤ r
 eq : g * v1 + r = u0 * 4294967296 + u1
 lt : W < (g + 1) * V
structure Hd (W V u0 u1 u2 v1 v2 : Int) : Prop where
 ex : ∃ P ur vr : Int, 0 < P ∧ V = (v1 * 4294967296 + v2) * P + vr ∧ 0 ≤ vr ∧ vr < P ∧ W = ((u0 * 4294967296 + u1) * 4294967296 + u2) * P + ur ∧ 0 ≤ ur ∧ ur < P
 lt : W < V * 4294967296
 V0 : 0 ≤ V
 W0 : 0 ≤ W
 a0 : 0 ≤ u0 ∧ u0 < 4294967296
 a1 : 0 ≤ u1 ∧ u1 < 4294967296
 a2 : 0 ≤ u2 ∧ u2 < 4294967296
 b1 : 0 < v1 ∧ v1 < 4294967296
 b2 : 0 ≤ v2 ∧ v2 < 4294967296
theorem Hd.start {W V u0 u1 u2 v1 v2 : Int} (h : Hd W V u0 u1 u2 v1 v2) : Gs W V u0 u1 v1 ((u0 * 4294967296 + u1) / v1) ((u0 * 4294967296 + u1) % v1) := by
 obtain ⟨P, ur, vr, hP, e1, c0, c1, e2, d0, d1⟩ := h.ex
 have p := h.a0; have q := h.a1
 have hd := Int.mul_ediv_add_emod (u0 * 4294967296 + u1) v1
 have h0 : 0 ≤ (u0 * 4294967296 + u1) / v1 := Int.ediv_nonneg (by omega) (by have := h.b1; omega)
 have h1 := Int.emod_nonneg (u0 * 4294967296 + u1) (show v1 ≠ 0 by have := h.b1; omega)
 have h2 := Int.emod_lt_of_pos (u0 * 4294967296 + u1) h.b1.1
 have he : (u0 * 4294967296 + u1) / v1 * v1 + (u0 * 4294967296 + u1) % v1 = u0 * 4294967296 + u1 := by rw [Int.mul_comm]; exact hd
 exact ⟨h0, h1, he, guess_start hP e1 h.b2.1 c0 e2 h.a2.2 d1 h0 he h2⟩
theorem Hd.next {W V u0 u1 u2 v1 v2 g r : Int} (h : Hd W V u0 u1 u2 v1 v2) (k : Gs W V u0 u1 v1 g r) (hc : 4294967296 ≤ g ∨ r * 4294967296 + u2 < g * v2) : Gs W V u0 u1 v1 (g - 1) (r + v1) := by
 obtain ⟨P, ur, vr, hP, e1, c0, c1, e2, d0, d1⟩ := h.ex
 have hl := guess_less hP e1 c0 e2 d1 h.lt h.V0 k.g0 k.eq hc
 have h0 := h.b1; have h1 := k.r0; have h2 := k.g0; have h3 := k.eq
 have h4 : g ≠ 0 := by
  rintro rfl
  have := h.W0
  omega
 refine ⟨by omega, by omega, ?_, ?_⟩
 ·grind
 ·have e : (g - 1 + 1) * V = g * V := by grind
  omega
theorem Hd.done {W V u0 u1 u2 v1 v2 g r : Int} (h : Hd W V u0 u1 u2 v1 v2) (k : Gs W V u0 u1 v1 g r) (hc : 4294967296 ≤ r ∨ (g < 4294967296 ∧ g * v2 ≤ r * 4294967296 + u2)) : g < 4294967296 ∧ (g - 1) * V ≤ W := by
 obtain ⟨P, ur, vr, hP, e1, c0, c1, e2, d0, d1⟩ := h.ex
 have hh := head_le hP e1 h.b2.2 c1 e2 h.a1.1 h.a2.1 d0 h.lt
 exact guess_end hP e1 h.b1.1 h.b2.1 h.b2.2 c1 c0 e2 hh h.a1.2 h.a2.1 d0 k.g0 k.eq hc
theorem Inv.head {A V : Int} {n m : Nat} {L Q vs : List Int} {j : Nat} (h : Inv A V (n + 2) m L Q (j + 1)) (hj : j + (n + 2) + 1 ≤ m) (hvl : vs.length = n + 2) (hvd : Dig vs) (hV : V = val vs) (ht : 0 < rd vs ((n + 1 : Nat) : Int)) :
  Hd (val ((L.drop j).take (n + 2 + 1))) V (rd L ((j + (n + 2) : Nat) : Int)) (rd L ((j + (n + 1) : Nat) : Int)) (rd L ((j + n : Nat) : Int)) (rd vs ((n + 1 : Nat) : Int)) (rd vs (n : Int)) := by
 have hVb : V < bp (n + 2) := by rw [hV, ← hvl]; exact val_lt hvd
 have hL := h.lenL
 have hl : (L.drop j).length = m - j := by rw [List.length_drop, hL]
 have hr : ∀ i : Nat, i < m - j → rd (L.drop j) (i : Int) = rd L ((j + i : Nat) : Int) := by
  intro i hi
  rw [rd_at i (by omega), rd_at (j + i) (by omega), List.getElem_drop]
 have t3 := top3 (l := L.drop j) n (by omega)
 rw [hr _ (by omega), hr _ (by omega), hr _ (by omega)] at t3
 have t2 := top2 (l := vs) n hvl
 have dr : ∀ i : Nat, i < m → 0 ≤ rd L (i : Int) ∧ rd L (i : Int) < 4294967296 := by
  intro i hi
  rw [rd_at i (by omega)]
  exact h.digL.at i (by omega)
 have dv : ∀ i : Nat, i < n + 2 → 0 ≤ rd vs (i : Int) ∧ rd vs (i : Int) < 4294967296 := by
  intro i hi
  rw [rd_at i (by omega)]
  exact hvd.at i (by omega)
 have l1 := val_lt ((h.digL.drop j).take n)
 have l2 := val_lt (hvd.take n)
 rw [List.length_take, Nat.min_eq_left (by omega)] at l1 l2
 exact ⟨⟨bp n, _, _, bp_pos n, by rw [hV]; exact t2, val_nonneg (hvd.take n), l2, t3, val_nonneg ((h.digL.drop j).take n), l1⟩, (h.win hVb hj).2, by rw [hV]; exact val_nonneg hvd, val_nonneg ((h.digL.drop j).take _), dr _ (by omega), dr _ (by omega), dr _ (by omega), ⟨ht, (dv _ (by omega)).2⟩, dv _ (by omega)⟩
theorem no_borrow {W V g y : Int} (hy : y = W - g * V) (hlt : W < (g + 1) * V) : y < V := by
 have e : (g + 1) * V = g * V + V := by grind
 omega
theorem borrow {W V g y z o p : Int} (hp : 0 < p) (hy : y = W - g * V + p) (hyl : y < p) (hge : (g - 1) * V ≤ W) (hz0 : 0 ≤ z) (hzl : z < p) (hVp : V ≤ p) (ho0 : 0 ≤ o) (ho1 : o ≤ 1) (hz : z + p * o = y + V) : z = W - (g - 1) * V ∧ z < V := by
 have e : (g - 1) * V = g * V - V := by grind
 rcases Int.lt_or_le 0 o with h | h
 ·obtain rfl : o = 1 := by omega
  omega
 ·obtain rfl : o = 0 := by omega
  omega
theorem shr_step {r0 r1 R : Int} {s : Nat} (hs : s ≤ 31) (h0 : 0 ≤ r0) (h0' : r0 < 4294967296) (h1 : 0 ≤ r1) (h1' : r1 < 4294967296) (hR : R % 4294967296 = r1) :
  (r0 + 4294967296 * R) / 2 ^ s = ((r1 * 4294967296 + r0) / 2 ^ s) % 4294967296 + 4294967296 * (R / 2 ^ s) := by
 obtain ⟨p, hp⟩ : ∃ p : Int, p = 2 ^ s := ⟨_, rfl⟩
 obtain ⟨K, hK⟩ : ∃ K : Int, K = 2 ^ (32 - s) := ⟨_, rfl⟩
 have hpp : 0 < p := by rw [hp]; exact Int.pow_pos (by decide)
 have hKp : 0 < K := by rw [hK]; exact Int.pow_pos (by decide)
 have hB : (4294967296 : Int) = p * K := by rw [hp, hK, ← Int.pow_add, show s + (32 - s) = 32 by omega]; rfl
 rw [← hp]
 have e1 : r0 + 4294967296 * R = r0 + p * (K * R) := by rw [hB]; grind
 have e2 : r1 * 4294967296 + r0 = r0 + p * (K * r1) := by rw [hB]; grind
 rw [e1, e2, Int.add_mul_ediv_left _ _ (by omega), Int.add_mul_ediv_left _ _ (by omega)]
 have dR := Int.mul_ediv_add_emod R p
 have d1 := Int.mul_ediv_add_emod r1 p
 have m1 : R % p = r1 % p := by
  rw [← hR, Int.emod_emod_of_dvd _ ⟨K, hB⟩]
 have q0 : 0 ≤ r0 / p := Int.ediv_nonneg h0 (by omega)
 have q1 : r0 / p < K := by
  apply Int.ediv_lt_of_lt_mul hpp
  rw [Int.mul_comm, ← hB]; exact h0'
 have m0 := Int.emod_nonneg r1 (show p ≠ 0 by omega)
 have m2 := Int.emod_lt_of_pos r1 hpp
 have k0 : 0 ≤ K * (r1 % p) := Int.mul_nonneg (by omega) m0
 have k1 : K * (r1 % p + 1) ≤ K * p := Int.mul_le_mul_of_nonneg_left (by omega) (by omega)
 have kp : K * p = 4294967296 := by rw [hB]; grind
 have e3 : K * (r1 % p + 1) = K * (r1 % p) + K := by grind
 have e4 : r0 / p + K * r1 = (r0 / p + K * (r1 % p)) + 4294967296 * (r1 / p) := by
  have : K * r1 = K * (p * (r1 / p) + r1 % p) := by rw [d1]
  rw [this, hB]; grind
 have e5 : (r0 / p + K * r1) % 4294967296 = r0 / p + K * (r1 % p) := by
  rw [e4, Int.add_mul_emod_self_left, Int.emod_eq_of_lt (by omega) (by omega)]
 have e6 : K * R = 4294967296 * (R / p) + K * (r1 % p) := by
  have : K * R = K * (p * (R / p) + R % p) := by rw [dR]
  rw [this, m1, hB]; grind
 rw [e5, e6]
 omega
end Go.Proofs.Ytkafbmanmffliaa.PuK

/- Quotients of lists of digits: where the dividend is less, and where the divisor has one digit. -/
namespace Go.Proofs.Ytkafbmanmffliaa.Dd
open Go Go.RowKit YtkafbmanmffliaaW.PrintWords YtkafbmanmffliaaW.PrintLast YtkafbmanmffliaaW.PrintMore Q Bg PuG Da Dc
theorem U.lit {B : Nat} {W : World} (xs : List Int) (cs : Array Value) (hcs : cs = (nums .u32 xs).toArray) (hB : B ≤ W.heap.size) (hl : xs.length ≤ 1024) : U B (W.alloc (.cells cs 146)) (.slice (some ⟨W.heap.size, 0, none⟩) xs.length xs.length) xs := by
 subst hcs
 have ho : (W.alloc (.cells (nums .u32 xs).toArray 146)).ownsRow B 146 1 (.slice (some ⟨W.heap.size, 0, none⟩) xs.length xs.length) xs.length (encs (Value.int .u32) xs) :=
  ⟨by simp [encs], .inr ⟨W.heap.size, xs.length, _, rfl, hB, heap_alloc_new W _, Nat.le_refl _, by simp [maxLen]; omega, by simp [nums], by rw [Nat.mul_one]; exact List.take_of_length_le (by simp [nums])⟩⟩
 exact U.of (Kd.R_of_own (ok := fun _ => True) ho (fun _ _ => trivial))
def Ds (W : World) (v : Value) (xs : List Int) : Prop := ∃ A c, v = .slice A xs.length c ∧ xs.length ≤ c ∧ (Kd.int .u32).C W A xs.length xs ∧ Dig xs ∧ Trim xs
theorem Ds.below {W W' : World} {v : Value} {xs : List Int} (h : Ds W v xs) (hb : Below W.heap.size W W') : Ds W' v xs := by
 obtain ⟨A, c, h1, h2, h3, h4, h5⟩ := h
 exact ⟨A, c, h1, h2, Kd.C_below h3 hb, h4, h5⟩
theorem Ds.of_U {B : Nat} {W : World} {v : Value} {xs : List Int} (h : U B W v xs) (hd : Dig xs) (ht : Trim xs) : Ds W v xs := by
 obtain ⟨A, c, rfl⟩ := h.slice
 exact ⟨A, c, rfl, h.reads.2.1, h.reads.2.2, hd, ht⟩
theorem Ds.of_V {B : Nat} {W : World} {ok : Nat → Prop} {v : Value} {xs : List Int} (h : Kd.V (Kd.int .u32) 146 W B ok v xs) (hd : Dig xs) (ht : Trim xs) : Ds W v xs := by
 obtain ⟨A, c, rfl⟩ := Kd.V_slice h
 exact ⟨A, c, rfl, (Kd.V_reads' h).2.1, (Kd.V_reads' h).2.2, hd, ht⟩
theorem Ds.nil (W : World) : Ds W (.slice none 0 0) [] := Ds.of_U (B := 0) U.nil Dig.nil Trim.nil
def Quo (as' bs q r : List Int) : Prop := val as' = val q * val bs + val r ∧ val r < val bs
def DivEnds (w : World) (xa xb : List Int) (e : Ending) (w' : World) : Prop := ∃ v0 v1 q r, e = .returned (.tuple #[v0, v1]) ∧ Ds w' v0 q ∧ Ds w' v1 r ∧ Quo xa xb q r ∧ Below w.heap.size w w'
theorem add_zero' (a : Addr) : a.add 0 = a := by
 cases a
 unfold Addr.add
 split <;> simp_all
theorem below_drawn0 {w w' : World} (h : Drawn0 w w') : Below w.heap.size w w' := by
 obtain ⟨n, rfl⟩ := h
 exact pw_below_drewN (Below.refl _ _) n
set_option maxHeartbeats 4000000 in
set_option maxRecDepth 100000 in
theorem div_less (A0 A1 : Option Addr) (c0 c1 : Nat) (xa xb : List Int) (w : World) (h0 : (Kd.int .u32).C w A0 xa.length xa) (l0 : xa.length ≤ c0) (h1 : (Kd.int .u32).C w A1 xb.length xb) (l1 : xb.length ≤ c1) (da : Dig xa) (ta : Trim xa) (db : Dig xb) (tb : Trim xb) (hla : xa.length < 268435456) (hlb : xb.length < 268435456) (hlt : val xa < val xb) :
  Calls Try.prog 147 #[.slice A0 xa.length c0, .slice A1 xb.length c1] w (DivEnds w xa xb) := by
 have hu := Try.underlying108
 obtain ⟨cc, g1, g2, g3, g4, g5⟩ := cmp_ok da db ta tb (by omega) (by omega) (xa.length + 1) (by omega)
 have hcn : cc < 0 := g4.2 hlt
 have hcc := impl_cmpMag.calls (xa.length + 1) A0 c0 xa A1 c1 xb cc w h0 l0 h1 l1 g1
 have p1 : decide (cc < 0) = true := decide_eq_true hcn
 have H0 := Aside0.mk h0
 have HF := Aside0.mk (And.intro da (And.intro ta hlt))
 have HR := Aside0.mk hla
 clear g1 g2 g3 g4 g5 h0 h1 l0 l1 da ta db tb hcn hlt
 go_enter Try.func147, Try.ntmps147
 go_wp2_with (first
  | (go_at_call 145; refine hcc.mono ?_; rintro e w1 ⟨rfl, hd⟩; have H1 := Aside0.mk (below_drawn0 hd); clear hd)
  | ((with_reducible refine gate_builtin (b := .append) (xs := #[.tmp 25, .tmp 26]) rfl ?_); at_builtin; refine Kd.R_append_row (w0 := w) (Value.int .u32) (0 : Int) w.heap.size rfl (.tmp 25) (.tmp 26) 108 146 (.int .u32 0) 4 rfl Try.underlying108 infoU rfl (by decide) _ [] xa A0 xa.length c0 (fun _ => True) rfl rfl (fun _ _ => trivial) (U.nil_new H1.out.size) (Kd.C_below H0.out (below_alloc H1.out _)) (below_alloc H1.out _) (below_alloc H1.out _).size (by have := HR.out; simp; omega) ?_; intro v1 w4 n1 n2 n3 n4))
 go_ret2
 exact ⟨_, _, [], xa, rfl, Ds.nil _, Ds.of_U (B := w.heap.size) n1 HF.out.1 HF.out.2.1, ⟨by simp [val], HF.out.2.2⟩, n2⟩
set_option maxHeartbeats 4000000 in
set_option maxRecDepth 100000 in
theorem div_short (A0 A1 : Option Addr) (c0 c1 : Nat) (xa : List Int) (b : Int) (w : World) (h0 : (Kd.int .u32).C w A0 xa.length xa) (l0 : xa.length ≤ c0) (h1 : (Kd.int .u32).C w A1 [b].length [b]) (l1 : [b].length ≤ c1) (da : Dig xa) (ta : Trim xa) (db : Dig [b]) (tb : Trim [b]) (hla : xa.length < 268435456) (hge : val [b] ≤ val xa) :
  Calls Try.prog 147 #[.slice A0 xa.length c0, .slice A1 1 c1] w (DivEnds w xa [b]) := by
 have hu := Try.underlying108
 obtain ⟨cc, g1, g2, g3, g4, g5⟩ := cmp_ok da db ta tb (by omega) (by simp) (xa.length + 1) (by omega)
 have hcn : ¬ cc < 0 := fun h => by have := g4.1 h; omega
 have hcc := impl_cmpMag.calls (xa.length + 1) A0 c0 xa A1 c1 [b] cc w h0 l0 h1 l1 g1
 have p1 : decide (cc < 0) = false := decide_eq_false hcn
 have hb := (Dig.cons.1 db).1
 have hb0 : b ≠ 0 := fun e => tb (by simp [e])
 obtain ⟨q, s, k1, k2, k3, k4, k5, k6, k7⟩ := short_ok da b (by omega) hb.2 (by omega) (2 * xa.length + 3) (by omega)
 have H0 := Aside0.mk h0
 have H1 := Aside0.mk h1
 have HL := Aside0.mk l0
 have HS := Aside0.mk k1
 have HF := Aside0.mk (And.intro k2 (And.intro k3 (And.intro k4 (And.intro k5 k6))))
 have HB := Aside0.mk hb
 change Calls Try.prog 145 #[.slice A0 xa.length c0, .slice A1 1 c1] w _ at hcc
 clear g1 g2 g3 g4 g5 h0 h1 l0 l1 da ta db tb hcn hge k1 k2 k3 k4 k5 k6 k7 hb
 go_enter Try.func147, Try.ntmps147
 go_wp2_with (first
  | (go_at_call 145; refine hcc.mono ?_; rintro e w1 ⟨rfl, hd⟩; have B1 := Aside0.mk (below_drawn0 hd); clear hd; obtain ⟨ad, ead, hx⟩ := Kd.at_int (Kd.C_below H1.out B1.out) 0 (by decide) (by simp); cases ead; have hx' : w1.cell? ad = some (.int .u32 b) := by (have h2 : w1.cell? (ad.add 0) = some (.int .u32 b) := hx); rwa [add_zero'] at h2)
  | (go_at_call 152; refine (impl_shortMag.calls (2 * xa.length + 3) A0 c0 xa b q s w1 (Kd.C_below H0.out B1.out) HL.out HS.out).mono ?_; rintro e w2 ⟨v0, rfl, hv, hb2⟩; have V2 := Aside0.mk hv; have B2 := Aside0.mk (below_step B1.out hb2); clear hv hb2)
  | (go_at_call 146; have hU := U.lit (B := w.heap.size) (W := w2) [s] #[.int .u32 s] rfl B2.out.size (by simp); refine (trim_any _ 1 [s] _ hU.reads.2.2 (by simp)).mono ?_; rintro e w3 ⟨rfl, rfl⟩))
 go_ret2
 have hU := U.lit (B := w.heap.size) (W := w2) [s] #[.int .u32 s] rfl B2.out.size (by simp)
 have hle := tl_le [s] 1
 obtain ⟨f1, f2, f3, f4, f5⟩ := HF.out
 have hs1 : s < 4294967296 := by have := HB.out; omega
 have hv := tl_val [s] 1 (by simp)
 have hds : Dig [s] := Dig.cons.2 ⟨⟨f2, hs1⟩, Dig.nil⟩
 refine ⟨_, _, q, [s].take (tl [s] 1), rfl, (Ds.of_V V2.out f4 f5).below (below_alloc (Below.refl _ _) _), Ds.of_U (hU.take hle) (hds.take _) (tl_trim [s] 1 (by simp)), ⟨?_, ?_⟩, below_alloc B2.out _⟩
 ·rw [hv]; simp [val]; exact f1
 ·rw [hv]; simp [val]; exact f3
end Go.Proofs.Ytkafbmanmffliaa.Dd

/- Quotients of lists of digits: the long division. -/
namespace Go.Proofs.Ytkafbmanmffliaa.De
open Go Go.RowKit YtkafbmanmffliaaW.PrintWords YtkafbmanmffliaaW.PrintLast YtkafbmanmffliaaW.PrintMore Q Bg PuG Da Db Dc Dd
theorem U.bk {B : Nat} {W : World} {g n c : Nat} {xs : List Int} (h : U B W (.slice (some ⟨g, 0, none⟩) n c) xs) : Bk W g xs ∧ B ≤ g := by
 have ho := Kd.own_of_R h
 obtain ⟨h1, h2⟩ := ho
 rcases h2 with ⟨he, _⟩ | ⟨g', cap, cur, he, hb, hh, hn, hm, hs, ht⟩
 ·cases he
 ·injection he with ha _ _
  injection ha with ha
  injection ha with ha
  subst ha
  refine ⟨⟨cur, hh, fun i hi => ?_⟩, hb⟩
  have h3 : (cur.toList.take (xs.length * 1))[i]? = (encs (Value.int .u32) xs)[i]? := by rw [ht]
  rw [List.getElem?_take, if_pos (by omega), Array.getElem?_toList] at h3
  rw [h3, rd_at i hi]
  simp [encs, hi]
theorem U.form {B : Nat} {W : World} {v : Value} {xs : List Int} (h : U B W v xs) (hp : 0 < xs.length) : ∃ g c, v = .slice (some ⟨g, 0, none⟩) xs.length c ∧ xs.length ≤ c ∧ B ≤ g ∧ Bk W g xs := by
 obtain ⟨g, cap, he, hb, hl, _⟩ := Kd.R_form h hp
 subst he
 exact ⟨g, cap, rfl, (U.reads h).2.1, hb, (U.bk h).1⟩
theorem U.F {B : Nat} {W : World} {g n c : Nat} {xs : List Int} (h : U B W (.slice (some ⟨g, 0, none⟩) n c) xs) : Kd.F (Kd.int .u32) W (fun k => k = g) (some ⟨g, 0, none⟩) xs.length xs := by
 have h1 := Kd.R_F (Kd.R_tight rfl h)
 rw [(U.reads h).1] at h1
 exact Kd.F_mono h1 (fun k hk => by simpa [Value.ownBlock] using hk)
theorem shift_len {xb vs : List Int} {nb s : Nat} (hl : xb.length = nb) (h1 : 1 ≤ nb) (d : Dig xb) (t : Trim xb) (dv : Dig vs) (tv : Trim vs) (hv : val vs = val xb * 2 ^ s) (hs : s ≤ 31) (ht : rd xb ((nb : Int) - 1) * 2 ^ s < 4294967296) : vs.length = nb := by
 obtain ⟨K, hK⟩ : ∃ K : Int, K = 2 ^ (32 - s) := ⟨_, rfl⟩
 have hp : (0 : Int) < 2 ^ s := Int.pow_pos (by decide)
 have hB : (4294967296 : Int) = K * 2 ^ s := by rw [hK, ← Int.pow_add, show (32 - s) + s = 32 by omega]; rfl
 obtain ⟨m, rfl⟩ : ∃ m, nb = m + 1 := ⟨nb - 1, by omega⟩
 have em : ((m + 1 : Nat) : Int) - 1 = (m : Int) := by omega
 rw [em] at ht
 have hge := val_ge d t (by intro e; rw [e] at hl; simp at hl)
 rw [hl, Nat.add_sub_cancel] at hge
 have h2 : val xb ≤ val vs := by
  rw [hv]
  have : val xb * 1 ≤ val xb * 2 ^ s := Int.mul_le_mul_of_nonneg_left (by omega) (val_nonneg d)
  omega
 have hlo : m < vs.length := by
  rcases Nat.lt_or_ge m vs.length with h | h
  ·exact h
  ·have := val_lt dv
   have := bp_mono h
   omega
 have htk : rd xb (m : Int) < K := by
  rw [hB] at ht
  exact Int.lt_of_mul_lt_mul_right ht (by omega)
 have hx := val_take_succ (l := xb) m (by omega)
 rw [val_take_all (by omega), ← rd_at m (by omega)] at hx
 have hlow := val_lt (d.take m)
 rw [List.length_take, Nat.min_eq_left (by omega)] at hlow
 have h3 : val xb < K * bp m := by
  have : bp m * (rd xb (m : Int) + 1) ≤ bp m * K := Int.mul_le_mul_of_nonneg_left (by omega) (by have := bp_pos m; omega)
  have e : bp m * (rd xb (m : Int) + 1) = bp m * rd xb (m : Int) + bp m := by grind
  have e2 : bp m * K = K * bp m := by grind
  omega
 have h4 : val vs < bp (m + 1) := by
  rw [hv, bp_succ, hB]
  have : val xb * 2 ^ s < (K * bp m) * 2 ^ s := Int.mul_lt_mul_of_pos_right h3 hp
  have e : (K * bp m) * 2 ^ s = K * 2 ^ s * bp m := by grind
  omega
 have := len_le dv tv h4
 omega
theorem U.push {P : Program} {ops : Array Oper} {Q : Exit → Act → World → Prop} {rest : List Oper} {o : Oper} {a : Act} {w0 W : World} {B g n c gv nb : Nat} {xs vs : List Int} (hP : P = Try.prog) (hgd : o.guard = none) (s x : Operand)
  (ho : o.op = .call { callee := .builtin .append, args := #[s, x], argTypes := #[108, 108] }) (p : Int) (hs : a.eval s = .slice (some ⟨g, 0, none⟩) n c) (hx : a.eval x = .slice (some ⟨W.heap.size, 0, none⟩) 1 1)
  (HO : U B W (.slice (some ⟨g, 0, none⟩) n c) xs) (HB : Below B w0 W) (hbase : B ≤ W.heap.size) (hl : n ≤ 1073741824) (hgv : gv < W.heap.size) (hne : g ≠ gv) (HV : Kd.F (Kd.int .u32) W (fun k => k = gv) (some ⟨gv, 0, none⟩) nb vs)
  (h : ∀ g1 c1 w1, U B w1 (.slice (some ⟨g1, 0, none⟩) (n + 1) c1) (xs ++ [p]) → Below B w0 w1 → g1 ≠ gv → gv < w1.heap.size → Kd.F (Kd.int .u32) w1 (fun k => k = gv) (some ⟨gv, 0, none⟩) nb vs → wpList P ops Q rest (a.put o.dst (.slice (some ⟨g1, 0, none⟩) (n + 1) c1)) w1) :
  wpList P ops Q (o :: rest) a (W.alloc (.cells #[.int .u32 p] 146)) := by
 have hn := (U.reads HO).1
 refine U.append hP hgd s x ho p hs hx HO HB hbase (by omega) ?_
 intro v1 w1 k1 k2 k3 k4
 obtain ⟨g1, c1, rfl, _, _, _⟩ := U.form k1 (by simp)
 have e : (xs ++ [p]).length = n + 1 := by simp; omega
 rw [e] at k1 k4 ⊢
 refine h g1 c1 w1 k1 k2 ?_ (Nat.lt_of_lt_of_le hgv k3.size) (Kd.F_grown HV k3 (fun k hk e2 => hne ?_))
 ·rcases k4 with e2 | ⟨b, e2, hb⟩
  ·simp [Value.ownBlock] at e2; omega
  ·simp [Value.ownBlock] at e2; omega
 ·simp [Value.ownBlock] at e2; omega
theorem mkU2 (m : Nat) (hm : m ≤ 1073741824) : ∀ W : World, (Instr.makeSlice 108 (.int .i64 (m : Int)) (.int .i64 (m : Int))).run Try.prog W = .ok (.slice (some ⟨W.heap.size, 0, none⟩) m m) (W.alloc (.cells (madeCells #[.int .u32 0] m) 146)) :=
 print_make_of 108 146 (.int .u32 0) 4 Try.underlying108 infoU rfl (by decide) m (by omega)
theorem bk_made (W : World) (m : Nat) : Bk (W.alloc (.cells (madeCells #[.int .u32 0] m) 146)) W.heap.size (List.replicate m 0) := by
 refine ⟨_, heap_alloc_new W _, fun i hi => ?_⟩
 rw [List.length_replicate] at hi
 rw [rd_at i (by simpa using hi)]
 simp [madeCells, hi, Nat.mod_one]
theorem inv_start {xa xb xs vs : List Int} {na nb nq s : Nat} (hna : xa.length = na) (hnb : xb.length = nb) (h2 : 1 ≤ nb) (da : Dig xa) (db : Dig xb) (tb : Trim xb) (hxl : xs.length = na + 1) (dx : Dig xs) (hA : val xs = val xa * 2 ^ s) (hV : val vs = val xb * 2 ^ s) (hq : nq + nb = na + 1) :
  PuK.Inv (val xs) (val vs) nb (na + 1) xs (List.replicate nq 0) nq := by
 have hp : (0 : Int) < 2 ^ s := Int.pow_pos (by decide)
 refine ⟨hxl, by simp; omega, dx, Dig.zeros _, by rw [val_zeros]; omega, ?_, ?_⟩
 ·have h3 := val_lt da
  have h4 := val_ge db tb (by intro e; rw [e] at hnb; simp at hnb; omega)
  rw [hna] at h3
  rw [hnb] at h4
  rw [hA, hV]
  have h5 : val xa * 2 ^ s < bp na * 2 ^ s := Int.mul_lt_mul_of_pos_right h3 hp
  have h6 : (bp (nb - 1) * bp nq) * 2 ^ s ≤ (val xb * bp nq) * 2 ^ s := Int.mul_le_mul_of_nonneg_right (Int.mul_le_mul_of_nonneg_right h4 (by have := bp_pos nq; omega)) (by omega)
  rw [← bp_add, show nb - 1 + nq = na by omega] at h6
  have e : val xb * 2 ^ s * bp nq = (val xb * bp nq) * 2 ^ s := by grind
  omega
 ·intro i hi
  rw [rd_at i (by simpa using hi)]
  simp
theorem top_bounds {vs : List Int} {n : Nat} (h2 : 2 ≤ n) (hvl : vs.length = n) (hvd : Dig vs) (hvt : Trim vs) : 0 < rd vs ((n : Int) - 1) ∧ rd vs ((n : Int) - 1) < 4294967296 := by
 obtain ⟨k, rfl⟩ : ∃ k, n = k + 1 := ⟨n - 1, by omega⟩
 have e1 : ((k + 1 : Nat) : Int) - 1 = (k : Int) := by omega
 rw [e1, rd_at k (by omega)]
 have h3 := hvd.at k (by omega)
 refine ⟨?_, h3.2⟩
 rcases Int.lt_or_le 0 (vs[k]) with h4 | h4
 ·exact h4
 ·exfalso
  apply hvt
  rw [List.getLast?_eq_getElem?, List.getElem?_eq_getElem (by omega)]
  congr 1
  have h5 : vs[vs.length - 1] = vs[k] := by congr 1; omega
  omega
theorem head_nat {A : Int} {n m : Nat} {L Q vs : List Int} {j : Nat} (h2 : 2 ≤ n) (hj : j + n + 1 ≤ m) (h : PuK.Inv A (val vs) n m L Q (j + 1)) (hvl : vs.length = n) (hvd : Dig vs) (hvt : Trim vs) :
  PuK.Hd (val ((L.drop j).take (n + 1))) (val vs) (rd L ((j + n : Nat) : Int)) (rd L ((j + n - 1 : Nat) : Int)) (rd L ((j + n - 2 : Nat) : Int)) (rd vs ((n : Int) - 1)) (rd vs ((n : Int) - 2)) := by
 obtain ⟨k, rfl⟩ : ∃ k, n = k + 2 := ⟨n - 2, by omega⟩
 have ht : 0 < rd vs ((k + 1 : Nat) : Int) := by
  rw [rd_at (k + 1) (by omega)]
  have h3 := hvd.at (k + 1) (by omega)
  rcases Int.lt_or_le 0 (vs[k + 1]) with h4 | h4
  ·exact h4
  ·exfalso
   apply hvt
   rw [List.getLast?_eq_getElem?, List.getElem?_eq_getElem (by omega)]
   congr 1
   have h5 : vs[vs.length - 1] = vs[k + 1] := by congr 1; omega
   omega
 have := PuK.Inv.head h (by omega) hvl hvd rfl ht
 have e1 : ((k + 2 : Nat) : Int) - 1 = ((k + 1 : Nat) : Int) := by omega
 have e2 : ((k + 2 : Nat) : Int) - 2 = (k : Int) := by omega
 rw [e1, e2, show j + (k + 2) - 1 = j + (k + 1) by omega, show j + (k + 2) - 2 = j + k by omega]
 exact this
theorem bk_C {W : World} {g m : Nat} {L : List Int} (h : Bk W g L) (hm : m ≤ L.length) (hl : m ≤ 1073741824) : (Kd.int .u32).C W (some ⟨g, 0, none⟩) m (L.take m) := by
 refine Kd.C_of_reads (d := (0 : Int)) ⟨by rw [List.length_take]; omega, by omega, fun _ => ⟨_, rfl, fun j hj => ?_⟩⟩
 rw [add_plain, h.cell j (by omega), rd_at j (by omega), List.getD_eq_getElem?_getD, List.getElem?_take, if_pos (by omega), List.getElem?_eq_getElem (by omega)]
 rfl
theorem bk_C0 {W : World} {g : Nat} {L : List Int} (h : Bk W g L) (hl : L.length ≤ 1073741824) : (Kd.int .u32).C W (some ⟨g, 0, none⟩) L.length L := by
 have := bk_C h (Nat.le_refl _) hl
 rwa [List.take_of_length_le (Nat.le_refl _)] at this
theorem shr_at {L : List Int} {p i s : Nat} (hs : s ≤ 31) (hd : Dig L) (hp : p ≤ L.length) (hi : i < p) :
  val ((L.take p).drop i) / 2 ^ s = (((if i + 1 < p then rd L ((i + 1 : Nat) : Int) else 0) * 4294967296 + rd L (i : Int)) / 2 ^ s) % 4294967296 + 4294967296 * (val ((L.take p).drop (i + 1)) / 2 ^ s) := by
 have hl : (L.take p).length = p := by rw [List.length_take]; omega
 have h0 := val_drop (l := L.take p) i (by omega)
 have hg : ∀ k : Nat, k < p → ∀ h : k < (L.take p).length, (L.take p)[k] = rd L (k : Int) := by
  intro k hk h
  rw [rd_at k (by omega), List.getElem_take]
 rw [hg i hi] at h0
 have db : ∀ k : Nat, k < p → 0 ≤ rd L (k : Int) ∧ rd L (k : Int) < 4294967296 := by
  intro k hk
  rw [rd_at k (by omega)]
  exact hd.at k (by omega)
 rw [h0]
 by_cases hn : i + 1 < p
 ·rw [if_pos hn]
  have h1 := val_drop (l := L.take p) (i + 1) (by omega)
  rw [hg (i + 1) hn] at h1
  refine PuK.shr_step hs (db i hi).1 (db i hi).2 (db (i + 1) hn).1 (db (i + 1) hn).2 ?_
  have := db (i + 1) hn
  rw [h1]; omega
 ·rw [if_neg hn]
  have h1 : (L.take p).drop (i + 1) = [] := List.drop_of_length_le (by omega)
  rw [h1]
  exact PuK.shr_step hs (db i hi).1 (db i hi).2 (by omega) (by omega) (by simp [val])
theorem shr_next {L X : List Int} {na p i s : Nat} {r0 r1 m : Int} (hX : X.length = na) (hL : L.length = na) (dX : Dig X) (dL : Dig L) (hdr : X.drop i = L.drop i) (hv : val (X.take i) + bp i * (val ((L.take p).drop i) / 2 ^ s) = val (L.take p) / 2 ^ s) (hs : s ≤ 31) (hp : p ≤ na) (hi : i < p)
  (hr0 : r0 = rd L (i : Int)) (hr1 : r1 = (if i + 1 < p then rd L ((i + 1 : Nat) : Int) else 0)) (hm : m = r1 * 4294967296 + r0) :
  (X.set i (m / 2 ^ s % 4294967296)).length = na ∧ Dig (X.set i (m / 2 ^ s % 4294967296)) ∧ (X.set i (m / 2 ^ s % 4294967296)).drop (i + 1) = L.drop (i + 1) ∧ val ((X.set i (m / 2 ^ s % 4294967296)).take (i + 1)) + bp (i + 1) * (val ((L.take p).drop (i + 1)) / 2 ^ s) = val (L.take p) / 2 ^ s := by
 have hstep := shr_at (L := L) (p := p) (i := i) (s := s) hs dL (by omega) hi
 rw [← hr0, ← hr1, ← hm] at hstep
 refine ⟨by rw [List.length_set]; exact hX, dX.set i (Int.emod_nonneg _ (by decide)) (Int.emod_lt_of_pos _ (by decide)), by rw [drop_set_succ]; exact drop_of' (by omega) (by omega) hdr, ?_⟩
 rw [val_take_set i (by omega), bp_succ, ← hv, hstep]
 generalize m / 2 ^ s % 4294967296 = q
 generalize val ((L.take p).drop (i + 1)) / 2 ^ s = t
 grind
theorem ds_bk {W : World} {g m c : Nat} {L : List Int} (h : Bk W g L) (hm : m ≤ L.length) (hl : L.length ≤ 1073741824) (hc : L.length ≤ c) (hd : Dig L) (ht : Trim (L.take m)) : Ds W (.slice (some ⟨g, 0, none⟩) m c) (L.take m) := by
 have e : (L.take m).length = m := by rw [List.length_take]; omega
 refine ⟨some ⟨g, 0, none⟩, c, by rw [e], by omega, ?_, hd.take m, ht⟩
 rw [e]
 exact bk_C h hm (by omega)
theorem div_end {xa xb xs vs L Q X : List Int} {nb na p s : Nat} (h : PuK.Inv (val xs) (val vs) nb (na + 1) L Q 0) (hX : val (X.take p) + bp p * (val ((L.take p).drop p) / 2 ^ s) = val (L.take p) / 2 ^ s) (hL : val (L.take p) = val L) (hV : val vs = val xb * 2 ^ s) (hA : val xs = val xa * 2 ^ s) :
  val xa = val Q * val xb + val (X.take p) ∧ val (X.take p) < val xb := by
 have hd : (L.take p).drop p = [] := List.drop_of_length_le (by rw [List.length_take]; omega)
 have hp : (0 : Int) < 2 ^ s := Int.pow_pos (by decide)
 rw [hd, hL] at hX
 have e0 : val ([] : List Int) / 2 ^ s = 0 := by simp [val]
 rw [e0, Int.mul_zero, Int.add_zero] at hX
 have h1 := h.eq
 have h2 := h.lt
 have e1 : val L = 2 ^ s * (val xa - val Q * val xb) := by
  rw [hA, hV] at h1
  generalize (2 : Int) ^ s = t at *
  grind
 rw [e1, Int.mul_ediv_cancel_left _ (by omega)] at hX
 rw [e1, hV] at h2
 have h3 : 2 ^ s * (val xa - val Q * val xb) < 2 ^ s * val xb := by
  have e2 : val xb * 2 ^ s * bp 0 = 2 ^ s * val xb := by simp only [bp]; rw [Int.mul_one, Int.mul_comm]
  omega
 have h4 := Int.lt_of_mul_lt_mul_left h3 (by omega)
 omega
theorem win_drop {L : List Int} {j n : Nat} {x : List Int} (h : j + n ≤ L.length) (hx : x.length = n) : ((win L j n x).drop j).take n = x := by
 unfold win
 rw [List.append_assoc, List.drop_append_of_le_length (by simp; omega), List.drop_of_length_le (by rw [List.length_take]; omega), List.nil_append, List.take_append_of_le_length (by omega), List.take_of_length_le (by omega)]
theorem win_win {L : List Int} {j n : Nat} {x z : List Int} (h : j + n ≤ L.length) (hx : x.length = n) : win (win L j n x) j n z = win L j n z := by
 have h1 : (win L j n x).take j = L.take j := by
  unfold win
  rw [List.append_assoc, List.take_append_of_le_length (by simp; omega), List.take_of_length_le (by rw [List.length_take]; omega)]
 have h2 : (win L j n x).drop (j + n) = L.drop (j + n) := by
  unfold win
  rw [List.drop_append_of_le_length (by simp; omega), List.drop_of_length_le (by simp; omega), List.nil_append]
 unfold win at h1 h2 ⊢
 rw [h1, h2]
theorem win_run (g n c a b : Nat) (hab : a < b) (hb : b ≤ c) : ∀ W : World, (Instr.slice 108 (.slice (some ⟨g, 0, none⟩) n c) (some (.int .i64 (a : Int))) (some (.int .i64 (b : Int))) none).run Try.prog W = .ok (.slice (some ⟨g, a, none⟩) (b - a) (c - a)) W := by
 intro W
 obtain ⟨i0, hi0, _, hsz, _⟩ := info_parts infoU
 have hel : Try.prog.elem 108 = 146 := by simp [Program.elem, Try.underlying108]
 have hu : Try.prog.underlying 108 = some (.slice (Try.prog.elem 108)) := by rw [hel]; exact Try.underlying108
 rw [run_slice_lh W 108 (some ⟨g, 0, none⟩) n c hu .i64 .i64 (a : Int) (b : Int) (by omega) (by omega) (by omega), hel]
 have hca : ¬ c = a := by omega
 simp [sizeOf, typeInfo, hi0, hsz, sliced, Result.andThen, hca, add_plain]
set_option maxHeartbeats 8000000 in
set_option maxRecDepth 100000 in
theorem div_long (A0 A1 : Option Addr) (c0 c1 na nb : Nat) (xa xb : List Int) (w : World) (hna : xa.length = na) (hnb : xb.length = nb) (h0 : (Kd.int .u32).C w A0 xa.length xa) (l0 : na ≤ c0) (h1 : (Kd.int .u32).C w A1 xb.length xb) (l1 : nb ≤ c1) (da : Dig xa) (ta : Trim xa) (db : Dig xb) (tb : Trim xb) (hla : na < 268435456) (hlb : nb < 268435456) (h2 : 2 ≤ nb) (hge : val xb ≤ val xa) :
  Calls Try.prog 147 #[.slice A0 na c0, .slice A1 nb c1] w (DivEnds w xa xb) := by
 have hu := Try.underlying108
 obtain ⟨cc, g1, g2, g3, g4, g5⟩ := cmp_ok da db ta tb (by omega) (by omega) (xa.length + 1) (by omega)
 have hcn : ¬ cc < 0 := fun h => by have := g4.1 h; omega
 have hcc := impl_cmpMag.calls (xa.length + 1) A0 c0 xa A1 c1 xb cc w h0 (by omega) h1 (by omega) g1
 rw [hna, hnb] at hcc
 have p1 : decide (cc < 0) = false := decide_eq_false hcn
 have p2 : ((nb : Int) == 1) = false := beq_eq_false_iff_ne.2 (by omega)
 have hnab : nb ≤ na := by
  rcases Nat.lt_or_ge na nb with h | h
  ·have := lt_of_len da db tb (by omega); omega
  ·exact h
 have htop : 0 < rd xb ((nb : Int) - 1) := by
  have e : (nb : Int) - 1 = ((nb - 1 : Nat) : Int) := by omega
  rw [e, rd_at (nb - 1) (by omega)]
  have h3 := db.at (nb - 1) (by omega)
  rcases Int.lt_or_le 0 (xb[nb - 1]) with h4 | h4
  ·exact h4
  ·exfalso
   apply tb
   rw [List.getLast?_eq_getElem?, List.getElem?_eq_getElem (by omega)]
   congr 1
   have h5 : xb[xb.length - 1] = xb[nb - 1] := by congr 1; omega
   omega
 have htop2 : rd xb ((nb : Int) - 1) < 4294967296 := by
  have e : (nb : Int) - 1 = ((nb - 1 : Nat) : Int) := by omega
  rw [e, rd_at (nb - 1) (by omega)]
  exact (db.at (nb - 1) (by omega)).2
 obtain ⟨top, htp⟩ : ∃ t, t = rd xb ((nb : Int) - 1) := ⟨_, rfl⟩
 have H0 := Aside0.mk h0
 have H1 := Aside0.mk h1
 have HNA := Aside0.mk hna
 have HNB := Aside0.mk hnb
 have HL := Aside0.mk (And.intro l0 l1)
 have HD := Aside0.mk (And.intro da (And.intro ta (And.intro db (And.intro tb hge))))
 have HT := Aside0.mk (And.intro htop htop2)
 have HTP := Aside0.mk htp
 clear g1 g2 g3 g4 g5 h0 h1 l0 l1 da ta db tb hcn hge hna hnb htop htop2 htp
 go_enter Try.func147, Try.ntmps147
 go_wp2_with (fail)
 refine hcc.mono ?_
 rintro e w1 ⟨rfl, hd⟩
 have B1 := Aside0.mk (below_drawn0 hd)
 clear hd
 obtain ⟨ad, ead, hx⟩ := Kd.at_int (Kd.C_below H1.out B1.out) ((nb : Int) - 1) (by omega) (by rw [HNB.out]; omega)
 cases ead
 rw [← HTP.out, show ((nb : Int) - 1).toNat = nb - 1 by omega] at hx
 have i0 : decide (0 ≤ (nb : Int) - 1) = true := decide_eq_true (by omega)
 have i1 : decide ((nb : Int) - 1 < (nb : Int)) = true := decide_eq_true (by omega)
 go_wp2_with (fail)
 refine (Bl.zeros_any top _ (by rw [HTP.out]; exact HT.out.1) (by rw [HTP.out]; exact HT.out.2)).mono ?_
 rintro e w2 ⟨s, rfl, hs, hs2, rfl⟩
 have HS := Aside0.mk hs2
 clear hs2
 go_wp2_with (fail)
 have hsh := shift_any A0 c0 xa s w2 (Kd.C_below H0.out B1.out) (by rw [HNA.out]; exact HL.out.1) HD.out.1 (by rw [HNA.out]; omega) hs
 rw [HNA.out] at hsh
 refine hsh.mono ?_
 rintro e w3 ⟨v2, us, rfl, hu2, hu3, hu4, hu5, hu6, hu7⟩
 have B2 := Aside0.mk (below_step B1.out hu7)
 have HU := Aside0.mk (U.lower hu2 B1.out.size)
 have HUF := Aside0.mk (And.intro hu3 (And.intro hu4 (And.intro hu5 hu6)))
 clear hu2 hu3 hu4 hu5 hu6 hu7 hsh hcc hx
 go_wp2_with (fail)
 have hsh := shift_any (some ad) c1 xb s w3 (Kd.C_below H1.out B2.out) (by rw [HNB.out]; exact HL.out.2) HD.out.2.2.1 (by rw [HNB.out]; omega) hs
 rw [HNB.out] at hsh
 refine hsh.mono ?_
 rintro e w4 ⟨v3, vs, rfl, hu2, hu3, hu4, hu5, hu6, hu7⟩
 have hvl : vs.length = nb := shift_len HNB.out (by omega) HD.out.2.2.1 HD.out.2.2.2.1 hu3 hu4 hu5 hs (by rw [← HTP.out]; exact HS.out)
 have hlt3 : ∀ k, v2.ownBlock = some k → k < w3.heap.size := fun k hk => HU.out.lt hk
 have hup : 0 < us.length := by
  rcases Nat.eq_zero_or_pos us.length with h | h
  ·exfalso
   have e1 := List.length_eq_zero_iff.1 h
   have h5 := HUF.out.2.2.1
   rw [e1] at h5
   have h6 := HD.out.2.2.2.2
   have h7 := val_ge HD.out.2.2.1 HD.out.2.2.2.1 (by intro e; have := HNB.out; rw [e] at this; simp at this; omega)
   have h8 := bp_pos (xb.length - 1)
   have h9 : 0 < val xa * 2 ^ s := Int.mul_pos (by omega) (Int.pow_pos (by decide))
   simp only [val] at h5
   omega
  ·exact h
 obtain ⟨gv, cv, rfl, hcv, hgv, hbv⟩ := U.form hu2 (by omega)
 obtain ⟨gu, cu, rfl, hcu, hgu, hbu⟩ := U.form (HU.out.below hu7) hup
 have hne : gu ≠ gv := by have := hlt3 gu (by simp [Value.ownBlock]); omega
 have HV := Aside0.mk (U.F hu2)
 have HGS := Aside0.mk (Bk.lt hbv)
 have HVF := Aside0.mk (And.intro hu3 (And.intro hu4 (And.intro hu5 hvl)))
 have HUU := Aside0.mk (HU.out.below hu7)
 have B3 := Aside0.mk (below_step B2.out hu7)
 have HGV := Aside0.mk (Nat.le_trans B2.out.size hgv)
 obtain ⟨nu, hnu⟩ : ∃ nu, nu = us.length := ⟨_, rfl⟩
 have hnu1 : nu ≤ na + 1 := by have := HUF.out.2.2.2; have := HNA.out; omega
 rw [hvl] at HV
 rw [← hnu] at HUU hup
 have HNU := Aside0.mk (And.intro hnu hup)
 rw [hvl, ← hnu]
 clear hu2 hu3 hu4 hu5 hu6 hu7 hsh hvl hlt3 hup hcv hgv hbv hcu hgu hbu HU B1 B2 hnu
 go_wp2_with (fail)
 go_loopw [10] (fun v10 wz => ∃ (g n c : Nat) (xs : List Int), v10 = .slice (some ⟨g, 0, none⟩) n c ∧ n ≤ na + 1 ∧ Aside0 (xs.length = n ∧ Dig xs ∧ val xs = val us ∧ 0 < n) ∧ Aside0 (U w.heap.size wz (.slice (some ⟨g, 0, none⟩) n c) xs) ∧ Aside0 (g ≠ gv) ∧ Aside0 (gv < wz.heap.size) ∧ Aside0 (Kd.F (Kd.int .u32) wz (fun k => k = gv) (some ⟨gv, 0, none⟩) nb vs) ∧ Aside0 (Below w.heap.size w wz)) (fun v _ => na + 1 - lenOf v)
 case atStart => exact ⟨gu, nu, cu, us, rfl, hnu1, ⟨HNU.out.1.symm, HUF.out.1, rfl, HNU.out.2⟩, HUU, ⟨hne⟩, HGS, HV, B3⟩
 case round =>
  clear HUU HV B3 HNU HGS hne hnu1
  obtain ⟨g, n, c, xs, rfl, hn, HX, HUX, HNE, HGS, HV, HB⟩ := hrel
  by_cases hlt : n ≤ na
  ·have q1 : decide ((n : Int) ≤ (na : Int)) = true := decide_eq_true (by omega)
   go_wp2_with ((with_reducible refine gate_builtin (b := .append) (xs := #[.tmp 64, .tmp 65]) rfl ?_); at_builtin; refine U.push (w0 := w) rfl rfl (.tmp 64) (.tmp 65) rfl 0 rfl rfl HUX.out HB.out HB.out.size (by omega) HGS.out HNE.out HV.out ?_; intro g1 c1' w5 h1 h2 h3 h4 h5; have n1 := Aside0.mk h1; have n2 := Aside0.mk h2; have n3 := Aside0.mk h3; have n4 := Aside0.mk h4; have n5 := Aside0.mk h5; clear h1 h2 h3 h4 h5)
   go_roundw
   case rel => exact ⟨g1, n + 1, c1', xs ++ [0], rfl, by omega, ⟨by simp [HX.out.1], Dig.append.2 ⟨HX.out.2.1, Dig.cons.2 ⟨by omega, Dig.nil⟩⟩, by rw [val_append, HX.out.2.2.1]; simp [val], by omega⟩, n1, n3, n4, n5, n2⟩
   case measure => simp [lenOf]; omega
  ·obtain rfl : n = na + 1 := by omega
   have q1 : decide (((na + 1 : Nat) : Int) ≤ (na : Int)) = false := decide_eq_false (by omega)
   have q2 : decide ((na : Int) + 1 ≤ (na : Int)) = false := decide_eq_false (by omega)
   go_wp2_with (fail)
   obtain ⟨nq, hq⟩ : ∃ nq : Nat, (na : Int) + 1 - (nb : Int) = (nq : Int) := ⟨na + 1 - nb, by omega⟩
   have mk := mkU2 nq (by omega)
   have hvt := Kd.at_int (Kd.F_now HV.out) ((nb : Int) - 1) (by omega) (by omega)
   obtain ⟨ad2, e2, hvt⟩ := hvt
   cases e2
   rw [show ((nb : Int) - 1).toNat = nb - 1 by omega, add_plain] at hvt
   obtain ⟨vt, hvtt⟩ : ∃ vt, vt = rd vs ((nb : Int) - 1) := ⟨_, rfl⟩
   rw [← hvtt] at hvt
   have HVT := Aside0.mk hvtt
   have hvb := top_bounds h2 HVF.out.2.2.2 HVF.out.1 HVF.out.2.1
   rw [← hvtt] at hvb
   have HVB := Aside0.mk hvb
   have ew : IntKind.u64.wrap vt = vt := w64 (by omega) (by omega)
   have r0 : decide (0 ≤ (na : Int) + 1 - (nb : Int)) = true := decide_eq_true (by omega)
   have ap := add_plain gv (nb - 1)
   have hgs := HGS.out
   clear hvtt
   go_region
   have hV0 : val vs = val xb * 2 ^ s := HVF.out.2.2.1
   have hA0 : val xs = val xa * 2 ^ s := by rw [HX.out.2.2.1]; exact HUF.out.2.2.1
   have HI := Aside0.mk (inv_start HNA.out HNB.out (by omega) HD.out.1 HD.out.2.2.1 HD.out.2.2.2.1 HX.out.1 HX.out.2.1 hA0 hV0 (show nq + nb = na + 1 by omega))
   obtain ⟨w6, hw6⟩ : ∃ w6, w6 = (wr.alloc (.cells (madeCells #[.int .u32 0] nq) 146)).drew := ⟨_, rfl⟩
   have hbl : Below wr.heap.size wr w6 := by rw [hw6]; exact below_drew (below_alloc (Below.refl _ _) _)
   have HBQ := Aside0.mk (show Bk w6 wr.heap.size (List.replicate nq 0) by rw [hw6]; exact Bk.same (bk_made wr nq) rfl)
   have HBU := Aside0.mk (Bk.same (U.bk HUX.out).1 (hbl.block g (Bk.lt (U.bk HUX.out).1)))
   have HV6 := Aside0.mk (Kd.F_below HV.out hbl)
   have HB6 := Aside0.mk (below_step HB.out hbl)
   have HG := Aside0.mk (And.intro (U.bk HUX.out).2 (And.intro HNE.out (And.intro (Bk.lt (U.bk HUX.out).1) (And.intro HGS.out HB.out.size))))
   have HX0 := Aside0.mk hA0
   have HCAP := Aside0.mk (show na + 1 ≤ c from (U.reads HUX.out).2.1)
   obtain ⟨gq, hgq⟩ : ∃ gq, gq = wr.heap.size := ⟨_, rfl⟩
   rw [← hw6, ← hgq]
   rw [← hgq] at HBQ HG
   have e14 : (na : Int) + 1 - (nb : Int) - 1 = (nq : Int) - 1 := by omega
   clear ew hvb mk hvt hV0 hA0 hbl hw6 HV HB HUX HNE HGS HX hgs hgq q1 q2 hlt hn r0 ap i0 i1
   go_wp2_with (fail)
   clear e14
   go_loopw [14] (fun v14 wz => ∃ (jv : Int) (jj : Nat) (L Q : List Int), v14 = .int .i64 jv ∧ Aside0 (jv + 1 = (jj : Int)) ∧ jj ≤ nq ∧ Aside0 (PuK.Inv (val xs) (val vs) nb (na + 1) L Q jj) ∧ Aside0 (Bk wz g L) ∧ Aside0 (Bk wz gq Q) ∧ Aside0 (Kd.F (Kd.int .u32) wz (fun k => k = gv) (some ⟨gv, 0, none⟩) nb vs) ∧ Aside0 (Below w.heap.size w wz)) (fun v _ => (intOf v + 1).toNat)
   case atStart => exact ⟨_, nq, _, _, rfl, ⟨by omega⟩, by omega, HI, HBU, HBQ, HV6, HB6⟩
   case round =>
    clear HI HBU HBQ HV6 HB6
    obtain ⟨jv, jj, L, Q, rfl, HJ, hjj, HI, HBU, HBQ, HV, HB⟩ := hrel
    by_cases hj0 : jj = 0
    ·obtain rfl : jv = -1 := by have := HJ.out; omega
     go_wp2_with (fail)
     have hj1 : jj = 0 := hj0
     subst hj1
     have hLl := HI.out.lenL
     have hQl : Q.length = nq := by have := HI.out.lenQ; omega
     have htr := trim_any (some ⟨g, 0, none⟩) c L wr (bk_C0 HBU.out (by omega)) (by rw [hLl]; exact HCAP.out)
     rw [hLl] at htr
     refine htr.mono ?_
     rintro e w7 ⟨rfl, rfl⟩
     have hp := tl_le L (na + 1)
     have hpv := tl_val L (na + 1) (by omega)
     rw [val_take_all (l := L) (n := na + 1) (by omega)] at hpv
     obtain ⟨p, hpe⟩ : ∃ p, p = tl L (na + 1) := ⟨_, rfl⟩
     rw [← hpe] at hp hpv ⊢
     have HLQ := Aside0.mk (And.intro hLl (And.intro hQl hpv))
     have HX := Aside0.mk (show ∃ X : List Int, True from ⟨[], trivial⟩)
     clear hLl hQl htr hpe hpv HX HJ hj0
     go_wp2_with (fail)
     go_loopw [174] (fun v wz => ∃ (i : Nat) (X : List Int), v = .int .i64 (i : Int) ∧ i ≤ p ∧ Aside0 (X.length = na + 1 ∧ Dig X ∧ X.drop i = L.drop i ∧ val (X.take i) + bp i * (val ((L.take p).drop i) / 2 ^ s) = val (L.take p) / 2 ^ s) ∧ Aside0 (Bk wz g X) ∧ Aside0 (Bk wz gq Q) ∧ Aside0 (Below w.heap.size w wz)) (fun v _ => p - (intOf v).toNat)
     case atStart => exact ⟨0, L, rfl, by omega, ⟨HLQ.out.1, HI.out.digL, rfl, by simp [val, bp]⟩, HBU, HBQ, HB⟩
     case round =>
      clear HBU HBQ HB
      obtain ⟨i, X, rfl, hi, HX, HBU, HBQ, HB⟩ := hrel
      by_cases hlt : i < p
      ·have b0 : decide ((i : Int) < (p : Int)) = true := decide_eq_true (by omega)
       have n0 : decide (0 ≤ (i : Int)) = true := decide_eq_true (by omega)
       have ai := add_plain g i
       have ai1 := add_plain g (i + 1)
       have ci := HBU.out.cell i (by rw [HX.out.1]; omega)
       have fi := HBU.out.frozen i
       have hxi : rd X (i : Int) = rd L (i : Int) := by
        rw [rd_at i (by rw [HX.out.1]; omega), rd_at i (by rw [HLQ.out.1]; omega)]
        exact drop_of (by rw [HX.out.1]; omega) (by rw [HX.out.1, HLQ.out.1]) HX.out.2.2.1
       rw [hxi] at ci
       obtain ⟨r0, hr0⟩ : ∃ x, x = rd L (i : Int) := ⟨_, rfl⟩
       rw [← hr0] at ci
       obtain ⟨r1, hr1⟩ : ∃ x, x = (if i + 1 < p then rd L ((i + 1 : Nat) : Int) else 0) := ⟨_, rfl⟩
       have d0 : 0 ≤ r0 ∧ r0 < 4294967296 := by rw [hr0, rd_at i (by rw [HLQ.out.1]; omega)]; exact HI.out.digL.at i (by rw [HLQ.out.1]; omega)
       have d1 : 0 ≤ r1 ∧ r1 < 4294967296 := by
        rw [hr1]
        split
        ·rw [rd_at (i + 1) (by rw [HLQ.out.1]; omega)]; exact HI.out.digL.at (i + 1) (by rw [HLQ.out.1]; omega)
        ·omega
       obtain ⟨m, hm⟩ : ∃ x, x = r1 * 4294967296 + r0 := ⟨_, rfl⟩
       have hor : bits BinOp.or IntKind.u64 (IntKind.u64.wrap (r1 * 4294967296)) (IntKind.u64.wrap r0) = m := by rw [or_digit d1.1 d1.2 d0.1 d0.2, hm]
       have hor2 : bits BinOp.or IntKind.u64 (IntKind.u64.wrap (IntKind.u64.wrap r1 * 4294967296)) (IntKind.u64.wrap r0) = m := by rw [w64 d1.1 (by omega)]; exact hor
       have HN := Aside0.mk (shr_next HX.out.1 HLQ.out.1 HX.out.2.1 HI.out.digL HX.out.2.2.1 HX.out.2.2.2 hs hp hlt hr0 hr1 hm)
       have HD1 := Aside0.mk (And.intro hr1 d1)
       clear hm d0 d1 hr0 hxi
       by_cases hn : i + 1 < p
       ·have b1 : decide ((i : Int) + 1 < (p : Int)) = true := decide_eq_true (by omega)
        have ci1 := HBU.out.cell (i + 1) (by rw [HX.out.1]; omega)
        have hxi1 : rd X ((i + 1 : Nat) : Int) = r1 := by
         rw [hr1, if_pos hn, rd_at (i + 1) (by rw [HX.out.1]; omega), rd_at (i + 1) (by rw [HLQ.out.1]; omega)]
         exact drop_of (by rw [HX.out.1]; omega) (by rw [HX.out.1, HLQ.out.1]) (drop_of' (by rw [HX.out.1]; omega) (by rw [HX.out.1, HLQ.out.1]) HX.out.2.2.1)
        rw [hxi1] at ci1
        have n1 : decide (0 ≤ (i : Int) + 1) = true := decide_eq_true (by omega)
        have tn1 : ((i : Int) + 1).toNat = i + 1 := by omega
        clear hr1 hxi1
        go_wp2_with (fail)
        go_roundw
        case rel => exact ⟨i + 1, _, by go_num, by omega, HN, ⟨HBU.out.put i _⟩, ⟨HBQ.out.same (Below.heap_setCell _ _ _ _ (fun e => by have h1 : gq = g := e; have := HG.out.2.2.1; omega))⟩, ⟨HB.out.setCell (p := ⟨g, i, none⟩) HG.out.1 _⟩⟩
        case measure => simp [intOf]; omega
       ·have b1 : decide ((i : Int) + 1 < (p : Int)) = false := decide_eq_false (by omega)
        rw [if_neg hn] at hr1
        subst hr1
        have h00 : IntKind.u64.wrap (0 * 4294967296) = 0 := rfl
        rw [h00] at hor
        clear hor2 h00
        go_wp2_with (fail)
        go_roundw
        case rel => exact ⟨i + 1, _, by go_num, by omega, HN, ⟨HBU.out.put i _⟩, ⟨HBQ.out.same (Below.heap_setCell _ _ _ _ (fun e => by have h1 : gq = g := e; have := HG.out.2.2.1; omega))⟩, ⟨HB.out.setCell (p := ⟨g, i, none⟩) HG.out.1 _⟩⟩
        case measure => simp [intOf]; omega
      ·obtain rfl : i = p := by omega
       have b0 : decide ((i : Int) < (i : Int)) = false := decide_eq_false (by omega)
       have hQl := HLQ.out.2.1
       have htr := trim_any (some ⟨gq, 0, none⟩) nq Q wr (bk_C0 HBQ.out (by omega)) (by omega)
       rw [hQl] at htr
       go_wp2_with (fail)
       refine htr.mono ?_
       rintro e w7 ⟨rfl, rfl⟩
       have hXl : (X.take i).length = i := by rw [List.length_take, HX.out.1]; omega
       have htr2 := trim_any (some ⟨g, 0, none⟩) c (X.take i) w7 (by rw [hXl]; exact bk_C HBU.out (by rw [HX.out.1]; exact hp) (by omega)) (by rw [hXl]; have := HCAP.out; omega)
       rw [hXl] at htr2
       have hle1 := tl_le Q nq
       have hle2 := tl_le (X.take i) i
       have htv1 := tl_val Q nq (by omega)
       have htv2 := tl_val (X.take i) i (by omega)
       have htt1 := tl_trim Q nq (by omega)
       have htt2 := tl_trim (X.take i) i (by omega)
       rw [val_take_all (l := Q) (n := nq) (by omega)] at htv1
       rw [val_take_all (l := X.take i) (n := i) (by omega)] at htv2
       have hend := div_end HI.out HX.out.2.2.2 (by rw [HLQ.out.2.2]) HVF.out.2.2.1 (HX0.out)
       go_wp2_with (fail)
       refine htr2.mono ?_
       rintro e w8 ⟨rfl, rfl⟩
       go_wp2_with (fail)
       go_ret2
       have ett : (X.take i).take (tl (X.take i) i) = X.take (tl (X.take i) i) := by rw [List.take_take, Nat.min_eq_left hle2]
       rw [ett] at htv2 htt2
       have ds1 := ds_bk (c := nq) HBQ.out (m := tl Q nq) (by omega) (by omega) (by omega) HI.out.digQ htt1
       have ds2 := ds_bk (c := c) HBU.out (m := tl (X.take i) i) (by rw [HX.out.1]; omega) (by rw [HX.out.1]; omega) (by rw [HX.out.1]; exact HCAP.out) HX.out.2.1 htt2
       exact ⟨_, _, _, _, rfl, ds1, ds2, ⟨by rw [htv1, htv2]; exact hend.1, by rw [htv2]; exact hend.2⟩, HB.out⟩
    ·obtain ⟨j, hj1⟩ : ∃ j, jj = j + 1 := ⟨jj - 1, by omega⟩
     obtain rfl : jv = (j : Int) := by have := HJ.out; omega
     subst hj1
     have HH := Aside0.mk (head_nat h2 (by omega) HI.out HVF.out.2.2.2 HVF.out.1 HVF.out.2.1)
     have hjn : j + nb < na + 1 := by omega
     have c0' := HBU.out.cell (j + nb) (by rw [HI.out.lenL]; omega)
     have c1' := HBU.out.cell (j + nb - 1) (by rw [HI.out.lenL]; omega)
     have c2' := HBU.out.cell (j + nb - 2) (by rw [HI.out.lenL]; omega)
     obtain ⟨d0, hd0⟩ : ∃ d, d = rd L ((j + nb : Nat) : Int) := ⟨_, rfl⟩
     obtain ⟨d1, hd1⟩ : ∃ d, d = rd L ((j + nb - 1 : Nat) : Int) := ⟨_, rfl⟩
     obtain ⟨d2, hd2⟩ : ∃ d, d = rd L ((j + nb - 2 : Nat) : Int) := ⟨_, rfl⟩
     rw [← hd0] at c0' HH
     rw [← hd1] at c1' HH
     rw [← hd2] at c2' HH
     have HDD := Aside0.mk (And.intro hd0 (And.intro hd1 hd2))
     clear hd0 hd1 hd2
     have x0 : decide (0 ≤ (j : Int)) = true := decide_eq_true (by omega)
     have x1 : decide (0 ≤ (j : Int) + (nb : Int)) = true := decide_eq_true (by omega)
     have x2 : decide ((j : Int) + (nb : Int) < (na : Int) + 1) = true := decide_eq_true (by omega)
     have x3 : decide (0 ≤ (j : Int) + (nb : Int) - 1) = true := decide_eq_true (by omega)
     have x4 : decide ((j : Int) + (nb : Int) - 1 < (na : Int) + 1) = true := decide_eq_true (by omega)
     have a0 := add_plain g (j + nb)
     have a1 := add_plain g (j + nb - 1)
     have a2 := add_plain g (j + nb - 2)
     have t1 : ((j : Int) + (nb : Int)).toNat = j + nb := by omega
     have t2 : ((j : Int) + (nb : Int) - 1).toNat = j + nb - 1 := by omega
     have t3 : ((j : Int) + (nb : Int) - 2).toNat = j + nb - 2 := by omega
     obtain ⟨hd, hhd⟩ : ∃ x, x = d0 * 4294967296 + d1 := ⟨_, rfl⟩
     have hor : bits BinOp.or IntKind.u64 (IntKind.u64.wrap (IntKind.u64.wrap d0 * 4294967296)) (IntKind.u64.wrap d1) = hd := by
      have b0 := HH.out.a0; have b1 := HH.out.a1
      rw [w64 b0.1 (by omega), or_digit b0.1 b0.2 b1.1 b1.2, hhd]
     have hst := HH.out.start
     rw [← HVT.out, ← hhd] at hst
     have hd0 : 0 ≤ hd := by have b0 := HH.out.a0; have b1 := HH.out.a1; omega
     have hd1 : hd < 18446744073709551616 := by have b0 := HH.out.a0; have b1 := HH.out.a1; omega
     have hq1 : hd / vt ≤ hd := Int.ediv_le_self _ hd0
     obtain ⟨q0, hq0⟩ : ∃ x, x = hd / vt := ⟨_, rfl⟩
     obtain ⟨r0, hr0⟩ : ∃ x, x = hd % vt := ⟨_, rfl⟩
     have hr1 : r0 < 4294967296 := by have := Int.emod_lt_of_pos hd HVB.out.1; have := HVB.out.2; omega
     have hqd : Int.tdiv hd vt = q0 := by rw [hq0]; exact Int.tdiv_eq_ediv_of_nonneg hd0
     have hrd : Int.tmod hd vt = r0 := by rw [hr0]; exact Int.tmod_eq_emod_of_nonneg hd0
     rw [← hq0, ← hr0] at hst
     rw [← hq0] at hq1
     have hqw : IntKind.u64.wrap q0 = q0 := w64 hst.g0 (by omega)
     have hvz : (vt == 0) = false := beq_eq_false_iff_ne.2 (by have := HVB.out.1; omega)
     have hvz2 : vt ≠ 0 := by have := HVB.out.1; omega
     have HST := Aside0.mk (And.intro hst (And.intro (show q0 < 18446744073709551616 by omega) (show r0 < 8589934592 by omega)))
     clear hst hd0 hd1 hq1 hq0 hr0 hr1 hhd
     go_wp2_with (fail)
     go_region
     go_wp2_with (fail)
     go_region
     have hz : Below wr.heap.size wr wr.drew.drew := below_drew (below_drew (Below.refl _ _))
     have HZ := Aside0.mk hz
     clear hor hqd hrd hqw c0' c1' hz
     go_wp2_with (fail)
     go_loopw [16, 17] (fun v16 v17 wz => ∃ (gg rr : Int), v16 = .int .u64 gg ∧ v17 = .int .u64 rr ∧ Aside0 (PuK.Gs (val ((L.drop j).take (nb + 1))) (val vs) d0 d1 vt gg rr ∧ gg < 18446744073709551616 ∧ rr < 8589934592) ∧ Aside0 (Below wr.heap.size wr wz)) (fun _ v _ => (4294967296 - intOf v).toNat)
     case atStart => exact ⟨q0, r0, rfl, rfl, HST, HZ⟩
     case round =>
      clear HST HZ
      obtain ⟨gg, rr, rfl, rfl, HST, HZ⟩ := hrel
      have HBU := Aside0.mk (HBU.out.same (HZ.out.block g HBU.out.lt))
      have HBQ := Aside0.mk (HBQ.out.same (HZ.out.block gq HBQ.out.lt))
      have HV := Aside0.mk (Kd.F_below HV.out HZ.out)
      have HB := Aside0.mk (below_step HB.out HZ.out)
      clear c2'
      have c2' := HBU.out.cell (j + nb - 2) (by rw [HI.out.lenL]; omega)
      rw [← HDD.out.2.2] at c2'
      obtain ⟨ad3, e3, cv2⟩ := Kd.at_int (Kd.F_now HV.out) ((nb : Int) - 2) (by omega) (by omega)
      cases e3
      rw [show ((nb : Int) - 2).toNat = nb - 2 by omega, add_plain] at cv2
      obtain ⟨vt2, hvt2⟩ : ∃ x, x = rd vs ((nb : Int) - 2) := ⟨_, rfl⟩
      rw [← hvt2] at cv2
      have HVT2 := Aside0.mk hvt2
      have a3 := add_plain gv (nb - 2)
      have t4 : ((nb : Int) - 2).toNat = nb - 2 := by omega
      clear hvt2
      have x5 : decide (0 ≤ (nb : Int) - 2) = true := decide_eq_true (by omega)
      have x6 : decide ((nb : Int) - 2 < (nb : Int)) = true := decide_eq_true (by omega)
      have x7 : decide (0 ≤ (j : Int) + (nb : Int) - 2) = true := decide_eq_true (by omega)
      have x8 : decide ((j : Int) + (nb : Int) - 2 < (na : Int) + 1) = true := decide_eq_true (by omega)
      obtain ⟨bb, hbb⟩ : ∃ b, b = decide (rr < 4294967296 ∧ (4294967296 ≤ gg ∨ rr * 4294967296 + d2 < gg * vt2)) := ⟨_, rfl⟩
      have HBB := Aside0.mk hbb
      clear hbb
      go_wp2_with (fail)
      go_cut [137] from 110 to 142 (fun v wz => v = .bool bb ∧ Aside0 (Below wr.heap.size wr wz))
      case first =>
       by_cases hr : rr < 4294967296
       ·have y0 : decide (rr < 4294967296) = true := decide_eq_true hr
        by_cases hg : 4294967296 ≤ gg
        ·have y1 : decide (gg ≥ 4294967296) = true := decide_eq_true hg
         have y2 : decide (4294967296 ≤ gg) = true := decide_eq_true hg
         go_quiet (fail)
         go_wp2_with (fail)
         go_meet
         case rel => exact ⟨congrArg Value.bool (by rw [HBB.out, decide_eq_true (p := rr < 4294967296 ∧ _) ⟨hr, .inl hg⟩]), ⟨pw_below_drewN (Below.refl _ _) _⟩⟩
        ·have y1 : decide (gg ≥ 4294967296) = false := decide_eq_false hg
         have y2 : decide (4294967296 ≤ gg) = false := decide_eq_false hg
         have y3 : gg < 4294967296 := by omega
         have b2 := HH.out.a2; have bv := HH.out.b2
         rw [← HVT2.out] at bv
         have hr0 := HST.out.1.r0; have hg0 := HST.out.1.g0
         have hpr := prod hg0 y3 bv.1 bv.2
         have z1 : IntKind.u64.wrap (gg * IntKind.u64.wrap vt2) = gg * vt2 := by rw [w64 bv.1 (by omega), w64 hpr.1 (by omega)]
         have z2 : bits BinOp.or IntKind.u64 (IntKind.u64.wrap (rr * 4294967296)) (IntKind.u64.wrap d2) = rr * 4294967296 + d2 := or_digit hr0 hr b2.1 b2.2
         clear b2 bv hr0 hg0 hpr hr hg y3
         go_quiet (fail)
         go_wp2_with (fail)
         go_meet
         case rel =>
          refine ⟨congrArg Value.bool ?_, ⟨pw_below_drewN (Below.refl _ _) _⟩⟩
          rw [HBB.out]
          have r1 := of_decide_eq_true y0
          have r2 := of_decide_eq_false y2
          exact decide_eq_decide.2 ⟨fun h => ⟨r1, .inr h⟩, fun h => by rcases h.2 with h | h; exact absurd h r2; exact h⟩
       ·have y0 : decide (rr < 4294967296) = false := decide_eq_false hr
        go_quiet (fail)
        go_wp2_with (fail)
        go_meet
        case rel => exact ⟨congrArg Value.bool (by rw [HBB.out, decide_eq_false (p := rr < 4294967296 ∧ _) (fun h => by have := h.1; omega)]), ⟨pw_below_drewN (Below.refl _ _) _⟩⟩
      case rest =>
       obtain ⟨rfl, hz⟩ := hcut
       have HBU := Aside0.mk (HBU.out.same (hz.out.block g HBU.out.lt))
       have HBQ := Aside0.mk (HBQ.out.same (hz.out.block gq HBQ.out.lt))
       have HV := Aside0.mk (Kd.F_below HV.out hz.out)
       have HB := Aside0.mk (below_step HB.out hz.out)
       have HZ := Aside0.mk (below_step HZ.out hz.out)
       clear hz c2' cv2
       cases hbv : bb with
       | true =>
        have hc := of_decide_eq_true (HBB.out.symm.trans hbv)
        have hn := HH.out.next (by rw [← HVT.out]; exact HST.out.1) (by rw [← HVT2.out]; exact hc.2)
        rw [← HVT.out] at hn
        have hr1 := hc.1
        have hg1 := HST.out.2.1
        have hgw : IntKind.u64.wrap (gg - 1) = gg - 1 := w64 hn.g0 (by omega)
        have hrw : IntKind.u64.wrap (rr + vt) = rr + vt := w64 hn.r0 (by have := HVB.out.2; omega)
        have HN := Aside0.mk (And.intro hn (And.intro (show gg - 1 < 18446744073709551616 by omega) (show rr + vt < 8589934592 by have := HVB.out.2; omega)))
        have HRR := Aside0.mk hr1
        clear hn hc hg1 hr1 hbv
        go_wp2_with (fail)
        go_roundw
        case rel => exact ⟨_, _, rfl, rfl, HN, HZ⟩
        case measure => have h1 := HRR.out; have h2 := HVB.out.1; simp [intOf]; omega
       | false =>
        have hc : ¬ (rr < 4294967296 ∧ (4294967296 ≤ gg ∨ rr * 4294967296 + d2 < gg * vt2)) := of_decide_eq_false (HBB.out.symm.trans hbv)
        have hdn := HH.out.done (by rw [← HVT.out]; exact HST.out.1) (g := gg) (r := rr) (by rw [← HVT2.out]; omega)
        have hgl := hdn.1
        have hg0 := HST.out.1.g0
        have hwl : ((L.drop j).take (nb + 1)).length = nb + 1 := by rw [List.length_take, List.length_drop, HI.out.lenL]; omega
        have hwd : Dig ((L.drop j).take (nb + 1)) := (HI.out.digL.drop j).take _
        obtain ⟨y, o, k1, k2, k3, k4, k5, k6⟩ := take_ok hwd HVF.out.1 gg hg0 hgl (by omega) (by rw [hwl, HVF.out.2.2.2]; omega) (nb + 2) (by omega)
        simp only [impl_takeTimes.f] at k1
        rw [hwl] at k1 k2 k6
        have hcap := HCAP.out
        have hwr := win_run g (na + 1) c j (j + nb + 1) (by omega) (by omega)
        rw [show j + nb + 1 - j = nb + 1 by omega, show ((j + nb + 1 : Nat) : Int) = (j : Int) + (nb : Int) + 1 by omega] at hwr
        have HW := Aside0.mk (And.intro hwl hwd)
        have HK := Aside0.mk (And.intro k1 (And.intro k2 (And.intro k3 (And.intro k4 (And.intro k5 k6)))))
        have HDN := Aside0.mk (And.intro hdn hg0)
        have gm : gg % 4294967296 = gg := by omega
        have hVF := Kd.F_mono HV.out (ok' := fun k => k ≠ g) (fun k hk e => HG.out.2.1 (by rw [← e, ← hk]))
        have hta := take_any g j (nb + 1) (c - j) L vs (some ⟨gv, 0, none⟩) cv gg (nb + 2) (decide (o > 0)) y wc HBU.out (by rw [HI.out.lenL]; omega) (by omega) (by rw [HVF.out.2.2.2]; exact hVF) k1
        rw [HVF.out.2.2.2] at hta
        clear hc hbv hdn hg0 hgl hwl hwd k1 k2 k3 k4 k5 k6 hVF hcap
        go_wp2_with (fail)
        refine hta.mono ?_
        rintro e w7 ⟨rfl, hb7, hg7⟩
        have hgne : gq ≠ g := by have := HG.out.2.2.1; omega
        have HBQ7 := Aside0.mk (HBQ.out.same (hg7.block gq HBQ.out.lt (fun e => hgne (Option.some.inj e))))
        have HV7 := Aside0.mk (Kd.F_grown HV.out hg7 (fun k hk e => HG.out.2.1 (by have := Option.some.inj e; omega)))
        have HB7 := Aside0.mk (HB.out.grown hg7 HB.out.size (fun k hk => by have := Option.some.inj hk; have := HG.out.1; omega))
        have HBU7 := Aside0.mk hb7
        have HJL := Aside0.mk (show j < Q.length by have := HI.out.lenQ; omega)
        have HVb := Aside0.mk (show val vs < bp nb by rw [← HVF.out.2.2.2]; exact val_lt HVF.out.1)
        have s0 : decide ((j : Int) < (nq : Int)) = true := decide_eq_true (by omega)
        have aq := add_plain gq j
        clear hg7 hb7 hta HBU HBQ HV HB
        by_cases ho : 0 < o
        ·have o1 : decide (o > 0) = true := decide_eq_true ho
         have o2 : decide (0 < o) = true := decide_eq_true ho
         obtain ⟨k1, k2, k3, k4, k5, k6⟩ := HK.out
         have hoe : o = 1 := by omega
         rw [hoe, Int.mul_one] at k6
         have hyl := val_lt k3
         rw [k2] at hyl
         have hg1 : 1 ≤ gg := by
          rcases Int.lt_or_le gg 1 with h | h
          ·exfalso
           have hz : gg = 0 := by have := HDN.out.2; omega
           have := HH.out.W0
           rw [hz] at k6
           omega
          ·exact h
         obtain ⟨z, o', m1, m2, m3, m4, m5, m6⟩ := give_ok k3 HVF.out.1 (by omega) (by rw [k2, HVF.out.2.2.2]; omega) (nb + 2) (by omega)
         simp only [impl_giveBack.f] at m1
         rw [k2] at m1 m2 m6
         have hzl := val_lt m3
         rw [m2] at hzl
         have hLl : (win L j (nb + 1) y).length = na + 1 := by rw [win_len (by rw [HI.out.lenL]; omega) k2, HI.out.lenL]
         have hbr := PuK.borrow (bp_pos (nb + 1)) k6 hyl HDN.out.1.2 (val_nonneg m3) hzl (by have h1 := HVb.out; have h2 := bp_mono (show nb ≤ nb + 1 by omega); omega) m4 m5 m6
         have hst := HI.out.step HVb.out (by omega) (g := gg - 1) (z := z) (by omega) (by have := HDN.out.1.1; omega) m2 m3 hbr.1 hbr.2
         have HST2 := Aside0.mk hst
         have hgw : IntKind.u64.wrap (gg - 1) = gg - 1 := w64 (by omega) (by have := HDN.out.1.1; omega)
         have gm2 : (gg - 1) % 4294967296 = gg - 1 := by have := HDN.out.1.1; omega
         have hVF := Kd.F_mono HV7.out (ok' := fun k => k ≠ g) (fun k hk e => HG.out.2.1 (by rw [← e, ← hk]))
         have hga := give_any g j (nb + 1) (c - j) (win L j (nb + 1) y) vs (some ⟨gv, 0, none⟩) cv (nb + 2) z w7 HBU7.out (by rw [hLl]; omega) (by omega) (by rw [HVF.out.2.2.2]; exact hVF) (by rw [win_drop (by rw [HI.out.lenL]; omega) k2]; exact m1)
         rw [HVF.out.2.2.2, win_win (by rw [HI.out.lenL]; omega) k2] at hga
         clear k1 k2 k3 k4 k5 k6 hoe hyl hg1 m1 m2 m3 m4 m5 m6 hzl hLl hbr hst hVF ho gm
         go_wp2_with (fail)
         refine hga.mono ?_
         rintro e w8 ⟨rfl, hb8, hg8⟩
         have HBQ8 := Aside0.mk (HBQ7.out.same (hg8.block gq HBQ7.out.lt (fun e => hgne (Option.some.inj e))))
         have HV8 := Aside0.mk (Kd.F_grown HV7.out hg8 (fun k hk e => HG.out.2.1 (by have := Option.some.inj e; omega)))
         have HB8 := Aside0.mk (HB7.out.grown hg8 HB7.out.size (fun k hk => by have := Option.some.inj hk; have := HG.out.1; omega))
         have HBU8 := Aside0.mk hb8
         have cq := HBQ8.out.cell j HJL.out
         have fq := HBQ8.out.frozen j
         clear hb8 hg8 hga
         go_wp2_with (fail)
         go_roundw
         case rel => exact ⟨_, j, _, Q.set j (gg - 1), rfl, ⟨by go_num⟩, by omega, HST2, ⟨HBU8.out.same (Below.heap_setCell _ _ _ _ (fun e => hgne e.symm))⟩, ⟨HBQ8.out.put j _⟩, ⟨Kd.F_far HV8.out (fun k hk e => by have h1 : k = gq := e; have := HG.out.2.2.2.1; omega) _⟩, ⟨HB8.out.setCell (p := ⟨gq, j, none⟩) HG.out.2.2.2.2 _⟩⟩
         case measure => simp [intOf]
        ·have o1 : decide (o > 0) = false := decide_eq_false ho
         have o2 : decide (0 < o) = false := decide_eq_false ho
         obtain ⟨k1, k2, k3, k4, k5, k6⟩ := HK.out
         have hoe : o = 0 := by omega
         rw [hoe, Int.mul_zero, Int.add_zero] at k6
         have hst := HI.out.step HVb.out (by omega) (g := gg) (z := y) HDN.out.2 HDN.out.1.1 k2 k3 k6 (PuK.no_borrow k6 HST.out.1.lt)
         have HST2 := Aside0.mk hst
         have cq := HBQ7.out.cell j HJL.out
         have fq := HBQ7.out.frozen j
         clear k1 k2 k3 k4 k5 k6 hoe hst ho
         go_wp2_with (fail)
         go_roundw
         case rel => exact ⟨_, j, _, Q.set j gg, rfl, ⟨by go_num⟩, by omega, HST2, ⟨HBU7.out.same (Below.heap_setCell _ _ _ _ (fun e => hgne e.symm))⟩, ⟨HBQ7.out.put j _⟩, ⟨Kd.F_far HV7.out (fun k hk e => by have h1 : k = gq := e; have := HG.out.2.2.2.1; omega) _⟩, ⟨HB7.out.setCell (p := ⟨gq, j, none⟩) HG.out.2.2.2.2 _⟩⟩
         case measure => simp [intOf]
end Go.Proofs.Ytkafbmanmffliaa.De

/- Whole numbers of any length in memory: at an address, a sign and digits. -/
namespace Go.Proofs.Ytkafbmanmffliaa.Bi
open Go Go.RowKit YtkafbmanmffliaaW.PrintWords YtkafbmanmffliaaW.PrintLast YtkafbmanmffliaaW.PrintMore Q Bg Db Dc Dd De
theorem div_any (A0 A1 : Option Addr) (c0 c1 : Nat) (xa xb : List Int) (w : World) (h0 : (Kd.int .u32).C w A0 xa.length xa) (l0 : xa.length ≤ c0) (h1 : (Kd.int .u32).C w A1 xb.length xb) (l1 : xb.length ≤ c1) (da : Dig xa) (ta : Trim xa) (db : Dig xb) (tb : Trim xb) (hla : xa.length < 268435456) (hlb : xb.length < 268435456) (hb : xb ≠ []) :
  Calls Try.prog 147 #[.slice A0 xa.length c0, .slice A1 xb.length c1] w (DivEnds w xa xb) := by
 rcases Int.lt_or_le (val xa) (val xb) with h | h
 ·exact div_less A0 A1 c0 c1 xa xb w h0 l0 h1 l1 da ta db tb hla hlb h
 ·rcases Nat.lt_or_ge 1 xb.length with h2 | h2
  ·exact div_long A0 A1 c0 c1 _ _ xa xb w rfl rfl h0 l0 h1 l1 da ta db tb hla hlb h2 h
  ·match xb, hb with
   | [b], _ => exact div_short A0 A1 c0 c1 xa b w h0 l0 h1 l1 da ta db tb hla h
   | b :: b' :: r, _ => simp at h2
def sg (neg : Bool) (n : Int) : Int := if neg then - n else n
def BI (W : World) (b o : Nat) (z : Int) : Prop := ∃ (neg : Bool) (v : Value) (ds : List Int), W.cell? ⟨b, o, none⟩ = some (.bool neg) ∧ W.cell? ⟨b, o + 1, none⟩ = some v ∧ Ds W v ds ∧ z = sg neg (val ds) ∧ (neg = true → ds ≠ [])
def Rec (W : World) (b o : Nat) : Prop := ∃ (cs : Array Value) (T : TypeId) (n0 : Bool) (A0 : Option Addr) (k0 c0 : Nat), W.heap[b]? = some (.cells cs T (0, 0)) ∧ cs[o]? = some (.bool n0) ∧ cs[o + 1]? = some (.slice A0 k0 c0)
def PutAt (b o : Nat) (z : Int) (w w' : World) : Prop := ∃ (w1 : World) (neg : Bool) (A : Option Addr) (c : Nat) (ds : List Int), Below w.heap.size w w1 ∧ Ds w1 (.slice A ds.length c) ds ∧ z = sg neg (val ds) ∧ (neg = true → ds ≠ []) ∧ w' = (w1.setCell ⟨b, o, none⟩ (.bool neg)).setCell ⟨b, o + 1, none⟩ (.slice A ds.length c)
theorem BI.below {W W' : World} {b o : Nat} {z : Int} (h : BI W b o z) (hb : Below W.heap.size W W') : BI W' b o z := by
 obtain ⟨neg, v, ds, h1, h2, h3, h4, h5⟩ := h
 exact ⟨neg, v, ds, (hb.cell (World.block_lt_of_cell? W _ h1)).trans h1, (hb.cell (World.block_lt_of_cell? W _ h2)).trans h2, h3.below hb, h4, h5⟩
theorem BI.lt {W : World} {b o : Nat} {z : Int} (h : BI W b o z) : b < W.heap.size := by
 obtain ⟨neg, v, ds, h1, _⟩ := h
 exact World.block_lt_of_cell? W _ h1
theorem Rec.lt {W : World} {b o : Nat} (h : Rec W b o) : b < W.heap.size := by
 obtain ⟨cs, T, n0, A0, k0, c0, h1, _⟩ := h
 exact blk_lt h1
theorem Rec.below {W W' : World} {b o : Nat} (h : Rec W b o) (hb : Below W.heap.size W W') : Rec W' b o := by
 obtain ⟨cs, T, n0, A0, k0, c0, h1, h2⟩ := h
 exact ⟨cs, T, n0, A0, k0, c0, blk_below h1 hb, h2⟩
theorem Rec.new (W : World) : Rec (W.alloc (.cells #[.bool false, .slice none 0 0] 110)) W.heap.size 0 := ⟨_, _, _, _, _, _, blk_new W _, rfl, rfl⟩
theorem C_set {W : World} {A : Option Addr} {n : Nat} {xs : List Int} (h : (Kd.int .u32).C W A n xs) (p : Addr) (u v : Value) (hp : W.cell? p = some u) (hu : ∀ d, u ≠ .int .u32 d) : (Kd.int .u32).C (W.setCell p v) A n xs := by
 have hr := Kd.reads_of_C (d := (0 : Int)) h
 refine Kd.C_of_reads (d := (0 : Int)) ⟨hr.1, hr.2.1, fun h0 => ?_⟩
 obtain ⟨ad, e, hc⟩ := hr.2.2 h0
 refine ⟨ad, e, fun j hj => ?_⟩
 rw [World.cell?_setCell_other _ _ _ _ (fun e2 => ?_)]
 ·exact hc j hj
 ·have := hc j hj
  rw [← e2, hp] at this
  exact hu _ (Option.some.inj this)
theorem Ds.set {W : World} {v : Value} {xs : List Int} (h : Ds W v xs) (p : Addr) (u x : Value) (hp : W.cell? p = some u) (hu : ∀ d, u ≠ .int .u32 d) : Ds (W.setCell p x) v xs := by
 obtain ⟨A, c, h1, h2, h3, h4, h5⟩ := h
 exact ⟨A, c, h1, h2, C_set h3 p u x hp hu, h4, h5⟩
section
variable {w w' : World} {b o : Nat} {z : Int}
theorem PutAt.size (h : PutAt b o z w w') : w.heap.size ≤ w'.heap.size := by
 obtain ⟨w1, neg, A, c, ds, h1, h2, h3, h4, rfl⟩ := h
 simpa [World.setCell] using h1.size
theorem PutAt.below (h : PutAt b o z w w') {lo : Nat} (hb : lo ≤ b) (hs : lo ≤ w.heap.size) : Below lo w w' := by
 obtain ⟨w1, neg, A, c, ds, h1, h2, h3, h4, rfl⟩ := h
 exact ((h1.mono hs).setCell (p := ⟨b, o, none⟩) hb _).setCell (p := ⟨b, o + 1, none⟩) hb _
theorem PutAt.blk (h : PutAt b o z w w') {cs : Array Value} {T : TypeId} (hr : w.heap[b]? = some (.cells cs T (0, 0))) : ∃ neg A n c, w'.heap[b]? = some (.cells ((cs.setIfInBounds o (.bool neg)).setIfInBounds (o + 1) (.slice A n c)) T (0, 0)) := by
 obtain ⟨w1, neg, A, c, ds, h1, h2, h3, h4, rfl⟩ := h
 exact ⟨neg, A, _, c, blk_put (blk_put (blk_below hr h1) o _ rfl) (o + 1) _ rfl⟩
theorem PutAt.rec (h : PutAt b o z w w') (hr : Rec w b o) : Rec w' b o := by
 obtain ⟨cs, T, n0, A0, k0, c0, r1, r2, r3⟩ := hr
 obtain ⟨neg, A, n, c, hh⟩ := h.blk r1
 have l1 : o < cs.size := (Array.getElem?_eq_some_iff.1 r2).1
 have l2 : o + 1 < cs.size := (Array.getElem?_eq_some_iff.1 r3).1
 exact ⟨_, T, neg, A, n, c, hh, by simp [l1], by simp [l2]⟩
theorem PutAt.bi (h : PutAt b o z w w') (hr : Rec w b o) : BI w' b o z := by
 obtain ⟨w1, neg, A, c, ds, h1, h2, h3, h4, rfl⟩ := h
 obtain ⟨cs, T, n0, A0, k0, c0, r1, r2, r3⟩ := hr.below h1
 have l1 : o < cs.size := (Array.getElem?_eq_some_iff.1 r2).1
 have l2 : o + 1 < cs.size := (Array.getElem?_eq_some_iff.1 r3).1
 have b1 := blk_put r1 o (.bool neg) rfl
 have b2 := blk_put b1 (o + 1) (.slice A ds.length c) rfl
 have c1 : w1.cell? ⟨b, o, none⟩ = some (.bool n0) := (blk_cell r1 o).trans r2
 have c2 : (w1.setCell ⟨b, o, none⟩ (.bool neg)).cell? ⟨b, o + 1, none⟩ = some (.slice A0 k0 c0) := (blk_cell b1 (o + 1)).trans (by simp [r3])
 exact ⟨neg, _, ds, (blk_cell b2 o).trans (by simp [l1]), (blk_cell b2 (o + 1)).trans (by simp [l2]), Ds.set (Ds.set h2 _ _ _ c1 (by simp)) _ _ _ c2 (by simp), h3, h4⟩
theorem PutAt.other (h : PutAt b o z w w') (hr : Rec w b o) {b' o' : Nat} {x : Int} (hx : BI w b' o' x) (hne : b' ≠ b) : BI w' b' o' x := by
 obtain ⟨w1, neg, A, c, ds, h1, h2, h3, h4, rfl⟩ := h
 obtain ⟨cs, T, n0, A0, k0, c0, r1, r2, r3⟩ := hr.below h1
 have b1 := blk_put r1 o (.bool neg) rfl
 have c1 : w1.cell? ⟨b, o, none⟩ = some (.bool n0) := (blk_cell r1 o).trans r2
 have c2 : (w1.setCell ⟨b, o, none⟩ (.bool neg)).cell? ⟨b, o + 1, none⟩ = some (.slice A0 k0 c0) := (blk_cell b1 (o + 1)).trans (by simp [r3])
 obtain ⟨neg', v', ds', x1, x2, x3, x4, x5⟩ := hx.below h1
 refine ⟨neg', v', ds', ?_, ?_, Ds.set (Ds.set x3 _ _ _ c1 (by simp)) _ _ _ c2 (by simp), x4, x5⟩
 ·rw [World.cell?_setCell_far _ _ _ _ (fun e => hne e.symm), World.cell?_setCell_far _ _ _ _ (fun e => hne e.symm)]; exact x1
 ·rw [World.cell?_setCell_far _ _ _ _ (fun e => hne e.symm), World.cell?_setCell_far _ _ _ _ (fun e => hne e.symm)]; exact x2
theorem BI.form (h : BI w b o z) : ∃ (neg : Bool) (A : Option Addr) (c n : Nat) (ds : List Int), w.cell? ⟨b, o, none⟩ = some (.bool neg) ∧ w.cell? ⟨b, o + 1, none⟩ = some (.slice A n c) ∧ n = ds.length ∧ n ≤ c ∧ (Kd.int .u32).C w A n ds ∧ Dig ds ∧ Trim ds ∧ z = sg neg (val ds) ∧ (neg = true → ds ≠ []) := by
 obtain ⟨neg, v, ds, h1, h2, ⟨A, c, rfl, h3, h4, h5, h6⟩, h7, h8⟩ := h
 exact ⟨neg, A, c, _, ds, h1, h2, rfl, h3, h4, h5, h6, h7, h8⟩
end
theorem bp_two : ∀ n, bp n = 2 ^ (32 * n)
 | 0 => rfl
 | n + 1 => by
  show 4294967296 * bp n = _
  rw [bp_two n, Nat.mul_succ, Int.pow_add]
  have : (2 : Int) ^ 32 = 4294967296 := by decide
  rw [this, Int.mul_comm]
theorem len_bits {ds : List Int} {k : Nat} (hd : Dig ds) (ht : Trim ds) (h : val ds < 2 ^ k) : ds.length ≤ k / 32 + 1 := by
 refine len_le hd ht ?_
 rw [bp_two]
 have h1 : (2 : Int) ^ k ≤ 2 ^ (32 * (k / 32 + 1)) := by exact_mod_cast Nat.pow_le_pow_right (n := 2) (by decide) (by omega)
 omega
theorem sg_abs (neg : Bool) {n : Int} (h : 0 ≤ n) : ((sg neg n).natAbs : Int) = n := by cases neg <;> simp [sg] <;> omega
theorem len_of {neg : Bool} {ds : List Int} {z : Int} {k : Nat} (hd : Dig ds) (ht : Trim ds) (hz : z = sg neg (val ds)) (hk : z.natAbs < 2 ^ k) (hk2 : k ≤ 1000000) : ds.length < 65536 := by
 have h := sg_abs neg (val_nonneg hd)
 rw [← hz] at h
 have h2 : val ds < 2 ^ k := by
  rw [← h]
  exact_mod_cast hk
 have := len_bits hd ht h2
 omega
end Go.Proofs.Ytkafbmanmffliaa.Bi

/- The methods of whole numbers that are walked straight on: put, SetInt64, newBigInt, Sign. -/
namespace Go.Proofs.Ytkafbmanmffliaa.Bj
open Go Go.RowKit YtkafbmanmffliaaW.PrintWords YtkafbmanmffliaaW.PrintLast YtkafbmanmffliaaW.PrintMore Q Bg Da Db Dc Dd De Bi
theorem Rec.cells {w : World} {b o : Nat} (h : Rec w b o) : ∃ (n0 : Bool) (A0 : Option Addr) (k0 c0 : Nat), w.cell? ⟨b, o, none⟩ = some (.bool n0) ∧ w.frozen? ⟨b, o, none⟩ = false ∧ w.cell? ⟨b, o + 1, none⟩ = some (.slice A0 k0 c0) ∧ w.frozen? ⟨b, o + 1, none⟩ = false := by
 obtain ⟨cs, T, n0, A0, k0, c0, h1, h2, h3⟩ := h
 exact ⟨n0, A0, k0, c0, (blk_cell h1 o).trans h2, blk_frozen h1 o, (blk_cell h1 (o + 1)).trans h3, blk_frozen h1 (o + 1)⟩
set_option maxHeartbeats 4000000 in
set_option maxRecDepth 100000 in
theorem put_any (b o : Nat) (neg : Bool) (A : Option Addr) (n c : Nat) (w : World) (hr : Rec w b o) :
  Calls Try.prog 134 #[.pointer (some ⟨b, o, none⟩), .bool neg, .slice A n c] w fun e w' => e = .returned (.pointer (some ⟨b, o, none⟩)) ∧ w' = (w.setCell ⟨b, o, none⟩ (.bool (neg && decide (0 < n)))).setCell ⟨b, o + 1, none⟩ (.slice A n c) := by
 have hu := Try.underlying110
 obtain ⟨n0, A0, k0, c0, h1, h2, h3, h4⟩ := Rec.cells hr
 clear hr
 cases neg
 ·go_enter Try.func134, Try.ntmps134
  go_wp2
  go_ret
  exact ⟨rfl, rfl⟩
 ·by_cases hn : 0 < n
  ·have p1 : decide (0 < n) = true := decide_eq_true hn
   have p2 : decide (0 < (n : Int)) = true := decide_eq_true (by omega)
   go_enter Try.func134, Try.ntmps134
   go_wp2
   go_ret
   exact ⟨rfl, by rw [p1]; rfl⟩
  ·have p1 : decide (0 < n) = false := decide_eq_false hn
   have p2 : decide (0 < (n : Int)) = false := decide_eq_false (by omega)
   go_enter Try.func134, Try.ntmps134
   go_wp2
   go_ret
   exact ⟨rfl, by rw [p1]; rfl⟩
theorem put_at (b o : Nat) (neg : Bool) (A : Option Addr) (n c : Nat) (ds : List Int) (w w1 : World) (hb : Below w.heap.size w w1) (hd : Ds w1 (.slice A n c) ds) (hr : Rec w1 b o) :
  Calls Try.prog 134 #[.pointer (some ⟨b, o, none⟩), .bool neg, .slice A n c] w1 fun e w' => e = .returned (.pointer (some ⟨b, o, none⟩)) ∧ PutAt b o (sg neg (val ds)) w w' := by
 refine (put_any b o neg A n c w1 hr).mono ?_
 rintro e w' ⟨rfl, rfl⟩
 have hn : n = ds.length := by
  obtain ⟨A', c', h1, _⟩ := hd
  injection h1
 subst hn
 refine ⟨rfl, w1, neg && decide (0 < ds.length), A, c, ds, hb, hd, ?_, ?_, rfl⟩
 ·cases ds with
  | nil => cases neg <;> rfl
  | cons d r => simp
 ·intro h
  simp only [Bool.and_eq_true, decide_eq_true_eq] at h
  intro e
  rw [e] at h
  simp at h
set_option maxHeartbeats 4000000 in
set_option maxRecDepth 100000 in
theorem sign_any (b o : Nat) (z : Int) (w : World) (h : BI w b o z) :
  Calls Try.prog 124 #[.pointer (some ⟨b, o, none⟩)] w fun e w' => e = .returned (.int .i64 z.sign) ∧ w' = w := by
 have hu := Try.underlying110
 obtain ⟨neg, A, c, n, ds, h1, h2, hn, hc, h3, h4, h5, h6, h7⟩ := h.form
 have hv := val_nonneg h4
 have hz := val_zero h4 h5
 cases neg
 ·by_cases hp : 0 < n
  ·have p2 : decide (0 < (n : Int)) = true := decide_eq_true (by omega)
   have hs : z.sign = 1 := by
    have : val ds ≠ 0 := fun e => by rw [hz.1 e] at hn; simp at hn; omega
    rw [h6, sg, if_neg (by simp)]
    exact Int.sign_eq_one_of_pos (by omega)
   rw [hs]
   clear hz hv h3 h4 h5 h6 h7 hn hc hs
   go_enter Try.func124, Try.ntmps124
   go_wp2
   go_ret
   exact ⟨rfl, rfl⟩
  ·have p2 : decide (0 < (n : Int)) = false := decide_eq_false (by omega)
   have hs : z.sign = 0 := by
    have : val ds = 0 := hz.2 (List.length_eq_zero_iff.1 (by omega))
    rw [h6, this]; rfl
   rw [hs]
   clear hz hv h3 h4 h5 h6 h7 hn hc hs
   go_enter Try.func124, Try.ntmps124
   go_wp2
   go_ret
   exact ⟨rfl, rfl⟩
 ·have hs : z.sign = -1 := by
   have : val ds ≠ 0 := fun e => h7 rfl (hz.1 e)
   rw [h6, sg, if_pos rfl]
   exact Int.sign_eq_neg_one_of_neg (by omega)
  rw [hs]
  clear hz hv h3 h4 h5 h6 h7 hn hc hs
  go_enter Try.func124, Try.ntmps124
  go_wp2
  go_ret
  exact ⟨rfl, rfl⟩
set_option maxHeartbeats 4000000 in
set_option maxRecDepth 100000 in
theorem setInt64_any (b o : Nat) (n : Int) (w : World) (h0 : -9223372036854775808 ≤ n) (h1 : n ≤ 9223372036854775807) (hr : Rec w b o) :
  Calls Try.prog 130 #[.pointer (some ⟨b, o, none⟩), .int .i64 n] w fun e w' => e = .returned (.pointer (some ⟨b, o, none⟩)) ∧ PutAt b o n w w' := by
 have hu := Try.underlying110
 have HR := Aside0.mk hr
 clear hr
 by_cases hn : n < 0
 ·have p1 : decide (n < 0) = true := decide_eq_true hn
  obtain ⟨m, hm⟩ : ∃ m, m = - n := ⟨_, rfl⟩
  have e1 : IntKind.u64.wrap (- IntKind.u64.wrap n) = m := by rw [IntKind.wrap_u64, IntKind.wrap_u64]; omega
  have HB := Aside0.mk (show 0 ≤ m ∧ m < 18446744073709551616 by omega)
  have HM := Aside0.mk hm
  clear h0 h1 hm hn
  go_enter Try.func130, Try.ntmps130
  go_wp2_with (fail)
  have hU := U.lit (B := w.heap.size) (W := w) [m % 4294967296, m / 4294967296 % 4294967296] #[.int .u32 (m % 4294967296), .int .u32 (m / 4294967296 % 4294967296)] rfl (Nat.le_refl _) (by simp)
  refine (trim_any _ 2 _ _ hU.reads.2.2 (by simp)).mono ?_
  rintro e w1 ⟨rfl, rfl⟩
  have hds : Dig [m % 4294967296, m / 4294967296 % 4294967296] := Dig.cons.2 ⟨by omega, Dig.cons.2 ⟨by omega, Dig.nil⟩⟩
  have hle := tl_le [m % 4294967296, m / 4294967296 % 4294967296] 2
  have hv := tl_val [m % 4294967296, m / 4294967296 % 4294967296] 2 (by simp)
  have hD := Ds.of_U (hU.take hle) (hds.take _) (tl_trim [m % 4294967296, m / 4294967296 % 4294967296] 2 (by simp))
  have hval : val ([m % 4294967296, m / 4294967296 % 4294967296].take (tl [m % 4294967296, m / 4294967296 % 4294967296] 2)) = m := by
   rw [hv]
   have := HB.out
   simp [val]
   omega
  have hput := put_at b o true _ _ _ _ w _ (below_alloc (Below.refl _ _) _) hD (HR.out.below (below_alloc (Below.refl _ _) _))
  rw [hval] at hput
  clear hU hds hle hv hD hval
  go_wp2_with (fail)
  refine hput.mono ?_
  rintro e w2 ⟨rfl, hp⟩
  have HP := Aside0.mk hp
  clear hp hput
  go_wp2
  go_ret
  exact ⟨rfl, by have := HP.out; rw [show sg true m = n by have := HM.out; simp [sg]; omega] at this; exact this⟩
 ·have p1 : decide (n < 0) = false := decide_eq_false hn
  obtain ⟨m, hm⟩ : ∃ m, m = n := ⟨_, rfl⟩
  have e1 : IntKind.u64.wrap n = m := by rw [IntKind.wrap_u64]; omega
  have HB := Aside0.mk (show 0 ≤ m ∧ m < 18446744073709551616 by omega)
  have HM := Aside0.mk hm
  clear h0 h1 hm hn
  go_enter Try.func130, Try.ntmps130
  go_wp2_with (fail)
  have hU := U.lit (B := w.heap.size) (W := w) [m % 4294967296, m / 4294967296 % 4294967296] #[.int .u32 (m % 4294967296), .int .u32 (m / 4294967296 % 4294967296)] rfl (Nat.le_refl _) (by simp)
  refine (trim_any _ 2 _ _ hU.reads.2.2 (by simp)).mono ?_
  rintro e w1 ⟨rfl, rfl⟩
  have hds : Dig [m % 4294967296, m / 4294967296 % 4294967296] := Dig.cons.2 ⟨by omega, Dig.cons.2 ⟨by omega, Dig.nil⟩⟩
  have hle := tl_le [m % 4294967296, m / 4294967296 % 4294967296] 2
  have hv := tl_val [m % 4294967296, m / 4294967296 % 4294967296] 2 (by simp)
  have hD := Ds.of_U (hU.take hle) (hds.take _) (tl_trim [m % 4294967296, m / 4294967296 % 4294967296] 2 (by simp))
  have hval : val ([m % 4294967296, m / 4294967296 % 4294967296].take (tl [m % 4294967296, m / 4294967296 % 4294967296] 2)) = m := by
   rw [hv]
   have := HB.out
   simp [val]
   omega
  have hput := put_at b o false _ _ _ _ w _ (below_alloc (Below.refl _ _) _) hD (HR.out.below (below_alloc (Below.refl _ _) _))
  rw [hval] at hput
  clear hU hds hle hv hD hval
  go_wp2_with (fail)
  refine hput.mono ?_
  rintro e w2 ⟨rfl, hp⟩
  have HP := Aside0.mk hp
  clear hp hput
  go_wp2
  go_ret
  exact ⟨rfl, by have := HP.out; rw [show sg false m = n by have := HM.out; simp [sg]; omega] at this; exact this⟩
set_option maxHeartbeats 4000000 in
set_option maxRecDepth 100000 in
theorem newBig_any (n : Int) (w : World) (h0 : -9223372036854775808 ≤ n) (h1 : n ≤ 9223372036854775807) :
  Calls Try.prog 100 #[.int .i64 n] w fun e w' => ∃ b, e = .returned (.pointer (some ⟨b, 0, none⟩)) ∧ w.heap.size ≤ b ∧ BI w' b 0 n ∧ Rec w' b 0 ∧ Below w.heap.size w w' := by
 have hu := Try.underlying110
 have hc := setInt64_any w.heap.size 0 n (w.alloc (.cells #[.bool false, .slice none 0 0] 110)) h0 h1 (Rec.new w)
 clear h0 h1
 go_enter Try.func100, Try.ntmps100
 go_wp2_with (fail)
 refine hc.mono ?_
 rintro e w1 ⟨rfl, hp⟩
 have HP := Aside0.mk hp
 clear hp hc
 go_wp2
 go_ret
 exact ⟨_, rfl, Nat.le_refl _, HP.out.bi (Rec.new w), HP.out.rec (Rec.new w), (below_alloc (Below.refl w.heap.size w) _).trans (HP.out.below (Nat.le_refl _) (by rw [World.size_alloc]; omega))⟩
end Go.Proofs.Ytkafbmanmffliaa.Bj

