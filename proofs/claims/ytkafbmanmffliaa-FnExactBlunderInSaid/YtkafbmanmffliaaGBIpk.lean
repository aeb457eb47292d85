/- Parts of the proof that the law of this seat holds: Gl. -/
import Derived.Test.YtkafbmanmffliaaGBIpi
import Derived.Test.YtkafbmanmffliaaGBIpj
set_option linter.unusedVariables false
set_option linter.unusedSimpArgs false
/- The reference's l10Solve: an elimination without fractions. -/
namespace Go.Proofs.Ytkafbmanmffliaa.Gl
open Go Go.RowKit YtkafbmanmffliaaW.PrintWords YtkafbmanmffliaaW.PrintLast YtkafbmanmffliaaW.PrintMore Q Gd Gf Ge Gi Gs Hb
def StI (W0 wz : World) (g cap : Nat) (vs : List Value) (n m : Nat) (M : TI) : Prop := Gri wz W0.heap.size g cap vs n m M ∧ Below W0.heap.size W0 wz
section
variable {W0 wz w1 : World} {g cap n m : Nat} {vs : List Value} {M N : TI}
theorem StI.call (h : StI W0 wz g cap vs n m M) (hb : Below wz.heap.size wz w1) : StI W0 w1 g cap vs n m M := ⟨h.1.below hb, below_then h.2 h.2.size hb⟩
theorem StI.congr (h : StI W0 wz g cap vs n m M) (e : ∀ r k, r < n → k < m → M r k = N r k) : StI W0 wz g cap vs n m N := ⟨h.1.congr e, h.2⟩
theorem StI.at_ (h : StI W0 wz g cap vs n m M) {r k : Nat} (hr : r < n) (hk : k < m) : ∃ b c, vs[r]? = some (.slice (some ⟨b, 0, none⟩) m c) ∧ wz.cell? ⟨g, r, none⟩ = some (.slice (some ⟨b, 0, none⟩) m c) ∧ wz.cell? ⟨b, k, none⟩ = some (.int .i64 (M r k)) ∧ wz.frozen? ⟨b, k, none⟩ = false ∧ b < wz.heap.size := by
 obtain ⟨b, c, us, q1, q2, q3, q4, q5, q6⟩ := h.1.row r hr
 obtain ⟨t1, t2⟩ := rowI_at q3 q4 hk
 exact ⟨b, c, q1, q5, t1, t2, q3.lt⟩
theorem StI.step (h : StI W0 wz g cap vs n m M) {r k b c : Nat} {x : Int} (hv : vs[r]? = some (.slice (some ⟨b, 0, none⟩) m c)) (hr : r < n) (hk : k < m) :
  StI W0 ((wz.setCell ⟨b, k, none⟩ (.int .i64 x)).drew) g cap vs n m (updI M r k x) ∧ ∀ (b' : Nat) (cs : Array Value) (e : TypeId), e ≠ 2 → wz.heap[b']? = some (.cells cs e (0, 0)) → ((wz.setCell ⟨b, k, none⟩ (.int .i64 x)).drew).heap[b']? = some (.cells cs e (0, 0)) := by
 obtain ⟨b0, c0, us, q1, q2, q3, q4, q5, q6⟩ := h.1.row r hr
 obtain ⟨rfl, rfl⟩ := vs_inj q1 hv
 obtain ⟨hc1, hg⟩ := q3.put k (.int .i64 x) (Pv.i64 _)
 refine ⟨StI.call ⟨h.1.put hr hk hv, h.2.setCell (p := ⟨b0, k, none⟩) q2 _⟩ (below_drew (Below.refl _ _)), fun b' cs e he hh => ?_⟩
 show (wz.setCell ⟨b0, k, none⟩ (.int .i64 x)).heap[b']? = _
 refine blk_grown hh hg (fun e2 => ?_)
 obtain ⟨cs2, u1, _⟩ := q3
 exact blk_ne hh u1 he (Option.some.inj e2)
end
def OutI (wq wz : World) (b cap j : Nat) (us : List Value) (f : Nat → Int) : Prop := wq.heap.size ≤ b ∧ Cb wz 2 b cap us ∧ RowI us j f ∧ Below wq.heap.size wq wz
theorem OutI.len {wq wz : World} {b cap j : Nat} {us : List Value} {f : Nat → Int} (h : OutI wq wz b cap j us f) : us.length = j := h.2.2.1.1
theorem OutI.congr {wq wz : World} {b cap j : Nat} {us : List Value} {f f' : Nat → Int} (h : OutI wq wz b cap j us f) (e : ∀ k, k < j → f k = f' k) : OutI wq wz b cap j us f' := ⟨h.1, h.2.1, h.2.2.1.congr e, h.2.2.2⟩
theorem OutI.grow {wq wr w2 : World} {b cap j g1 cap1 : Nat} {us : List Value} {f : Nat → Int} {x : Int} (h : OutI wq wr b cap j us f)
  (hc : Cb w2 2 g1 cap1 (us ++ [.int .i64 x])) (hat : g1 = b ∨ wr.heap.size ≤ g1) (hg : wr.grownBy w2 (some b)) : OutI wq w2 g1 cap1 (j + 1) (us ++ [.int .i64 x]) (fun k => if k = j then x else f k) := by
 have hs := h.2.2.2.size
 refine ⟨?_, hc, h.2.2.1.snoc x, below_grownB h.2.2.2 (Nat.le_refl _) hg h.1⟩
 have := h.1
 rcases hat with e | e <;> omega
theorem OutI.growG {wq wr w2 : World} {b cap i n g1 cap1 : Nat} {us : List Value} {G : TI} (h : OutI wq wr b cap (i + 1) us (fun k => if k = 0 then 0 else G (k - 1) n))
  (hc : Cb w2 2 g1 cap1 (us ++ [.int .i64 (G i n)])) (hat : g1 = b ∨ wr.heap.size ≤ g1) (hg : wr.grownBy w2 (some b)) : OutI wq w2 g1 cap1 (i + 1 + 1) (us ++ [.int .i64 (G i n)]) (fun k => if k = 0 then 0 else G (k - 1) n) := by
 refine (h.grow hc hat hg).congr (fun k hk => ?_)
 show (if k = i + 1 then _ else _) = _
 by_cases e : k = i + 1
 ·subst e
  rw [if_pos rfl, if_neg (by omega)]
  rfl
 ·rw [if_neg e]
theorem OutI.one (wq : World) {f : Nat → Int} (e : f 0 = 0) : OutI wq (wq.alloc (.cells #[.int .i64 0] 2)) wq.heap.size 1 1 [.int .i64 0] f := by
 refine ⟨Nat.le_refl _, Cb.one_new _ _ _ (Pv.i64 _), ⟨rfl, fun k hk => ?_⟩, below_alloc (Below.refl _ _) _⟩
 obtain rfl : k = 0 := by omega
 rw [e]; rfl
theorem OutI.outer {w wq wz : World} {b cap j : Nat} {us : List Value} {f : Nat → Int} (h : OutI wq wz b cap j us f) (h1 : Below w.heap.size w wq) : OutI w wz b cap j us f :=
 ⟨Nat.le_trans h1.size h.1, h.2.1, h.2.2.1, below_step h1 h.2.2.2⟩
def Made2 (wq w2 : World) (bm bx n : Nat) (v : Int) : Prop := wq.heap.size ≤ bm ∧ Cb w2 2 bm n (List.replicate n (.int .i64 0)) ∧ w2.cell? ⟨bx, 0, none⟩ = some (.int .i64 v) ∧ wq.heap.size ≤ bx ∧ Below wq.heap.size wq w2
theorem zeros_list (n : Nat) : (madeCells #[Value.int .i64 0] n).toList = List.replicate n (.int .i64 0) := by
 apply List.ext_getElem
 ·simp [madeCells]
 ·intro i h1 h2
  simp [madeCells, Nat.mod_one]
theorem zeros_Cb {W : World} {b n : Nat} (hn : n ≤ 100) (h : W.heap[b]? = some (.cells (madeCells #[.int .i64 0] n) 2 (0, 0))) : Cb W 2 b n (List.replicate n (.int .i64 0)) := by
 refine ⟨_, h, by simp [madeCells], by simp, by simp only [maxLen]; omega, ?_, ?_⟩
 ·rw [zeros_list]
  intro u hu
  rw [List.eq_of_mem_replicate hu]
  exact Pv.i64 _
 ·rw [zeros_list]; simp
theorem made2_a {wq W : World} {n : Nat} {v : Int} (hn : n ≤ 100) (hb : Below wq.heap.size wq W) : Made2 wq ((W.alloc (.cells (madeCells #[.int .i64 0] n) 2)).alloc (.cells #[.int .i64 v] 2)) W.heap.size (W.heap.size + 1) n v := by
 have h1 := heap_alloc_new (W.alloc (.cells (madeCells #[.int .i64 0] n) 2)) (.cells #[.int .i64 v] 2)
 rw [World.size_alloc] at h1
 have hs := hb.size
 exact ⟨hs, zeros_Cb hn (blk_alloc (heap_alloc_new W _) _), (blk_cell h1 0).trans rfl, by omega, below_alloc (below_alloc hb _) _⟩
theorem made2_b {wq W : World} {n : Nat} {v : Int} (hn : n ≤ 100) (hb : Below wq.heap.size wq W) : Made2 wq ((W.alloc (.cells #[.int .i64 v] 2)).alloc (.cells (madeCells #[.int .i64 0] n) 2)) (W.heap.size + 1) W.heap.size n v := by
 have h1 := heap_alloc_new (W.alloc (.cells #[.int .i64 v] 2)) (.cells (madeCells #[.int .i64 0] n) 2)
 rw [World.size_alloc] at h1
 have hs := hb.size
 exact ⟨by omega, zeros_Cb hn h1, (blk_cell (blk_alloc (heap_alloc_new W (.cells #[.int .i64 v] 2)) _) 0).trans rfl, hs, below_alloc (below_alloc hb _) _⟩
theorem Made2.row {wq w2 w3 : World} {bm bx n g1 cap1 : Nat} {v : Int} (h : Made2 wq w2 bm bx n v) (hc : Cb w3 2 g1 cap1 (List.replicate n (.int .i64 0) ++ [.int .i64 v])) (hat : g1 = bm ∨ w2.heap.size ≤ g1) (hg : w2.grownBy w3 (some bm)) :
  OutI wq w3 g1 cap1 (n + 1) (List.replicate n (.int .i64 0) ++ [.int .i64 v]) (fun k => if k = n then v else 0) := by
 have hs := h.2.2.2.2.size
 refine ⟨?_, hc, (RowI.zeros n).snoc v, below_grownB h.2.2.2.2 (Nat.le_refl _) hg h.1⟩
 have := h.1
 rcases hat with e | e <;> omega
theorem Gri.loop1 {W0 wq w2 w2' w3 : World} {g cap p n b cap2 g2 cap3 : Nat} {vs us : List Value} {right : List Int} (hG : Gri wq W0.heap.size g cap vs p (n + 1) (MI0 right n)) (hB : Below W0.heap.size W0 wq)
  (hI : OutI wq w2 b cap2 (n + 1) us (fun k => if k = n then rd right ((p : Int) + 1) else 0)) (hb2 : Below w2.heap.size w2 w2')
  (hC : Cb w3 28 g2 cap3 (vs ++ [.slice (some ⟨b, 0, none⟩) (n + 1) cap2])) (hat : g2 = g ∨ w2'.heap.size ≤ g2) (hg : w2'.grownBy w3 (some g)) :
  Gri w3 W0.heap.size g2 cap3 (vs ++ [.slice (some ⟨b, 0, none⟩) (n + 1) cap2]) (p + 1) (n + 1) (MI0 right n) ∧ Below W0.heap.size W0 w3 := by
 have hb := below_step hI.2.2.2 hb2
 refine ⟨(hG.snoc hb hB.size hI.1 (hI.2.1.below hb2) hI.2.2.1 hC hat hg).congr (fun r k hr hk => ?_), below_grownB (below_then hB hB.size hb) (Nat.le_refl _) hg hG.1⟩
 show (if r = p then _ else _) = _
 by_cases e : r = p
 ·subst e
  rw [if_pos rfl]
  rfl
 ·rw [if_neg e]
def elmI (S T : TI) (c r k : Nat) : TI := fun r' k' => if r' ≠ c ∧ (r' < r ∨ (r' = r ∧ k' < k)) then T r' k' else S r' k'
section
variable (S T : TI) (c r k : Nat)
theorem elmI_zero : elmI S T c 0 0 = S := by
 funext r k; unfold elmI; rw [if_neg (by omega)]
theorem elmI_at : elmI S T c r k r k = S r k := by unfold elmI; rw [if_neg (by omega)]
theorem elmI_piv (k' : Nat) : elmI S T c r k c k' = S c k' := by unfold elmI; rw [if_neg (by omega)]
theorem elmI_fac (k' : Nat) : elmI S T c r 0 r k' = S r k' := by unfold elmI; rw [if_neg (by omega)]
theorem elmI_succ (h : r ≠ c) : updI (elmI S T c r k) r k (T r k) = elmI S T c r (k + 1) := by
 funext r' k'
 unfold updI elmI
 by_cases h1 : r' = r ∧ k' = k
 ·obtain ⟨rfl, rfl⟩ := h1
  rw [if_pos ⟨rfl, rfl⟩, if_pos ⟨h, by omega⟩]
 ·rw [if_neg h1]
  by_cases h3 : r' ≠ c ∧ (r' < r ∨ (r' = r ∧ k' < k))
  ·rw [if_pos h3, if_pos ⟨h3.1, by omega⟩]
  ·rw [if_neg h3, if_neg (by omega)]
theorem elmI_own (n r' k' : Nat) : elmI S T c (c + 1) 0 r' k' = elmI S T c c 0 r' k' := by
 unfold elmI
 by_cases h : r' ≠ c ∧ r' < c
 ·rw [if_pos ⟨h.1, by omega⟩, if_pos ⟨h.1, by omega⟩]
 ·rw [if_neg (by omega), if_neg (by omega)]
theorem elmI_row (n r' k' : Nat) (hk : k' ≤ n) : elmI S T c (r + 1) 0 r' k' = elmI S T c r (n + 1) r' k' := by
 unfold elmI
 by_cases h : r' ≠ c ∧ (r' < r + 1 ∨ (r' = r + 1 ∧ k' < 0))
 ·rw [if_pos h, if_pos ⟨h.1, by omega⟩]
 ·rw [if_neg h, if_neg (by omega)]
theorem elmI_all (n r' k' : Nat) (hr : r' < n) (hc : T c k' = S c k') : elmI S T c n 0 r' k' = T r' k' := by
 unfold elmI
 by_cases h : r' = c
 ·subst h
  rw [if_neg (by omega), hc]
 ·rw [if_pos ⟨h, by omega⟩]
end
theorem bnd {x y : Int} (hx : -1073741824 ≤ x ∧ x ≤ 1073741824) (hy : -1073741824 ≤ y ∧ y ≤ 1073741824) : -1152921504606846976 ≤ x * y ∧ x * y ≤ 1152921504606846976 := by
 have h1 : x.natAbs * y.natAbs ≤ 1073741824 * 1073741824 := Nat.mul_le_mul (by omega) (by omega)
 have h2 : (x * y).natAbs = x.natAbs * y.natAbs := Int.natAbs_mul x y
 omega
theorem quo_ {T x d f y La : Int} (h : T * La = x * d - f * y) (hl : 0 < La) : (x * d - f * y).tdiv La = T := by
 rw [← h]
 exact Int.mul_tdiv_cancel T (by omega)
def stS (w a b : Int) (M : TI) : TI := stp w b a (stp w a b (stp w b b (stp w a a M)))
theorem MI0_size {right : List Int} {n : Nat} (hrs : ∀ i : Int, -4611686018427387904 ≤ rd right i ∧ rd right i ≤ 4611686018427387904) (r k : Nat) : -4611686018427387904 ≤ MI0 right n r k ∧ MI0 right n r k ≤ 4611686018427387904 := by
 unfold MI0
 split
 ·exact hrs _
 ·omega
def dl (w p q : Int) (r k : Nat) : Int := if 0 ≤ p ∧ 0 ≤ q ∧ (r : Int) = p ∧ (k : Int) = q then (if p = q then w else - w) else 0
theorem stp_dl (w p q : Int) (M : TI) (r k : Nat) : stp w p q M r k = M r k + dl w p q r k := by
 unfold stp dl
 split
 ·split <;> omega
 ·omega
theorem stS_eq {w a b : Int} {M : TI} : stS w a b M = stN w a b M 4 := by
 funext r k
 show stp w b a (stp w a b (stp w b b (stp w a a M))) r k = stp w b b (stp w b a (stp w a b (stp w a a M))) r k
 simp only [stp_dl]
 omega
theorem stpI_same {w : Int} {p q : Nat} {M : TI} (h : p = q) : stp w p q M = updI M p q (M p q + w) := by
 funext r k
 unfold stp updI
 by_cases e : r = p ∧ k = q
 ·obtain ⟨rfl, rfl⟩ := e
  rw [if_pos ⟨by omega, by omega, rfl, rfl⟩, if_pos (by omega), if_pos ⟨rfl, rfl⟩]
 ·rw [if_neg (by omega), if_neg e]
theorem stpI_other {w : Int} {p q : Nat} {M : TI} (h : p ≠ q) : stp w p q M = updI M p q (M p q - w) := by
 funext r k
 unfold stp updI
 by_cases e : r = p ∧ k = q
 ·obtain ⟨rfl, rfl⟩ := e
  rw [if_pos ⟨by omega, by omega, rfl, rfl⟩, if_neg (by omega), if_pos ⟨rfl, rfl⟩]
 ·rw [if_neg (by omega), if_neg e]
theorem mk28 (n : Nat) (hn : n ≤ 4) : ∀ W : World, (Instr.makeSlice 28 (.int .i64 (n : Int)) (.int .i64 (n : Int))).run Try.prog W = .ok (.slice (some ⟨W.heap.size, 0, none⟩) n n) (W.alloc (.cells (madeCells #[.int .i64 0] n) 2)) :=
 print_make_of 28 2 (.int .i64 0) 8 Try.underlying28 info2 rfl (by decide) n (by omega)
set_option maxHeartbeats 16000000 in
set_option maxRecDepth 100000 in
theorem solveS_any (n : Nat) (hn4 : n ≤ 4) (g0 : Nat) (l : List S32) (hv : surveyB ((n : Int) + 1) l = true) (A : Option Addr) (c : Nat) (AR : Option Addr) (cR : Nat) (right : List Int) (w : World)
  (hb : w.heap[g0]? = some (.cells #[.int .i64 ((n : Int) + 1), .slice A l.length c] 26 (0, 0))) (hr : Kd.C k32 w A l.length l) (hrr : Kd.C (Kd.int .i64) w AR right.length right) (hrl : right.length = n + 1) (hrs : ∀ i : Int, -4611686018427387904 ≤ rd right i ∧ rd right i ≤ 4611686018427387904)
  (S : Nat → TI) (L : Nat → Int) (hS0 : ∀ r k, r < n → k ≤ n → S 0 r k = tab l right n r k) (hL0 : L 0 = 1)
  (hst : ∀ c i k, c < n → i < n → k ≤ n → i ≠ c → S (c + 1) i k * L c = S c i k * S c c c - S c i c * S c c k) (hsc : ∀ c k, c < n → k ≤ n → S (c + 1) c k = S c c k)
  (hL : ∀ c, c < n → L (c + 1) = S c c c) (hLp : ∀ c, c ≤ n → 0 < L c) (hB : ∀ c i k, c ≤ n → i < n → k ≤ n → -1073741824 ≤ S c i k ∧ S c i k ≤ 1073741824) :
  Calls Try.prog 115 #[.pointer (some ⟨g0, 0, none⟩), .slice AR right.length cR] w fun e w' => ∃ (b cap : Nat) (us : List Value), e = .returned (.tuple #[.slice (some ⟨b, 0, none⟩) (n + 1) cap, .int .i64 (L n)]) ∧ OutI w w' b cap (n + 1) us (fun k => if k = 0 then 0 else S n (k - 1) n) := by
 have hu26 := Try.underlying26
 have hu32 := Try.underlying32
 have hu28 := Try.underlying28
 have hu141 := Try.underlying141
 have hl8 : l.length ≤ 8 := by
  unfold surveyB at hv
  simp only [Bool.and_eq_true, decide_eq_true_eq] at hv
  have := hv.1.2
  omega
 rw [hrl] at hrr
 rw [hrl]
 have mk := mk28 n hn4
 have HR := Aside0.mk hr
 have HRR := Aside0.mk hrr
 have HX := Aside0.mk hb
 have HV := Aside0.mk (And.intro hv hrs)
 have HS0 := Aside0.mk (And.intro hS0 hL0)
 have HST := Aside0.mk (And.intro hst hsc)
 have HLL := Aside0.mk (And.intro hL hLp)
 have HBD := Aside0.mk hB
 have c0 : w.cell? ⟨g0, 0, none⟩ = some (.int .i64 ((n : Int) + 1)) := (blk_cell hb 0).trans rfl
 clear hr hrr hb hv hrs hS0 hL0 hst hsc hL hLp hB
 go_enter Try.func115, Try.ntmps115
 go_wp2_with (fail)
 clear c0
 have t0 := Aside0.mk (Gri.new w (n + 1) (MI0 right n) w.heap.size (Nat.le_refl _))
 have tb := Aside0.mk (below_alloc (Below.refl w.heap.size w) (.cells #[] 28))
 go_loopw [7, 8] (fun v7 v8 wz => ∃ (p g cap : Nat) (vs : List Value), v7 = .slice (some ⟨g, 0, none⟩) p cap ∧ v8 = .int .i64 (p : Int) ∧ p ≤ n ∧ Aside0 (Gri wz w.heap.size g cap vs p (n + 1) (MI0 right n)) ∧ Aside0 (Below w.heap.size w wz)) (fun _ v _ => n - (intOf v).toNat)
 case atStart => exact ⟨0, _, 0, [], rfl, rfl, by omega, t0, tb⟩
 case round =>
  clear t0 tb
  obtain ⟨p, g, cap, vs, rfl, rfl, hp, HG, HB⟩ := hrel
  obtain ⟨wq, rfl⟩ : ∃ wq, wq = wr := ⟨_, rfl⟩
  by_cases hlt : p < n
  ·have p1 : decide ((p : Int) < (n : Int)) = true := decide_eq_true (by omega)
   obtain ⟨ad, e, hx⟩ := Kd.at_int (Kd.C_below HRR.out HB.out) ((p : Int) + 1) (by omega) (by omega)
   subst e
   obtain ⟨p', hp'⟩ : ∃ p' : Nat, p' = p + 1 := ⟨_, rfl⟩
   rw [show ((p : Int) + 1).toNat = p' by omega] at hx
   have hw : wrap64 ((p : Int) + 1) = (p' : Int) := by unfold wrap64; omega
   have i1 : (0 ≤ (p' : Int)) = True := eq_true (by omega)
   have i2 : ((p' : Int) < (n : Int) + 1) = True := eq_true (by omega)
   obtain ⟨v, hvv⟩ : ∃ v, v = rd right ((p : Int) + 1) := ⟨_, rfl⟩
   rw [← hvv] at hx
   have HVV := Aside0.mk hvv
   have HX1 := Aside0.mk hx
   clear hvv hp'
   go_wp2_with (fail)
   refine start_ (n:=13) (S := fun w' => w'.cell? (ad.add p') = some (.int .i64 v)) (ds:=[11]) #[false,false,false,false,false,false,false,false,false,false,false,false,false] (by kernel_rfl) rfl rfl hx (fun hHeld => ?_)
   refine pure_ (i:=0) (N:=some 32) (v:=?_) (a':=?_) #[true,false,false,false,false,false,false,false,false,false,false,false,false] rfl rfl (by kernel_rfl) (fun _ _ _ h => h) (Or.inl ⟨by rfl, ?_⟩) ?_ ?_
   rotate_left
   ·intro w'
    go_simp
    with_reducible rfl
   rotate_left
   ·simp only [Act.put, List.setIfInBounds_toArray, List.set_cons_zero, List.set_cons_succ, i64_w, i32_w]
    rfl
   refine pure_ (i:=1) (N:=some 33) (v:=?_) (a':=?_) #[true,true,false,false,false,false,false,false,false,false,false,false,false] rfl rfl (by kernel_rfl) (fun _ _ _ h => h) (Or.inl ⟨by rfl, ?_⟩) ?_ ?_
   rotate_left
   ·intro w'
    go_simp
    with_reducible rfl
   rotate_left
   ·simp only [Act.put, List.setIfInBounds_toArray, List.set_cons_zero, List.set_cons_succ, i64_w, i32_w]
    rfl
   refine pure_ (i:=3) (N:=some 35) (v:=?_) (a':=?_) #[true,true,false,true,false,false,false,false,false,false,false,false,false] rfl rfl (by kernel_rfl) (fun _ _ _ h => h) (Or.inl ⟨by rfl, ?_⟩) ?_ ?_
   rotate_left
   ·intro w'
    go_simp
    with_reducible rfl
   rotate_left
   ·simp only [Act.put, List.setIfInBounds_toArray, List.set_cons_zero, List.set_cons_succ, i64_w, i32_w]
    rfl
   refine pure_ (i:=4) (N:=some 36) (v:=?_) (a':=?_) #[true,true,false,true,true,false,false,false,false,false,false,false,false] rfl rfl (by kernel_rfl) (fun _ _ _ h => h) (Or.inl ⟨by rfl, ?_⟩) ?_ ?_
   rotate_left
   ·intro w'
    go_simp
    with_reducible rfl
   rotate_left
   ·simp only [Act.put, List.setIfInBounds_toArray, List.set_cons_zero, List.set_cons_succ, i64_w, i32_w]
    rfl
   refine pure_ (i:=5) (N:=some 37) (v:=?_) (a':=?_) #[true,true,false,true,true,true,false,false,false,false,false,false,false] rfl rfl (by kernel_rfl) (fun _ _ _ h => h) (Or.inl ⟨by rfl, ?_⟩) ?_ ?_
   rotate_left
   ·intro w'
    go_simp
    with_reducible rfl
   rotate_left
   ·simp only [Act.put, List.setIfInBounds_toArray, List.set_cons_zero, List.set_cons_succ, i64_w, i32_w]
    rfl
   refine pure_ (i:=6) (N:=some 38) (v:=?_) (a':=?_) #[true,true,false,true,true,true,true,false,false,false,false,false,false] rfl rfl (by kernel_rfl) (fun _ _ _ h => h) (Or.inl ⟨by rfl, ?_⟩) ?_ ?_
   rotate_left
   ·intro w'
    go_simp
    with_reducible rfl
   rotate_left
   ·simp only [Act.put, List.setIfInBounds_toArray, List.set_cons_zero, List.set_cons_succ, i64_w, i32_w]
    rfl
   refine take_ (i:=7) (N:=some 39) (v:=?_) (a':=?_) #[true,true,false,true,true,true,true,true,false,false,false,false,false] rfl rfl (by kernel_rfl) (fun _ _ _ h => h) (Or.inl ⟨by rfl, ?_⟩) hHeld ?_ ?_
   rotate_left
   ·rintro w' s0
    go_simp
    with_reducible rfl
   rotate_left
   ·simp only [Act.put, List.setIfInBounds_toArray, List.set_cons_zero, List.set_cons_succ, i64_w, i32_w]
    rfl
   refine join_ (σ := Nat × Nat) (fuel' := 4) #[true, true, true, true, true, true, true, true, true, false, false, false, false] (fun s => [(34, .slice (some ⟨s.1, 0, none⟩) n n), (40, .slice (some ⟨s.2, 0, none⟩) 1 1)]) (fun s w2 => Made2 wq w2 s.1 s.2 n v) ?_ ?_
   rotate_left
   ·intro hJ
    refine two_ (i:=2) (j := 8) (Ni := some 34) (Nj := some 40) #[true,true,true,true,true,true,true,true,false,false,false,false,false] #[true,true,false,true,true,true,true,true,true,false,false,false,false] rfl rfl rfl rfl (by kernel_rfl) (by decide) (by decide) (fun K_ hK => ?_) (fun K_ hK => ?_)
    ·refine value_ (v := .slice (some ⟨wq.heap.size, 0, none⟩) n n) (w1 := wq.drew.alloc (.cells (madeCells #[.int .i64 0] n) 2)) (by rfl) rfl ?_ ?_
     ·go_simp
      first | done | exact ⟨rfl, rfl⟩ | rfl
     refine hK.out _ _ (Eq.trans ((below_alloc (below_drew (Below.refl wq.heap.size wq)) (.cells (madeCells #[.int .i64 0] n) 2)).cell (World.block_lt_of_cell? _ _ HX1.out)) HX1.out) (fun hHeld => ?_)
     clear hK K_
     refine norm_ (a':=?_) ?_ ?_
     rotate_left
     ·show Act.put _ (some 34) _ = _
      simp only [Act.put, List.setIfInBounds_toArray, List.set_cons_zero, List.set_cons_succ, i64_w, i32_w]
      rfl
     refine one_ (i:=8) (N:=some 40) #[true,true,true,true,true,true,true,true,true,false,false,false,false] rfl rfl (by kernel_rfl) (by decide) (fun K_ hK => ?_)
     refine value_ (v := .slice (some ⟨wq.heap.size + 1, 0, none⟩) 1 1) (w1 := (wq.drew.alloc (.cells (madeCells #[.int .i64 0] n) 2)).alloc (.cells #[.int .i64 v] 2)) (by rfl) rfl ?_ ?_
     ·go_simp
      first | done | exact ⟨rfl, rfl⟩ | rfl
     refine hK.out _ _ (Eq.trans ((below_alloc (below_alloc (below_drew (Below.refl wq.heap.size wq)) (.cells (madeCells #[.int .i64 0] n) 2)) (.cells #[.int .i64 v] 2)).cell (World.block_lt_of_cell? _ _ HX1.out)) HX1.out) (fun hHeld => ?_)
     clear hK K_
     refine norm_ (a':=?_) ?_ ?_
     rotate_left
     ·show Act.put _ (some 40) _ = _
      simp only [Act.put, List.setIfInBounds_toArray, List.set_cons_zero, List.set_cons_succ, i64_w, i32_w]
      rfl
     refine norm_ (a' := _) ?_ (hJ (wq.heap.size, wq.heap.size + 1) _ (made2_a (by omega) (below_drew (Below.refl wq.heap.size wq))))
     ·simp only [putAll, Act.put, List.setIfInBounds_toArray, List.set_cons_zero, List.set_cons_succ]
      try rfl
    ·refine value_ (v := .slice (some ⟨wq.heap.size, 0, none⟩) 1 1) (w1 := wq.drew.alloc (.cells #[.int .i64 v] 2)) (by rfl) rfl ?_ ?_
     ·go_simp
      first | done | exact ⟨rfl, rfl⟩ | rfl
     refine hK.out _ _ (Eq.trans ((below_alloc (below_drew (Below.refl wq.heap.size wq)) (.cells #[.int .i64 v] 2)).cell (World.block_lt_of_cell? _ _ HX1.out)) HX1.out) (fun hHeld => ?_)
     clear hK K_
     refine norm_ (a':=?_) ?_ ?_
     rotate_left
     ·show Act.put _ (some 40) _ = _
      simp only [Act.put, List.setIfInBounds_toArray, List.set_cons_zero, List.set_cons_succ, i64_w, i32_w]
      rfl
     refine one_ (i:=2) (N:=some 34) #[true,true,true,true,true,true,true,true,true,false,false,false,false] rfl rfl (by kernel_rfl) (by decide) (fun K_ hK => ?_)
     refine value_ (v := .slice (some ⟨wq.heap.size + 1, 0, none⟩) n n) (w1 := (wq.drew.alloc (.cells #[.int .i64 v] 2)).alloc (.cells (madeCells #[.int .i64 0] n) 2)) (by rfl) rfl ?_ ?_
     ·go_simp
      first | done | exact ⟨rfl, rfl⟩ | rfl
     refine hK.out _ _ (Eq.trans ((below_alloc (below_alloc (below_drew (Below.refl wq.heap.size wq)) (.cells #[.int .i64 v] 2)) (.cells (madeCells #[.int .i64 0] n) 2)).cell (World.block_lt_of_cell? _ _ HX1.out)) HX1.out) (fun hHeld => ?_)
     clear hK K_
     refine norm_ (a':=?_) ?_ ?_
     rotate_left
     ·show Act.put _ (some 34) _ = _
      simp only [Act.put, List.setIfInBounds_toArray, List.set_cons_zero, List.set_cons_succ, i64_w, i32_w]
      rfl
     refine norm_ (a' := _) ?_ (hJ (wq.heap.size + 1, wq.heap.size) _ (made2_b (by omega) (below_drew (Below.refl wq.heap.size wq))))
     ·simp only [putAll, Act.put, List.setIfInBounds_toArray, List.set_cons_zero, List.set_cons_succ]
      try rfl
   rintro ⟨bm, bx⟩ w2 hF
   have HF := Aside0.mk (show Made2 wq w2 bm bx n v from hF)
   clear hF
   refine norm_ (a':=?_) ?_ ?_
   rotate_left
   ·simp only [putAll, Act.put, List.setIfInBounds_toArray, List.set_cons_zero, List.set_cons_succ]
    rfl
   refine one_ (i:=9) (N:=some 41) #[true,true,true,true,true,true,true,true,true,true,false,false,false] rfl rfl (by kernel_rfl) (by decide) (fun K_ hK => ?_)
   refine Cb.append_step (by rfl) (.tmp 34) (.tmp 40) 28 2 (.int .i64 0) 8 rfl Try.underlying28 info2 rfl (Pv.i64 _) (by decide) bm n bx n _ (.int .i64 v) (by simp) rfl rfl HF.out.2.2.1 rfl (Pv.i64 _) HF.out.2.1 (by simp; omega) ?_
   intro g1 cap1 w3 h1 h2 h3
   have HN := Aside0.mk (HF.out.row h1 h2 h3)
   clear h1 h2 h3
   refine hK.out _ _ (Eq.trans (HN.out.2.2.2.cell (World.block_lt_of_cell? _ _ HX1.out)) HX1.out) (fun hHeld => ?_)
   clear hK K_
   refine norm_ (a':=?_) ?_ ?_
   rotate_left
   ·show Act.put _ (some 41) _ = _
    simp only [Act.put, List.setIfInBounds_toArray, List.set_cons_zero, List.set_cons_succ, i64_w, i32_w]
    rfl
   refine one_ (i:=10) (N:=some 42) #[true,true,true,true,true,true,true,true,true,true,true,false,false] rfl rfl (by kernel_rfl) (by decide) (fun K_ hK => ?_)
   refine value_ (v := .slice (some ⟨w3.heap.size, 0, none⟩) 1 1) (w1 := w3.alloc (.cells #[.slice (some ⟨g1, 0, none⟩) (n + 1) cap1] 28)) (by rfl) rfl ?_ ?_
   ·go_simp
    first | done | exact ⟨rfl, rfl⟩ | rfl
   have HB3 := Aside0.mk (below_alloc (Below.refl w3.heap.size w3) (.cells #[.slice (some ⟨g1, 0, none⟩) (n + 1) cap1] 28))
   have HC3 := Aside0.mk ((blk_cell (heap_alloc_new w3 (.cells #[.slice (some ⟨g1, 0, none⟩) (n + 1) cap1] 28)) 0).trans rfl)
   refine hK.out _ _ (Eq.trans ((below_step HN.out.2.2.2 HB3.out).cell (World.block_lt_of_cell? _ _ HX1.out)) HX1.out) (fun hHeld => ?_)
   clear hK K_
   refine norm_ (a':=?_) ?_ ?_
   rotate_left
   ·show Act.put _ (some 42) _ = _
    simp only [Act.put, List.setIfInBounds_toArray, List.set_cons_zero, List.set_cons_succ, i64_w, i32_w]
    rfl
   refine last_ (i:=11) (N:=some 43) #[true,true,true,true,true,true,true,true,true,true,true,true,false] rfl rfl (by kernel_rfl) (by decide) (fun K_ hK => ?_)
   refine Cb.append_step (by rfl) (.tmp 32) (.tmp 42) 141 28 (.slice none 0 0) 24 rfl Try.underlying141 info28 rfl (Pv.slice _ _ _) (by decide) g cap w3.heap.size p vs (.slice (some ⟨g1, 0, none⟩) (n + 1) cap1) HG.out.2.2.1 rfl rfl HC3.out rfl (Pv.slice _ _ _) (HG.out.below (below_step HN.out.2.2.2 HB3.out)).2.1 (by rw [HG.out.2.2.1]; omega) ?_
   intro g2 cap3 w4 h1 h2 h3
   have HM := Aside0.mk (Gri.loop1 HG.out HB.out (by rw [← HVV.out]; exact HN.out) HB3.out h1 h2 h3)
   clear h1 h2 h3
   refine hK.out _ _ ?_
   clear hK K_
   refine norm_ (a':=?_) ?_ ?_
   rotate_left
   ·show Act.put _ (some 43) _ = _
    simp only [Act.put, List.setIfInBounds_toArray, List.set_cons_zero, List.set_cons_succ, i64_w, i32_w]
    rfl
   refine pure_ (i:=12) (N:=some 7) (v:=?_) (a':=?_) #[true,true,true,true,true,true,true,true,true,true,true,true,true] rfl rfl (by kernel_rfl) (fun _ _ _ h => h) (Or.inl ⟨by rfl, ?_⟩) ?_ ?_
   rotate_left
   ·intro w'
    go_simp
    with_reducible rfl
   rotate_left
   ·simp only [Act.put, List.setIfInBounds_toArray, List.set_cons_zero, List.set_cons_succ, i64_w, i32_w]
    rfl
   refine done_ (by kernel_rfl) ?_
   clear hw i1 i2
   go_wp2_with (fail)
   go_roundw
   case rel => exact ⟨p + 1, g2, cap3, _, by go_num, by go_num, by omega, ⟨HM.out.1⟩, ⟨HM.out.2⟩⟩
   case measure => simp [intOf]; omega
  ·obtain rfl : n = p := by omega
   have p1 : decide ((n : Int) < (n : Int)) = false := decide_eq_false (by omega)
   obtain ⟨m, hm⟩ : ∃ m, m = n + 1 := ⟨_, rfl⟩
   have HS := Aside0.mk (show StI w wq g cap vs n m (sgs l (MI0 right n) 0) by rw [hm]; exact ⟨HG.out, HB.out⟩)
   have HMN := Aside0.mk hm
   have hm5 : m ≤ 5 := by omega
   clear HG HB hm mk
   go_wp2_with (fail)
   go_loopw [9] (fun v9 wz => ∃ i : Nat, v9 = .int .i64 (i : Int) ∧ i ≤ l.length ∧ Aside0 (StI w wz g cap vs n m (sgs l (MI0 right n) i))) (fun v _ => l.length - (intOf v).toNat)
   case atStart => exact ⟨0, rfl, by omega, HS⟩
   case round =>
    clear HS
    obtain ⟨i, rfl, hi, HS⟩ := hrel
    have hbk := blk_below HX.out HS.out.2
    have c1 : wr.cell? ⟨g0, 1, none⟩ = some (.slice A l.length c) := (blk_cell hbk 1).trans rfl
    clear hbk
    by_cases hlt : i < l.length
    ·have p1 : decide ((i : Int) < (l.length : Int)) = true := decide_eq_true (by omega)
     obtain ⟨ad, e, x0, x1, x2, x3⟩ := at_T32 (Kd.C_below HR.out HS.out.2) (i : Int) (by omega) (by omega)
     subst e
     rw [Int.toNat_natCast] at x0 x1 x2 x3
     have hva := sight_at HV.out.1 i hlt
     obtain ⟨s, hs⟩ : ∃ s, s = rd_T32 l i := ⟨_, rfl⟩
     rw [← hs] at x0 x1 x2 x3 hva
     obtain ⟨y0, y1, y2, y3, y4, y5, y6⟩ := hva
     have HSS := Aside0.mk hs
     obtain ⟨M, hM⟩ : ∃ M, M = sgs l (MI0 right n) i := ⟨_, rfl⟩
     have HD1 := Aside0.mk (show ∀ r k, -(4611686018427387904 + 12 * (i : Int)) ≤ M r k ∧ M r k ≤ 4611686018427387904 + 12 * (i : Int) by rw [hM]; exact sgs_size HV.out.1 (MI0_size HV.out.2) i hi)
     rw [← hM] at HS
     have HM := Aside0.mk hM
     have hmn : m = n + 1 := HMN.out
     have hcase : (s.f0 = 0 ∧ ∃ q : Nat, s.f1 = (q : Int) + 1) ∨ ((∃ p : Nat, s.f0 = (p : Int) + 1) ∧ s.f1 = 0) ∨ ∃ p q : Nat, p ≠ q ∧ s.f0 = (p : Int) + 1 ∧ s.f1 = (q : Int) + 1 := by
      by_cases e0 : s.f0 = 0
      ·exact .inl ⟨e0, (s.f1 - 1).toNat, by omega⟩
      ·by_cases e1 : s.f1 = 0
       ·exact .inr (.inl ⟨⟨(s.f0 - 1).toNat, by omega⟩, e1⟩)
       ·exact .inr (.inr ⟨(s.f0 - 1).toNat, (s.f1 - 1).toNat, by omega, by omega, by omega⟩)
     clear hs hM
     rcases hcase with ⟨h0, hq⟩ | ⟨hp, h1⟩ | ⟨p, q, hpq, h0, h1⟩
     ·skip
      obtain ⟨q, h1⟩ := hq
      have i_q : (0 ≤ (q : Int)) = True := eq_true (by omega)
      have j_q : ((q : Int) < (n : Int)) = True := eq_true (by omega)
      have k_q : ((q : Int) < (m : Int)) = True := eq_true (by omega)
      have l_q : q < m := by omega
      have m_q : q < n := by omega
      clear hmn
      rw [h0] at x0
      rw [h1] at x1
      have HNA := Aside0.mk (heap_alloc_new wr (.cells #[.int .i64 0, .int .i64 ((q : Int) + 1), .int .i64 s.f2, .int .i64 s.f3] 32))
      have HBA := Aside0.mk (below_alloc (Below.refl wr.heap.size wr) (.cells #[.int .i64 0, .int .i64 ((q : Int) + 1), .int .i64 s.f2, .int .i64 s.f3] 32))
      go_wp2_with (fail)
      have HS1 := Aside0.mk (HS.out.call HBA.out)
      obtain ⟨b10, hb10⟩ : ∃ b, b = wr.heap.size := ⟨_, rfl⟩
      obtain ⟨ws0, hws⟩ : ∃ ws, ws = wr.alloc (.cells #[.int .i64 0, .int .i64 ((q : Int) + 1), .int .i64 s.f2, .int .i64 s.f3] 32) := ⟨_, rfl⟩
      have HBK1 := Aside0.mk (show ws0.heap[b10]? = some (.cells #[.int .i64 0, .int .i64 ((q : Int) + 1), .int .i64 s.f2, .int .i64 s.f3] 32 (0, 0)) by rw [hb10, hws]; exact HNA.out)
      rw [← hws] at HS1
      rw [← hws, ← hb10]
      clear hws hb10 HNA HBA HS x0 x1 x2 x3 c1
      obtain ⟨bq1, cq1, hv1, q0, q1, qf, qb⟩ := HS1.out.at_ (r := q) (k := q) (by omega) (by omega)
      obtain ⟨d, hd⟩ : ∃ d, d = M q q := ⟨_, rfl⟩
      have hdb := HD1.out q q
      rw [← hd] at q1 hdb
      obtain ⟨x, hx⟩ : ∃ x, x = d + s.f3 := ⟨_, rfl⟩
      have hw : wrap64 (d + s.f3) = x := by rw [hx]; unfold wrap64; omega
      have q2 : ws0.cell? ⟨b10, 3, none⟩ = some (.int .i64 s.f3) := (blk_cell HBK1.out 3).trans rfl
      have hst := HS1.out.step (x := x) hv1 (show q < n by omega) (show q < m by omega)
      have HD2 := Aside0.mk (fun r' k' => stp_size (w := s.f3) (p := (q : Int)) (q := (q : Int)) (by omega) (by omega) HD1.out r' k')
      have HS2 := Aside0.mk (show StI w ((ws0.setCell ⟨bq1, q, none⟩ (.int .i64 x)).drew) g cap vs n m (stp s.f3 (q : Int) (q : Int) M) by rw [stpI_same (by omega), ← hd, ← hx]; exact hst.1)
      have HBK2 := Aside0.mk (hst.2 _ _ _ (by decide) HBK1.out)
      clear hst hdb hd hx
      go_wp2_with (fail)
      refine start_ (n:=12) (S := fun w' => w'.cell? ⟨g, q, none⟩ = some (.slice (some ⟨bq1, 0, none⟩) m cq1) ∧ w'.cell? ⟨bq1, q, none⟩ = some (.int .i64 d) ∧ w'.cell? ⟨b10, 3, none⟩ = some (.int .i64 s.f3)) (ds:=[11]) #[false,false,false,false,false,false,false,false,false,false,false,false] (by kernel_rfl) rfl rfl ⟨q0, q1, q2⟩ (fun hHeld => ?_)
      refine pure_ (i:=0) (N:=some 81) (v:=?_) (a':=?_) #[true,false,false,false,false,false,false,false,false,false,false,false] rfl rfl (by kernel_rfl) (fun _ _ _ h => h) (Or.inl ⟨by rfl, ?_⟩) ?_ ?_
      rotate_left
      ·intro w'
       go_simp
       with_reducible rfl
      rotate_left
      ·simp only [Act.put, List.setIfInBounds_toArray, List.set_cons_zero, List.set_cons_succ, i64_w, i32_w]
       rfl
      refine pure_ (i:=1) (N:=some 82) (v:=?_) (a':=?_) #[true,true,false,false,false,false,false,false,false,false,false,false] rfl rfl (by kernel_rfl) (fun _ _ _ h => h) (Or.inl ⟨by rfl, ?_⟩) ?_ ?_
      rotate_left
      ·intro w'
       go_simp
       with_reducible rfl
      rotate_left
      ·simp only [Act.put, List.setIfInBounds_toArray, List.set_cons_zero, List.set_cons_succ, i64_w, i32_w]
       rfl
      refine pure_ (i:=2) (N:=some 83) (v:=?_) (a':=?_) #[true,true,true,false,false,false,false,false,false,false,false,false] rfl rfl (by kernel_rfl) (fun _ _ _ h => h) (Or.inl ⟨by rfl, ?_⟩) ?_ ?_
      rotate_left
      ·intro w'
       go_simp
       with_reducible rfl
      rotate_left
      ·simp only [Act.put, List.setIfInBounds_toArray, List.set_cons_zero, List.set_cons_succ, i64_w, i32_w]
       rfl
      refine pure_ (i:=4) (N:=some 85) (v:=?_) (a':=?_) #[true,true,true,false,true,false,false,false,false,false,false,false] rfl rfl (by kernel_rfl) (fun _ _ _ h => h) (Or.inl ⟨by rfl, ?_⟩) ?_ ?_
      rotate_left
      ·intro w'
       go_simp
       with_reducible rfl
      rotate_left
      ·simp only [Act.put, List.setIfInBounds_toArray, List.set_cons_zero, List.set_cons_succ, i64_w, i32_w]
       rfl
      refine pure_ (i:=7) (N:=some 88) (v:=?_) (a':=?_) #[true,true,true,false,true,false,false,true,false,false,false,false] rfl rfl (by kernel_rfl) (fun _ _ _ h => h) (Or.inl ⟨by rfl, ?_⟩) ?_ ?_
      rotate_left
      ·intro w'
       go_simp
       with_reducible rfl
      rotate_left
      ·simp only [Act.put, List.setIfInBounds_toArray, List.set_cons_zero, List.set_cons_succ, i64_w, i32_w]
       rfl
      refine take_ (i:=3) (N:=some 84) (v:=?_) (a':=?_) #[true,true,true,true,true,false,false,true,false,false,false,false] rfl rfl (by kernel_rfl) (fun _ _ _ h => h) (Or.inl ⟨by rfl, ?_⟩) hHeld ?_ ?_
      rotate_left
      ·rintro w' ⟨s0, s1, s2⟩
       go_simp
       with_reducible rfl
      rotate_left
      ·simp only [Act.put, List.setIfInBounds_toArray, List.set_cons_zero, List.set_cons_succ, i64_w, i32_w]
       rfl
      refine pure_ (i:=5) (N:=some 86) (v:=?_) (a':=?_) #[true,true,true,true,true,true,false,true,false,false,false,false] rfl rfl (by kernel_rfl) (fun _ _ _ h => h) (Or.inl ⟨by rfl, ?_⟩) ?_ ?_
      rotate_left
      ·intro w'
       go_simp
       with_reducible rfl
      rotate_left
      ·simp only [Act.put, List.setIfInBounds_toArray, List.set_cons_zero, List.set_cons_succ, i64_w, i32_w]
       rfl
      refine take_ (i:=6) (N:=some 87) (v:=?_) (a':=?_) #[true,true,true,true,true,true,true,true,false,false,false,false] rfl rfl (by kernel_rfl) (fun _ _ _ h => h) (Or.inl ⟨by rfl, ?_⟩) hHeld ?_ ?_
      rotate_left
      ·rintro w' ⟨s0, s1, s2⟩
       go_simp
       with_reducible rfl
      rotate_left
      ·simp only [Act.put, List.setIfInBounds_toArray, List.set_cons_zero, List.set_cons_succ, i64_w, i32_w]
       rfl
      refine take_ (i:=8) (N:=some 89) (v:=?_) (a':=?_) #[true,true,true,true,true,true,true,true,true,false,false,false] rfl rfl (by kernel_rfl) (fun _ _ _ h => h) (Or.inl ⟨by rfl, ?_⟩) hHeld ?_ ?_
      rotate_left
      ·rintro w' ⟨s0, s1, s2⟩
       go_simp
       with_reducible rfl
      rotate_left
      ·simp only [Act.put, List.setIfInBounds_toArray, List.set_cons_zero, List.set_cons_succ, i64_w, i32_w]
       rfl
      refine pure_ (i:=9) (N:=some 90) (v:=?_) (a':=?_) #[true,true,true,true,true,true,true,true,true,true,false,false] rfl rfl (by kernel_rfl) (fun _ _ _ h => h) (Or.inl ⟨by rfl, ?_⟩) ?_ ?_
      rotate_left
      ·intro w'
       go_simp
       with_reducible rfl
      rotate_left
      ·simp only [Act.put, List.setIfInBounds_toArray, List.set_cons_zero, List.set_cons_succ, i64_w, i32_w]
       rfl
      refine pure_ (i:=10) (N:=some 91) (v:=?_) (a':=?_) #[true,true,true,true,true,true,true,true,true,true,true,false] rfl rfl (by kernel_rfl) (fun _ _ _ h => h) (Or.inl ⟨by rfl, ?_⟩) ?_ ?_
      rotate_left
      ·intro w'
       go_simp
       with_reducible rfl
      rotate_left
      ·simp only [Act.put, List.setIfInBounds_toArray, List.set_cons_zero, List.set_cons_succ, i64_w, i32_w]
       rfl
      refine last_ (i:=11) (N:=none) #[true,true,true,true,true,true,true,true,true,true,true,true] rfl rfl (by kernel_rfl) (by decide) (fun K_ hK => ?_)
      refine skip_ (w1 := (ws0.setCell ⟨bq1, q, none⟩ (.int .i64 x)).drew) (by rfl) rfl ?_ ?_
      ·go_simp
       try rfl
      refine hK.out _ _ ?_
      clear hK K_
      refine done_ (by kernel_rfl) ?_
      obtain ⟨ws1, hws⟩ : ∃ ws, ws = (ws0.setCell ⟨bq1, q, none⟩ (.int .i64 x)).drew := ⟨_, rfl⟩
      rw [← hws] at HS2 HBK2
      rw [← hws]
      clear hws q0 q1 q2 qf qb hw
      have HE := Aside0.mk (show sgs l (MI0 right n) (i + 1) = (stp s.f3 (q : Int) (q : Int) M) by
       show stN _ _ _ _ 4 = _
       rw [← stS_eq, ← HM.out, ← HSS.out, h0, h1]
       unfold stS
       rw [show (0 : Int) - 1 = -1 by rfl, show (q : Int) + 1 - 1 = (q : Int) by omega, stp_neg (p := (q : Int)) (q := -1) (.inr (by decide)), stp_neg (p := -1) (q := (q : Int)) (.inl (by decide)), stp_neg (p := -1) (q := -1) (.inl (by decide))])
      go_wp2_with (fail)
      go_roundw
      case rel => exact ⟨i + 1, by go_num, by omega, ⟨by rw [HE.out]; exact HS2.out⟩⟩
      case measure => simp [intOf]; omega
     ·skip
      obtain ⟨p, h0⟩ := hp
      have i_p : (0 ≤ (p : Int)) = True := eq_true (by omega)
      have j_p : ((p : Int) < (n : Int)) = True := eq_true (by omega)
      have k_p : ((p : Int) < (m : Int)) = True := eq_true (by omega)
      have l_p : p < m := by omega
      have m_p : p < n := by omega
      clear hmn
      rw [h0] at x0
      rw [h1] at x1
      have HNA := Aside0.mk (heap_alloc_new wr (.cells #[.int .i64 ((p : Int) + 1), .int .i64 0, .int .i64 s.f2, .int .i64 s.f3] 32))
      have HBA := Aside0.mk (below_alloc (Below.refl wr.heap.size wr) (.cells #[.int .i64 ((p : Int) + 1), .int .i64 0, .int .i64 s.f2, .int .i64 s.f3] 32))
      go_wp2_with (fail)
      have HS1 := Aside0.mk (HS.out.call HBA.out)
      obtain ⟨b10, hb10⟩ : ∃ b, b = wr.heap.size := ⟨_, rfl⟩
      obtain ⟨ws0, hws⟩ : ∃ ws, ws = wr.alloc (.cells #[.int .i64 ((p : Int) + 1), .int .i64 0, .int .i64 s.f2, .int .i64 s.f3] 32) := ⟨_, rfl⟩
      have HBK1 := Aside0.mk (show ws0.heap[b10]? = some (.cells #[.int .i64 ((p : Int) + 1), .int .i64 0, .int .i64 s.f2, .int .i64 s.f3] 32 (0, 0)) by rw [hb10, hws]; exact HNA.out)
      rw [← hws] at HS1
      rw [← hws, ← hb10]
      clear hws hb10 HNA HBA HS x0 x1 x2 x3 c1
      obtain ⟨bq1, cq1, hv1, q0, q1, qf, qb⟩ := HS1.out.at_ (r := p) (k := p) (by omega) (by omega)
      obtain ⟨d, hd⟩ : ∃ d, d = M p p := ⟨_, rfl⟩
      have hdb := HD1.out p p
      rw [← hd] at q1 hdb
      obtain ⟨x, hx⟩ : ∃ x, x = d + s.f3 := ⟨_, rfl⟩
      have hw : wrap64 (d + s.f3) = x := by rw [hx]; unfold wrap64; omega
      have q2 : ws0.cell? ⟨b10, 3, none⟩ = some (.int .i64 s.f3) := (blk_cell HBK1.out 3).trans rfl
      have hst := HS1.out.step (x := x) hv1 (show p < n by omega) (show p < m by omega)
      have HD2 := Aside0.mk (fun r' k' => stp_size (w := s.f3) (p := (p : Int)) (q := (p : Int)) (by omega) (by omega) HD1.out r' k')
      have HS2 := Aside0.mk (show StI w ((ws0.setCell ⟨bq1, p, none⟩ (.int .i64 x)).drew) g cap vs n m (stp s.f3 (p : Int) (p : Int) M) by rw [stpI_same (by omega), ← hd, ← hx]; exact hst.1)
      have HBK2 := Aside0.mk (hst.2 _ _ _ (by decide) HBK1.out)
      clear hst hdb hd hx
      go_wp2_with (fail)
      refine start_ (n:=12) (S := fun w' => w'.cell? ⟨g, p, none⟩ = some (.slice (some ⟨bq1, 0, none⟩) m cq1) ∧ w'.cell? ⟨bq1, p, none⟩ = some (.int .i64 d) ∧ w'.cell? ⟨b10, 3, none⟩ = some (.int .i64 s.f3)) (ds:=[11]) #[false,false,false,false,false,false,false,false,false,false,false,false] (by kernel_rfl) rfl rfl ⟨q0, q1, q2⟩ (fun hHeld => ?_)
      refine pure_ (i:=0) (N:=some 68) (v:=?_) (a':=?_) #[true,false,false,false,false,false,false,false,false,false,false,false] rfl rfl (by kernel_rfl) (fun _ _ _ h => h) (Or.inl ⟨by rfl, ?_⟩) ?_ ?_
      rotate_left
      ·intro w'
       go_simp
       with_reducible rfl
      rotate_left
      ·simp only [Act.put, List.setIfInBounds_toArray, List.set_cons_zero, List.set_cons_succ, i64_w, i32_w]
       rfl
      refine pure_ (i:=1) (N:=some 69) (v:=?_) (a':=?_) #[true,true,false,false,false,false,false,false,false,false,false,false] rfl rfl (by kernel_rfl) (fun _ _ _ h => h) (Or.inl ⟨by rfl, ?_⟩) ?_ ?_
      rotate_left
      ·intro w'
       go_simp
       with_reducible rfl
      rotate_left
      ·simp only [Act.put, List.setIfInBounds_toArray, List.set_cons_zero, List.set_cons_succ, i64_w, i32_w]
       rfl
      refine pure_ (i:=2) (N:=some 70) (v:=?_) (a':=?_) #[true,true,true,false,false,false,false,false,false,false,false,false] rfl rfl (by kernel_rfl) (fun _ _ _ h => h) (Or.inl ⟨by rfl, ?_⟩) ?_ ?_
      rotate_left
      ·intro w'
       go_simp
       with_reducible rfl
      rotate_left
      ·simp only [Act.put, List.setIfInBounds_toArray, List.set_cons_zero, List.set_cons_succ, i64_w, i32_w]
       rfl
      refine pure_ (i:=4) (N:=some 72) (v:=?_) (a':=?_) #[true,true,true,false,true,false,false,false,false,false,false,false] rfl rfl (by kernel_rfl) (fun _ _ _ h => h) (Or.inl ⟨by rfl, ?_⟩) ?_ ?_
      rotate_left
      ·intro w'
       go_simp
       with_reducible rfl
      rotate_left
      ·simp only [Act.put, List.setIfInBounds_toArray, List.set_cons_zero, List.set_cons_succ, i64_w, i32_w]
       rfl
      refine pure_ (i:=7) (N:=some 75) (v:=?_) (a':=?_) #[true,true,true,false,true,false,false,true,false,false,false,false] rfl rfl (by kernel_rfl) (fun _ _ _ h => h) (Or.inl ⟨by rfl, ?_⟩) ?_ ?_
      rotate_left
      ·intro w'
       go_simp
       with_reducible rfl
      rotate_left
      ·simp only [Act.put, List.setIfInBounds_toArray, List.set_cons_zero, List.set_cons_succ, i64_w, i32_w]
       rfl
      refine take_ (i:=3) (N:=some 71) (v:=?_) (a':=?_) #[true,true,true,true,true,false,false,true,false,false,false,false] rfl rfl (by kernel_rfl) (fun _ _ _ h => h) (Or.inl ⟨by rfl, ?_⟩) hHeld ?_ ?_
      rotate_left
      ·rintro w' ⟨s0, s1, s2⟩
       go_simp
       with_reducible rfl
      rotate_left
      ·simp only [Act.put, List.setIfInBounds_toArray, List.set_cons_zero, List.set_cons_succ, i64_w, i32_w]
       rfl
      refine pure_ (i:=5) (N:=some 73) (v:=?_) (a':=?_) #[true,true,true,true,true,true,false,true,false,false,false,false] rfl rfl (by kernel_rfl) (fun _ _ _ h => h) (Or.inl ⟨by rfl, ?_⟩) ?_ ?_
      rotate_left
      ·intro w'
       go_simp
       with_reducible rfl
      rotate_left
      ·simp only [Act.put, List.setIfInBounds_toArray, List.set_cons_zero, List.set_cons_succ, i64_w, i32_w]
       rfl
      refine take_ (i:=6) (N:=some 74) (v:=?_) (a':=?_) #[true,true,true,true,true,true,true,true,false,false,false,false] rfl rfl (by kernel_rfl) (fun _ _ _ h => h) (Or.inl ⟨by rfl, ?_⟩) hHeld ?_ ?_
      rotate_left
      ·rintro w' ⟨s0, s1, s2⟩
       go_simp
       with_reducible rfl
      rotate_left
      ·simp only [Act.put, List.setIfInBounds_toArray, List.set_cons_zero, List.set_cons_succ, i64_w, i32_w]
       rfl
      refine take_ (i:=8) (N:=some 76) (v:=?_) (a':=?_) #[true,true,true,true,true,true,true,true,true,false,false,false] rfl rfl (by kernel_rfl) (fun _ _ _ h => h) (Or.inl ⟨by rfl, ?_⟩) hHeld ?_ ?_
      rotate_left
      ·rintro w' ⟨s0, s1, s2⟩
       go_simp
       with_reducible rfl
      rotate_left
      ·simp only [Act.put, List.setIfInBounds_toArray, List.set_cons_zero, List.set_cons_succ, i64_w, i32_w]
       rfl
      refine pure_ (i:=9) (N:=some 77) (v:=?_) (a':=?_) #[true,true,true,true,true,true,true,true,true,true,false,false] rfl rfl (by kernel_rfl) (fun _ _ _ h => h) (Or.inl ⟨by rfl, ?_⟩) ?_ ?_
      rotate_left
      ·intro w'
       go_simp
       with_reducible rfl
      rotate_left
      ·simp only [Act.put, List.setIfInBounds_toArray, List.set_cons_zero, List.set_cons_succ, i64_w, i32_w]
       rfl
      refine pure_ (i:=10) (N:=some 78) (v:=?_) (a':=?_) #[true,true,true,true,true,true,true,true,true,true,true,false] rfl rfl (by kernel_rfl) (fun _ _ _ h => h) (Or.inl ⟨by rfl, ?_⟩) ?_ ?_
      rotate_left
      ·intro w'
       go_simp
       with_reducible rfl
      rotate_left
      ·simp only [Act.put, List.setIfInBounds_toArray, List.set_cons_zero, List.set_cons_succ, i64_w, i32_w]
       rfl
      refine last_ (i:=11) (N:=none) #[true,true,true,true,true,true,true,true,true,true,true,true] rfl rfl (by kernel_rfl) (by decide) (fun K_ hK => ?_)
      refine skip_ (w1 := (ws0.setCell ⟨bq1, p, none⟩ (.int .i64 x)).drew) (by rfl) rfl ?_ ?_
      ·go_simp
       try rfl
      refine hK.out _ _ ?_
      clear hK K_
      refine done_ (by kernel_rfl) ?_
      obtain ⟨ws1, hws⟩ : ∃ ws, ws = (ws0.setCell ⟨bq1, p, none⟩ (.int .i64 x)).drew := ⟨_, rfl⟩
      rw [← hws] at HS2 HBK2
      rw [← hws]
      clear hws q0 q1 q2 qf qb hw
      have HE := Aside0.mk (show sgs l (MI0 right n) (i + 1) = (stp s.f3 (p : Int) (p : Int) M) by
       show stN _ _ _ _ 4 = _
       rw [← stS_eq, ← HM.out, ← HSS.out, h0, h1]
       unfold stS
       rw [show (0 : Int) - 1 = -1 by rfl, show (p : Int) + 1 - 1 = (p : Int) by omega, stp_neg (p := -1) (q := (p : Int)) (.inl (by decide)), stp_neg (p := (p : Int)) (q := -1) (.inr (by decide)), stp_neg (p := -1) (q := -1) (.inl (by decide))])
      go_wp2_with (fail)
      go_roundw
      case rel => exact ⟨i + 1, by go_num, by omega, ⟨by rw [HE.out]; exact HS2.out⟩⟩
      case measure => simp [intOf]; omega
     ·skip
      have i_p : (0 ≤ (p : Int)) = True := eq_true (by omega)
      have j_p : ((p : Int) < (n : Int)) = True := eq_true (by omega)
      have k_p : ((p : Int) < (m : Int)) = True := eq_true (by omega)
      have l_p : p < m := by omega
      have m_p : p < n := by omega
      have i_q : (0 ≤ (q : Int)) = True := eq_true (by omega)
      have j_q : ((q : Int) < (n : Int)) = True := eq_true (by omega)
      have k_q : ((q : Int) < (m : Int)) = True := eq_true (by omega)
      have l_q : q < m := by omega
      have m_q : q < n := by omega
      clear hmn
      rw [h0] at x0
      rw [h1] at x1
      have HNA := Aside0.mk (heap_alloc_new wr (.cells #[.int .i64 ((p : Int) + 1), .int .i64 ((q : Int) + 1), .int .i64 s.f2, .int .i64 s.f3] 32))
      have HBA := Aside0.mk (below_alloc (Below.refl wr.heap.size wr) (.cells #[.int .i64 ((p : Int) + 1), .int .i64 ((q : Int) + 1), .int .i64 s.f2, .int .i64 s.f3] 32))
      go_wp2_with (fail)
      have HS1 := Aside0.mk (HS.out.call HBA.out)
      obtain ⟨b10, hb10⟩ : ∃ b, b = wr.heap.size := ⟨_, rfl⟩
      obtain ⟨ws0, hws⟩ : ∃ ws, ws = wr.alloc (.cells #[.int .i64 ((p : Int) + 1), .int .i64 ((q : Int) + 1), .int .i64 s.f2, .int .i64 s.f3] 32) := ⟨_, rfl⟩
      have HBK1 := Aside0.mk (show ws0.heap[b10]? = some (.cells #[.int .i64 ((p : Int) + 1), .int .i64 ((q : Int) + 1), .int .i64 s.f2, .int .i64 s.f3] 32 (0, 0)) by rw [hb10, hws]; exact HNA.out)
      rw [← hws] at HS1
      rw [← hws, ← hb10]
      clear hws hb10 HNA HBA HS x0 x1 x2 x3 c1
      obtain ⟨bq1, cq1, hv1, q0, q1, qf, qb⟩ := HS1.out.at_ (r := p) (k := p) (by omega) (by omega)
      obtain ⟨d, hd⟩ : ∃ d, d = M p p := ⟨_, rfl⟩
      have hdb := HD1.out p p
      rw [← hd] at q1 hdb
      obtain ⟨x, hx⟩ : ∃ x, x = d + s.f3 := ⟨_, rfl⟩
      have hw : wrap64 (d + s.f3) = x := by rw [hx]; unfold wrap64; omega
      have q2 : ws0.cell? ⟨b10, 3, none⟩ = some (.int .i64 s.f3) := (blk_cell HBK1.out 3).trans rfl
      have hst := HS1.out.step (x := x) hv1 (show p < n by omega) (show p < m by omega)
      have HD2 := Aside0.mk (fun r' k' => stp_size (w := s.f3) (p := (p : Int)) (q := (p : Int)) (by omega) (by omega) HD1.out r' k')
      have HS2 := Aside0.mk (show StI w ((ws0.setCell ⟨bq1, p, none⟩ (.int .i64 x)).drew) g cap vs n m (stp s.f3 (p : Int) (p : Int) M) by rw [stpI_same (by omega), ← hd, ← hx]; exact hst.1)
      have HBK2 := Aside0.mk (hst.2 _ _ _ (by decide) HBK1.out)
      clear hst hdb hd hx
      go_wp2_with (fail)
      refine start_ (n:=12) (S := fun w' => w'.cell? ⟨g, p, none⟩ = some (.slice (some ⟨bq1, 0, none⟩) m cq1) ∧ w'.cell? ⟨bq1, p, none⟩ = some (.int .i64 d) ∧ w'.cell? ⟨b10, 3, none⟩ = some (.int .i64 s.f3)) (ds:=[11]) #[false,false,false,false,false,false,false,false,false,false,false,false] (by kernel_rfl) rfl rfl ⟨q0, q1, q2⟩ (fun hHeld => ?_)
      refine pure_ (i:=0) (N:=some 68) (v:=?_) (a':=?_) #[true,false,false,false,false,false,false,false,false,false,false,false] rfl rfl (by kernel_rfl) (fun _ _ _ h => h) (Or.inl ⟨by rfl, ?_⟩) ?_ ?_
      rotate_left
      ·intro w'
       go_simp
       with_reducible rfl
      rotate_left
      ·simp only [Act.put, List.setIfInBounds_toArray, List.set_cons_zero, List.set_cons_succ, i64_w, i32_w]
       rfl
      refine pure_ (i:=1) (N:=some 69) (v:=?_) (a':=?_) #[true,true,false,false,false,false,false,false,false,false,false,false] rfl rfl (by kernel_rfl) (fun _ _ _ h => h) (Or.inl ⟨by rfl, ?_⟩) ?_ ?_
      rotate_left
      ·intro w'
       go_simp
       with_reducible rfl
      rotate_left
      ·simp only [Act.put, List.setIfInBounds_toArray, List.set_cons_zero, List.set_cons_succ, i64_w, i32_w]
       rfl
      refine pure_ (i:=2) (N:=some 70) (v:=?_) (a':=?_) #[true,true,true,false,false,false,false,false,false,false,false,false] rfl rfl (by kernel_rfl) (fun _ _ _ h => h) (Or.inl ⟨by rfl, ?_⟩) ?_ ?_
      rotate_left
      ·intro w'
       go_simp
       with_reducible rfl
      rotate_left
      ·simp only [Act.put, List.setIfInBounds_toArray, List.set_cons_zero, List.set_cons_succ, i64_w, i32_w]
       rfl
      refine pure_ (i:=4) (N:=some 72) (v:=?_) (a':=?_) #[true,true,true,false,true,false,false,false,false,false,false,false] rfl rfl (by kernel_rfl) (fun _ _ _ h => h) (Or.inl ⟨by rfl, ?_⟩) ?_ ?_
      rotate_left
      ·intro w'
       go_simp
       with_reducible rfl
      rotate_left
      ·simp only [Act.put, List.setIfInBounds_toArray, List.set_cons_zero, List.set_cons_succ, i64_w, i32_w]
       rfl
      refine pure_ (i:=7) (N:=some 75) (v:=?_) (a':=?_) #[true,true,true,false,true,false,false,true,false,false,false,false] rfl rfl (by kernel_rfl) (fun _ _ _ h => h) (Or.inl ⟨by rfl, ?_⟩) ?_ ?_
      rotate_left
      ·intro w'
       go_simp
       with_reducible rfl
      rotate_left
      ·simp only [Act.put, List.setIfInBounds_toArray, List.set_cons_zero, List.set_cons_succ, i64_w, i32_w]
       rfl
      refine take_ (i:=3) (N:=some 71) (v:=?_) (a':=?_) #[true,true,true,true,true,false,false,true,false,false,false,false] rfl rfl (by kernel_rfl) (fun _ _ _ h => h) (Or.inl ⟨by rfl, ?_⟩) hHeld ?_ ?_
      rotate_left
      ·rintro w' ⟨s0, s1, s2⟩
       go_simp
       with_reducible rfl
      rotate_left
      ·simp only [Act.put, List.setIfInBounds_toArray, List.set_cons_zero, List.set_cons_succ, i64_w, i32_w]
       rfl
      refine pure_ (i:=5) (N:=some 73) (v:=?_) (a':=?_) #[true,true,true,true,true,true,false,true,false,false,false,false] rfl rfl (by kernel_rfl) (fun _ _ _ h => h) (Or.inl ⟨by rfl, ?_⟩) ?_ ?_
      rotate_left
      ·intro w'
       go_simp
       with_reducible rfl
      rotate_left
      ·simp only [Act.put, List.setIfInBounds_toArray, List.set_cons_zero, List.set_cons_succ, i64_w, i32_w]
       rfl
      refine take_ (i:=6) (N:=some 74) (v:=?_) (a':=?_) #[true,true,true,true,true,true,true,true,false,false,false,false] rfl rfl (by kernel_rfl) (fun _ _ _ h => h) (Or.inl ⟨by rfl, ?_⟩) hHeld ?_ ?_
      rotate_left
      ·rintro w' ⟨s0, s1, s2⟩
       go_simp
       with_reducible rfl
      rotate_left
      ·simp only [Act.put, List.setIfInBounds_toArray, List.set_cons_zero, List.set_cons_succ, i64_w, i32_w]
       rfl
      refine take_ (i:=8) (N:=some 76) (v:=?_) (a':=?_) #[true,true,true,true,true,true,true,true,true,false,false,false] rfl rfl (by kernel_rfl) (fun _ _ _ h => h) (Or.inl ⟨by rfl, ?_⟩) hHeld ?_ ?_
      rotate_left
      ·rintro w' ⟨s0, s1, s2⟩
       go_simp
       with_reducible rfl
      rotate_left
      ·simp only [Act.put, List.setIfInBounds_toArray, List.set_cons_zero, List.set_cons_succ, i64_w, i32_w]
       rfl
      refine pure_ (i:=9) (N:=some 77) (v:=?_) (a':=?_) #[true,true,true,true,true,true,true,true,true,true,false,false] rfl rfl (by kernel_rfl) (fun _ _ _ h => h) (Or.inl ⟨by rfl, ?_⟩) ?_ ?_
      rotate_left
      ·intro w'
       go_simp
       with_reducible rfl
      rotate_left
      ·simp only [Act.put, List.setIfInBounds_toArray, List.set_cons_zero, List.set_cons_succ, i64_w, i32_w]
       rfl
      refine pure_ (i:=10) (N:=some 78) (v:=?_) (a':=?_) #[true,true,true,true,true,true,true,true,true,true,true,false] rfl rfl (by kernel_rfl) (fun _ _ _ h => h) (Or.inl ⟨by rfl, ?_⟩) ?_ ?_
      rotate_left
      ·intro w'
       go_simp
       with_reducible rfl
      rotate_left
      ·simp only [Act.put, List.setIfInBounds_toArray, List.set_cons_zero, List.set_cons_succ, i64_w, i32_w]
       rfl
      refine last_ (i:=11) (N:=none) #[true,true,true,true,true,true,true,true,true,true,true,true] rfl rfl (by kernel_rfl) (by decide) (fun K_ hK => ?_)
      refine skip_ (w1 := (ws0.setCell ⟨bq1, p, none⟩ (.int .i64 x)).drew) (by rfl) rfl ?_ ?_
      ·go_simp
       try rfl
      refine hK.out _ _ ?_
      clear hK K_
      refine done_ (by kernel_rfl) ?_
      obtain ⟨ws1, hws⟩ : ∃ ws, ws = (ws0.setCell ⟨bq1, p, none⟩ (.int .i64 x)).drew := ⟨_, rfl⟩
      rw [← hws] at HS2 HBK2
      rw [← hws]
      clear hws q0 q1 q2 qf qb hw
      obtain ⟨bq2, cq2, hv2, q0, q1, qf, qb⟩ := HS2.out.at_ (r := q) (k := q) (by omega) (by omega)
      obtain ⟨d, hd⟩ : ∃ d, d = (stp s.f3 (p : Int) (p : Int) M) q q := ⟨_, rfl⟩
      have hdb := HD2.out q q
      rw [← hd] at q1 hdb
      obtain ⟨x, hx⟩ : ∃ x, x = d + s.f3 := ⟨_, rfl⟩
      have hw : wrap64 (d + s.f3) = x := by rw [hx]; unfold wrap64; omega
      have q2 : ws1.cell? ⟨b10, 3, none⟩ = some (.int .i64 s.f3) := (blk_cell HBK2.out 3).trans rfl
      have hst := HS2.out.step (x := x) hv2 (show q < n by omega) (show q < m by omega)
      have HD3 := Aside0.mk (fun r' k' => stp_size (w := s.f3) (p := (q : Int)) (q := (q : Int)) (by omega) (by omega) HD2.out r' k')
      have HS3 := Aside0.mk (show StI w ((ws1.setCell ⟨bq2, q, none⟩ (.int .i64 x)).drew) g cap vs n m (stp s.f3 (q : Int) (q : Int) (stp s.f3 (p : Int) (p : Int) M)) by rw [stpI_same (by omega), ← hd, ← hx]; exact hst.1)
      have HBK3 := Aside0.mk (hst.2 _ _ _ (by decide) HBK2.out)
      clear hst hdb hd hx
      go_wp2_with (fail)
      refine start_ (n:=12) (S := fun w' => w'.cell? ⟨g, q, none⟩ = some (.slice (some ⟨bq2, 0, none⟩) m cq2) ∧ w'.cell? ⟨bq2, q, none⟩ = some (.int .i64 d) ∧ w'.cell? ⟨b10, 3, none⟩ = some (.int .i64 s.f3)) (ds:=[11]) #[false,false,false,false,false,false,false,false,false,false,false,false] (by kernel_rfl) rfl rfl ⟨q0, q1, q2⟩ (fun hHeld => ?_)
      refine pure_ (i:=0) (N:=some 81) (v:=?_) (a':=?_) #[true,false,false,false,false,false,false,false,false,false,false,false] rfl rfl (by kernel_rfl) (fun _ _ _ h => h) (Or.inl ⟨by rfl, ?_⟩) ?_ ?_
      rotate_left
      ·intro w'
       go_simp
       with_reducible rfl
      rotate_left
      ·simp only [Act.put, List.setIfInBounds_toArray, List.set_cons_zero, List.set_cons_succ, i64_w, i32_w]
       rfl
      refine pure_ (i:=1) (N:=some 82) (v:=?_) (a':=?_) #[true,true,false,false,false,false,false,false,false,false,false,false] rfl rfl (by kernel_rfl) (fun _ _ _ h => h) (Or.inl ⟨by rfl, ?_⟩) ?_ ?_
      rotate_left
      ·intro w'
       go_simp
       with_reducible rfl
      rotate_left
      ·simp only [Act.put, List.setIfInBounds_toArray, List.set_cons_zero, List.set_cons_succ, i64_w, i32_w]
       rfl
      refine pure_ (i:=2) (N:=some 83) (v:=?_) (a':=?_) #[true,true,true,false,false,false,false,false,false,false,false,false] rfl rfl (by kernel_rfl) (fun _ _ _ h => h) (Or.inl ⟨by rfl, ?_⟩) ?_ ?_
      rotate_left
      ·intro w'
       go_simp
       with_reducible rfl
      rotate_left
      ·simp only [Act.put, List.setIfInBounds_toArray, List.set_cons_zero, List.set_cons_succ, i64_w, i32_w]
       rfl
      refine pure_ (i:=4) (N:=some 85) (v:=?_) (a':=?_) #[true,true,true,false,true,false,false,false,false,false,false,false] rfl rfl (by kernel_rfl) (fun _ _ _ h => h) (Or.inl ⟨by rfl, ?_⟩) ?_ ?_
      rotate_left
      ·intro w'
       go_simp
       with_reducible rfl
      rotate_left
      ·simp only [Act.put, List.setIfInBounds_toArray, List.set_cons_zero, List.set_cons_succ, i64_w, i32_w]
       rfl
      refine pure_ (i:=7) (N:=some 88) (v:=?_) (a':=?_) #[true,true,true,false,true,false,false,true,false,false,false,false] rfl rfl (by kernel_rfl) (fun _ _ _ h => h) (Or.inl ⟨by rfl, ?_⟩) ?_ ?_
      rotate_left
      ·intro w'
       go_simp
       with_reducible rfl
      rotate_left
      ·simp only [Act.put, List.setIfInBounds_toArray, List.set_cons_zero, List.set_cons_succ, i64_w, i32_w]
       rfl
      refine take_ (i:=3) (N:=some 84) (v:=?_) (a':=?_) #[true,true,true,true,true,false,false,true,false,false,false,false] rfl rfl (by kernel_rfl) (fun _ _ _ h => h) (Or.inl ⟨by rfl, ?_⟩) hHeld ?_ ?_
      rotate_left
      ·rintro w' ⟨s0, s1, s2⟩
       go_simp
       with_reducible rfl
      rotate_left
      ·simp only [Act.put, List.setIfInBounds_toArray, List.set_cons_zero, List.set_cons_succ, i64_w, i32_w]
       rfl
      refine pure_ (i:=5) (N:=some 86) (v:=?_) (a':=?_) #[true,true,true,true,true,true,false,true,false,false,false,false] rfl rfl (by kernel_rfl) (fun _ _ _ h => h) (Or.inl ⟨by rfl, ?_⟩) ?_ ?_
      rotate_left
      ·intro w'
       go_simp
       with_reducible rfl
      rotate_left
      ·simp only [Act.put, List.setIfInBounds_toArray, List.set_cons_zero, List.set_cons_succ, i64_w, i32_w]
       rfl
      refine take_ (i:=6) (N:=some 87) (v:=?_) (a':=?_) #[true,true,true,true,true,true,true,true,false,false,false,false] rfl rfl (by kernel_rfl) (fun _ _ _ h => h) (Or.inl ⟨by rfl, ?_⟩) hHeld ?_ ?_
      rotate_left
      ·rintro w' ⟨s0, s1, s2⟩
       go_simp
       with_reducible rfl
      rotate_left
      ·simp only [Act.put, List.setIfInBounds_toArray, List.set_cons_zero, List.set_cons_succ, i64_w, i32_w]
       rfl
      refine take_ (i:=8) (N:=some 89) (v:=?_) (a':=?_) #[true,true,true,true,true,true,true,true,true,false,false,false] rfl rfl (by kernel_rfl) (fun _ _ _ h => h) (Or.inl ⟨by rfl, ?_⟩) hHeld ?_ ?_
      rotate_left
      ·rintro w' ⟨s0, s1, s2⟩
       go_simp
       with_reducible rfl
      rotate_left
      ·simp only [Act.put, List.setIfInBounds_toArray, List.set_cons_zero, List.set_cons_succ, i64_w, i32_w]
       rfl
      refine pure_ (i:=9) (N:=some 90) (v:=?_) (a':=?_) #[true,true,true,true,true,true,true,true,true,true,false,false] rfl rfl (by kernel_rfl) (fun _ _ _ h => h) (Or.inl ⟨by rfl, ?_⟩) ?_ ?_
      rotate_left
      ·intro w'
       go_simp
       with_reducible rfl
      rotate_left
      ·simp only [Act.put, List.setIfInBounds_toArray, List.set_cons_zero, List.set_cons_succ, i64_w, i32_w]
       rfl
      refine pure_ (i:=10) (N:=some 91) (v:=?_) (a':=?_) #[true,true,true,true,true,true,true,true,true,true,true,false] rfl rfl (by kernel_rfl) (fun _ _ _ h => h) (Or.inl ⟨by rfl, ?_⟩) ?_ ?_
      rotate_left
      ·intro w'
       go_simp
       with_reducible rfl
      rotate_left
      ·simp only [Act.put, List.setIfInBounds_toArray, List.set_cons_zero, List.set_cons_succ, i64_w, i32_w]
       rfl
      refine last_ (i:=11) (N:=none) #[true,true,true,true,true,true,true,true,true,true,true,true] rfl rfl (by kernel_rfl) (by decide) (fun K_ hK => ?_)
      refine skip_ (w1 := (ws1.setCell ⟨bq2, q, none⟩ (.int .i64 x)).drew) (by rfl) rfl ?_ ?_
      ·go_simp
       try rfl
      refine hK.out _ _ ?_
      clear hK K_
      refine done_ (by kernel_rfl) ?_
      obtain ⟨ws2, hws⟩ : ∃ ws, ws = (ws1.setCell ⟨bq2, q, none⟩ (.int .i64 x)).drew := ⟨_, rfl⟩
      rw [← hws] at HS3 HBK3
      rw [← hws]
      clear hws q0 q1 q2 qf qb hw
      obtain ⟨bq3, cq3, hv3, q0, q1, qf, qb⟩ := HS3.out.at_ (r := p) (k := q) (by omega) (by omega)
      obtain ⟨d, hd⟩ : ∃ d, d = (stp s.f3 (q : Int) (q : Int) (stp s.f3 (p : Int) (p : Int) M)) p q := ⟨_, rfl⟩
      have hdb := HD3.out p q
      rw [← hd] at q1 hdb
      obtain ⟨x, hx⟩ : ∃ x, x = d - s.f3 := ⟨_, rfl⟩
      have hw : wrap64 (d - s.f3) = x := by rw [hx]; unfold wrap64; omega
      have q2 : ws2.cell? ⟨b10, 3, none⟩ = some (.int .i64 s.f3) := (blk_cell HBK3.out 3).trans rfl
      have hst := HS3.out.step (x := x) hv3 (show p < n by omega) (show q < m by omega)
      have HD4 := Aside0.mk (fun r' k' => stp_size (w := s.f3) (p := (p : Int)) (q := (q : Int)) (by omega) (by omega) HD3.out r' k')
      have HS4 := Aside0.mk (show StI w ((ws2.setCell ⟨bq3, q, none⟩ (.int .i64 x)).drew) g cap vs n m (stp s.f3 (p : Int) (q : Int) (stp s.f3 (q : Int) (q : Int) (stp s.f3 (p : Int) (p : Int) M))) by rw [stpI_other (by omega), ← hd, ← hx]; exact hst.1)
      have HBK4 := Aside0.mk (hst.2 _ _ _ (by decide) HBK3.out)
      clear hst hdb hd hx
      go_wp2_with (fail)
      refine start_ (n:=12) (S := fun w' => w'.cell? ⟨g, p, none⟩ = some (.slice (some ⟨bq3, 0, none⟩) m cq3) ∧ w'.cell? ⟨bq3, q, none⟩ = some (.int .i64 d) ∧ w'.cell? ⟨b10, 3, none⟩ = some (.int .i64 s.f3)) (ds:=[11]) #[false,false,false,false,false,false,false,false,false,false,false,false] (by kernel_rfl) rfl rfl ⟨q0, q1, q2⟩ (fun hHeld => ?_)
      refine pure_ (i:=0) (N:=some 98) (v:=?_) (a':=?_) #[true,false,false,false,false,false,false,false,false,false,false,false] rfl rfl (by kernel_rfl) (fun _ _ _ h => h) (Or.inl ⟨by rfl, ?_⟩) ?_ ?_
      rotate_left
      ·intro w'
       go_simp
       with_reducible rfl
      rotate_left
      ·simp only [Act.put, List.setIfInBounds_toArray, List.set_cons_zero, List.set_cons_succ, i64_w, i32_w]
       rfl
      refine pure_ (i:=1) (N:=some 99) (v:=?_) (a':=?_) #[true,true,false,false,false,false,false,false,false,false,false,false] rfl rfl (by kernel_rfl) (fun _ _ _ h => h) (Or.inl ⟨by rfl, ?_⟩) ?_ ?_
      rotate_left
      ·intro w'
       go_simp
       with_reducible rfl
      rotate_left
      ·simp only [Act.put, List.setIfInBounds_toArray, List.set_cons_zero, List.set_cons_succ, i64_w, i32_w]
       rfl
      refine pure_ (i:=2) (N:=some 100) (v:=?_) (a':=?_) #[true,true,true,false,false,false,false,false,false,false,false,false] rfl rfl (by kernel_rfl) (fun _ _ _ h => h) (Or.inl ⟨by rfl, ?_⟩) ?_ ?_
      rotate_left
      ·intro w'
       go_simp
       with_reducible rfl
      rotate_left
      ·simp only [Act.put, List.setIfInBounds_toArray, List.set_cons_zero, List.set_cons_succ, i64_w, i32_w]
       rfl
      refine pure_ (i:=4) (N:=some 102) (v:=?_) (a':=?_) #[true,true,true,false,true,false,false,false,false,false,false,false] rfl rfl (by kernel_rfl) (fun _ _ _ h => h) (Or.inl ⟨by rfl, ?_⟩) ?_ ?_
      rotate_left
      ·intro w'
       go_simp
       with_reducible rfl
      rotate_left
      ·simp only [Act.put, List.setIfInBounds_toArray, List.set_cons_zero, List.set_cons_succ, i64_w, i32_w]
       rfl
      refine pure_ (i:=7) (N:=some 105) (v:=?_) (a':=?_) #[true,true,true,false,true,false,false,true,false,false,false,false] rfl rfl (by kernel_rfl) (fun _ _ _ h => h) (Or.inl ⟨by rfl, ?_⟩) ?_ ?_
      rotate_left
      ·intro w'
       go_simp
       with_reducible rfl
      rotate_left
      ·simp only [Act.put, List.setIfInBounds_toArray, List.set_cons_zero, List.set_cons_succ, i64_w, i32_w]
       rfl
      refine take_ (i:=3) (N:=some 101) (v:=?_) (a':=?_) #[true,true,true,true,true,false,false,true,false,false,false,false] rfl rfl (by kernel_rfl) (fun _ _ _ h => h) (Or.inl ⟨by rfl, ?_⟩) hHeld ?_ ?_
      rotate_left
      ·rintro w' ⟨s0, s1, s2⟩
       go_simp
       with_reducible rfl
      rotate_left
      ·simp only [Act.put, List.setIfInBounds_toArray, List.set_cons_zero, List.set_cons_succ, i64_w, i32_w]
       rfl
      refine pure_ (i:=5) (N:=some 103) (v:=?_) (a':=?_) #[true,true,true,true,true,true,false,true,false,false,false,false] rfl rfl (by kernel_rfl) (fun _ _ _ h => h) (Or.inl ⟨by rfl, ?_⟩) ?_ ?_
      rotate_left
      ·intro w'
       go_simp
       with_reducible rfl
      rotate_left
      ·simp only [Act.put, List.setIfInBounds_toArray, List.set_cons_zero, List.set_cons_succ, i64_w, i32_w]
       rfl
      refine take_ (i:=6) (N:=some 104) (v:=?_) (a':=?_) #[true,true,true,true,true,true,true,true,false,false,false,false] rfl rfl (by kernel_rfl) (fun _ _ _ h => h) (Or.inl ⟨by rfl, ?_⟩) hHeld ?_ ?_
      rotate_left
      ·rintro w' ⟨s0, s1, s2⟩
       go_simp
       with_reducible rfl
      rotate_left
      ·simp only [Act.put, List.setIfInBounds_toArray, List.set_cons_zero, List.set_cons_succ, i64_w, i32_w]
       rfl
      refine take_ (i:=8) (N:=some 106) (v:=?_) (a':=?_) #[true,true,true,true,true,true,true,true,true,false,false,false] rfl rfl (by kernel_rfl) (fun _ _ _ h => h) (Or.inl ⟨by rfl, ?_⟩) hHeld ?_ ?_
      rotate_left
      ·rintro w' ⟨s0, s1, s2⟩
       go_simp
       with_reducible rfl
      rotate_left
      ·simp only [Act.put, List.setIfInBounds_toArray, List.set_cons_zero, List.set_cons_succ, i64_w, i32_w]
       rfl
      refine pure_ (i:=9) (N:=some 107) (v:=?_) (a':=?_) #[true,true,true,true,true,true,true,true,true,true,false,false] rfl rfl (by kernel_rfl) (fun _ _ _ h => h) (Or.inl ⟨by rfl, ?_⟩) ?_ ?_
      rotate_left
      ·intro w'
       go_simp
       with_reducible rfl
      rotate_left
      ·simp only [Act.put, List.setIfInBounds_toArray, List.set_cons_zero, List.set_cons_succ, i64_w, i32_w]
       rfl
      refine pure_ (i:=10) (N:=some 108) (v:=?_) (a':=?_) #[true,true,true,true,true,true,true,true,true,true,true,false] rfl rfl (by kernel_rfl) (fun _ _ _ h => h) (Or.inl ⟨by rfl, ?_⟩) ?_ ?_
      rotate_left
      ·intro w'
       go_simp
       with_reducible rfl
      rotate_left
      ·simp only [Act.put, List.setIfInBounds_toArray, List.set_cons_zero, List.set_cons_succ, i64_w, i32_w]
       rfl
      refine last_ (i:=11) (N:=none) #[true,true,true,true,true,true,true,true,true,true,true,true] rfl rfl (by kernel_rfl) (by decide) (fun K_ hK => ?_)
      refine skip_ (w1 := (ws2.setCell ⟨bq3, q, none⟩ (.int .i64 x)).drew) (by rfl) rfl ?_ ?_
      ·go_simp
       try rfl
      refine hK.out _ _ ?_
      clear hK K_
      refine done_ (by kernel_rfl) ?_
      obtain ⟨ws3, hws⟩ : ∃ ws, ws = (ws2.setCell ⟨bq3, q, none⟩ (.int .i64 x)).drew := ⟨_, rfl⟩
      rw [← hws] at HS4 HBK4
      rw [← hws]
      clear hws q0 q1 q2 qf qb hw
      obtain ⟨bq4, cq4, hv4, q0, q1, qf, qb⟩ := HS4.out.at_ (r := q) (k := p) (by omega) (by omega)
      obtain ⟨d, hd⟩ : ∃ d, d = (stp s.f3 (p : Int) (q : Int) (stp s.f3 (q : Int) (q : Int) (stp s.f3 (p : Int) (p : Int) M))) q p := ⟨_, rfl⟩
      have hdb := HD4.out q p
      rw [← hd] at q1 hdb
      obtain ⟨x, hx⟩ : ∃ x, x = d - s.f3 := ⟨_, rfl⟩
      have hw : wrap64 (d - s.f3) = x := by rw [hx]; unfold wrap64; omega
      have q2 : ws3.cell? ⟨b10, 3, none⟩ = some (.int .i64 s.f3) := (blk_cell HBK4.out 3).trans rfl
      have hst := HS4.out.step (x := x) hv4 (show q < n by omega) (show p < m by omega)
      have HD5 := Aside0.mk (fun r' k' => stp_size (w := s.f3) (p := (q : Int)) (q := (p : Int)) (by omega) (by omega) HD4.out r' k')
      have HS5 := Aside0.mk (show StI w ((ws3.setCell ⟨bq4, p, none⟩ (.int .i64 x)).drew) g cap vs n m (stp s.f3 (q : Int) (p : Int) (stp s.f3 (p : Int) (q : Int) (stp s.f3 (q : Int) (q : Int) (stp s.f3 (p : Int) (p : Int) M)))) by rw [stpI_other (by omega), ← hd, ← hx]; exact hst.1)
      have HBK5 := Aside0.mk (hst.2 _ _ _ (by decide) HBK4.out)
      clear hst hdb hd hx
      go_wp2_with (fail)
      refine start_ (n:=12) (S := fun w' => w'.cell? ⟨g, q, none⟩ = some (.slice (some ⟨bq4, 0, none⟩) m cq4) ∧ w'.cell? ⟨bq4, p, none⟩ = some (.int .i64 d) ∧ w'.cell? ⟨b10, 3, none⟩ = some (.int .i64 s.f3)) (ds:=[11]) #[false,false,false,false,false,false,false,false,false,false,false,false] (by kernel_rfl) rfl rfl ⟨q0, q1, q2⟩ (fun hHeld => ?_)
      refine pure_ (i:=0) (N:=some 109) (v:=?_) (a':=?_) #[true,false,false,false,false,false,false,false,false,false,false,false] rfl rfl (by kernel_rfl) (fun _ _ _ h => h) (Or.inl ⟨by rfl, ?_⟩) ?_ ?_
      rotate_left
      ·intro w'
       go_simp
       with_reducible rfl
      rotate_left
      ·simp only [Act.put, List.setIfInBounds_toArray, List.set_cons_zero, List.set_cons_succ, i64_w, i32_w]
       rfl
      refine pure_ (i:=1) (N:=some 110) (v:=?_) (a':=?_) #[true,true,false,false,false,false,false,false,false,false,false,false] rfl rfl (by kernel_rfl) (fun _ _ _ h => h) (Or.inl ⟨by rfl, ?_⟩) ?_ ?_
      rotate_left
      ·intro w'
       go_simp
       with_reducible rfl
      rotate_left
      ·simp only [Act.put, List.setIfInBounds_toArray, List.set_cons_zero, List.set_cons_succ, i64_w, i32_w]
       rfl
      refine pure_ (i:=2) (N:=some 111) (v:=?_) (a':=?_) #[true,true,true,false,false,false,false,false,false,false,false,false] rfl rfl (by kernel_rfl) (fun _ _ _ h => h) (Or.inl ⟨by rfl, ?_⟩) ?_ ?_
      rotate_left
      ·intro w'
       go_simp
       with_reducible rfl
      rotate_left
      ·simp only [Act.put, List.setIfInBounds_toArray, List.set_cons_zero, List.set_cons_succ, i64_w, i32_w]
       rfl
      refine pure_ (i:=4) (N:=some 113) (v:=?_) (a':=?_) #[true,true,true,false,true,false,false,false,false,false,false,false] rfl rfl (by kernel_rfl) (fun _ _ _ h => h) (Or.inl ⟨by rfl, ?_⟩) ?_ ?_
      rotate_left
      ·intro w'
       go_simp
       with_reducible rfl
      rotate_left
      ·simp only [Act.put, List.setIfInBounds_toArray, List.set_cons_zero, List.set_cons_succ, i64_w, i32_w]
       rfl
      refine pure_ (i:=7) (N:=some 116) (v:=?_) (a':=?_) #[true,true,true,false,true,false,false,true,false,false,false,false] rfl rfl (by kernel_rfl) (fun _ _ _ h => h) (Or.inl ⟨by rfl, ?_⟩) ?_ ?_
      rotate_left
      ·intro w'
       go_simp
       with_reducible rfl
      rotate_left
      ·simp only [Act.put, List.setIfInBounds_toArray, List.set_cons_zero, List.set_cons_succ, i64_w, i32_w]
       rfl
      refine take_ (i:=3) (N:=some 112) (v:=?_) (a':=?_) #[true,true,true,true,true,false,false,true,false,false,false,false] rfl rfl (by kernel_rfl) (fun _ _ _ h => h) (Or.inl ⟨by rfl, ?_⟩) hHeld ?_ ?_
      rotate_left
      ·rintro w' ⟨s0, s1, s2⟩
       go_simp
       with_reducible rfl
      rotate_left
      ·simp only [Act.put, List.setIfInBounds_toArray, List.set_cons_zero, List.set_cons_succ, i64_w, i32_w]
       rfl
      refine pure_ (i:=5) (N:=some 114) (v:=?_) (a':=?_) #[true,true,true,true,true,true,false,true,false,false,false,false] rfl rfl (by kernel_rfl) (fun _ _ _ h => h) (Or.inl ⟨by rfl, ?_⟩) ?_ ?_
      rotate_left
      ·intro w'
       go_simp
       with_reducible rfl
      rotate_left
      ·simp only [Act.put, List.setIfInBounds_toArray, List.set_cons_zero, List.set_cons_succ, i64_w, i32_w]
       rfl
      refine take_ (i:=6) (N:=some 115) (v:=?_) (a':=?_) #[true,true,true,true,true,true,true,true,false,false,false,false] rfl rfl (by kernel_rfl) (fun _ _ _ h => h) (Or.inl ⟨by rfl, ?_⟩) hHeld ?_ ?_
      rotate_left
      ·rintro w' ⟨s0, s1, s2⟩
       go_simp
       with_reducible rfl
      rotate_left
      ·simp only [Act.put, List.setIfInBounds_toArray, List.set_cons_zero, List.set_cons_succ, i64_w, i32_w]
       rfl
      refine take_ (i:=8) (N:=some 117) (v:=?_) (a':=?_) #[true,true,true,true,true,true,true,true,true,false,false,false] rfl rfl (by kernel_rfl) (fun _ _ _ h => h) (Or.inl ⟨by rfl, ?_⟩) hHeld ?_ ?_
      rotate_left
      ·rintro w' ⟨s0, s1, s2⟩
       go_simp
       with_reducible rfl
      rotate_left
      ·simp only [Act.put, List.setIfInBounds_toArray, List.set_cons_zero, List.set_cons_succ, i64_w, i32_w]
       rfl
      refine pure_ (i:=9) (N:=some 118) (v:=?_) (a':=?_) #[true,true,true,true,true,true,true,true,true,true,false,false] rfl rfl (by kernel_rfl) (fun _ _ _ h => h) (Or.inl ⟨by rfl, ?_⟩) ?_ ?_
      rotate_left
      ·intro w'
       go_simp
       with_reducible rfl
      rotate_left
      ·simp only [Act.put, List.setIfInBounds_toArray, List.set_cons_zero, List.set_cons_succ, i64_w, i32_w]
       rfl
      refine pure_ (i:=10) (N:=some 119) (v:=?_) (a':=?_) #[true,true,true,true,true,true,true,true,true,true,true,false] rfl rfl (by kernel_rfl) (fun _ _ _ h => h) (Or.inl ⟨by rfl, ?_⟩) ?_ ?_
      rotate_left
      ·intro w'
       go_simp
       with_reducible rfl
      rotate_left
      ·simp only [Act.put, List.setIfInBounds_toArray, List.set_cons_zero, List.set_cons_succ, i64_w, i32_w]
       rfl
      refine last_ (i:=11) (N:=none) #[true,true,true,true,true,true,true,true,true,true,true,true] rfl rfl (by kernel_rfl) (by decide) (fun K_ hK => ?_)
      refine skip_ (w1 := (ws3.setCell ⟨bq4, p, none⟩ (.int .i64 x)).drew) (by rfl) rfl ?_ ?_
      ·go_simp
       try rfl
      refine hK.out _ _ ?_
      clear hK K_
      refine done_ (by kernel_rfl) ?_
      obtain ⟨ws4, hws⟩ : ∃ ws, ws = (ws3.setCell ⟨bq4, p, none⟩ (.int .i64 x)).drew := ⟨_, rfl⟩
      rw [← hws] at HS5 HBK5
      rw [← hws]
      clear hws q0 q1 q2 qf qb hw
      have HE := Aside0.mk (show sgs l (MI0 right n) (i + 1) = (stp s.f3 (q : Int) (p : Int) (stp s.f3 (p : Int) (q : Int) (stp s.f3 (q : Int) (q : Int) (stp s.f3 (p : Int) (p : Int) M)))) by
       show stN _ _ _ _ 4 = _
       rw [← stS_eq, ← HM.out, ← HSS.out, h0, h1]
       unfold stS
       rw [show (p : Int) + 1 - 1 = (p : Int) by omega, show (q : Int) + 1 - 1 = (q : Int) by omega])
      go_wp2_with (fail)
      go_roundw
      case rel => exact ⟨i + 1, by go_num, by omega, ⟨by rw [HE.out]; exact HS5.out⟩⟩
      case measure => simp [intOf]; omega
    ·obtain rfl : i = l.length := by omega
     have p1 : decide ((l.length : Int) < (l.length : Int)) = false := decide_eq_false (by omega)
     have HT := Aside0.mk (show StI w wr g cap vs n m (S 0) from HS.out.congr (fun r k hr hk => (HS0.out.1 r k hr (by have := HMN.out; omega)).symm))
     have hl0 : L 0 = 1 := HS0.out.2
     go_wp2_with (fail)
     clear c1
     go_loopw [13, 14] (fun v13 v14 wz => ∃ j : Nat, v13 = .int .i64 (L j) ∧ v14 = .int .i64 (j : Int) ∧ j ≤ n ∧ Aside0 (StI w wz g cap vs n m (S j))) (fun _ v _ => n - (intOf v).toNat)
     case atStart => exact ⟨0, by rw [hl0], rfl, by omega, HT⟩
     case round =>
      clear HT HS hl0
      obtain ⟨j, rfl, rfl, hj, HS⟩ := hrel
      by_cases hjt : j < n
      ·have p1 : decide ((j : Int) < (n : Int)) = true := decide_eq_true (by omega)
       have hmn : m = n + 1 := HMN.out
       have i_j : (0 ≤ (j : Int)) = True := eq_true (by omega)
       have j_j : ((j : Int) < (n : Int)) = True := eq_true (by omega)
       have k_j : ((j : Int) < (m : Int)) = True := eq_true (by omega)
       have l_j : j < m := by omega
       clear hmn
       obtain ⟨bq, cq, hvq, q0, q1, qf, qb⟩ := HS.out.at_ hjt l_j
       obtain ⟨d, hd⟩ : ∃ d, d = S j j j := ⟨_, rfl⟩
       rw [← hd] at q1
       have HDD := Aside0.mk (show L (j + 1) = d by rw [hd]; exact HLL.out.1 j hjt)
       have HDJ := Aside0.mk hd
       obtain ⟨La, hLa⟩ : ∃ La, La = L j := ⟨_, rfl⟩
       have hLp : 0 < La := by rw [hLa]; exact HLL.out.2 j hj
       have HLJ := Aside0.mk hLa
       rw [← hLa]
       have HT := Aside0.mk (show StI w wr g cap vs n m (elmI (S j) (S (j + 1)) j 0 0) by rw [elmI_zero]; exact HS.out)
       clear hd hLa HS
       go_wp2_with (fail)
       clear q0 q1 qf qb hvq
       go_loopw [16] (fun v16 wz => ∃ i : Nat, v16 = .int .i64 (i : Int) ∧ i ≤ n ∧ Aside0 (StI w wz g cap vs n m (elmI (S j) (S (j + 1)) j i 0))) (fun v _ => n - (intOf v).toNat)
       case atStart => exact ⟨0, rfl, by omega, HT⟩
       case round =>
        clear HT
        obtain ⟨i, rfl, hi, HS⟩ := hrel
        by_cases hit : i < n
        ·have p2 : decide ((i : Int) < (n : Int)) = true := decide_eq_true (by omega)
         have i_i : (0 ≤ (i : Int)) = True := eq_true (by omega)
         have j_i : ((i : Int) < (n : Int)) = True := eq_true (by omega)
         obtain ⟨bq, cq, hvq, q0, q1, qf, qb⟩ := HS.out.at_ hit l_j
         rw [elmI_fac] at q1
         obtain ⟨f, hf⟩ : ∃ f, f = S j i j := ⟨_, rfl⟩
         rw [← hf] at q1
         have HFJ := Aside0.mk hf
         clear hf
         go_wp2_with (fail)
         clear q0 q1 qf qb hvq
         by_cases hij : i = j
         ·have d1 : ((i : Int) != (j : Int)) = false := by simp [hij]
          have d1' : ((i : Int) == (j : Int)) = true := by simp [hij]
          have HT := Aside0.mk (show StI w wr g cap vs n m (elmI (S j) (S (j + 1)) j (i + 1) 0) from HS.out.congr (fun r' k' _ _ => by rw [hij, elmI_own _ _ _ n]))
          have p3 : decide ((0 : Int) ≤ (n : Int)) = true := decide_eq_true (by omega)
          clear hij
          go_loopw [18] (fun v18 wz => v18 = .int .i64 0 ∧ Aside0 (StI w wz g cap vs n m (elmI (S j) (S (j + 1)) j (i + 1) 0))) (fun _ _ => 0)
          case atStart => exact ⟨rfl, HT⟩
          case round =>
           clear HT HS
           obtain ⟨rfl, HS⟩ := hrel
           go_wp2_with (fail)
           go_roundw
           case rel => exact ⟨i + 1, by go_num, by omega, HS⟩
           case measure => simp [intOf]; omega
         ·have d1' : ((i : Int) == (j : Int)) = false := by simpa using fun e : (i : Int) = j => hij (by omega)
          have d1 : ((i : Int) != (j : Int)) = true := by simpa using fun e : (i : Int) = j => hij (by omega)
          have HIJ := Aside0.mk hij
          clear hij
          go_loopw [18] (fun v18 wz => ∃ k : Nat, v18 = .int .i64 (k : Int) ∧ k ≤ n + 1 ∧ Aside0 (StI w wz g cap vs n m (elmI (S j) (S (j + 1)) j i k))) (fun v _ => n + 1 - (intOf v).toNat)
          case atStart => exact ⟨0, rfl, by omega, HS⟩
          case round =>
           clear HS
           obtain ⟨k, rfl, hk, HS⟩ := hrel
           by_cases hkt : k ≤ n
           ·have p3 : decide ((k : Int) ≤ (n : Int)) = true := decide_eq_true (by omega)
            have hmn : m = n + 1 := HMN.out
            have i_k : (0 ≤ (k : Int)) = True := eq_true (by omega)
            have k_k : ((k : Int) < (m : Int)) = True := eq_true (by omega)
            have l_k : k < m := by omega
            clear hmn
            obtain ⟨bq, cq, hvq, q0, q1, qf, qb⟩ := HS.out.at_ hit l_k
            obtain ⟨br, cr, hvr, t0, t1, _, _⟩ := HS.out.at_ hjt l_k
            rw [elmI_at] at q1
            rw [elmI_piv] at t1
            obtain ⟨x, hx⟩ : ∃ x, x = S j i k := ⟨_, rfl⟩
            obtain ⟨y, hy⟩ : ∃ y, y = S j j k := ⟨_, rfl⟩
            obtain ⟨T, hT⟩ : ∃ T, T = S (j + 1) i k := ⟨_, rfl⟩
            rw [← hx] at q1
            rw [← hy] at t1
            have bx := HBD.out j i k hj hit hkt
            have bd := HBD.out j j j hj hjt hj
            have bf := HBD.out j i j hj hit hj
            have by_ := HBD.out j j k hj hjt hkt
            rw [← hx] at bx
            rw [← HDJ.out] at bd
            rw [← HFJ.out] at bf
            rw [← hy] at by_
            have w1 := bnd bx bd
            have w2 := bnd bf by_
            have e1 : wrap64 (x * d) = x * d := by unfold wrap64; omega
            have e2 : wrap64 (f * y) = f * y := by unfold wrap64; omega
            have e3 : wrap64 (x * d - f * y) = x * d - f * y := by unfold wrap64; omega
            have hstep := HST.out.1 j i k hjt hit hkt HIJ.out
            rw [← hT, ← hx, ← HDJ.out, ← HFJ.out, ← hy, ← HLJ.out] at hstep
            have e4 : (x * d - f * y).tdiv La = T := quo_ hstep hLp
            have bT := HBD.out (j + 1) i k (by omega) hit hkt
            rw [← hT] at bT
            have e5 : wrap64 T = T := by unfold wrap64; omega
            have e6 : (La == 0) = false := by simpa using fun e : La = 0 => by omega
            have e7 : (La = 0) = False := eq_false (by omega)
            have hst := HS.out.step (x := T) hvq hit l_k
            have hne := elmI_succ (S j) (S (j + 1)) j i k HIJ.out
            rw [← hT] at hne
            rw [hne] at hst
            have HST1 := Aside0.mk hst.1
            clear hst hne hstep w1 w2 bx bd bf by_ bT hx hy hT
            go_wp2_with (fail)
            refine start_ (n:=28) (S := fun w' => w'.cell? ⟨g, i, none⟩ = some (.slice (some ⟨bq, 0, none⟩) m cq) ∧ w'.cell? ⟨bq, k, none⟩ = some (.int .i64 x) ∧ w'.cell? ⟨g, j, none⟩ = some (.slice (some ⟨br, 0, none⟩) m cr) ∧ w'.cell? ⟨br, k, none⟩ = some (.int .i64 y)) (ds:=[27]) #[false,false,false,false,false,false,false,false,false,false,false,false,false,false,false,false,false,false,false,false,false,false,false,false,false,false,false,false] (by kernel_rfl) rfl rfl ⟨q0, q1, t0, t1⟩ (fun hHeld => ?_)
            refine pure_ (i:=0) (N:=some 154) (v:=?_) (a':=?_) #[true,false,false,false,false,false,false,false,false,false,false,false,false,false,false,false,false,false,false,false,false,false,false,false,false,false,false,false] rfl rfl (by kernel_rfl) (fun _ _ _ h => h) (Or.inl ⟨by rfl, ?_⟩) ?_ ?_
            rotate_left
            ·intro w'
             go_simp
             with_reducible rfl
            rotate_left
            ·simp only [Act.put, List.setIfInBounds_toArray, List.set_cons_zero, List.set_cons_succ, i64_w, i32_w]
             rfl
            refine pure_ (i:=1) (N:=some 155) (v:=?_) (a':=?_) #[true,true,false,false,false,false,false,false,false,false,false,false,false,false,false,false,false,false,false,false,false,false,false,false,false,false,false,false] rfl rfl (by kernel_rfl) (fun _ _ _ h => h) (Or.inl ⟨by rfl, ?_⟩) ?_ ?_
            rotate_left
            ·intro w'
             go_simp
             with_reducible rfl
            rotate_left
            ·simp only [Act.put, List.setIfInBounds_toArray, List.set_cons_zero, List.set_cons_succ, i64_w, i32_w]
             rfl
            refine pure_ (i:=2) (N:=some 156) (v:=?_) (a':=?_) #[true,true,true,false,false,false,false,false,false,false,false,false,false,false,false,false,false,false,false,false,false,false,false,false,false,false,false,false] rfl rfl (by kernel_rfl) (fun _ _ _ h => h) (Or.inl ⟨by rfl, ?_⟩) ?_ ?_
            rotate_left
            ·intro w'
             go_simp
             with_reducible rfl
            rotate_left
            ·simp only [Act.put, List.setIfInBounds_toArray, List.set_cons_zero, List.set_cons_succ, i64_w, i32_w]
             rfl
            refine pure_ (i:=4) (N:=some 158) (v:=?_) (a':=?_) #[true,true,true,false,true,false,false,false,false,false,false,false,false,false,false,false,false,false,false,false,false,false,false,false,false,false,false,false] rfl rfl (by kernel_rfl) (fun _ _ _ h => h) (Or.inl ⟨by rfl, ?_⟩) ?_ ?_
            rotate_left
            ·intro w'
             go_simp
             with_reducible rfl
            rotate_left
            ·simp only [Act.put, List.setIfInBounds_toArray, List.set_cons_zero, List.set_cons_succ, i64_w, i32_w]
             rfl
            refine pure_ (i:=5) (N:=some 159) (v:=?_) (a':=?_) #[true,true,true,false,true,true,false,false,false,false,false,false,false,false,false,false,false,false,false,false,false,false,false,false,false,false,false,false] rfl rfl (by kernel_rfl) (fun _ _ _ h => h) (Or.inl ⟨by rfl, ?_⟩) ?_ ?_
            rotate_left
            ·intro w'
             go_simp
             with_reducible rfl
            rotate_left
            ·simp only [Act.put, List.setIfInBounds_toArray, List.set_cons_zero, List.set_cons_succ, i64_w, i32_w]
             rfl
            refine pure_ (i:=6) (N:=some 160) (v:=?_) (a':=?_) #[true,true,true,false,true,true,true,false,false,false,false,false,false,false,false,false,false,false,false,false,false,false,false,false,false,false,false,false] rfl rfl (by kernel_rfl) (fun _ _ _ h => h) (Or.inl ⟨by rfl, ?_⟩) ?_ ?_
            rotate_left
            ·intro w'
             go_simp
             with_reducible rfl
            rotate_left
            ·simp only [Act.put, List.setIfInBounds_toArray, List.set_cons_zero, List.set_cons_succ, i64_w, i32_w]
             rfl
            refine pure_ (i:=7) (N:=some 161) (v:=?_) (a':=?_) #[true,true,true,false,true,true,true,true,false,false,false,false,false,false,false,false,false,false,false,false,false,false,false,false,false,false,false,false] rfl rfl (by kernel_rfl) (fun _ _ _ h => h) (Or.inl ⟨by rfl, ?_⟩) ?_ ?_
            rotate_left
            ·intro w'
             go_simp
             with_reducible rfl
            rotate_left
            ·simp only [Act.put, List.setIfInBounds_toArray, List.set_cons_zero, List.set_cons_succ, i64_w, i32_w]
             rfl
            refine pure_ (i:=9) (N:=some 163) (v:=?_) (a':=?_) #[true,true,true,false,true,true,true,true,false,true,false,false,false,false,false,false,false,false,false,false,false,false,false,false,false,false,false,false] rfl rfl (by kernel_rfl) (fun _ _ _ h => h) (Or.inl ⟨by rfl, ?_⟩) ?_ ?_
            rotate_left
            ·intro w'
             go_simp
             with_reducible rfl
            rotate_left
            ·simp only [Act.put, List.setIfInBounds_toArray, List.set_cons_zero, List.set_cons_succ, i64_w, i32_w]
             rfl
            refine pure_ (i:=12) (N:=some 166) (v:=?_) (a':=?_) #[true,true,true,false,true,true,true,true,false,true,false,false,true,false,false,false,false,false,false,false,false,false,false,false,false,false,false,false] rfl rfl (by kernel_rfl) (fun _ _ _ h => h) (Or.inl ⟨by rfl, ?_⟩) ?_ ?_
            rotate_left
            ·intro w'
             go_simp
             with_reducible rfl
            rotate_left
            ·simp only [Act.put, List.setIfInBounds_toArray, List.set_cons_zero, List.set_cons_succ, i64_w, i32_w]
             rfl
            refine pure_ (i:=14) (N:=some 168) (v:=?_) (a':=?_) #[true,true,true,false,true,true,true,true,false,true,false,false,true,false,true,false,false,false,false,false,false,false,false,false,false,false,false,false] rfl rfl (by kernel_rfl) (fun _ _ _ h => h) (Or.inl ⟨by rfl, ?_⟩) ?_ ?_
            rotate_left
            ·intro w'
             go_simp
             with_reducible rfl
            rotate_left
            ·simp only [Act.put, List.setIfInBounds_toArray, List.set_cons_zero, List.set_cons_succ, i64_w, i32_w]
             rfl
            refine pure_ (i:=15) (N:=some 169) (v:=?_) (a':=?_) #[true,true,true,false,true,true,true,true,false,true,false,false,true,false,true,true,false,false,false,false,false,false,false,false,false,false,false,false] rfl rfl (by kernel_rfl) (fun _ _ _ h => h) (Or.inl ⟨by rfl, ?_⟩) ?_ ?_
            rotate_left
            ·intro w'
             go_simp
             with_reducible rfl
            rotate_left
            ·simp only [Act.put, List.setIfInBounds_toArray, List.set_cons_zero, List.set_cons_succ, i64_w, i32_w]
             rfl
            refine pure_ (i:=16) (N:=some 170) (v:=?_) (a':=?_) #[true,true,true,false,true,true,true,true,false,true,false,false,true,false,true,true,true,false,false,false,false,false,false,false,false,false,false,false] rfl rfl (by kernel_rfl) (fun _ _ _ h => h) (Or.inl ⟨by rfl, ?_⟩) ?_ ?_
            rotate_left
            ·intro w'
             go_simp
             with_reducible rfl
            rotate_left
            ·simp only [Act.put, List.setIfInBounds_toArray, List.set_cons_zero, List.set_cons_succ, i64_w, i32_w]
             rfl
            refine pure_ (i:=17) (N:=some 171) (v:=?_) (a':=?_) #[true,true,true,false,true,true,true,true,false,true,false,false,true,false,true,true,true,true,false,false,false,false,false,false,false,false,false,false] rfl rfl (by kernel_rfl) (fun _ _ _ h => h) (Or.inl ⟨by rfl, ?_⟩) ?_ ?_
            rotate_left
            ·intro w'
             go_simp
             with_reducible rfl
            rotate_left
            ·simp only [Act.put, List.setIfInBounds_toArray, List.set_cons_zero, List.set_cons_succ, i64_w, i32_w]
             rfl
            refine pure_ (i:=19) (N:=some 173) (v:=?_) (a':=?_) #[true,true,true,false,true,true,true,true,false,true,false,false,true,false,true,true,true,true,false,true,false,false,false,false,false,false,false,false] rfl rfl (by kernel_rfl) (fun _ _ _ h => h) (Or.inl ⟨by rfl, ?_⟩) ?_ ?_
            rotate_left
            ·intro w'
             go_simp
             with_reducible rfl
            rotate_left
            ·simp only [Act.put, List.setIfInBounds_toArray, List.set_cons_zero, List.set_cons_succ, i64_w, i32_w]
             rfl
            refine pure_ (i:=24) (N:=some 178) (v:=?_) (a':=?_) #[true,true,true,false,true,true,true,true,false,true,false,false,true,false,true,true,true,true,false,true,false,false,false,false,true,false,false,false] rfl rfl (by kernel_rfl) (fun _ _ _ h => h) (Or.inl ⟨by rfl, ?_⟩) ?_ ?_
            rotate_left
            ·intro w'
             go_simp
             with_reducible rfl
            rotate_left
            ·simp only [Act.put, List.setIfInBounds_toArray, List.set_cons_zero, List.set_cons_succ, i64_w, i32_w]
             rfl
            refine take_ (i:=3) (N:=some 157) (v:=?_) (a':=?_) #[true,true,true,true,true,true,true,true,false,true,false,false,true,false,true,true,true,true,false,true,false,false,false,false,true,false,false,false] rfl rfl (by kernel_rfl) (fun _ _ _ h => h) (Or.inl ⟨by rfl, ?_⟩) hHeld ?_ ?_
            rotate_left
            ·rintro w' ⟨s0, s1, s2, s3⟩
             go_simp
             with_reducible rfl
            rotate_left
            ·simp only [Act.put, List.setIfInBounds_toArray, List.set_cons_zero, List.set_cons_succ, i64_w, i32_w]
             rfl
            refine take_ (i:=8) (N:=some 162) (v:=?_) (a':=?_) #[true,true,true,true,true,true,true,true,true,true,false,false,true,false,true,true,true,true,false,true,false,false,false,false,true,false,false,false] rfl rfl (by kernel_rfl) (fun _ _ _ h => h) (Or.inl ⟨by rfl, ?_⟩) hHeld ?_ ?_
            rotate_left
            ·rintro w' ⟨s0, s1, s2, s3⟩
             go_simp
             with_reducible rfl
            rotate_left
            ·simp only [Act.put, List.setIfInBounds_toArray, List.set_cons_zero, List.set_cons_succ, i64_w, i32_w]
             rfl
            refine pure_ (i:=10) (N:=some 164) (v:=?_) (a':=?_) #[true,true,true,true,true,true,true,true,true,true,true,false,true,false,true,true,true,true,false,true,false,false,false,false,true,false,false,false] rfl rfl (by kernel_rfl) (fun _ _ _ h => h) (Or.inl ⟨by rfl, ?_⟩) ?_ ?_
            rotate_left
            ·intro w'
             go_simp
             with_reducible rfl
            rotate_left
            ·simp only [Act.put, List.setIfInBounds_toArray, List.set_cons_zero, List.set_cons_succ, i64_w, i32_w]
             rfl
            refine take_ (i:=11) (N:=some 165) (v:=?_) (a':=?_) #[true,true,true,true,true,true,true,true,true,true,true,true,true,false,true,true,true,true,false,true,false,false,false,false,true,false,false,false] rfl rfl (by kernel_rfl) (fun _ _ _ h => h) (Or.inl ⟨by rfl, ?_⟩) hHeld ?_ ?_
            rotate_left
            ·rintro w' ⟨s0, s1, s2, s3⟩
             go_simp
             with_reducible rfl
            rotate_left
            ·simp only [Act.put, List.setIfInBounds_toArray, List.set_cons_zero, List.set_cons_succ, i64_w, i32_w]
             rfl
            refine pure_ (i:=13) (N:=some 167) (v:=?_) (a':=?_) #[true,true,true,true,true,true,true,true,true,true,true,true,true,true,true,true,true,true,false,true,false,false,false,false,true,false,false,false] rfl rfl (by kernel_rfl) (fun _ _ _ h => h) (Or.inl ⟨by rfl, ?_⟩) ?_ ?_
            rotate_left
            ·intro w'
             go_simp
             with_reducible rfl
            rotate_left
            ·simp only [Act.put, List.setIfInBounds_toArray, List.set_cons_zero, List.set_cons_succ, i64_w, i32_w]
             rfl
            refine take_ (i:=18) (N:=some 172) (v:=?_) (a':=?_) #[true,true,true,true,true,true,true,true,true,true,true,true,true,true,true,true,true,true,true,true,false,false,false,false,true,false,false,false] rfl rfl (by kernel_rfl) (fun _ _ _ h => h) (Or.inl ⟨by rfl, ?_⟩) hHeld ?_ ?_
            rotate_left
            ·rintro w' ⟨s0, s1, s2, s3⟩
             go_simp
             with_reducible rfl
            rotate_left
            ·simp only [Act.put, List.setIfInBounds_toArray, List.set_cons_zero, List.set_cons_succ, i64_w, i32_w]
             rfl
            refine pure_ (i:=20) (N:=some 174) (v:=?_) (a':=?_) #[true,true,true,true,true,true,true,true,true,true,true,true,true,true,true,true,true,true,true,true,true,false,false,false,true,false,false,false] rfl rfl (by kernel_rfl) (fun _ _ _ h => h) (Or.inl ⟨by rfl, ?_⟩) ?_ ?_
            rotate_left
            ·intro w'
             go_simp
             with_reducible rfl
            rotate_left
            ·simp only [Act.put, List.setIfInBounds_toArray, List.set_cons_zero, List.set_cons_succ, i64_w, i32_w]
             rfl
            refine take_ (i:=21) (N:=some 175) (v:=?_) (a':=?_) #[true,true,true,true,true,true,true,true,true,true,true,true,true,true,true,true,true,true,true,true,true,true,false,false,true,false,false,false] rfl rfl (by kernel_rfl) (fun _ _ _ h => h) (Or.inl ⟨by rfl, ?_⟩) hHeld ?_ ?_
            rotate_left
            ·rintro w' ⟨s0, s1, s2, s3⟩
             go_simp
             with_reducible rfl
            rotate_left
            ·simp only [Act.put, List.setIfInBounds_toArray, List.set_cons_zero, List.set_cons_succ, i64_w, i32_w]
             rfl
            refine pure_ (i:=22) (N:=some 176) (v:=?_) (a':=?_) #[true,true,true,true,true,true,true,true,true,true,true,true,true,true,true,true,true,true,true,true,true,true,true,false,true,false,false,false] rfl rfl (by kernel_rfl) (fun _ _ _ h => h) (Or.inl ⟨by rfl, ?_⟩) ?_ ?_
            rotate_left
            ·intro w'
             go_simp
             with_reducible rfl
            rotate_left
            ·simp only [Act.put, List.setIfInBounds_toArray, List.set_cons_zero, List.set_cons_succ, i64_w, i32_w]
             rfl
            refine pure_ (i:=23) (N:=some 177) (v:=?_) (a':=?_) #[true,true,true,true,true,true,true,true,true,true,true,true,true,true,true,true,true,true,true,true,true,true,true,true,true,false,false,false] rfl rfl (by kernel_rfl) (fun _ _ _ h => h) (Or.inl ⟨by rfl, ?_⟩) ?_ ?_
            rotate_left
            ·intro w'
             go_simp
             with_reducible rfl
            rotate_left
            ·simp only [Act.put, List.setIfInBounds_toArray, List.set_cons_zero, List.set_cons_succ, i64_w, i32_w]
             rfl
            refine pure_ (i:=25) (N:=some 179) (v:=?_) (a':=?_) #[true,true,true,true,true,true,true,true,true,true,true,true,true,true,true,true,true,true,true,true,true,true,true,true,true,true,false,false] rfl rfl (by kernel_rfl) (fun _ _ _ h => h) (Or.inl ⟨by rfl, ?_⟩) ?_ ?_
            rotate_left
            ·intro w'
             go_simp
             with_reducible rfl
            rotate_left
            ·simp only [Act.put, List.setIfInBounds_toArray, List.set_cons_zero, List.set_cons_succ, i64_w, i32_w]
             rfl
            refine pure_ (i:=26) (N:=some 180) (v:=?_) (a':=?_) #[true,true,true,true,true,true,true,true,true,true,true,true,true,true,true,true,true,true,true,true,true,true,true,true,true,true,true,false] rfl rfl (by kernel_rfl) (fun _ _ _ h => h) (Or.inl ⟨by rfl, ?_⟩) ?_ ?_
            rotate_left
            ·intro w'
             go_simp
             with_reducible rfl
            rotate_left
            ·simp only [Act.put, List.setIfInBounds_toArray, List.set_cons_zero, List.set_cons_succ, i64_w, i32_w]
             rfl
            refine last_ (i:=27) (N:=none) #[true,true,true,true,true,true,true,true,true,true,true,true,true,true,true,true,true,true,true,true,true,true,true,true,true,true,true,true] rfl rfl (by kernel_rfl) (by decide) (fun K_ hK => ?_)
            refine skip_ (w1 := (wr.setCell ⟨bq, k, none⟩ (.int .i64 T)).drew) (by rfl) rfl ?_ ?_
            ·go_simp
             try rfl
            refine hK.out _ _ ?_
            clear hK K_
            refine done_ (by kernel_rfl) ?_
            go_wp2_with (fail)
            clear e1 e2 e3 e4 e5 e6 e7
            go_roundw
            case rel => exact ⟨k + 1, by go_num, by omega, HST1⟩
            case measure => simp [intOf]; omega
           ·obtain rfl : k = n + 1 := by omega
            have p3 : decide (((n + 1 : Nat) : Int) ≤ (n : Int)) = false := decide_eq_false (by omega)
            have p3' : decide ((n : Int) + 1 ≤ (n : Int)) = false := decide_eq_false (by omega)
            go_wp2_with (fail)
            go_roundw
            case rel => exact ⟨i + 1, by go_num, by omega, ⟨HS.out.congr (fun r' k' hr' hk' => by rw [elmI_row (S j) (S (j + 1)) j i n r' k' (by have := HMN.out; omega)])⟩⟩
            case measure => simp [intOf]; omega
        ·obtain rfl : n = i := by omega
         have p2 : decide ((n : Int) < (n : Int)) = false := decide_eq_false (by omega)
         go_wp2_with (fail)
         go_roundw
         case rel => exact ⟨j + 1, by rw [HDD.out], by go_num, by omega, ⟨HS.out.congr (fun r' k' hr' hk' => elmI_all (S j) (S (j + 1)) j n r' k' hr' (HST.out.2 j k' hjt (by have := HMN.out; omega)))⟩⟩
         case measure => simp [intOf]; omega
      ·obtain rfl : n = j := by omega
       have p1 : decide ((n : Int) < (n : Int)) = false := decide_eq_false (by omega)
       obtain ⟨wq, rfl⟩ : ∃ wq, wq = wr := ⟨_, rfl⟩
       go_wp2_with (fail)
       have HI := Aside0.mk (OutI.one wq (f := fun k => if k = 0 then 0 else S n (k - 1) n) (by simp))
       go_loopw [19, 20] (fun v19 v20 wz => ∃ (i b cap2 : Nat) (us : List Value), v19 = .slice (some ⟨b, 0, none⟩) (i + 1) cap2 ∧ v20 = .int .i64 (i : Int) ∧ i ≤ n ∧ Aside0 (OutI wq wz b cap2 (i + 1) us (fun k => if k = 0 then 0 else S n (k - 1) n))) (fun _ v _ => n - (intOf v).toNat)
       case atStart => exact ⟨0, _, 1, _, rfl, rfl, by omega, HI⟩
       case round =>
        clear HI
        obtain ⟨i, b, cap2, us, rfl, rfl, hi, HI⟩ := hrel
        by_cases hit : i < n
        ·have p2 : decide ((i : Int) < (n : Int)) = true := decide_eq_true (by omega)
         have hmn : m = n + 1 := HMN.out
         have i1 : (0 ≤ (i : Int)) = True := eq_true (by omega)
         have i2 : ((i : Int) < (n : Int)) = True := eq_true (by omega)
         have i3 : (0 ≤ (n : Int)) = True := eq_true (by omega)
         have i4 : ((n : Int) < (m : Int)) = True := eq_true (by omega)
         have l_n : n < m := by omega
         clear hmn
         obtain ⟨bq, cq, hv, q0, q1, qf, qb⟩ := (HS.out.call HI.out.2.2.2).at_ hit l_n
         go_wp2_with ((with_reducible refine gate_builtin (b := .append) (xs := #[.tmp 188, .tmp 196]) rfl ?_); at_builtin; refine Cb.append rfl (.tmp 188) (.tmp 196) 28 2 (.int .i64 0) 8 rfl Try.underlying28 info2 rfl (Pv.i64 _) (by decide) b cap2 (i + 1) us (.int .i64 (S n i n)) HI.out.len rfl rfl rfl (Pv.i64 _) HI.out.2.1 (by rw [HI.out.len]; omega) ?_; intro g1 cap1 w2 h1 h2 h3; have HN := Aside0.mk (HI.out.growG h1 h2 h3); clear h1 h2 h3)
         go_roundw
         case rel => exact ⟨i + 1, g1, cap1, _, by go_num, by go_num, by omega, HN⟩
         case measure => simp [intOf]; omega
        ·obtain rfl : n = i := by omega
         have p2 : decide ((n : Int) < (n : Int)) = false := decide_eq_false (by omega)
         go_wp2_with (fail)
         go_ret2
         exact ⟨b, cap2, us, rfl, HI.out.outer HS.out.2⟩
end Go.Proofs.Ytkafbmanmffliaa.Gl

