/- Parts of the proof that the law of this seat holds: Gl. -/
import Derived.Test.YtkafbmanmffliaaGLph
import Derived.Test.YtkafbmanmffliaaGLpi
set_option linter.unusedVariables false
set_option linter.unusedSimpArgs false
/- The reference's l10Solve: an elimination without fractions. -/
namespace Go.Proofs.Ytkafbmanmffliaa.Gl
open Go Go.RowKit YtkafbmanmffliaaW.PrintWords YtkafbmanmffliaaW.PrintLast YtkafbmanmffliaaW.PrintMore Q Gd Gf Ge Gi Gs
def StI (W0 wz : World) (g cap : Nat) (vs : List Value) (n m : Nat) (M : TI) : Prop := Gri wz W0.heap.size g cap vs n m M ∧ Below W0.heap.size W0 wz
section
variable {W0 wz w1 : World} {g cap n m : Nat} {vs : List Value} {M N : TI}
theorem StI.call (h : StI W0 wz g cap vs n m M) (hb : Below wz.heap.size wz w1) : StI W0 w1 g cap vs n m M := ⟨h.1.below hb, below_then h.2 h.2.size hb⟩
theorem StI.congr (h : StI W0 wz g cap vs n m M) (e : ∀ r k, r < n → k < m → M r k = N r k) : StI W0 wz g cap vs n m N := ⟨h.1.congr e, h.2⟩
theorem StI.at_ (h : StI W0 wz g cap vs n m M) {r k : Nat} (hr : r < n) (hk : k < m) : ∃ b c, vs[r]? = some (.slice (some ⟨b, 0, none⟩) m c) ∧ wz.cell? ⟨g, r, none⟩ = some (.slice (some ⟨b, 0, none⟩) m c) ∧ wz.cell? ⟨b, k, none⟩ = some (.int .i64 (M r k)) ∧ wz.frozen? ⟨b, k, none⟩ = false ∧ b < wz.heap.size := by
 obtain ⟨b, c, us, q1, q2, q3, q4, q5, q6⟩ := h.1.row r hr
 obtain ⟨t1, t2⟩ := rowI_at q3 q4 hk
 exact ⟨b, c, q1, q5, t1, t2, q3.lt⟩
theorem StI.step (h : StI W0 wz g cap vs n m M) {r k b c : Nat} {x : Int} (hv : vs[r]? = some (.slice (some ⟨b, 0, none⟩) m c)) (hr : r < n) (hk : k < m) :
  StI W0 ((wz.setCell ⟨b, k, none⟩ (.int .i64 x)).drew) g cap vs n m (updI M r k x) ∧ ∀ (b' : Nat) (cs : Array Value) (e : TypeId), e ≠ 2 → wz.heap[b']? = some (.cells cs e (0, 0)) → ((wz.setCell ⟨b, k, none⟩ (.int .i64 x)).drew).heap[b']? = some (.cells cs e (0, 0)) := by
 obtain ⟨b0, c0, us, q1, q2, q3, q4, q5, q6⟩ := h.1.row r hr
 obtain ⟨rfl, rfl⟩ := vs_inj q1 hv
 obtain ⟨hc1, hg⟩ := q3.put k (.int .i64 x) (Pv.i64 _)
 refine ⟨StI.call ⟨h.1.put hr hk hv, h.2.setCell (p := ⟨b0, k, none⟩) q2 _⟩ (below_drew (Below.refl _ _)), fun b' cs e he hh => ?_⟩
 show (wz.setCell ⟨b0, k, none⟩ (.int .i64 x)).heap[b']? = _
 refine blk_grown hh hg (fun e2 => ?_)
 obtain ⟨cs2, u1, _⟩ := q3
 exact blk_ne hh u1 he (Option.some.inj e2)
end
def OutI (wq wz : World) (b cap j : Nat) (us : List Value) (f : Nat → Int) : Prop := wq.heap.size ≤ b ∧ Cb wz 2 b cap us ∧ RowI us j f ∧ Below wq.heap.size wq wz
theorem OutI.len {wq wz : World} {b cap j : Nat} {us : List Value} {f : Nat → Int} (h : OutI wq wz b cap j us f) : us.length = j := h.2.2.1.1
theorem OutI.congr {wq wz : World} {b cap j : Nat} {us : List Value} {f f' : Nat → Int} (h : OutI wq wz b cap j us f) (e : ∀ k, k < j → f k = f' k) : OutI wq wz b cap j us f' := ⟨h.1, h.2.1, h.2.2.1.congr e, h.2.2.2⟩
theorem OutI.grow {wq wr w2 : World} {b cap j g1 cap1 : Nat} {us : List Value} {f : Nat → Int} {x : Int} (h : OutI wq wr b cap j us f)
  (hc : Cb w2 2 g1 cap1 (us ++ [.int .i64 x])) (hat : g1 = b ∨ wr.heap.size ≤ g1) (hg : wr.grownBy w2 (some b)) : OutI wq w2 g1 cap1 (j + 1) (us ++ [.int .i64 x]) (fun k => if k = j then x else f k) := by
 have hs := h.2.2.2.size
 refine ⟨?_, hc, h.2.2.1.snoc x, below_grownB h.2.2.2 (Nat.le_refl _) hg h.1⟩
 have := h.1
 rcases hat with e | e <;> omega
theorem OutI.growG {wq wr w2 : World} {b cap i n g1 cap1 : Nat} {us : List Value} {G : TI} (h : OutI wq wr b cap (i + 1) us (fun k => if k = 0 then 0 else G (k - 1) n))
  (hc : Cb w2 2 g1 cap1 (us ++ [.int .i64 (G i n)])) (hat : g1 = b ∨ wr.heap.size ≤ g1) (hg : wr.grownBy w2 (some b)) : OutI wq w2 g1 cap1 (i + 1 + 1) (us ++ [.int .i64 (G i n)]) (fun k => if k = 0 then 0 else G (k - 1) n) := by
 refine (h.grow hc hat hg).congr (fun k hk => ?_)
 show (if k = i + 1 then _ else _) = _
 by_cases e : k = i + 1
 ·subst e
  rw [if_pos rfl, if_neg (by omega)]
  rfl
 ·rw [if_neg e]
theorem OutI.one (wq : World) {f : Nat → Int} (e : f 0 = 0) : OutI wq (wq.alloc (.cells #[.int .i64 0] 2)) wq.heap.size 1 1 [.int .i64 0] f := by
 refine ⟨Nat.le_refl _, Cb.one_new _ _ _ (Pv.i64 _), ⟨rfl, fun k hk => ?_⟩, below_alloc (Below.refl _ _) _⟩
 obtain rfl : k = 0 := by omega
 rw [e]; rfl
theorem OutI.outer {w wq wz : World} {b cap j : Nat} {us : List Value} {f : Nat → Int} (h : OutI wq wz b cap j us f) (h1 : Below w.heap.size w wq) : OutI w wz b cap j us f :=
 ⟨Nat.le_trans h1.size h.1, h.2.1, h.2.2.1, below_step h1 h.2.2.2⟩
def Made2 (wq w2 : World) (bm bx n : Nat) (v : Int) : Prop := wq.heap.size ≤ bm ∧ Cb w2 2 bm n (List.replicate n (.int .i64 0)) ∧ w2.cell? ⟨bx, 0, none⟩ = some (.int .i64 v) ∧ wq.heap.size ≤ bx ∧ Below wq.heap.size wq w2
theorem Made2.row {wq w2 w3 : World} {bm bx n g1 cap1 : Nat} {v : Int} (h : Made2 wq w2 bm bx n v) (hc : Cb w3 2 g1 cap1 (List.replicate n (.int .i64 0) ++ [.int .i64 v])) (hat : g1 = bm ∨ w2.heap.size ≤ g1) (hg : w2.grownBy w3 (some bm)) :
  OutI wq w3 g1 cap1 (n + 1) (List.replicate n (.int .i64 0) ++ [.int .i64 v]) (fun k => if k = n then v else 0) := by
 have hs := h.2.2.2.2.size
 refine ⟨?_, hc, (RowI.zeros n).snoc v, below_grownB h.2.2.2.2 (Nat.le_refl _) hg h.1⟩
 have := h.1
 rcases hat with e | e <;> omega
theorem Gri.loop1 {W0 wq w2 w2' w3 : World} {g cap p n b cap2 g2 cap3 : Nat} {vs us : List Value} {right : List Int} (hG : Gri wq W0.heap.size g cap vs p (n + 1) (MI0 right n)) (hB : Below W0.heap.size W0 wq)
  (hI : OutI wq w2 b cap2 (n + 1) us (fun k => if k = n then rd right ((p : Int) + 1) else 0)) (hb2 : Below w2.heap.size w2 w2')
  (hC : Cb w3 28 g2 cap3 (vs ++ [.slice (some ⟨b, 0, none⟩) (n + 1) cap2])) (hat : g2 = g ∨ w2'.heap.size ≤ g2) (hg : w2'.grownBy w3 (some g)) :
  Gri w3 W0.heap.size g2 cap3 (vs ++ [.slice (some ⟨b, 0, none⟩) (n + 1) cap2]) (p + 1) (n + 1) (MI0 right n) ∧ Below W0.heap.size W0 w3 := by
 have hb := below_step hI.2.2.2 hb2
 refine ⟨(hG.snoc hb hB.size hI.1 (hI.2.1.below hb2) hI.2.2.1 hC hat hg).congr (fun r k hr hk => ?_), below_grownB (below_then hB hB.size hb) (Nat.le_refl _) hg hG.1⟩
 show (if r = p then _ else _) = _
 by_cases e : r = p
 ·subst e
  rw [if_pos rfl]
  rfl
 ·rw [if_neg e]
def elmI (S T : TI) (c r k : Nat) : TI := fun r' k' => if r' ≠ c ∧ (r' < r ∨ (r' = r ∧ k' < k)) then T r' k' else S r' k'
section
variable (S T : TI) (c r k : Nat)
end
def stS (w a b : Int) (M : TI) : TI := stp w b a (stp w a b (stp w b b (stp w a a M)))
def dl (w p q : Int) (r k : Nat) : Int := if 0 ≤ p ∧ 0 ≤ q ∧ (r : Int) = p ∧ (k : Int) = q then (if p = q then w else - w) else 0
theorem stp_dl (w p q : Int) (M : TI) (r k : Nat) : stp w p q M r k = M r k + dl w p q r k := by
 unfold stp dl
 split
 ·split <;> omega
 ·omega
theorem mk28 (n : Nat) (hn : n ≤ 4) : ∀ W : World, (Instr.makeSlice 28 (.int .i64 (n : Int)) (.int .i64 (n : Int))).run Try.prog W = .ok (.slice (some ⟨W.heap.size, 0, none⟩) n n) (W.alloc (.cells (madeCells #[.int .i64 0] n) 2)) :=
 print_make_of 28 2 (.int .i64 0) 8 Try.underlying28 info2 rfl (by decide) n (by omega)
end Go.Proofs.Ytkafbmanmffliaa.Gl

