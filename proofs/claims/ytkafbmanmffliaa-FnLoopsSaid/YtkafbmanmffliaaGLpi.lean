/- Parts of the proof that the law of this seat holds: Gs. -/
import Derived.Test.YtkafbmanmffliaaGLpg
import Derived.Test.YtkafbmanmffliaaGLph
import Derived.Deep.CutRange
set_option linter.unusedVariables false
set_option linter.unusedSimpArgs false
/- The program's solve: the numbers of the points out of a right side. -/
namespace Go.Proofs.Ytkafbmanmffliaa.Gs
open Go Go.RowKit YtkafbmanmffliaaW.PrintWords YtkafbmanmffliaaW.PrintLast YtkafbmanmffliaaW.PrintMore Q Bg Dd Bi Rt Ru Rx Ra Gd Gf Ge Hb Ha
def RowIn (wq wz : World) (b cap j : Nat) (us : List Value) (f : Nat → Rat) : Prop := wq.heap.size ≤ b ∧ Cb wz 74 b cap us ∧ RowF wz us j f ∧ Below wq.heap.size wq wz
theorem RowIn.len {wq wz : World} {b cap j : Nat} {us : List Value} {f : Nat → Rat} (h : RowIn wq wz b cap j us f) : us.length = j := h.2.2.1.1
theorem RowIn.new (wq : World) (f : Nat → Rat) : RowIn wq (wq.alloc (.cells #[] 74)) wq.heap.size 0 0 [] f := ⟨Nat.le_refl _, Cb.nil_new _ _, RowF.nil _ _, below_alloc (Below.refl _ _) _⟩
theorem RowIn.congr {wq wz : World} {b cap j : Nat} {us : List Value} {f g : Nat → Rat} (h : RowIn wq wz b cap j us f) (e : ∀ k, k < j → f k = g k) : RowIn wq wz b cap j us g := ⟨h.1, h.2.1, h.2.2.1.congr e, h.2.2.2⟩
theorem RowIn.below {wq wz w1 : World} {b cap j : Nat} {us : List Value} {f : Nat → Rat} (h : RowIn wq wz b cap j us f) (hb : Below wz.heap.size wz w1) : RowIn wq w1 b cap j us f := ⟨h.1, h.2.1.below hb, h.2.2.1.par (Par.of_below hb), below_step h.2.2.2 hb⟩
theorem RowIn.grow {wq wr w1 w2 : World} {b cap j pb g1 cap1 : Nat} {us : List Value} {f : Nat → Rat} {x : Rat} (h : RowIn wq wr b cap j us f) (hb1 : Below wr.heap.size wr w1) (hx : RI w1 pb x)
  (hc : Cb w2 74 g1 cap1 (us ++ [.pointer (some ⟨pb, 0, none⟩)])) (hat : g1 = b ∨ w1.heap.size ≤ g1) (hg : w1.grownBy w2 (some b)) : RowIn wq w2 g1 cap1 (j + 1) (us ++ [.pointer (some ⟨pb, 0, none⟩)]) (fun k => if k = j then x else f k) := by
 have h1 := h.below hb1
 have hp : Par w1 w2 := Par.grown h1.2.1 hg
 have hs := h1.2.2.2.size
 refine ⟨?_, hc, (h1.2.2.1.par hp).snoc (RI.par hx hp), below_grownB h1.2.2.2 (Nat.le_refl _) hg h.1⟩
 have := h1.1
 rcases hat with e | e <;> omega
theorem RowIn.grow0 {wq wr w1 w2 : World} {b cap j pb g1 cap1 : Nat} {us : List Value} (h : RowIn wq wr b cap j us (fun _ => 0)) (hb1 : Below wr.heap.size wr w1) (hx : RI w1 pb ((0 : Int) : Rat))
  (hc : Cb w2 74 g1 cap1 (us ++ [.pointer (some ⟨pb, 0, none⟩)])) (hat : g1 = b ∨ w1.heap.size ≤ g1) (hg : w1.grownBy w2 (some b)) : RowIn wq w2 g1 cap1 (j + 1) (us ++ [.pointer (some ⟨pb, 0, none⟩)]) (fun _ => 0) := by
 refine (h.grow hb1 hx hc hat hg).congr (fun k hk => ?_)
 show (if k = j then _ else _) = _
 split <;> simp
def MI0 (right : List Int) (n : Nat) : TI := fun r k => if k = n then rd right ((r : Int) + 1) else 0
def St (W0 wz : World) (g cap : Nat) (vs : List Value) (n m : Nat) (M : TR) : Prop := Grd wz W0.heap.size g cap vs n m M ∧ Below W0.heap.size W0 wz
theorem St.call {W0 wz w1 : World} {g cap n m : Nat} {vs : List Value} {M : TR} (h : St W0 wz g cap vs n m M) (hb : Below wz.heap.size wz w1) : St W0 w1 g cap vs n m M := ⟨h.1.below hb, below_then h.2 h.2.size hb⟩
theorem St.congr {W0 wz : World} {g cap n m : Nat} {vs : List Value} {M N : TR} (h : St W0 wz g cap vs n m M) (e : ∀ r k, r < n → k < m → M r k = N r k) : St W0 wz g cap vs n m N := ⟨h.1.congr e, h.2⟩
theorem St.at_ {W0 wz : World} {g cap n m : Nat} {vs : List Value} {M : TR} (h : St W0 wz g cap vs n m M) {r k : Nat} (hr : r < n) (hk : k < m) : ∃ b c p, vs[r]? = some (.slice (some ⟨b, 0, none⟩) m c) ∧ wz.cell? ⟨g, r, none⟩ = some (.slice (some ⟨b, 0, none⟩) m c) ∧ wz.cell? ⟨b, k, none⟩ = some (.pointer (some ⟨p, 0, none⟩)) ∧ wz.frozen? ⟨b, k, none⟩ = false ∧ RI wz p (M r k) ∧ b < wz.heap.size := by
 obtain ⟨b, c, us, q1, q2, q3, q4, q5, q6⟩ := h.1.row r hr
 obtain ⟨p, t1, t2, t3⟩ := row_at q3 q4 hk
 exact ⟨b, c, p, q1, q5, t1, t2, t3, q3.lt⟩
theorem vs_inj {vs : List Value} {r b c m b' c' m' : Nat} (h : vs[r]? = some (.slice (some ⟨b, 0, none⟩) m c)) (h' : vs[r]? = some (.slice (some ⟨b', 0, none⟩) m' c')) : b = b' ∧ c = c' := by
 rw [h'] at h
 injection h with h
 injection h with e1 e2 e3
 injection e1 with e1
 injection e1 with e1
 exact ⟨e1.symm, e3.symm⟩
theorem St.step {W0 wr w1 : World} {g cap n m : Nat} {vs : List Value} {M : TR} (h : St W0 wr g cap vs n m M) (hb : Below wr.heap.size wr w1) {r k b c pz : Nat} {x : Rat} (hv : vs[r]? = some (.slice (some ⟨b, 0, none⟩) m c)) (hr : r < n) (hk : k < m) (hx : RI w1 pz x) :
  St W0 (w1.setCell ⟨b, k, none⟩ (.pointer (some ⟨pz, 0, none⟩))) g cap vs n m (upd M r k x) ∧ Par wr (w1.setCell ⟨b, k, none⟩ (.pointer (some ⟨pz, 0, none⟩))) ∧
  ∀ (b' : Nat) (cs : Array Value) (e : TypeId), e ≠ 74 → wr.heap[b']? = some (.cells cs e (0, 0)) → (w1.setCell ⟨b, k, none⟩ (.pointer (some ⟨pz, 0, none⟩))).heap[b']? = some (.cells cs e (0, 0)) := by
 have h1 := h.call hb
 obtain ⟨b0, c0, us, q1, q2, q3, q4, q5, q6⟩ := h1.1.row r hr
 obtain ⟨rfl, rfl⟩ := vs_inj q1 hv
 obtain ⟨hc1, hg⟩ := q3.put k (.pointer (some ⟨pz, 0, none⟩)) (Pv.ptr _)
 refine ⟨⟨h1.1.put hr hk hv hx, h1.2.setCell (p := ⟨b0, k, none⟩) q2 _⟩, (Par.of_below hb).trans (Par.grown q3 hg), fun b' cs e he hh => ?_⟩
 have hh1 := blk_below hh hb
 refine blk_grown hh1 hg (fun e2 => ?_)
 obtain ⟨cs2, u1, _⟩ := q3
 exact blk_ne hh1 u1 he (Option.some.inj e2)
theorem Grd.loop1 {W0 wq w2 w3 : World} {g cap p n b cap2 g2 cap3 : Nat} {vs us : List Value} {right : List Int} (hG : Grd wq W0.heap.size g cap vs p (n + 1) (cst (MI0 right n))) (hB : Below W0.heap.size W0 wq)
  (hI : RowIn wq w2 b cap2 (n + 1) us (fun k => if k = n then ((rd right ((p : Int) + 1) : Int) : Rat) else 0))
  (hC : Cb w3 69 g2 cap3 (vs ++ [.slice (some ⟨b, 0, none⟩) (n + 1) cap2])) (hat : g2 = g ∨ w2.heap.size ≤ g2) (hg : w2.grownBy w3 (some g)) :
  Grd w3 W0.heap.size g2 cap3 (vs ++ [.slice (some ⟨b, 0, none⟩) (n + 1) cap2]) (p + 1) (n + 1) (cst (MI0 right n)) ∧ Below W0.heap.size W0 w3 := by
 refine ⟨(hG.snoc hI.2.2.2 hB.size hI.1 hI.2.1 hI.2.2.1 hC hat hg).congr (fun r k hr hk => ?_), below_grownB (below_then hB hB.size hI.2.2.2) (Nat.le_refl _) hg hG.1⟩
 show (if r = p then _ else _) = _
 by_cases e : r = p
 ·subst e
  rw [if_pos rfl]
  show (if k = n then _ else _) = ((MI0 right n r k : Int) : Rat)
  unfold MI0
  split <;> simp
 ·rw [if_neg e]
theorem sight_at {n : Nat} {l : List S32} (h : surveyB ((n : Int) + 1) l = true) (k : Nat) (hk : k < l.length) : 0 ≤ (rd_T32 l k).f0 ∧ (rd_T32 l k).f0 ≤ n ∧ 0 ≤ (rd_T32 l k).f1 ∧ (rd_T32 l k).f1 ≤ n ∧ (rd_T32 l k).f0 ≠ (rd_T32 l k).f1 ∧ 1 ≤ (rd_T32 l k).f3 ∧ (rd_T32 l k).f3 ≤ 3 := by
 have hm : rd_T32 l k ∈ l := by simp only [rd_T32, Int.toNat_natCast]; rw [List.getD_eq_getElem?_getD, List.getElem?_eq_getElem hk]; simp
 unfold surveyB at h
 simp only [Bool.and_eq_true] at h
 have hn := h.1.1
 unfold inB at hn
 simp only [Bool.and_eq_true, decide_eq_true_eq] at hn
 have := List.all_eq_true.1 h.2 _ hm
 unfold sightB inB at this
 simp only [Bool.and_eq_true, decide_eq_true_eq, Bool.not_eq_true', beq_eq_false_iff_ne] at this
 obtain ⟨⟨⟨⟨a1, a2⟩, a3⟩, a4⟩, a5⟩ := this
 have e : wrap64 ((n : Int) + 1 - 1) = n := by unfold wrap64; omega
 rw [e] at a1 a2
 omega
theorem stN_step {w a b : Int} {M : TI} {x y : Nat} (hy : y < 2) : stN w a b M (2 * x + (y + 1)) = stp w (ptq a b x) (ptq a b y) (stN w a b M (2 * x + y)) := by
 show stp w (ptq a b ((2 * x + y) / 2)) (ptq a b ((2 * x + y) % 2)) _ = _
 rw [show (2 * x + y) / 2 = x by omega, show (2 * x + y) % 2 = y by omega]
 rfl
def sgs (l : List S32) (M : TI) : Nat → TI
 | 0 => M
 | i + 1 => stN (rd_T32 l i).f3 ((rd_T32 l i).f0 - 1) ((rd_T32 l i).f1 - 1) (sgs l M i) 4
theorem sgs_size {n : Nat} {l : List S32} {M : TI} {B : Int} (hv : surveyB ((n : Int) + 1) l = true) (hB : ∀ r k, -B ≤ M r k ∧ M r k ≤ B) (i : Nat) (hi : i ≤ l.length) (r k : Nat) : -(B + 12 * i) ≤ sgs l M i r k ∧ sgs l M i r k ≤ B + 12 * i := by
 induction i generalizing r k with
 | zero => simpa [sgs] using hB r k
 | succ i ih =>
  have hs := sight_at hv i (by omega)
  have := stN_size (a := (rd_T32 l i).f0 - 1) (b := (rd_T32 l i).f1 - 1) (w := (rd_T32 l i).f3) (by omega) (by omega) (fun r k => ih (by omega) r k) 4 r k
  simp only [sgs]
  omega
theorem ent_size {n : Nat} {l : List S32} {right : List Int} (hv : surveyB ((n : Int) + 1) l = true) (hl : l.length ≤ 8) (hrs : ∀ i : Int, -4611686018427387904 ≤ rd right i ∧ rd right i ≤ 4611686018427387904) (i : Nat) (hi : i ≤ l.length) {w a b : Int} (hw0 : 0 ≤ w) (hw : w ≤ 3) (t : Nat) (ht : t ≤ 4) (r k : Nat) : Sm 64 (cst (stN w a b (sgs l (MI0 right n) i) t) r k) := by
 have h0 : ∀ r k, -4611686018427387904 ≤ MI0 right n r k ∧ MI0 right n r k ≤ 4611686018427387904 := by
  intro r k
  unfold MI0
  split
  ·exact hrs _
  ·omega
 have := stN_size (a := a) (b := b) hw0 hw (fun r k => sgs_size hv h0 i hi r k) t r k
 exact sm_int (by omega)
theorem ptq_cell (a b : Int) (x : Nat) (hx : x < 2) : (#[Value.int .i64 a, .int .i64 b] : Array Value)[x]? = some (.int .i64 (ptq a b x)) := by
 match x, hx with
 | 0, _ => rfl
 | 1, _ => rfl
theorem St.row_ {W0 wz : World} {g cap n m : Nat} {vs : List Value} {M : TR} (h : St W0 wz g cap vs n m M) {r : Nat} (hr : r < n) : wz.frozen? ⟨g, r, none⟩ = false := by
 obtain ⟨b, c, us, q1, q2, q3, q4, q5, q6⟩ := h.1.row r hr
 exact q6
theorem St.swap {W0 wz : World} {g cap n m r : Nat} {vs : List Value} {M : TR} {u : Value} (h : St W0 wz g cap vs n m M) (hr : r < n) (hv : vs[r]? = some u) : St W0 (((wz.setCell ⟨g, r, none⟩ u).setCell ⟨g, r, none⟩ u).drew) g cap vs n m M :=
 St.call ⟨(h.1.same hr hv).same hr hv, (h.2.setCell (p := ⟨g, r, none⟩) h.1.1 _).setCell (p := ⟨g, r, none⟩) h.1.1 _⟩ (below_drew (Below.refl _ _))
theorem sign_ne {q : Rat} (h : q ≠ 0) : (q.num.sign == 0) = false := by
 rw [beq_eq_false_iff_ne]
 intro e
 rw [Int.sign_eq_zero_iff_zero] at e
 exact h (Rat.num_eq_zero.1 e)
theorem RowIn.one {wq w1 : World} {p : Nat} {f : Nat → Rat} {x : Rat} (hb : Below wq.heap.size wq w1) (hx : RI w1 p x) (e : x = f 0) : RowIn wq (w1.alloc (.cells #[.pointer (some ⟨p, 0, none⟩)] 74)) w1.heap.size 1 1 [.pointer (some ⟨p, 0, none⟩)] f := by
 have ha := below_alloc (Below.refl w1.heap.size w1) (.cells #[.pointer (some ⟨p, 0, none⟩)] 74)
 refine ⟨hb.size, Cb.one_new _ _ _ (Pv.ptr _), ⟨rfl, fun k hk => ?_⟩, below_step hb ha⟩
 obtain rfl : k = 0 := by omega
 exact ⟨p, rfl, by rw [← e]; exact RI.below hx ha⟩
theorem RowIn.outer {w W0 wq wz : World} {b cap j : Nat} {us : List Value} {f : Nat → Rat} (h : RowIn wq wz b cap j us f) (h0 : Below w.heap.size w W0) (h1 : Below W0.heap.size W0 wq) : RowIn w wz b cap j us f :=
 ⟨Nat.le_trans (Nat.le_trans h0.size h1.size) h.1, h.2.1, h.2.2.1, below_step (below_step h0 h1) h.2.2.2⟩
theorem RowIn.growG {wq wr w1 w2 : World} {b cap i n pb g1 cap1 : Nat} {us : List Value} {G : TR} (h : RowIn wq wr b cap (i + 1) us (fun k => if k = 0 then 0 else G (k - 1) n)) (hb1 : Below wr.heap.size wr w1) (hx : RI w1 pb (G i n))
  (hc : Cb w2 74 g1 cap1 (us ++ [.pointer (some ⟨pb, 0, none⟩)])) (hat : g1 = b ∨ w1.heap.size ≤ g1) (hg : w1.grownBy w2 (some b)) : RowIn wq w2 g1 cap1 (i + 1 + 1) (us ++ [.pointer (some ⟨pb, 0, none⟩)]) (fun k => if k = 0 then 0 else G (k - 1) n) := by
 refine (h.grow hb1 hx hc hat hg).congr (fun k hk => ?_)
 show (if k = i + 1 then _ else _) = _
 by_cases e : k = i + 1
 ·subst e
  rw [if_pos rfl, if_neg (by omega)]
  rfl
 ·rw [if_neg e]
abbrev SX (P : Int) (A : Option Addr) (k c : Nat) : Obj := .cells #[.int .i64 P, .slice A k c] 26
def tab (l : List S32) (right : List Int) (n : Nat) : TI := sgs l (MI0 right n) l.length
set_option maxHeartbeats 16000000 in
set_option maxRecDepth 100000 in
theorem solve_any (n : Nat) (hn4 : n ≤ 4) (l : List S32) (hv : surveyB ((n : Int) + 1) l = true) (A : Option Addr) (c : Nat) (AR : Option Addr) (cR : Nat) (right : List Int) (w : World)
  (hr : Kd.C k32 w A l.length l) (hc : l.length ≤ c) (hrr : Kd.C (Kd.int .i64) w AR right.length right) (hrl : right.length = n + 1) (hrs : ∀ i : Int, -4611686018427387904 ≤ rd right i ∧ rd right i ≤ 4611686018427387904)
  (hpv : ∀ c, c < n → gj (cst (tab l right n)) c c c ≠ 0) :
  Calls Try.prog 109 #[.agg #[.int .i64 ((n : Int) + 1), .slice A l.length c], .slice AR right.length cR] w fun e w' => ∃ (b cap : Nat) (us : List Value), e = .returned (.slice (some ⟨b, 0, none⟩) (n + 1) cap) ∧ RowIn w w' b cap (n + 1) us (fun k => if k = 0 then 0 else gj (cst (tab l right n)) n (k - 1) n) := by
 have hu26 := Try.underlying26
 have hu32 := Try.underlying32
 have hu69 := Try.underlying69
 have hu137 := Try.underlying137
 have hl8 : l.length ≤ 8 := by
  unfold surveyB at hv
  simp only [Bool.and_eq_true, decide_eq_true_eq] at hv
  have := hv.1.2
  omega
 have hbx := below_alloc (Below.refl w.heap.size w) (SX ((n : Int) + 1) A l.length c)
 have HR := Aside0.mk (Kd.C_below hr hbx)
 rw [hrl] at hrr
 rw [hrl]
 have HRR := Aside0.mk (Kd.C_below hrr hbx)
 have HX := Aside0.mk (heap_alloc_new w (SX ((n : Int) + 1) A l.length c))
 have HV := Aside0.mk (And.intro hv (And.intro hrs hpv))
 clear hr hrr hv hrs hpv hbx
 go_enter Try.func109, Try.ntmps109
 go_wp2_with (fail)
 obtain ⟨W0, hW0⟩ : ∃ W0, W0 = w.alloc (SX ((n : Int) + 1) A l.length c) := ⟨_, rfl⟩
 have hs0 : W0.heap.size = w.heap.size + 1 := by rw [hW0]; simp
 rw [← hW0] at HR HRR HX
 rw [← hW0]
 have HW0 := Aside0.mk hW0
 clear hW0
 have t0 := Aside0.mk (show Grd (W0.alloc (.cells #[] 69)) W0.heap.size (w.heap.size + 1) 0 [] 0 (n + 1) (cst (MI0 right n)) by rw [← hs0]; exact Grd.new W0 (n + 1) (cst (MI0 right n)) W0.heap.size (Nat.le_refl _))
 have tb := Aside0.mk (below_alloc (Below.refl W0.heap.size W0) (.cells #[] 69))
 go_loopw [6, 33] (fun v6 v33 wz => ∃ (p g cap : Nat) (vs : List Value), v6 = .slice (some ⟨g, 0, none⟩) p cap ∧ v33 = .int .i64 (p : Int) ∧ p ≤ n ∧ Aside0 (Grd wz W0.heap.size g cap vs p (n + 1) (cst (MI0 right n))) ∧ Aside0 (Below W0.heap.size W0 wz)) (fun _ v _ => n - (intOf v).toNat)
 case atStart => exact ⟨0, _, 0, [], rfl, rfl, by omega, t0, tb⟩
 case round =>
  clear t0 tb
  obtain ⟨p, g, cap, vs, rfl, rfl, hp, HG, HB⟩ := hrel
  obtain ⟨wq, rfl⟩ : ∃ wq, wq = wr := ⟨_, rfl⟩
  by_cases hlt : p < n
  ·have p1 : decide ((p : Int) < (n : Int)) = true := decide_eq_true (by omega)
   go_wp2_with (fail)
   go_loopw [8, 38] (fun v8 v38 wz => ∃ (j b cap2 : Nat) (us : List Value), v8 = .slice (some ⟨b, 0, none⟩) j cap2 ∧ v38 = .int .i64 (j : Int) ∧ j ≤ n ∧ Aside0 (RowIn wq wz b cap2 j us (fun _ => 0))) (fun _ v _ => n - (intOf v).toNat)
   case atStart => exact ⟨0, _, 0, [], rfl, rfl, by omega, ⟨RowIn.new _ _⟩⟩
   case round =>
    obtain ⟨j, b, cap2, us, rfl, rfl, hj, HI⟩ := hrel
    by_cases hjt : j < n
    ·have p2 : decide ((j : Int) < (n : Int)) = true := decide_eq_true (by omega)
     go_wp2_with (first | (go_at_call 66; (with_reducible refine (whole_any 0 _ (by decide) (by decide)).mono ?_); rintro e w1 ⟨pb, rfl, hpb, hri, hb1⟩; have H1 := Aside0.mk (And.intro hri hb1); clear hri hb1) | ((with_reducible refine gate_builtin (b := .append) (xs := #[.tmp 40, .tmp 42]) rfl ?_); at_builtin; refine Cb.append rfl (.tmp 40) (.tmp 42) 69 74 (.pointer none) 8 rfl Try.underlying69 info74 rfl (Pv.ptr _) (by decide) b cap2 j us (.pointer (some ⟨pb, 0, none⟩)) HI.out.len rfl rfl rfl (Pv.ptr _) (HI.out.below H1.out.2).2.1 (by rw [HI.out.len]; omega) ?_; intro g1 cap1 w2 h1 h2 h3; have HN := Aside0.mk (HI.out.grow0 H1.out.2 H1.out.1 h1 h2 h3); clear h1 h2 h3))
     go_roundw
     case rel => exact ⟨j + 1, g1, cap1, _, by go_num, by go_num, by omega, HN⟩
     case measure => simp [intOf]; omega
    ·obtain rfl : n = j := by omega
     have p2 : decide ((n : Int) < (n : Int)) = false := decide_eq_false (by omega)
     obtain ⟨ad, e, hx⟩ := Kd.at_int (Kd.C_below HRR.out (below_weaken (Below.refl _ _) (Nat.le_refl _) (below_then HB.out HB.out.size HI.out.2.2.2))) ((p : Int) + 1) (by omega) (by omega)
     subst e
     rw [show ((p : Int) + 1).toNat = p + 1 by omega, show ad.add (p + 1) = ⟨ad.block, ad.off + (p + 1), none⟩ by simp [Addr.add]] at hx
     obtain ⟨a1, b1⟩ := HV.out.2.1 ((p : Int) + 1)
     have a2 : -9223372036854775808 ≤ rd right ((p : Int) + 1) := by omega
     have b2 : rd right ((p : Int) + 1) ≤ 9223372036854775807 := by omega
     go_wp2_with (first | (go_at_call 66; (with_reducible refine (whole_any (rd right ((p : Int) + 1)) _ a2 b2).mono ?_); rintro e w1 ⟨pb, rfl, hpb, hri, hb1⟩; have H1 := Aside0.mk (And.intro hri hb1); clear hri hb1) | ((with_reducible refine gate_builtin (b := .append) (xs := #[.tmp 46, .tmp 53]) rfl ?_); at_builtin; refine Cb.append rfl (.tmp 46) (.tmp 53) 69 74 (.pointer none) 8 rfl Try.underlying69 info74 rfl (Pv.ptr _) (by decide) b cap2 n us (.pointer (some ⟨pb, 0, none⟩)) HI.out.len rfl rfl rfl (Pv.ptr _) (HI.out.below H1.out.2).2.1 (by rw [HI.out.len]; omega) ?_; intro g1 cap1 w2 h1 h2 h3; have HN := Aside0.mk (HI.out.grow H1.out.2 H1.out.1 h1 h2 h3); clear h1 h2 h3) | ((with_reducible refine gate_builtin (b := .append) (xs := #[.tmp 45, .tmp 55]) rfl ?_); at_builtin; refine Cb.append rfl (.tmp 45) (.tmp 55) 137 69 (.slice none 0 0) 24 rfl Try.underlying137 info69 rfl (Pv.slice _ _ _) (by decide) g cap p vs (.slice (some ⟨g1, 0, none⟩) (n + 1) cap1) HG.out.2.2.1 rfl rfl rfl (Pv.slice _ _ _) (HG.out.below HN.out.2.2.2).2.1 (by rw [HG.out.2.2.1]; omega) ?_; intro g2 cap3 w3 h1 h2 h3; have HM := Aside0.mk (Grd.loop1 HG.out HB.out HN.out h1 h2 h3); clear h1 h2 h3))
     go_roundw
     case rel => exact ⟨p + 1, g2, cap3, _, by go_num, by go_num, by omega, ⟨HM.out.1⟩, ⟨HM.out.2⟩⟩
     case measure => simp [intOf]; omega
  ·obtain rfl : n = p := by omega
   have p1 : decide ((n : Int) < (n : Int)) = false := decide_eq_false (by omega)
   have hbk : wq.heap[w.heap.size]? = some (SX ((n : Int) + 1) A l.length c) := blk_below HX.out (by rw [← show W0.heap.size = W0.heap.size from rfl]; exact HB.out)
   have hc1 : wq.cell? ⟨w.heap.size, 1, none⟩ = some (.slice A l.length c) := (blk_cell hbk 1).trans rfl
   obtain ⟨m, hm⟩ : ∃ m, m = n + 1 := ⟨_, rfl⟩
   have HS := Aside0.mk (show St W0 wq g cap vs n m (cst (sgs l (MI0 right n) 0)) by rw [hm]; exact ⟨HG.out, HB.out⟩)
   have HMN := Aside0.mk hm
   have hm5 : m ≤ 5 := by omega
   clear HG HB hbk hm
   go_wp2_with (fail)
   clear hc1
   go_loopw [61] (fun v61 wz => ∃ i : Nat, v61 = .int .i64 (i : Int) ∧ i ≤ l.length ∧ Aside0 (St W0 wz g cap vs n m (cst (sgs l (MI0 right n) i)))) (fun v _ => l.length - (intOf v).toNat)
   case atStart => exact ⟨0, rfl, by omega, HS⟩
   case round =>
    clear HS
    obtain ⟨i, rfl, hi, HS⟩ := hrel
    obtain ⟨wq, rfl⟩ : ∃ wq, wq = wr := ⟨_, rfl⟩
    by_cases hlt : i < l.length
    ·have p1 : decide ((i : Int) < (l.length : Int)) = true := decide_eq_true (by omega)
     obtain ⟨ad, e, x0, x1, x2, x3⟩ := at_T32 (Kd.C_below HR.out HS.out.2) (i : Int) (by omega) (by omega)
     subst e
     rw [Int.toNat_natCast] at x0 x1 x2 x3
     have hva := sight_at HV.out.1 i hlt
     obtain ⟨s, hs⟩ : ∃ s, s = rd_T32 l i := ⟨_, rfl⟩
     rw [← hs] at x0 x1 x2 x3 hva
     obtain ⟨y0, y1, y2, y3, y4, y5, y6⟩ := hva
     have HSS := Aside0.mk hs
     clear hs
     have w0' : -9223372036854775808 ≤ s.f3 := by omega
     have w1' : s.f3 ≤ 9223372036854775807 := by omega
     have HBA := Aside0.mk (below_alloc (Below.refl wq.heap.size wq) (.cells #[.int .i64 s.f0, .int .i64 s.f1, .int .i64 s.f2, .int .i64 s.f3] 32))
     have HNA := Aside0.mk (heap_alloc_new wq (.cells #[.int .i64 s.f0, .int .i64 s.f1, .int .i64 s.f2, .int .i64 s.f3] 32))
     go_wp2_with (go_at_call 66; (with_reducible refine (whole_any s.f3 _ w0' w1').mono ?_); rintro e w1 ⟨pw, rfl, hpw, hri, hb1⟩; have H1 := Aside0.mk (And.intro hri hb1); have c0 : w1.cell? ⟨wq.heap.size, 0, none⟩ = some (.int .i64 s.f0) := (blk_cell (blk_below HNA.out hb1) 0).trans rfl; have c1 : w1.cell? ⟨wq.heap.size, 1, none⟩ = some (.int .i64 s.f1) := (blk_cell (blk_below HNA.out hb1) 1).trans rfl; clear hri hb1)
     go_quiet (fail)
     go_wp2_with (fail)
     have hbl := below_alloc (pw_below_drewN (Below.refl w1.heap.size w1) nq) (.cells #[.int .i64 (s.f0 - 1), .int .i64 (s.f1 - 1)] 3)
     have hab := heap_alloc_new (w1.drewN nq) (.cells #[.int .i64 (s.f0 - 1), .int .i64 (s.f1 - 1)] 3)
     have HS1 := Aside0.mk ((HS.out.call HBA.out).call H1.out.2 |>.call hbl)
     have HPW := Aside0.mk (RI.below H1.out.1 hbl)
     obtain ⟨b7, hb7⟩ : ∃ b7, b7 = w1.heap.size := ⟨_, rfl⟩
     obtain ⟨wb, hwb⟩ : ∃ wb, wb = (w1.drewN nq).alloc (.cells #[.int .i64 (s.f0 - 1), .int .i64 (s.f1 - 1)] 3) := ⟨_, rfl⟩
     rw [← hwb] at HS1 HPW hab
     rw [← hwb]
     have hab' : wb.heap[b7]? = some (.cells #[.int .i64 (s.f0 - 1), .int .i64 (s.f1 - 1)] 3 (0, 0)) := by rw [hb7]; exact hab
     have HAB := Aside0.mk hab'
     obtain ⟨M, hM⟩ : ∃ M, M = sgs l (MI0 right n) i := ⟨_, rfl⟩
     rw [← hM] at HS1
     have hsz : ∀ t r k, t ≤ 4 → Sm 64 (cst (stN s.f3 (s.f0 - 1) (s.f1 - 1) M t) r k) := fun t r k ht => by rw [hM]; exact ent_size HV.out.1 hl8 HV.out.2.1 i hi (by omega) (by omega) t ht r k
     have HSZ := Aside0.mk hsz
     have HSW := Aside0.mk (show Sm 64 ((s.f3 : Int) : Rat) from sm_int (by omega))
     have HM := Aside0.mk hM
     rw [← hb7]
     clear hbl hab hab' hwb hb7 hM hsz c0 c1 H1 HBA HNA HS x0 x1 x2 x3
     go_loopw [78] (fun v78 wz => ∃ x : Nat, v78 = .int .i64 (x : Int) ∧ x ≤ 2 ∧ Aside0 (St W0 wz g cap vs n m (cst (stN s.f3 (s.f0 - 1) (s.f1 - 1) M (2 * x)))) ∧ Aside0 (RI wz pw ((s.f3 : Int) : Rat)) ∧ Aside0 (wz.heap[b7]? = some (.cells #[.int .i64 (s.f0 - 1), .int .i64 (s.f1 - 1)] 3 (0, 0)))) (fun v _ => 2 - (intOf v).toNat)
     case atStart => exact ⟨0, rfl, by omega, HS1, HPW, HAB⟩
     case round =>
      clear HS1 HPW HAB
      obtain ⟨x, rfl, hx2, HS, HPW, HAB⟩ := hrel
      by_cases hxt : x < 2
      ·have p2 : decide ((x : Int) < 2) = true := decide_eq_true (by omega)
       obtain ⟨pI, hpI⟩ : ∃ pI, pI = ptq (s.f0 - 1) (s.f1 - 1) x := ⟨_, rfl⟩
       have u0 : wr.cell? ⟨b7, x, none⟩ = some (.int .i64 pI) := by rw [blk_cell HAB.out, hpI]; exact ptq_cell _ _ x hxt
       have hpn : pI < n := by rw [hpI]; unfold ptq; split <;> omega
       have HBC := Aside0.mk (below_alloc (Below.refl wr.heap.size wr) (.cells #[.int .i64 (s.f0 - 1), .int .i64 (s.f1 - 1)] 3))
       have HAC := Aside0.mk (heap_alloc_new wr (.cells #[.int .i64 (s.f0 - 1), .int .i64 (s.f1 - 1)] 3))
       have HPI := Aside0.mk hpI
       clear hpI
       go_wp2_with (fail)
       have HS1 := Aside0.mk (HS.out.call HBC.out)
       have HPW1 := Aside0.mk (RI.below HPW.out HBC.out)
       have HAB1 := Aside0.mk (blk_below HAB.out HBC.out)
       obtain ⟨b8, hb8⟩ : ∃ b8, b8 = wr.heap.size := ⟨_, rfl⟩
       rw [← hb8] at HAC
       rw [← hb8]
       clear u0 hb8 HS HPW HAB HBC
       go_loopw [86] (fun v86 wz => ∃ y : Nat, v86 = .int .i64 (y : Int) ∧ y ≤ 2 ∧ Aside0 (St W0 wz g cap vs n m (cst (stN s.f3 (s.f0 - 1) (s.f1 - 1) M (2 * x + y)))) ∧ Aside0 (RI wz pw ((s.f3 : Int) : Rat)) ∧ Aside0 (wz.heap[b7]? = some (.cells #[.int .i64 (s.f0 - 1), .int .i64 (s.f1 - 1)] 3 (0, 0))) ∧ Aside0 (wz.heap[b8]? = some (.cells #[.int .i64 (s.f0 - 1), .int .i64 (s.f1 - 1)] 3 (0, 0)))) (fun v _ => 2 - (intOf v).toNat)
       case atStart => exact ⟨0, rfl, by omega, HS1, HPW1, HAB1, HAC⟩
       case round =>
        clear HS1 HPW1 HAB1 HAC
        obtain ⟨y, rfl, hy2, HS, HPW, HAB, HAC⟩ := hrel
        by_cases hyt : y < 2
        ·have p3 : decide ((y : Int) < 2) = true := decide_eq_true (by omega)
         obtain ⟨qI, hqI⟩ : ∃ qI, qI = ptq (s.f0 - 1) (s.f1 - 1) y := ⟨_, rfl⟩
         have u1 : wr.cell? ⟨b8, y, none⟩ = some (.int .i64 qI) := by rw [blk_cell HAC.out, hqI]; exact ptq_cell _ _ y hyt
         have hqn : qI < n := by rw [hqI]; unfold ptq; split <;> omega
         have HST := Aside0.mk (show stN s.f3 (s.f0 - 1) (s.f1 - 1) M (2 * x + (y + 1)) = stp s.f3 pI qI (stN s.f3 (s.f0 - 1) (s.f1 - 1) M (2 * x + y)) by rw [stN_step hyt, ← HPI.out, ← hqI])
         clear hqI
         by_cases hp0 : pI < 0
         ·have d1 : decide (pI < 0) = true := decide_eq_true hp0
          have HST2 := Aside0.mk (HST.out.trans (stp_neg (.inl hp0)))
          clear hp0
          go_wp2_with (fail)
          go_roundw
          case rel => exact ⟨y + 1, by go_num, by omega, ⟨by rw [HST2.out]; exact HS.out⟩, HPW, HAB, HAC⟩
          case measure => simp [intOf]; omega
         ·have d1 : decide (pI < 0) = false := decide_eq_false hp0
          by_cases hq0 : qI < 0
          ·have d2 : decide (qI < 0) = true := decide_eq_true hq0
           have HST2 := Aside0.mk (HST.out.trans (stp_neg (.inr hq0)))
           clear hp0 hq0
           go_wp2_with (fail)
           go_roundw
           case rel => exact ⟨y + 1, by go_num, by omega, ⟨by rw [HST2.out]; exact HS.out⟩, HPW, HAB, HAC⟩
           case measure => simp [intOf]; omega
          ·obtain ⟨p, rfl⟩ : ∃ p : Nat, pI = p := ⟨pI.toNat, by omega⟩
           obtain ⟨q, rfl⟩ : ∃ q : Nat, qI = q := ⟨qI.toNat, by omega⟩
           have d2 : decide ((q : Int) < 0) = false := decide_eq_false hq0
           have hpn' : p < n := by omega
           have hqm : q < m := by have := HMN.out; omega
           have HSM := Aside0.mk (HSZ.out (2 * x + y) p q (by omega))
           obtain ⟨D, hD⟩ : ∃ D, D = stN s.f3 (s.f0 - 1) (s.f1 - 1) M (2 * x + y) := ⟨_, rfl⟩
           rw [← hD] at HS HST HSM
           obtain ⟨bq, cq, px, hv, q0, q1, qf, hpx, qb⟩ := HS.out.at_ hpn' hqm
           have HPX := Aside0.mk hpx
           have i1 : (0 ≤ (p : Int)) = True := eq_true (by omega)
           have i2 : ((p : Int) < (n : Int)) = True := eq_true (by omega)
           have i3 : (0 ≤ (q : Int)) = True := eq_true (by omega)
           have i4 : ((q : Int) < (m : Int)) = True := eq_true (by omega)
           clear hpx hp0 hq0 hD
           by_cases hpq : p = q
           ·have d3 : ((p : Int) == (q : Int)) = true := by simp [hpq]
            have HST2 := Aside0.mk ((congrArg cst HST.out).trans (stp_same (M := D) (w := s.f3) hpq))
            clear hpq
            go_wp2_with (fail)
            refine start_ (n:=16) (S := fun w' => w'.cell? ⟨g, p, none⟩ = some (.slice (some ⟨bq, 0, none⟩) m cq) ∧ w'.cell? ⟨bq, q, none⟩ = some (.pointer (some ⟨px, 0, none⟩))) (ds:=[15]) #[false,false,false,false,false,false,false,false,false,false,false,false,false,false,false,false] (by kernel_rfl) rfl rfl ⟨q0, q1⟩ (fun hHeld => ?_)
            refine pure_ (i:=0) (N:=some 99) (v:=?_) (a':=?_) #[true,false,false,false,false,false,false,false,false,false,false,false,false,false,false,false] rfl rfl (by kernel_rfl) (fun _ _ _ h => h) (Or.inl ⟨by rfl, ?_⟩) ?_ ?_
            rotate_left
            ·intro w'
             go_simp
             with_reducible rfl
            rotate_left
            ·go_simp
             rfl
            refine pure_ (i:=1) (N:=some 100) (v:=?_) (a':=?_) #[true,true,false,false,false,false,false,false,false,false,false,false,false,false,false,false] rfl rfl (by kernel_rfl) (fun _ _ _ h => h) (Or.inl ⟨by rfl, ?_⟩) ?_ ?_
            rotate_left
            ·intro w'
             go_simp
             with_reducible rfl
            rotate_left
            ·go_simp
             rfl
            refine pure_ (i:=2) (N:=some 101) (v:=?_) (a':=?_) #[true,true,true,false,false,false,false,false,false,false,false,false,false,false,false,false] rfl rfl (by kernel_rfl) (fun _ _ _ h => h) (Or.inl ⟨by rfl, ?_⟩) ?_ ?_
            rotate_left
            ·intro w'
             go_simp
             with_reducible rfl
            rotate_left
            ·go_simp
             rfl
            refine pure_ (i:=4) (N:=some 103) (v:=?_) (a':=?_) #[true,true,true,false,true,false,false,false,false,false,false,false,false,false,false,false] rfl rfl (by kernel_rfl) (fun _ _ _ h => h) (Or.inl ⟨by rfl, ?_⟩) ?_ ?_
            rotate_left
            ·intro w'
             go_simp
             with_reducible rfl
            rotate_left
            ·go_simp
             rfl
            refine pure_ (i:=5) (N:=some 104) (v:=?_) (a':=?_) #[true,true,true,false,true,true,false,false,false,false,false,false,false,false,false,false] rfl rfl (by kernel_rfl) (fun _ _ _ h => h) (Or.inl ⟨by rfl, ?_⟩) ?_ ?_
            rotate_left
            ·intro w'
             go_simp
             with_reducible rfl
            rotate_left
            ·go_simp
             rfl
            refine pure_ (i:=6) (N:=some 105) (v:=?_) (a':=?_) #[true,true,true,false,true,true,true,false,false,false,false,false,false,false,false,false] rfl rfl (by kernel_rfl) (fun _ _ _ h => h) (Or.inl ⟨by rfl, ?_⟩) ?_ ?_
            rotate_left
            ·intro w'
             go_simp
             with_reducible rfl
            rotate_left
            ·go_simp
             rfl
            refine pure_ (i:=7) (N:=some 106) (v:=?_) (a':=?_) #[true,true,true,false,true,true,true,true,false,false,false,false,false,false,false,false] rfl rfl (by kernel_rfl) (fun _ _ _ h => h) (Or.inl ⟨by rfl, ?_⟩) ?_ ?_
            rotate_left
            ·intro w'
             go_simp
             with_reducible rfl
            rotate_left
            ·go_simp
             rfl
            refine pure_ (i:=9) (N:=some 108) (v:=?_) (a':=?_) #[true,true,true,false,true,true,true,true,false,true,false,false,false,false,false,false] rfl rfl (by kernel_rfl) (fun _ _ _ h => h) (Or.inl ⟨by rfl, ?_⟩) ?_ ?_
            rotate_left
            ·intro w'
             go_simp
             with_reducible rfl
            rotate_left
            ·go_simp
             rfl
            refine pure_ (i:=12) (N:=some 111) (v:=?_) (a':=?_) #[true,true,true,false,true,true,true,true,false,true,false,false,true,false,false,false] rfl rfl (by kernel_rfl) (fun _ _ _ h => h) (Or.inl ⟨by rfl, ?_⟩) ?_ ?_
            rotate_left
            ·intro w'
             go_simp
             with_reducible rfl
            rotate_left
            ·go_simp
             rfl
            refine take_ (i:=3) (N:=some 102) (v:=?_) (a':=?_) #[true,true,true,true,true,true,true,true,false,true,false,false,true,false,false,false] rfl rfl (by kernel_rfl) (fun _ _ _ h => h) (Or.inl ⟨by rfl, ?_⟩) hHeld ?_ ?_
            rotate_left
            ·rintro w' ⟨s0, s1⟩
             go_simp
             with_reducible rfl
            rotate_left
            ·go_simp
             rfl
            refine take_ (i:=8) (N:=some 107) (v:=?_) (a':=?_) #[true,true,true,true,true,true,true,true,true,true,false,false,true,false,false,false] rfl rfl (by kernel_rfl) (fun _ _ _ h => h) (Or.inl ⟨by rfl, ?_⟩) hHeld ?_ ?_
            rotate_left
            ·rintro w' ⟨s0, s1⟩
             go_simp
             with_reducible rfl
            rotate_left
            ·go_simp
             rfl
            refine pure_ (i:=10) (N:=some 109) (v:=?_) (a':=?_) #[true,true,true,true,true,true,true,true,true,true,true,false,true,false,false,false] rfl rfl (by kernel_rfl) (fun _ _ _ h => h) (Or.inl ⟨by rfl, ?_⟩) ?_ ?_
            rotate_left
            ·intro w'
             go_simp
             with_reducible rfl
            rotate_left
            ·go_simp
             rfl
            refine take_ (i:=11) (N:=some 110) (v:=?_) (a':=?_) #[true,true,true,true,true,true,true,true,true,true,true,true,true,false,false,false] rfl rfl (by kernel_rfl) (fun _ _ _ h => h) (Or.inl ⟨by rfl, ?_⟩) hHeld ?_ ?_
            rotate_left
            ·rintro w' ⟨s0, s1⟩
             go_simp
             with_reducible rfl
            rotate_left
            ·go_simp
             rfl
            refine one_ (i:=13) (N:=some 112) #[true,true,true,true,true,true,true,true,true,true,true,true,true,true,false,false] rfl rfl (by kernel_rfl) (by decide) (fun K_ hK => ?_)
            refine goes_ Try.func68 (by kernel_rfl) rfl #[.pointer (some ⟨px, 0, none⟩), .pointer (some ⟨pw, 0, none⟩)] (by rfl) rfl rfl (by (try simp only [List.map_toArray, List.map_cons, List.map_nil]); first | done | rfl) ?_
            refine (ratPlus_any px pw (cst D p q) ((s.f3 : Int) : Rat) 64 wr.drew (RI.below HPX.out (below_drew (Below.refl wr.heap.size wr))) (RI.below HPW.out (below_drew (Below.refl wr.heap.size wr))) (by omega) HSM.out HSW.out).mono ?_
            rintro e w1 ⟨pz1, rfl, hpz, hri, hb1⟩
            have HB1 := Aside0.mk (below_step (below_drew (Below.refl wr.heap.size wr)) hb1)
            have HZ1 := Aside0.mk hri
            clear hpz hri hb1
            have z0 := (HB1.out.cell (World.block_lt_of_cell? _ _ q1)).trans q1
            have z1 := (World.frozen?_of_block (w := wr) (a := ⟨bq, q, none⟩) (HB1.out.block bq qb)).trans qf
            refine ⟨_, rfl, ?_⟩
            refine hK.out _ _ ⟨(HB1.out.cell (World.block_lt_of_cell? _ _ q0)).trans q0, (HB1.out.cell (World.block_lt_of_cell? _ _ q1)).trans q1⟩ (fun hHeld => ?_)
            clear hK K_
            refine norm_ (a':=?_) ?_ ?_
            rotate_left
            ·show Act.put _ (some 112) _ = _
             go_simp
             rfl
            refine pure_ (i:=14) (N:=some 113) (v:=?_) (a':=?_) #[true,true,true,true,true,true,true,true,true,true,true,true,true,true,true,false] rfl rfl (by kernel_rfl) (fun _ _ _ h => h) (Or.inl ⟨by rfl, ?_⟩) ?_ ?_
            rotate_left
            ·intro w'
             go_simp
             with_reducible rfl
            rotate_left
            ·go_simp
             rfl
            refine last_ (i:=15) (N:=none) #[true,true,true,true,true,true,true,true,true,true,true,true,true,true,true,true] rfl rfl (by kernel_rfl) (by decide) (fun K_ hK => ?_)
            refine skip_ (w1 := ?_) (by rfl) rfl ?_ ?_
            rotate_left
            ·go_simp
             rfl
            refine hK.out _ _ ?_
            clear hK K_
            refine done_ (by kernel_rfl) ?_
            go_wp2_with (fail)
            have hst := HS.out.step HB1.out hv hpn' hqm HZ1.out
            go_roundw
            case rel => exact ⟨y + 1, by go_num, by omega, ⟨by rw [HST2.out]; exact hst.1⟩, ⟨RI.par HPW.out hst.2.1⟩, ⟨hst.2.2 _ _ _ (by decide) HAB.out⟩, ⟨hst.2.2 _ _ _ (by decide) HAC.out⟩⟩
            case measure => simp [intOf]; omega
           ·have d3 : ((p : Int) == (q : Int)) = false := by simpa using fun e : (p : Int) = q => hpq (by omega)
            have HST2 := Aside0.mk ((congrArg cst HST.out).trans (stp_other (M := D) (w := s.f3) hpq))
            clear hpq
            go_wp2_with (fail)
            refine start_ (n:=16) (S := fun w' => w'.cell? ⟨g, p, none⟩ = some (.slice (some ⟨bq, 0, none⟩) m cq) ∧ w'.cell? ⟨bq, q, none⟩ = some (.pointer (some ⟨px, 0, none⟩))) (ds:=[15]) #[false,false,false,false,false,false,false,false,false,false,false,false,false,false,false,false] (by kernel_rfl) rfl rfl ⟨q0, q1⟩ (fun hHeld => ?_)
            refine pure_ (i:=0) (N:=some 114) (v:=?_) (a':=?_) #[true,false,false,false,false,false,false,false,false,false,false,false,false,false,false,false] rfl rfl (by kernel_rfl) (fun _ _ _ h => h) (Or.inl ⟨by rfl, ?_⟩) ?_ ?_
            rotate_left
            ·intro w'
             go_simp
             with_reducible rfl
            rotate_left
            ·go_simp
             rfl
            refine pure_ (i:=1) (N:=some 115) (v:=?_) (a':=?_) #[true,true,false,false,false,false,false,false,false,false,false,false,false,false,false,false] rfl rfl (by kernel_rfl) (fun _ _ _ h => h) (Or.inl ⟨by rfl, ?_⟩) ?_ ?_
            rotate_left
            ·intro w'
             go_simp
             with_reducible rfl
            rotate_left
            ·go_simp
             rfl
            refine pure_ (i:=2) (N:=some 116) (v:=?_) (a':=?_) #[true,true,true,false,false,false,false,false,false,false,false,false,false,false,false,false] rfl rfl (by kernel_rfl) (fun _ _ _ h => h) (Or.inl ⟨by rfl, ?_⟩) ?_ ?_
            rotate_left
            ·intro w'
             go_simp
             with_reducible rfl
            rotate_left
            ·go_simp
             rfl
            refine pure_ (i:=4) (N:=some 118) (v:=?_) (a':=?_) #[true,true,true,false,true,false,false,false,false,false,false,false,false,false,false,false] rfl rfl (by kernel_rfl) (fun _ _ _ h => h) (Or.inl ⟨by rfl, ?_⟩) ?_ ?_
            rotate_left
            ·intro w'
             go_simp
             with_reducible rfl
            rotate_left
            ·go_simp
             rfl
            refine pure_ (i:=5) (N:=some 119) (v:=?_) (a':=?_) #[true,true,true,false,true,true,false,false,false,false,false,false,false,false,false,false] rfl rfl (by kernel_rfl) (fun _ _ _ h => h) (Or.inl ⟨by rfl, ?_⟩) ?_ ?_
            rotate_left
            ·intro w'
             go_simp
             with_reducible rfl
            rotate_left
            ·go_simp
             rfl
            refine pure_ (i:=6) (N:=some 120) (v:=?_) (a':=?_) #[true,true,true,false,true,true,true,false,false,false,false,false,false,false,false,false] rfl rfl (by kernel_rfl) (fun _ _ _ h => h) (Or.inl ⟨by rfl, ?_⟩) ?_ ?_
            rotate_left
            ·intro w'
             go_simp
             with_reducible rfl
            rotate_left
            ·go_simp
             rfl
            refine pure_ (i:=7) (N:=some 121) (v:=?_) (a':=?_) #[true,true,true,false,true,true,true,true,false,false,false,false,false,false,false,false] rfl rfl (by kernel_rfl) (fun _ _ _ h => h) (Or.inl ⟨by rfl, ?_⟩) ?_ ?_
            rotate_left
            ·intro w'
             go_simp
             with_reducible rfl
            rotate_left
            ·go_simp
             rfl
            refine pure_ (i:=9) (N:=some 123) (v:=?_) (a':=?_) #[true,true,true,false,true,true,true,true,false,true,false,false,false,false,false,false] rfl rfl (by kernel_rfl) (fun _ _ _ h => h) (Or.inl ⟨by rfl, ?_⟩) ?_ ?_
            rotate_left
            ·intro w'
             go_simp
             with_reducible rfl
            rotate_left
            ·go_simp
             rfl
            refine pure_ (i:=12) (N:=some 126) (v:=?_) (a':=?_) #[true,true,true,false,true,true,true,true,false,true,false,false,true,false,false,false] rfl rfl (by kernel_rfl) (fun _ _ _ h => h) (Or.inl ⟨by rfl, ?_⟩) ?_ ?_
            rotate_left
            ·intro w'
             go_simp
             with_reducible rfl
            rotate_left
            ·go_simp
             rfl
            refine take_ (i:=3) (N:=some 117) (v:=?_) (a':=?_) #[true,true,true,true,true,true,true,true,false,true,false,false,true,false,false,false] rfl rfl (by kernel_rfl) (fun _ _ _ h => h) (Or.inl ⟨by rfl, ?_⟩) hHeld ?_ ?_
            rotate_left
            ·rintro w' ⟨s0, s1⟩
             go_simp
             with_reducible rfl
            rotate_left
            ·go_simp
             rfl
            refine take_ (i:=8) (N:=some 122) (v:=?_) (a':=?_) #[true,true,true,true,true,true,true,true,true,true,false,false,true,false,false,false] rfl rfl (by kernel_rfl) (fun _ _ _ h => h) (Or.inl ⟨by rfl, ?_⟩) hHeld ?_ ?_
            rotate_left
            ·rintro w' ⟨s0, s1⟩
             go_simp
             with_reducible rfl
            rotate_left
            ·go_simp
             rfl
            refine pure_ (i:=10) (N:=some 124) (v:=?_) (a':=?_) #[true,true,true,true,true,true,true,true,true,true,true,false,true,false,false,false] rfl rfl (by kernel_rfl) (fun _ _ _ h => h) (Or.inl ⟨by rfl, ?_⟩) ?_ ?_
            rotate_left
            ·intro w'
             go_simp
             with_reducible rfl
            rotate_left
            ·go_simp
             rfl
            refine take_ (i:=11) (N:=some 125) (v:=?_) (a':=?_) #[true,true,true,true,true,true,true,true,true,true,true,true,true,false,false,false] rfl rfl (by kernel_rfl) (fun _ _ _ h => h) (Or.inl ⟨by rfl, ?_⟩) hHeld ?_ ?_
            rotate_left
            ·rintro w' ⟨s0, s1⟩
             go_simp
             with_reducible rfl
            rotate_left
            ·go_simp
             rfl
            refine one_ (i:=13) (N:=some 127) #[true,true,true,true,true,true,true,true,true,true,true,true,true,true,false,false] rfl rfl (by kernel_rfl) (by decide) (fun K_ hK => ?_)
            refine goes_ Try.func65 (by kernel_rfl) rfl #[.pointer (some ⟨px, 0, none⟩), .pointer (some ⟨pw, 0, none⟩)] (by rfl) rfl rfl (by (try simp only [List.map_toArray, List.map_cons, List.map_nil]); first | done | rfl) ?_
            refine (ratMinus_any px pw (cst D p q) ((s.f3 : Int) : Rat) 64 wr.drew (RI.below HPX.out (below_drew (Below.refl wr.heap.size wr))) (RI.below HPW.out (below_drew (Below.refl wr.heap.size wr))) (by omega) HSM.out HSW.out).mono ?_
            rintro e w1 ⟨pz1, rfl, hpz, hri, hb1⟩
            have HB1 := Aside0.mk (below_step (below_drew (Below.refl wr.heap.size wr)) hb1)
            have HZ1 := Aside0.mk hri
            clear hpz hri hb1
            have z0 := (HB1.out.cell (World.block_lt_of_cell? _ _ q1)).trans q1
            have z1 := (World.frozen?_of_block (w := wr) (a := ⟨bq, q, none⟩) (HB1.out.block bq qb)).trans qf
            refine ⟨_, rfl, ?_⟩
            refine hK.out _ _ ⟨(HB1.out.cell (World.block_lt_of_cell? _ _ q0)).trans q0, (HB1.out.cell (World.block_lt_of_cell? _ _ q1)).trans q1⟩ (fun hHeld => ?_)
            clear hK K_
            refine norm_ (a':=?_) ?_ ?_
            rotate_left
            ·show Act.put _ (some 127) _ = _
             go_simp
             rfl
            refine pure_ (i:=14) (N:=some 128) (v:=?_) (a':=?_) #[true,true,true,true,true,true,true,true,true,true,true,true,true,true,true,false] rfl rfl (by kernel_rfl) (fun _ _ _ h => h) (Or.inl ⟨by rfl, ?_⟩) ?_ ?_
            rotate_left
            ·intro w'
             go_simp
             with_reducible rfl
            rotate_left
            ·go_simp
             rfl
            refine last_ (i:=15) (N:=none) #[true,true,true,true,true,true,true,true,true,true,true,true,true,true,true,true] rfl rfl (by kernel_rfl) (by decide) (fun K_ hK => ?_)
            refine skip_ (w1 := ?_) (by rfl) rfl ?_ ?_
            rotate_left
            ·go_simp
             rfl
            refine hK.out _ _ ?_
            clear hK K_
            refine done_ (by kernel_rfl) ?_
            go_wp2_with (fail)
            have hst := HS.out.step HB1.out hv hpn' hqm HZ1.out
            go_roundw
            case rel => exact ⟨y + 1, by go_num, by omega, ⟨by rw [HST2.out]; exact hst.1⟩, ⟨RI.par HPW.out hst.2.1⟩, ⟨hst.2.2 _ _ _ (by decide) HAB.out⟩, ⟨hst.2.2 _ _ _ (by decide) HAC.out⟩⟩
            case measure => simp [intOf]; omega
        ·obtain rfl : y = 2 := by omega
         have p3 : decide (((2 : Nat) : Int) < 2) = false := by decide
         go_wp2_with (fail)
         go_roundw
         case rel => exact ⟨x + 1, by go_num, by omega, HS, HPW, HAB⟩
         case measure => simp [intOf]; omega
      ·obtain rfl : x = 2 := by omega
       have p2 : decide (((2 : Nat) : Int) < 2) = false := by decide
       go_wp2_with (fail)
       go_roundw
       case rel => exact ⟨i + 1, by go_num, by omega, ⟨by have h := HS.out; rw [HM.out, HSS.out] at h; exact h⟩⟩
       case measure => simp [intOf]; omega
    ·obtain rfl : i = l.length := by omega
     have p1 : decide ((l.length : Int) < (l.length : Int)) = false := decide_eq_false (by omega)
     obtain ⟨M0, hM0⟩ : ∃ M0, M0 = cst (tab l right n) := ⟨_, rfl⟩
     have HS1 := Aside0.mk (show St W0 wq g cap vs n m (gj M0 0) by rw [hM0]; exact HS.out)
     have hpv : ∀ c, c < n → gj M0 c c c ≠ 0 := by rw [hM0]; exact HV.out.2.2
     have HSZ := Aside0.mk (gj_size M0 n (fun r k => by rw [hM0]; exact ent_size (w := 0) (a := 0) (b := 0) HV.out.1 hl8 HV.out.2.1 l.length (Nat.le_refl _) (by omega) (by omega) 0 (by omega) r k) hpv)
     have HPV := Aside0.mk hpv
     have HM0 := Aside0.mk hM0
     clear HS hpv hM0
     go_wp2_with (fail)
     go_loopw [133] (fun v133 wz => ∃ j : Nat, v133 = .int .i64 (j : Int) ∧ j ≤ n ∧ Aside0 (St W0 wz g cap vs n m (gj M0 j))) (fun v _ => n - (intOf v).toNat)
     case atStart => exact ⟨0, rfl, by omega, HS1⟩
     case round =>
      clear HS1
      obtain ⟨j, rfl, hj, HS⟩ := hrel
      obtain ⟨wq, rfl⟩ : ∃ wq, wq = wr := ⟨_, rfl⟩
      by_cases hjt : j < n
      ·have p1 : decide ((j : Int) < (n : Int)) = true := decide_eq_true (by omega)
       obtain ⟨D, hD⟩ : ∃ D, D = gj M0 j := ⟨_, rfl⟩
       obtain ⟨K, hK⟩ : ∃ K, K = Kf j := ⟨_, rfl⟩
       have hK2 : K ≤ 16725 := by rw [hK]; exact Kf_le j (by omega)
       have HDS := Aside0.mk (show ∀ r k, Sm K (D r k) by rw [hK, hD]; exact HSZ.out j hj)
       have HDN := Aside0.mk (show D j j ≠ 0 by rw [hD]; exact HPV.out j hjt)
       have HD := Aside0.mk (show ∀ r k, r < n → k < m → elm (dvd D j m) j n 0 r k = gj M0 (j + 1) r k from fun r k hr hk => by rw [HMN.out, hD]; exact (gj_succ M0 j n r k hr (by have := HMN.out; omega) hjt).symm)
       rw [← hD] at HS
       clear hD hK
       go_wp2_with (fail)
       go_loopw [19] (fun v19 wz => v19 = .int .i64 (j : Int) ∧ Aside0 (St W0 wz g cap vs n m D)) (fun _ _ => 0)
       case atStart => exact ⟨rfl, HS⟩
       case round =>
        clear HS
        obtain ⟨rfl, HS⟩ := hrel
        have hjm : j < m := by have := HMN.out; omega
        obtain ⟨bq, cq, px, hv, q0, q1, qf, hpx, qb⟩ := HS.out.at_ hjt hjm
        have q0f := HS.out.row_ hjt
        have i1 : (0 ≤ (j : Int)) = True := eq_true (by omega)
        have i2 : ((j : Int) < (n : Int)) = True := eq_true (by omega)
        have i4 : ((j : Int) < (m : Int)) = True := eq_true (by omega)
        have d1 := sign_ne HDN.out
        go_wp2_with (go_at_call 91; (with_reducible refine (rsign_any px _ _ hpx).mono ?_); rintro e w1 ⟨rfl, rfl⟩)
        refine start_ (n:=16) (S := fun w' => w'.cell? ⟨g, j, none⟩ = some (.slice (some ⟨bq, 0, none⟩) m cq)) (ds:=[15]) #[false,false,false,false,false,false,false,false,false,false,false,false,false,false,false,false] (by kernel_rfl) rfl rfl q0 (fun hHeld => ?_)
        refine pure_ (i:=0) (N:=some 148) (v:=?_) (a':=?_) #[true,false,false,false,false,false,false,false,false,false,false,false,false,false,false,false] rfl rfl (by kernel_rfl) (fun _ _ _ h => h) (Or.inl ⟨by rfl, ?_⟩) ?_ ?_
        rotate_left
        ·intro w'
         go_simp
         with_reducible rfl
        rotate_left
        ·go_simp
         rfl
        refine pure_ (i:=1) (N:=some 149) (v:=?_) (a':=?_) #[true,true,false,false,false,false,false,false,false,false,false,false,false,false,false,false] rfl rfl (by kernel_rfl) (fun _ _ _ h => h) (Or.inl ⟨by rfl, ?_⟩) ?_ ?_
        rotate_left
        ·intro w'
         go_simp
         with_reducible rfl
        rotate_left
        ·go_simp
         rfl
        refine pure_ (i:=2) (N:=some 150) (v:=?_) (a':=?_) #[true,true,true,false,false,false,false,false,false,false,false,false,false,false,false,false] rfl rfl (by kernel_rfl) (fun _ _ _ h => h) (Or.inl ⟨by rfl, ?_⟩) ?_ ?_
        rotate_left
        ·intro w'
         go_simp
         with_reducible rfl
        rotate_left
        ·go_simp
         rfl
        refine pure_ (i:=3) (N:=some 151) (v:=?_) (a':=?_) #[true,true,true,true,false,false,false,false,false,false,false,false,false,false,false,false] rfl rfl (by kernel_rfl) (fun _ _ _ h => h) (Or.inl ⟨by rfl, ?_⟩) ?_ ?_
        rotate_left
        ·intro w'
         go_simp
         with_reducible rfl
        rotate_left
        ·go_simp
         rfl
        refine pure_ (i:=4) (N:=some 152) (v:=?_) (a':=?_) #[true,true,true,true,true,false,false,false,false,false,false,false,false,false,false,false] rfl rfl (by kernel_rfl) (fun _ _ _ h => h) (Or.inl ⟨by rfl, ?_⟩) ?_ ?_
        rotate_left
        ·intro w'
         go_simp
         with_reducible rfl
        rotate_left
        ·go_simp
         rfl
        refine pure_ (i:=5) (N:=some 153) (v:=?_) (a':=?_) #[true,true,true,true,true,true,false,false,false,false,false,false,false,false,false,false] rfl rfl (by kernel_rfl) (fun _ _ _ h => h) (Or.inl ⟨by rfl, ?_⟩) ?_ ?_
        rotate_left
        ·intro w'
         go_simp
         with_reducible rfl
        rotate_left
        ·go_simp
         rfl
        refine pure_ (i:=6) (N:=some 154) (v:=?_) (a':=?_) #[true,true,true,true,true,true,true,false,false,false,false,false,false,false,false,false] rfl rfl (by kernel_rfl) (fun _ _ _ h => h) (Or.inl ⟨by rfl, ?_⟩) ?_ ?_
        rotate_left
        ·intro w'
         go_simp
         with_reducible rfl
        rotate_left
        ·go_simp
         rfl
        refine pure_ (i:=8) (N:=some 156) (v:=?_) (a':=?_) #[true,true,true,true,true,true,true,false,true,false,false,false,false,false,false,false] rfl rfl (by kernel_rfl) (fun _ _ _ h => h) (Or.inl ⟨by rfl, ?_⟩) ?_ ?_
        rotate_left
        ·intro w'
         go_simp
         with_reducible rfl
        rotate_left
        ·go_simp
         rfl
        refine pure_ (i:=9) (N:=some 157) (v:=?_) (a':=?_) #[true,true,true,true,true,true,true,false,true,true,false,false,false,false,false,false] rfl rfl (by kernel_rfl) (fun _ _ _ h => h) (Or.inl ⟨by rfl, ?_⟩) ?_ ?_
        rotate_left
        ·intro w'
         go_simp
         with_reducible rfl
        rotate_left
        ·go_simp
         rfl
        refine pure_ (i:=10) (N:=some 158) (v:=?_) (a':=?_) #[true,true,true,true,true,true,true,false,true,true,true,false,false,false,false,false] rfl rfl (by kernel_rfl) (fun _ _ _ h => h) (Or.inl ⟨by rfl, ?_⟩) ?_ ?_
        rotate_left
        ·intro w'
         go_simp
         with_reducible rfl
        rotate_left
        ·go_simp
         rfl
        refine take_ (i:=7) (N:=some 155) (v:=?_) (a':=?_) #[true,true,true,true,true,true,true,true,true,true,true,false,false,false,false,false] rfl rfl (by kernel_rfl) (fun _ _ _ h => h) (Or.inl ⟨by rfl, ?_⟩) hHeld ?_ ?_
        rotate_left
        ·rintro w' s0
         go_simp
         with_reducible rfl
        rotate_left
        ·go_simp
         rfl
        refine take_ (i:=11) (N:=some 159) (v:=?_) (a':=?_) #[true,true,true,true,true,true,true,true,true,true,true,true,false,false,false,false] rfl rfl (by kernel_rfl) (fun _ _ _ h => h) (Or.inl ⟨by rfl, ?_⟩) hHeld ?_ ?_
        rotate_left
        ·rintro w' s0
         go_simp
         with_reducible rfl
        rotate_left
        ·go_simp
         rfl
        refine pure_ (i:=12) (N:=some 160) (v:=?_) (a':=?_) #[true,true,true,true,true,true,true,true,true,true,true,true,true,false,false,false] rfl rfl (by kernel_rfl) (fun _ _ _ h => h) (Or.inl ⟨by rfl, ?_⟩) ?_ ?_
        rotate_left
        ·intro w'
         go_simp
         with_reducible rfl
        rotate_left
        ·go_simp
         rfl
        refine one_ (i:=13) (N:=none) #[true,true,true,true,true,true,true,true,true,true,true,true,true,true,false,false] rfl rfl (by kernel_rfl) (by decide) (fun K_ hK => ?_)
        refine skip_ (w1 := ?_) (by rfl) rfl ?_ ?_
        rotate_left
        ·go_simp
         rfl
        have z0 := World.cell?_setCell_same w1.drew ⟨g, j, none⟩ (.slice (some ⟨bq, 0, none⟩) m cq) q0
        refine hK.out _ _ z0 (fun hHeld => ?_)
        clear hK K_
        refine pure_ (i:=14) (N:=some 161) (v:=?_) (a':=?_) #[true,true,true,true,true,true,true,true,true,true,true,true,true,true,true,false] rfl rfl (by kernel_rfl) (fun _ _ _ h => h) (Or.inl ⟨by rfl, ?_⟩) ?_ ?_
        rotate_left
        ·intro w'
         go_simp
         with_reducible rfl
        rotate_left
        ·go_simp
         rfl
        refine last_ (i:=15) (N:=none) #[true,true,true,true,true,true,true,true,true,true,true,true,true,true,true,true] rfl rfl (by kernel_rfl) (by decide) (fun K_ hK => ?_)
        refine skip_ (w1 := ?_) (by rfl) rfl ?_ ?_
        rotate_left
        ·go_simp
         rfl
        refine hK.out _ _ ?_
        clear hK K_
        refine done_ (by kernel_rfl) ?_
        have HS1 := Aside0.mk (HS.out.swap hjt hv)
        obtain ⟨ws, hws⟩ : ∃ ws, ws = ((w1.setCell ⟨g, j, none⟩ (.slice (some ⟨bq, 0, none⟩) m cq)).setCell ⟨g, j, none⟩ (.slice (some ⟨bq, 0, none⟩) m cq)).drew := ⟨_, rfl⟩
        rw [← hws] at HS1
        rw [← hws]
        clear q0 q1 qf hpx qb q0f hv HS hws
        obtain ⟨bq2, cq2, pd, hv, q0, q1, qf, hpd, qb⟩ := HS1.out.at_ hjt hjm
        have HPD := Aside0.mk hpd
        clear hpd
        go_wp2_with (fail)
        clear q0 q1 qf qb hv
        go_loopw [174] (fun v174 wz => ∃ k : Nat, v174 = .int .i64 (k : Int) ∧ k ≤ m ∧ Aside0 (St W0 wz g cap vs n m (dvd D j k)) ∧ Aside0 (RI wz pd (D j j))) (fun v _ => m - (intOf v).toNat)
        case atStart => exact ⟨0, rfl, by omega, ⟨by rw [dvd_zero]; exact HS1.out⟩, HPD⟩
        case round =>
         clear HS1 HPD
         obtain ⟨k, rfl, hk, HS, HPD⟩ := hrel
         by_cases hkt : k < m
         ·have p2 : decide ((k : Int) < (m : Int)) = true := decide_eq_true (by omega)
          obtain ⟨bq, cq, px, hv, q0, q1, qf, hpx, qb⟩ := HS.out.at_ hjt hkt
          rw [dvd_at] at hpx
          have HPX := Aside0.mk hpx
          have i3 : (0 ≤ (k : Int)) = True := eq_true (by omega)
          have i5 : ((k : Int) < (m : Int)) = True := eq_true (by omega)
          clear hpx
          go_wp2_with (fail)
          refine start_ (n:=16) (S := fun w' => w'.cell? ⟨g, j, none⟩ = some (.slice (some ⟨bq, 0, none⟩) m cq) ∧ w'.cell? ⟨bq, k, none⟩ = some (.pointer (some ⟨px, 0, none⟩))) (ds:=[15]) #[false,false,false,false,false,false,false,false,false,false,false,false,false,false,false,false] (by kernel_rfl) rfl rfl ⟨q0, q1⟩ (fun hHeld => ?_)
          refine pure_ (i:=0) (N:=some 177) (v:=?_) (a':=?_) #[true,false,false,false,false,false,false,false,false,false,false,false,false,false,false,false] rfl rfl (by kernel_rfl) (fun _ _ _ h => h) (Or.inl ⟨by rfl, ?_⟩) ?_ ?_
          rotate_left
          ·intro w'
           go_simp
           with_reducible rfl
          rotate_left
          ·go_simp
           rfl
          refine pure_ (i:=1) (N:=some 178) (v:=?_) (a':=?_) #[true,true,false,false,false,false,false,false,false,false,false,false,false,false,false,false] rfl rfl (by kernel_rfl) (fun _ _ _ h => h) (Or.inl ⟨by rfl, ?_⟩) ?_ ?_
          rotate_left
          ·intro w'
           go_simp
           with_reducible rfl
          rotate_left
          ·go_simp
           rfl
          refine pure_ (i:=2) (N:=some 179) (v:=?_) (a':=?_) #[true,true,true,false,false,false,false,false,false,false,false,false,false,false,false,false] rfl rfl (by kernel_rfl) (fun _ _ _ h => h) (Or.inl ⟨by rfl, ?_⟩) ?_ ?_
          rotate_left
          ·intro w'
           go_simp
           with_reducible rfl
          rotate_left
          ·go_simp
           rfl
          refine pure_ (i:=4) (N:=some 181) (v:=?_) (a':=?_) #[true,true,true,false,true,false,false,false,false,false,false,false,false,false,false,false] rfl rfl (by kernel_rfl) (fun _ _ _ h => h) (Or.inl ⟨by rfl, ?_⟩) ?_ ?_
          rotate_left
          ·intro w'
           go_simp
           with_reducible rfl
          rotate_left
          ·go_simp
           rfl
          refine pure_ (i:=5) (N:=some 182) (v:=?_) (a':=?_) #[true,true,true,false,true,true,false,false,false,false,false,false,false,false,false,false] rfl rfl (by kernel_rfl) (fun _ _ _ h => h) (Or.inl ⟨by rfl, ?_⟩) ?_ ?_
          rotate_left
          ·intro w'
           go_simp
           with_reducible rfl
          rotate_left
          ·go_simp
           rfl
          refine pure_ (i:=6) (N:=some 183) (v:=?_) (a':=?_) #[true,true,true,false,true,true,true,false,false,false,false,false,false,false,false,false] rfl rfl (by kernel_rfl) (fun _ _ _ h => h) (Or.inl ⟨by rfl, ?_⟩) ?_ ?_
          rotate_left
          ·intro w'
           go_simp
           with_reducible rfl
          rotate_left
          ·go_simp
           rfl
          refine pure_ (i:=7) (N:=some 184) (v:=?_) (a':=?_) #[true,true,true,false,true,true,true,true,false,false,false,false,false,false,false,false] rfl rfl (by kernel_rfl) (fun _ _ _ h => h) (Or.inl ⟨by rfl, ?_⟩) ?_ ?_
          rotate_left
          ·intro w'
           go_simp
           with_reducible rfl
          rotate_left
          ·go_simp
           rfl
          refine pure_ (i:=9) (N:=some 186) (v:=?_) (a':=?_) #[true,true,true,false,true,true,true,true,false,true,false,false,false,false,false,false] rfl rfl (by kernel_rfl) (fun _ _ _ h => h) (Or.inl ⟨by rfl, ?_⟩) ?_ ?_
          rotate_left
          ·intro w'
           go_simp
           with_reducible rfl
          rotate_left
          ·go_simp
           rfl
          refine pure_ (i:=12) (N:=some 189) (v:=?_) (a':=?_) #[true,true,true,false,true,true,true,true,false,true,false,false,true,false,false,false] rfl rfl (by kernel_rfl) (fun _ _ _ h => h) (Or.inl ⟨by rfl, ?_⟩) ?_ ?_
          rotate_left
          ·intro w'
           go_simp
           with_reducible rfl
          rotate_left
          ·go_simp
           rfl
          refine take_ (i:=3) (N:=some 180) (v:=?_) (a':=?_) #[true,true,true,true,true,true,true,true,false,true,false,false,true,false,false,false] rfl rfl (by kernel_rfl) (fun _ _ _ h => h) (Or.inl ⟨by rfl, ?_⟩) hHeld ?_ ?_
          rotate_left
          ·rintro w' ⟨s0, s1⟩
           go_simp
           with_reducible rfl
          rotate_left
          ·go_simp
           rfl
          refine take_ (i:=8) (N:=some 185) (v:=?_) (a':=?_) #[true,true,true,true,true,true,true,true,true,true,false,false,true,false,false,false] rfl rfl (by kernel_rfl) (fun _ _ _ h => h) (Or.inl ⟨by rfl, ?_⟩) hHeld ?_ ?_
          rotate_left
          ·rintro w' ⟨s0, s1⟩
           go_simp
           with_reducible rfl
          rotate_left
          ·go_simp
           rfl
          refine pure_ (i:=10) (N:=some 187) (v:=?_) (a':=?_) #[true,true,true,true,true,true,true,true,true,true,true,false,true,false,false,false] rfl rfl (by kernel_rfl) (fun _ _ _ h => h) (Or.inl ⟨by rfl, ?_⟩) ?_ ?_
          rotate_left
          ·intro w'
           go_simp
           with_reducible rfl
          rotate_left
          ·go_simp
           rfl
          refine take_ (i:=11) (N:=some 188) (v:=?_) (a':=?_) #[true,true,true,true,true,true,true,true,true,true,true,true,true,false,false,false] rfl rfl (by kernel_rfl) (fun _ _ _ h => h) (Or.inl ⟨by rfl, ?_⟩) hHeld ?_ ?_
          rotate_left
          ·rintro w' ⟨s0, s1⟩
           go_simp
           with_reducible rfl
          rotate_left
          ·go_simp
           rfl
          refine one_ (i:=13) (N:=some 190) #[true,true,true,true,true,true,true,true,true,true,true,true,true,true,false,false] rfl rfl (by kernel_rfl) (by decide) (fun K_ hK => ?_)
          refine goes_ Try.func92 (by kernel_rfl) rfl #[.pointer (some ⟨px, 0, none⟩), .pointer (some ⟨pd, 0, none⟩)] (by rfl) rfl rfl (by (try simp only [List.map_toArray, List.map_cons, List.map_nil]); first | done | rfl) ?_
          refine (ratOver_any px pd (D j k) (D j j) K wr.drew (RI.below HPX.out (below_drew (Below.refl wr.heap.size wr))) (RI.below HPD.out (below_drew (Below.refl wr.heap.size wr))) (by omega) (HDS.out j k) (HDS.out j j) HDN.out).mono ?_
          rintro e w1 ⟨pz1, rfl, hpz, hri, hb1⟩
          have HB1 := Aside0.mk (below_step (below_drew (Below.refl wr.heap.size wr)) hb1)
          have HZ1 := Aside0.mk hri
          clear hpz hri hb1
          have z0 := (HB1.out.cell (World.block_lt_of_cell? _ _ q1)).trans q1
          have z1 := (World.frozen?_of_block (w := wr) (a := ⟨bq, k, none⟩) (HB1.out.block bq qb)).trans qf
          refine ⟨_, rfl, ?_⟩
          refine hK.out _ _ ⟨(HB1.out.cell (World.block_lt_of_cell? _ _ q0)).trans q0, (HB1.out.cell (World.block_lt_of_cell? _ _ q1)).trans q1⟩ (fun hHeld => ?_)
          clear hK K_
          refine norm_ (a':=?_) ?_ ?_
          rotate_left
          ·show Act.put _ (some 190) _ = _
           go_simp
           rfl
          refine pure_ (i:=14) (N:=some 191) (v:=?_) (a':=?_) #[true,true,true,true,true,true,true,true,true,true,true,true,true,true,true,false] rfl rfl (by kernel_rfl) (fun _ _ _ h => h) (Or.inl ⟨by rfl, ?_⟩) ?_ ?_
          rotate_left
          ·intro w'
           go_simp
           with_reducible rfl
          rotate_left
          ·go_simp
           rfl
          refine last_ (i:=15) (N:=none) #[true,true,true,true,true,true,true,true,true,true,true,true,true,true,true,true] rfl rfl (by kernel_rfl) (by decide) (fun K_ hK => ?_)
          refine skip_ (w1 := ?_) (by rfl) rfl ?_ ?_
          rotate_left
          ·go_simp
           rfl
          refine hK.out _ _ ?_
          clear hK K_
          refine done_ (by kernel_rfl) ?_
          go_wp2_with (fail)
          have hst := HS.out.step HB1.out hv hjt hkt HZ1.out
          rw [dvd_succ] at hst
          go_roundw
          case rel => exact ⟨k + 1, by go_num, by omega, ⟨hst.1⟩, ⟨RI.par HPD.out hst.2.1⟩⟩
          case measure => simp [intOf]; omega
         ·obtain rfl : m = k := by omega
          have p2 : decide ((m : Int) < (m : Int)) = false := decide_eq_false (by omega)
          have HDS2 := Aside0.mk (fun r k => dvd_size (k := m) HDS.out HDN.out r k)
          have HS1 := Aside0.mk (show St W0 wr g cap vs n m (elm (dvd D j m) j 0 0) by rw [elm_zero]; exact HS.out)
          obtain ⟨D2, hD2⟩ : ∃ D2, D2 = dvd D j m := ⟨_, rfl⟩
          rw [← hD2] at HS1 HDS2 HD
          clear HS HPD hD2
          go_wp2_with (fail)
          go_loopw [195] (fun v195 wz => ∃ r : Nat, v195 = .int .i64 (r : Int) ∧ r ≤ n ∧ Aside0 (St W0 wz g cap vs n m (elm D2 j r 0))) (fun v _ => n - (intOf v).toNat)
          case atStart => exact ⟨0, rfl, by omega, HS1⟩
          case round =>
           clear HS1
           obtain ⟨r, rfl, hr, HS⟩ := hrel
           by_cases hrt : r < n
           ·have p3 : decide ((r : Int) < (n : Int)) = true := decide_eq_true (by omega)
            obtain ⟨bq, cq, pf, hv, q0, q1, qf, hpf, qb⟩ := HS.out.at_ hrt hjm
            rw [elm_fac] at hpf
            have HPF := Aside0.mk hpf
            have i6 : (0 ≤ (r : Int)) = True := eq_true (by omega)
            have i7 : ((r : Int) < (n : Int)) = True := eq_true (by omega)
            clear hpf
            go_wp2_with (fail)
            clear q0 q1 qf qb hv
            go_loopw [210] (fun v210 wz => ∃ k : Nat, v210 = .int .i64 (k : Int) ∧ k ≤ m ∧ Aside0 (St W0 wz g cap vs n m (elm D2 j r k)) ∧ Aside0 (RI wz pf (D2 r j))) (fun v _ => m - (intOf v).toNat)
            case atStart => exact ⟨0, rfl, by omega, HS, HPF⟩
            case round =>
             clear HS HPF
             obtain ⟨k, rfl, hk, HS, HPF⟩ := hrel
             by_cases hkt : k < m
             ·have p4 : decide ((k : Int) < (m : Int)) = true := decide_eq_true (by omega)
              by_cases hrj : r = j
              ·have d2 : ((r : Int) == (j : Int)) = true := by simp [hrj]
               have HS2 := Aside0.mk (show St W0 wr g cap vs n m (elm D2 j r (k + 1)) by rw [hrj, elm_skip D2 j (k + 1) k]; rw [hrj] at HS; exact HS.out)
               clear hrj
               go_wp2_with (fail)
               go_roundw
               case rel => exact ⟨k + 1, by go_num, by omega, HS2, HPF⟩
               case measure => simp [intOf]; omega
              ·have d2 : ((r : Int) == (j : Int)) = false := by simpa using fun e : (r : Int) = j => hrj (by omega)
               obtain ⟨bq, cq, px, hv, q0, q1, qf, hpx, qb⟩ := HS.out.at_ hrt hkt
               obtain ⟨br, cr, py, hv2, t0, t1, _, hpy, _⟩ := HS.out.at_ hjt hkt
               rw [elm_at] at hpx
               rw [elm_piv] at hpy
               have HPX := Aside0.mk hpx
               have HPY := Aside0.mk hpy
               have i3 : (0 ≤ (k : Int)) = True := eq_true (by omega)
               have i5 : ((k : Int) < (m : Int)) = True := eq_true (by omega)
               have HES := Aside0.mk (elm_succ D2 j r k hrj)
               clear hpx hpy hrj
               go_wp2_with (fail)
               refine start_ (n:=24) (S := fun w' => w'.cell? ⟨g, r, none⟩ = some (.slice (some ⟨bq, 0, none⟩) m cq) ∧ w'.cell? ⟨bq, k, none⟩ = some (.pointer (some ⟨px, 0, none⟩)) ∧ w'.cell? ⟨g, j, none⟩ = some (.slice (some ⟨br, 0, none⟩) m cr) ∧ w'.cell? ⟨br, k, none⟩ = some (.pointer (some ⟨py, 0, none⟩))) (ds:=[23]) #[false,false,false,false,false,false,false,false,false,false,false,false,false,false,false,false,false,false,false,false,false,false,false,false] (by kernel_rfl) rfl rfl ⟨q0, q1, t0, t1⟩ (fun hHeld => ?_)
               refine pure_ (i:=0) (N:=some 216) (v:=?_) (a':=?_) #[true,false,false,false,false,false,false,false,false,false,false,false,false,false,false,false,false,false,false,false,false,false,false,false] rfl rfl (by kernel_rfl) (fun _ _ _ h => h) (Or.inl ⟨by rfl, ?_⟩) ?_ ?_
               rotate_left
               ·intro w'
                go_simp
                with_reducible rfl
               rotate_left
               ·go_simp
                rfl
               refine pure_ (i:=1) (N:=some 217) (v:=?_) (a':=?_) #[true,true,false,false,false,false,false,false,false,false,false,false,false,false,false,false,false,false,false,false,false,false,false,false] rfl rfl (by kernel_rfl) (fun _ _ _ h => h) (Or.inl ⟨by rfl, ?_⟩) ?_ ?_
               rotate_left
               ·intro w'
                go_simp
                with_reducible rfl
               rotate_left
               ·go_simp
                rfl
               refine pure_ (i:=2) (N:=some 218) (v:=?_) (a':=?_) #[true,true,true,false,false,false,false,false,false,false,false,false,false,false,false,false,false,false,false,false,false,false,false,false] rfl rfl (by kernel_rfl) (fun _ _ _ h => h) (Or.inl ⟨by rfl, ?_⟩) ?_ ?_
               rotate_left
               ·intro w'
                go_simp
                with_reducible rfl
               rotate_left
               ·go_simp
                rfl
               refine pure_ (i:=4) (N:=some 220) (v:=?_) (a':=?_) #[true,true,true,false,true,false,false,false,false,false,false,false,false,false,false,false,false,false,false,false,false,false,false,false] rfl rfl (by kernel_rfl) (fun _ _ _ h => h) (Or.inl ⟨by rfl, ?_⟩) ?_ ?_
               rotate_left
               ·intro w'
                go_simp
                with_reducible rfl
               rotate_left
               ·go_simp
                rfl
               refine pure_ (i:=5) (N:=some 221) (v:=?_) (a':=?_) #[true,true,true,false,true,true,false,false,false,false,false,false,false,false,false,false,false,false,false,false,false,false,false,false] rfl rfl (by kernel_rfl) (fun _ _ _ h => h) (Or.inl ⟨by rfl, ?_⟩) ?_ ?_
               rotate_left
               ·intro w'
                go_simp
                with_reducible rfl
               rotate_left
               ·go_simp
                rfl
               refine pure_ (i:=6) (N:=some 222) (v:=?_) (a':=?_) #[true,true,true,false,true,true,true,false,false,false,false,false,false,false,false,false,false,false,false,false,false,false,false,false] rfl rfl (by kernel_rfl) (fun _ _ _ h => h) (Or.inl ⟨by rfl, ?_⟩) ?_ ?_
               rotate_left
               ·intro w'
                go_simp
                with_reducible rfl
               rotate_left
               ·go_simp
                rfl
               refine pure_ (i:=7) (N:=some 223) (v:=?_) (a':=?_) #[true,true,true,false,true,true,true,true,false,false,false,false,false,false,false,false,false,false,false,false,false,false,false,false] rfl rfl (by kernel_rfl) (fun _ _ _ h => h) (Or.inl ⟨by rfl, ?_⟩) ?_ ?_
               rotate_left
               ·intro w'
                go_simp
                with_reducible rfl
               rotate_left
               ·go_simp
                rfl
               refine pure_ (i:=9) (N:=some 225) (v:=?_) (a':=?_) #[true,true,true,false,true,true,true,true,false,true,false,false,false,false,false,false,false,false,false,false,false,false,false,false] rfl rfl (by kernel_rfl) (fun _ _ _ h => h) (Or.inl ⟨by rfl, ?_⟩) ?_ ?_
               rotate_left
               ·intro w'
                go_simp
                with_reducible rfl
               rotate_left
               ·go_simp
                rfl
               refine pure_ (i:=12) (N:=some 228) (v:=?_) (a':=?_) #[true,true,true,false,true,true,true,true,false,true,false,false,true,false,false,false,false,false,false,false,false,false,false,false] rfl rfl (by kernel_rfl) (fun _ _ _ h => h) (Or.inl ⟨by rfl, ?_⟩) ?_ ?_
               rotate_left
               ·intro w'
                go_simp
                with_reducible rfl
               rotate_left
               ·go_simp
                rfl
               refine pure_ (i:=13) (N:=some 229) (v:=?_) (a':=?_) #[true,true,true,false,true,true,true,true,false,true,false,false,true,true,false,false,false,false,false,false,false,false,false,false] rfl rfl (by kernel_rfl) (fun _ _ _ h => h) (Or.inl ⟨by rfl, ?_⟩) ?_ ?_
               rotate_left
               ·intro w'
                go_simp
                with_reducible rfl
               rotate_left
               ·go_simp
                rfl
               refine pure_ (i:=14) (N:=some 230) (v:=?_) (a':=?_) #[true,true,true,false,true,true,true,true,false,true,false,false,true,true,true,false,false,false,false,false,false,false,false,false] rfl rfl (by kernel_rfl) (fun _ _ _ h => h) (Or.inl ⟨by rfl, ?_⟩) ?_ ?_
               rotate_left
               ·intro w'
                go_simp
                with_reducible rfl
               rotate_left
               ·go_simp
                rfl
               refine pure_ (i:=15) (N:=some 231) (v:=?_) (a':=?_) #[true,true,true,false,true,true,true,true,false,true,false,false,true,true,true,true,false,false,false,false,false,false,false,false] rfl rfl (by kernel_rfl) (fun _ _ _ h => h) (Or.inl ⟨by rfl, ?_⟩) ?_ ?_
               rotate_left
               ·intro w'
                go_simp
                with_reducible rfl
               rotate_left
               ·go_simp
                rfl
               refine pure_ (i:=17) (N:=some 233) (v:=?_) (a':=?_) #[true,true,true,false,true,true,true,true,false,true,false,false,true,true,true,true,false,true,false,false,false,false,false,false] rfl rfl (by kernel_rfl) (fun _ _ _ h => h) (Or.inl ⟨by rfl, ?_⟩) ?_ ?_
               rotate_left
               ·intro w'
                go_simp
                with_reducible rfl
               rotate_left
               ·go_simp
                rfl
               refine take_ (i:=3) (N:=some 219) (v:=?_) (a':=?_) #[true,true,true,true,true,true,true,true,false,true,false,false,true,true,true,true,false,true,false,false,false,false,false,false] rfl rfl (by kernel_rfl) (fun _ _ _ h => h) (Or.inl ⟨by rfl, ?_⟩) hHeld ?_ ?_
               rotate_left
               ·rintro w' ⟨s0, s1, s2, s3⟩
                go_simp
                with_reducible rfl
               rotate_left
               ·go_simp
                rfl
               refine take_ (i:=8) (N:=some 224) (v:=?_) (a':=?_) #[true,true,true,true,true,true,true,true,true,true,false,false,true,true,true,true,false,true,false,false,false,false,false,false] rfl rfl (by kernel_rfl) (fun _ _ _ h => h) (Or.inl ⟨by rfl, ?_⟩) hHeld ?_ ?_
               rotate_left
               ·rintro w' ⟨s0, s1, s2, s3⟩
                go_simp
                with_reducible rfl
               rotate_left
               ·go_simp
                rfl
               refine pure_ (i:=10) (N:=some 226) (v:=?_) (a':=?_) #[true,true,true,true,true,true,true,true,true,true,true,false,true,true,true,true,false,true,false,false,false,false,false,false] rfl rfl (by kernel_rfl) (fun _ _ _ h => h) (Or.inl ⟨by rfl, ?_⟩) ?_ ?_
               rotate_left
               ·intro w'
                go_simp
                with_reducible rfl
               rotate_left
               ·go_simp
                rfl
               refine take_ (i:=11) (N:=some 227) (v:=?_) (a':=?_) #[true,true,true,true,true,true,true,true,true,true,true,true,true,true,true,true,false,true,false,false,false,false,false,false] rfl rfl (by kernel_rfl) (fun _ _ _ h => h) (Or.inl ⟨by rfl, ?_⟩) hHeld ?_ ?_
               rotate_left
               ·rintro w' ⟨s0, s1, s2, s3⟩
                go_simp
                with_reducible rfl
               rotate_left
               ·go_simp
                rfl
               refine take_ (i:=16) (N:=some 232) (v:=?_) (a':=?_) #[true,true,true,true,true,true,true,true,true,true,true,true,true,true,true,true,true,true,false,false,false,false,false,false] rfl rfl (by kernel_rfl) (fun _ _ _ h => h) (Or.inl ⟨by rfl, ?_⟩) hHeld ?_ ?_
               rotate_left
               ·rintro w' ⟨s0, s1, s2, s3⟩
                go_simp
                with_reducible rfl
               rotate_left
               ·go_simp
                rfl
               refine pure_ (i:=18) (N:=some 234) (v:=?_) (a':=?_) #[true,true,true,true,true,true,true,true,true,true,true,true,true,true,true,true,true,true,true,false,false,false,false,false] rfl rfl (by kernel_rfl) (fun _ _ _ h => h) (Or.inl ⟨by rfl, ?_⟩) ?_ ?_
               rotate_left
               ·intro w'
                go_simp
                with_reducible rfl
               rotate_left
               ·go_simp
                rfl
               refine take_ (i:=19) (N:=some 235) (v:=?_) (a':=?_) #[true,true,true,true,true,true,true,true,true,true,true,true,true,true,true,true,true,true,true,true,false,false,false,false] rfl rfl (by kernel_rfl) (fun _ _ _ h => h) (Or.inl ⟨by rfl, ?_⟩) hHeld ?_ ?_
               rotate_left
               ·rintro w' ⟨s0, s1, s2, s3⟩
                go_simp
                with_reducible rfl
               rotate_left
               ·go_simp
                rfl
               refine one_ (i:=20) (N:=some 236) #[true,true,true,true,true,true,true,true,true,true,true,true,true,true,true,true,true,true,true,true,true,false,false,false] rfl rfl (by kernel_rfl) (by decide) (fun K_ hK => ?_)
               refine goes_ Try.func105 (by kernel_rfl) rfl #[.pointer (some ⟨pf, 0, none⟩), .pointer (some ⟨py, 0, none⟩)] (by rfl) rfl rfl (by (try simp only [List.map_toArray, List.map_cons, List.map_nil]); first | done | rfl) ?_
               refine (ratTimes_any pf py (D2 r j) (D2 j k) (2 * K) wr.drew (RI.below HPF.out (below_drew (Below.refl wr.heap.size wr))) (RI.below HPY.out (below_drew (Below.refl wr.heap.size wr))) (by omega) (HDS2.out r j) (HDS2.out j k)).mono ?_
               rintro e w1 ⟨pz1, rfl, hpz, hri, hb1⟩
               have HB1 := Aside0.mk (below_step (below_drew (Below.refl wr.heap.size wr)) hb1)
               have HZ1 := Aside0.mk hri
               clear hpz hri hb1
               refine ⟨_, rfl, ?_⟩
               refine hK.out _ _ ⟨(HB1.out.cell (World.block_lt_of_cell? _ _ q0)).trans q0, (HB1.out.cell (World.block_lt_of_cell? _ _ q1)).trans q1, (HB1.out.cell (World.block_lt_of_cell? _ _ t0)).trans t0, (HB1.out.cell (World.block_lt_of_cell? _ _ t1)).trans t1⟩ (fun hHeld => ?_)
               clear hK K_
               refine norm_ (a':=?_) ?_ ?_
               rotate_left
               ·show Act.put _ (some 236) _ = _
                go_simp
                rfl
               refine one_ (i:=21) (N:=some 237) #[true,true,true,true,true,true,true,true,true,true,true,true,true,true,true,true,true,true,true,true,true,true,false,false] rfl rfl (by kernel_rfl) (by decide) (fun K_ hK => ?_)
               refine goes_ Try.func65 (by kernel_rfl) rfl #[.pointer (some ⟨px, 0, none⟩), .pointer (some ⟨pz1, 0, none⟩)] (by rfl) rfl rfl (by (try simp only [List.map_toArray, List.map_cons, List.map_nil]); first | done | rfl) ?_
               refine (ratMinus_any px pz1 (D2 r k) (D2 r j * D2 j k) (4 * K) w1 (RI.below HPX.out HB1.out) HZ1.out (by omega) (Sm.mono (by omega) (HDS2.out r k)) (Sm.mono (by omega) (Sm.mul (HDS2.out r j) (HDS2.out j k)))).mono ?_
               rintro e w2 ⟨pz2, rfl, hpz, hri, hb1⟩
               have HB2 := Aside0.mk (below_step HB1.out hb1)
               have HZ2 := Aside0.mk hri
               clear hpz hri hb1
               have z0 := (HB2.out.cell (World.block_lt_of_cell? _ _ q1)).trans q1
               have z1 := (World.frozen?_of_block (w := wr) (a := ⟨bq, k, none⟩) (HB2.out.block bq qb)).trans qf
               refine ⟨_, rfl, ?_⟩
               refine hK.out _ _ ⟨(HB2.out.cell (World.block_lt_of_cell? _ _ q0)).trans q0, (HB2.out.cell (World.block_lt_of_cell? _ _ q1)).trans q1, (HB2.out.cell (World.block_lt_of_cell? _ _ t0)).trans t0, (HB2.out.cell (World.block_lt_of_cell? _ _ t1)).trans t1⟩ (fun hHeld => ?_)
               clear hK K_
               refine norm_ (a':=?_) ?_ ?_
               rotate_left
               ·show Act.put _ (some 237) _ = _
                go_simp
                rfl
               refine pure_ (i:=22) (N:=some 238) (v:=?_) (a':=?_) #[true,true,true,true,true,true,true,true,true,true,true,true,true,true,true,true,true,true,true,true,true,true,true,false] rfl rfl (by kernel_rfl) (fun _ _ _ h => h) (Or.inl ⟨by rfl, ?_⟩) ?_ ?_
               rotate_left
               ·intro w'
                go_simp
                with_reducible rfl
               rotate_left
               ·go_simp
                rfl
               refine last_ (i:=23) (N:=none) #[true,true,true,true,true,true,true,true,true,true,true,true,true,true,true,true,true,true,true,true,true,true,true,true] rfl rfl (by kernel_rfl) (by decide) (fun K_ hK => ?_)
               refine skip_ (w1 := ?_) (by rfl) rfl ?_ ?_
               rotate_left
               ·go_simp
                rfl
               refine hK.out _ _ ?_
               clear hK K_
               refine done_ (by kernel_rfl) ?_
               go_wp2_with (fail)
               have hst := HS.out.step HB2.out hv hrt hkt HZ2.out
               rw [HES.out] at hst
               go_roundw
               case rel => exact ⟨k + 1, by go_num, by omega, ⟨hst.1⟩, ⟨RI.par HPF.out hst.2.1⟩⟩
               case measure => simp [intOf]; omega
             ·obtain rfl : m = k := by omega
              have p4 : decide ((m : Int) < (m : Int)) = false := decide_eq_false (by omega)
              go_wp2_with (fail)
              go_roundw
              case rel => exact ⟨r + 1, by go_num, by omega, ⟨HS.out.congr (fun r' k' hr' hk' => by rw [elm_row D2 j r n r' k' (by have := HMN.out; omega), HMN.out])⟩⟩
              case measure => simp [intOf]; omega
           ·obtain rfl : n = r := by omega
            have p3 : decide ((n : Int) < (n : Int)) = false := decide_eq_false (by omega)
            go_wp2_with (fail)
            go_roundw
            case rel => exact ⟨j + 1, by go_num, by omega, ⟨HS.out.congr HD.out⟩⟩
            case measure => simp [intOf]; omega
      ·obtain rfl : n = j := by omega
       have p1 : decide ((n : Int) < (n : Int)) = false := decide_eq_false (by omega)
       obtain ⟨G, hG⟩ : ∃ G, G = gj M0 n := ⟨_, rfl⟩
       rw [← hG] at HS
       have HG := Aside0.mk (show G = gj (cst (tab l right n)) n by rw [hG, HM0.out])
       clear hG
       go_wp2_with (go_at_call 66; (with_reducible refine (whole_any 0 _ (by decide) (by decide)).mono ?_); rintro e w1 ⟨pb, rfl, hpb, hri, hb1⟩; have H1 := Aside0.mk (And.intro hri hb1); clear hri hb1)
       have HI := Aside0.mk (RowIn.one (f := fun k => if k = 0 then 0 else G (k - 1) n) H1.out.2 H1.out.1 (by simp))
       clear H1
       go_loopw [25, 246] (fun v25 v246 wz => ∃ (i b cap2 : Nat) (us : List Value), v25 = .slice (some ⟨b, 0, none⟩) (i + 1) cap2 ∧ v246 = .int .i64 (i : Int) ∧ i ≤ n ∧ Aside0 (RowIn wq wz b cap2 (i + 1) us (fun k => if k = 0 then 0 else G (k - 1) n))) (fun _ v _ => n - (intOf v).toNat)
       case atStart => exact ⟨0, _, 1, _, rfl, rfl, by omega, HI⟩
       case round =>
        clear HI
        obtain ⟨i, b, cap2, us, rfl, rfl, hi, HI⟩ := hrel
        by_cases hit : i < n
        ·have p2 : decide ((i : Int) < (n : Int)) = true := decide_eq_true (by omega)
         obtain ⟨bq, cq, px, hv, q0, q1, qf, hpx, qb⟩ := (HS.out.call HI.out.2.2.2).at_ hit (show n < m by have := HMN.out; omega)
         have HPX := Aside0.mk hpx
         have i1 : (0 ≤ (i : Int)) = True := eq_true (by omega)
         have i2 : ((i : Int) < (n : Int)) = True := eq_true (by omega)
         have i3 : (0 ≤ (n : Int)) = True := eq_true (by omega)
         have i4 : ((n : Int) < (m : Int)) = True := eq_true (by have := HMN.out; omega)
         clear hpx
         go_wp2_with ((with_reducible refine gate_builtin (b := .append) (xs := #[.tmp 250, .tmp 255]) rfl ?_); at_builtin; refine Cb.append rfl (.tmp 250) (.tmp 255) 69 74 (.pointer none) 8 rfl Try.underlying69 info74 rfl (Pv.ptr _) (by decide) b cap2 (i + 1) us (.pointer (some ⟨px, 0, none⟩)) HI.out.len rfl rfl rfl (Pv.ptr _) HI.out.2.1 (by rw [HI.out.len]; omega) ?_; intro g1 cap1 w2 h1 h2 h3; have HN := Aside0.mk (HI.out.growG (Below.refl _ _) HPX.out h1 h2 h3); clear h1 h2 h3)
         go_roundw
         case rel => exact ⟨i + 1, g1, cap1, _, by go_num, by go_num, by omega, HN⟩
         case measure => simp [intOf]; omega
        ·obtain rfl : n = i := by omega
         have p2 : decide ((n : Int) < (n : Int)) = false := decide_eq_false (by omega)
         go_wp2_with (fail)
         go_ret
         refine ⟨b, cap2, us, rfl, ?_⟩
         rw [← HG.out]
         exact HI.out.outer (by rw [HW0.out]; exact below_alloc (Below.refl _ _) _) HS.out.2
end Go.Proofs.Ytkafbmanmffliaa.Gs

