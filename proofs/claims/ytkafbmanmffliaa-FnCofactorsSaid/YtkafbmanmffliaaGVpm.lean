/- Parts of the proof that the law of this seat holds: PuT, Hv, Hw, Ex, Ex2, Gz, Sb, Pc, Pd. -/
import Derived.Test.YtkafbmanmffliaaGVpl
import Derived.Test.YtkafbmanmffliaaGVph
import Derived.Test.YtkafbmanmffliaaGVpg
import Derived.Test.YtkafbmanmffliaaGVpk
set_option linter.unusedVariables false
set_option linter.unusedSimpArgs false
/- The program's choice of sights without loops and the reference's are the same: both keep the same parts of connected points. -/
namespace Go.Proofs.Ytkafbmanmffliaa.PuT
open Go.RowKit YtkafbmanmffliaaW.PrintWords Q Hb Hc Hd
structure Sg where
 out : List Int
 grp : List Int
def stepG (st : Sg) (x : S32 × Nat) : Sg :=
 if rd st.grp x.1.f0 = rd st.grp x.1.f1 then st
 else ⟨st.out ++ [(x.2 : Int)], st.grp.map fun v => if v = rd st.grp x.1.f1 then rd st.grp x.1.f0 else v⟩
def startG (pts : Int) : Sg := ⟨[], (List.range pts.toNat).map fun k : Nat => (k : Int)⟩
def atG (pts : Int) (l : List S32) (k : Nat) : Sg := (l.zipIdx.take k).foldl stepG (startG pts)
def treeG (pts : Int) (l : List S32) : Sg := atG pts l l.length
theorem atG_succ (pts : Int) (l : List S32) (k : Nat) (h : k < l.length) : atG pts l (k + 1) = stepG (atG pts l k) (rd_T32 l k, k) := by
 unfold atG
 rw [List.take_succ_eq_append_getElem (by simpa using h), List.foldl_append]
 simp [rd_T32, h, List.getElem_zipIdx]
theorem stepG_len (st : Sg) (x : S32 × Nat) : (stepG st x).grp.length = st.grp.length := by unfold stepG; split <;> simp
theorem atG_len (pts : Int) (l : List S32) (k : Nat) : (atG pts l k).grp.length = pts.toNat := by
 unfold atG
 generalize l.zipIdx.take k = m
 have : ∀ st : Sg, (m.foldl stepG st).grp.length = st.grp.length := by
  induction m with
  | nil => intro st; rfl
  | cons x xs ih => intro st; simp only [List.foldl_cons]; rw [ih, stepG_len]
 rw [this]; simp [startG]
theorem atG_out (pts : Int) (l : List S32) (k : Nat) : (atG pts l k).out.length ≤ k := by
 induction k with
 | zero => simp [atG, startG]
 | succ k ih =>
  by_cases h : k < l.length
  ·rw [atG_succ pts l k h]; unfold stepG; split
   ·omega
   ·simp only [List.length_append, List.length_cons, List.length_nil]; omega
  ·have : atG pts l (k + 1) = atG pts l k := by unfold atG; rw [List.take_of_length_le (by simp; omega), List.take_of_length_le (by simp; omega)]
   rw [this]; omega
theorem rd_map (f : Int → Int) (p : List Int) (x : Nat) (h : x < p.length) : rd (p.map f) x = f (rd p x) := by
 rw [rd_nat _ _ (by simpa using h), rd_nat _ _ h]; simp
theorem merge_eq {a b mn mx px py : Int} (_hab : a ≠ b) (h : (mn = a ∧ mx = b) ∨ (mn = b ∧ mx = a)) :
  ((if px = mx then mn else px) = (if py = mx then mn else py)) ↔ (px = py ∨ ((px = a ∨ px = b) ∧ (py = a ∨ py = b))) := by
 split <;> split <;> omega
def cnt (n : Nat) (p : List Int) : Nat := ((List.range n).filter fun x : Nat => decide (rd p x = (x : Int))).length
theorem filter_drop_one {l : List Nat} (hn : l.Nodup) {q q' : Nat → Bool} {m : Nat} (hm : m ∈ l) (hq : q m = true) (h : ∀ x, x ∈ l → (q' x = true ↔ q x = true ∧ x ≠ m)) : (l.filter q').length + 1 = (l.filter q).length := by
 induction l with
 | nil => simp at hm
 | cons x xs ih =>
  rw [List.nodup_cons] at hn
  have hx := h x (by simp)
  by_cases e : x = m
  ·subst e
   have h1 : q' x = false := by
    cases hc : q' x
    ·rfl
    ·exact absurd rfl (hx.1 hc).2
   have h2 : xs.filter q' = xs.filter q := by
    apply List.filter_congr
    intro y hy
    have hy2 := h y (by simp [hy])
    have : y ≠ x := fun e => hn.1 (e ▸ hy)
    cases hc : q y <;> cases hd : q' y <;> simp_all
   simp [h1, hq, h2]
  ·have hm' : m ∈ xs := by
    rcases List.mem_cons.1 hm with h | h
    ·exact absurd h.symm e
    ·exact h
   have := ih hn.2 hm' (fun y hy => h y (by simp [hy]))
   have hqq : q' x = q x := by
    cases hc : q x <;> cases hd : q' x <;> simp_all
   by_cases hc : q x = true
   ·simp [hqq, hc]; omega
   ·simp [hqq, hc]; omega
structure Inv (n : Nat) (o : List Int) (p g : List Int) : Prop where
 lp : p.length = n
 lg : g.length = n
 eqv : ∀ x y : Nat, x < n → y < n → (rd p x = rd p y ↔ rd g x = rd g y)
 lo : ∀ x : Nat, x < n → 0 ≤ rd p x ∧ rd p x ≤ x
 rep : ∀ x : Nat, x < n → rd p (rd p x) = rd p x
 cn : o.length + cnt n p = n
theorem rd_range (n : Nat) (x : Nat) (h : x < n) : rd ((List.range n).map fun j : Nat => (j : Int)) x = x := by
 rw [rd_nat _ _ (by simpa using h)]; simp
theorem inv_start (n : Nat) : Inv n (Hd.start n).out (Hd.start n).part (startG n).grp where
 lp := by simp [Hd.start]
 lg := by simp [startG]
 eqv := fun x y hx hy => by simp [Hd.start, startG]
 lo := fun x hx => by simp only [Hd.start, Int.toNat_natCast]; rw [rd_range n x hx]; omega
 rep := fun x hx => by simp only [Hd.start, Int.toNat_natCast]; rw [rd_range n x hx, rd_range n x hx]
 cn := by
  have e : ∀ x : Nat, x < n → rd (Hd.start (n : Int)).part x = x := fun x hx => by simp only [Hd.start, Int.toNat_natCast]; exact rd_range n x hx
  have : (List.range n).filter (fun x : Nat => decide (rd (Hd.start (n : Int)).part x = (x : Int))) = List.range n := by
   rw [List.filter_eq_self]
   intro x hx
   exact decide_eq_true (e x (by simpa using hx))
  unfold cnt
  rw [this]; simp [Hd.start]
theorem inv_step {n : Nat} {st : St} {sg : Sg} (h : Inv n st.out st.part sg.grp) (ho : st.out = sg.out) (x : S32 × Nat) (h0 : 0 ≤ x.1.f0) (h1 : x.1.f0 < n) (h2 : 0 ≤ x.1.f1) (h3 : x.1.f1 < n) :
  Inv n (Hd.step st x).out (Hd.step st x).part (stepG sg x).grp ∧ (Hd.step st x).out = (stepG sg x).out := by
 obtain ⟨s, i⟩ := x
 obtain ⟨u, hu⟩ : ∃ u : Nat, s.f0 = (u : Int) := ⟨s.f0.toNat, by simp at h0; omega⟩
 obtain ⟨v, hv⟩ : ∃ v : Nat, s.f1 = (v : Int) := ⟨s.f1.toNat, by simp at h2; omega⟩
 simp only [hu, hv] at h1 h3
 have hun : u < n := by omega
 have hvn : v < n := by omega
 clear h0 h1 h2 h3
 have huv := h.eqv u v hun hvn
 unfold Hd.step stepG
 simp only [hu, hv]
 by_cases hab : rd st.part u = rd st.part v
 ·rw [if_pos hab, if_pos (huv.1 hab)]; exact ⟨h, ho⟩
 ·rw [if_neg hab, if_neg (fun e => hab (huv.2 e))]
  have hmm : (mnI (rd st.part u) (rd st.part v) = rd st.part u ∧ mxI (rd st.part u) (rd st.part v) = rd st.part v) ∨ (mnI (rd st.part u) (rd st.part v) = rd st.part v ∧ mxI (rd st.part u) (rd st.part v) = rd st.part u) := by
   unfold mnI mxI; split <;> split <;> omega
  have hlt : mnI (rd st.part u) (rd st.part v) < mxI (rd st.part u) (rd st.part v) := by unfold mnI mxI; split <;> split <;> omega
  have hP : ∀ y : Nat, y < n → rd (newPart st.part (rd st.part u) (rd st.part v)) y = if rd st.part y = mxI (rd st.part u) (rd st.part v) then mnI (rd st.part u) (rd st.part v) else rd st.part y := fun y hy => rd_map _ _ _ (by rw [h.lp]; exact hy)
  have hG : ∀ y : Nat, y < n → rd (sg.grp.map fun z => if z = rd sg.grp v then rd sg.grp u else z) y = if rd sg.grp y = rd sg.grp v then rd sg.grp u else rd sg.grp y := fun y hy => rd_map _ _ _ (by rw [h.lg]; exact hy)
  have rmn : rd st.part (mnI (rd st.part u) (rd st.part v)) = mnI (rd st.part u) (rd st.part v) := by
   rcases hmm with ⟨e, _⟩ | ⟨e, _⟩ <;> rw [e]
   ·exact h.rep u hun
   ·exact h.rep v hvn
  have rmx : rd st.part (mxI (rd st.part u) (rd st.part v)) = mxI (rd st.part u) (rd st.part v) := by
   rcases hmm with ⟨_, e⟩ | ⟨_, e⟩ <;> rw [e]
   ·exact h.rep v hvn
   ·exact h.rep u hun
  have bu := h.lo u hun
  have bv := h.lo v hvn
  have bmx : 0 ≤ mxI (rd st.part u) (rd st.part v) ∧ mxI (rd st.part u) (rd st.part v) < n := by rcases hmm with ⟨_, e⟩ | ⟨_, e⟩ <;> rw [e] <;> omega
  have bmn : 0 ≤ mnI (rd st.part u) (rd st.part v) := by rcases hmm with ⟨e, _⟩ | ⟨e, _⟩ <;> rw [e] <;> omega
  have hau : ∀ y : Nat, y < n → (rd st.part y = rd st.part u ↔ rd sg.grp y = rd sg.grp u) := fun y hy => h.eqv y u hy hun
  have hav : ∀ y : Nat, y < n → (rd st.part y = rd st.part v ↔ rd sg.grp y = rd sg.grp v) := fun y hy => h.eqv y v hy hvn
  generalize hmn : mnI (rd st.part u) (rd st.part v) = mn at *
  generalize hmx : mxI (rd st.part u) (rd st.part v) = mx at *
  refine ⟨⟨by rw [newPart_len]; exact h.lp, by simp [h.lg], ?_, ?_, ?_, ?_⟩, by rw [ho]⟩
  ·intro y z hy hz
   rw [hP y hy, hP z hz, hG y hy, hG z hz, merge_eq hab hmm, merge_eq (a := rd sg.grp u) (b := rd sg.grp v) (fun e => hab (huv.2 e)) (.inl ⟨rfl, rfl⟩), h.eqv y z hy hz, hau y hy, hav y hy, hau z hz, hav z hz]
  ·intro y hy
   have := h.lo y hy
   rw [hP y hy]; split <;> omega
  ·intro y hy
   have hl := h.lo y hy
   have hr := h.rep y hy
   rw [hP y hy]
   split
   ·obtain ⟨m, hm⟩ : ∃ m : Nat, mn = (m : Int) := ⟨mn.toNat, by omega⟩
    rw [hm] at rmn hlt ⊢
    rw [hP m (by omega), rmn, if_neg (by omega)]
   ·rename_i hne
    obtain ⟨m, hm⟩ : ∃ m : Nat, rd st.part y = (m : Int) := ⟨(rd st.part y).toNat, by omega⟩
    rw [hm] at hr hne hl ⊢
    rw [hP m (by omega), hr, if_neg hne]
  ·obtain ⟨m, hm⟩ : ∃ m : Nat, mx = (m : Int) := ⟨mx.toNat, by omega⟩
   have hc : cnt n (newPart st.part (rd st.part u) (rd st.part v)) + 1 = cnt n st.part := by
    refine filter_drop_one List.nodup_range (m := m) (by simp; omega) (by rw [hm] at rmx; simp [rmx]) ?_
    intro y hy
    have hy' : y < n := by simpa using hy
    rw [hP y hy']
    simp only [decide_eq_true_eq]
    split
    ·rename_i e
     constructor
     ·intro e2
      rw [e2] at rmn
      omega
     ·rintro ⟨e2, e3⟩
      omega
    ·rename_i e
     constructor
     ·intro e2; exact ⟨e2, by omega⟩
     ·intro e2; exact e2.1
   have := h.cn
   simp only [List.length_append, List.length_cons, List.length_nil]
   omega
theorem inv_at {n : Nat} {l : List S32} (hv : surveyB n l = true) : ∀ k, k ≤ l.length → Inv n (at_ n l k).out (at_ n l k).part (atG n l k).grp ∧ (at_ n l k).out = (atG n l k).out := by
 intro k
 induction k with
 | zero => intro _; exact ⟨by rw [at_zero]; exact inv_start n, by simp [at_zero, atG, Hd.start, startG]⟩
 | succ k ih =>
  intro hk
  obtain ⟨h1, h2⟩ := ih (by omega)
  obtain ⟨a, b, c, d⟩ := valid_at hv k (by omega)
  rw [at_succ n l k (by omega), atG_succ n l k (by omega)]
  exact inv_step h1 h2 (rd_T32 l k, k) a b c d
theorem all_zero {n : Nat} {o p g : List Int} (h : Inv n o p g) (hn : 1 ≤ n) : p.all (· == 0) = true ↔ o.length = n - 1 := by
 have hc := h.cn
 have z0 : rd p 0 = 0 := by have := h.lo 0 (by omega); simp at this; omega
 have e1 : p.all (· == 0) = true ↔ ∀ x : Nat, x < n → rd p x = 0 := by
  rw [List.all_eq_true]
  constructor
  ·intro ha x hx
   have := ha (rd p x) (by rw [rd_nat _ _ (by rw [h.lp]; exact hx)]; exact List.getElem_mem _)
   simpa using this
  ·intro ha y hy
   obtain ⟨i, hi, rfl⟩ := List.getElem_of_mem hy
   have := ha i (by rw [← h.lp]; exact hi)
   rw [rd_nat _ _ hi] at this
   simpa using this
 rw [e1]
 constructor
 ·intro ha
  have : (List.range n).filter (fun x : Nat => decide (rd p x = (x : Int))) = [0] := by
   obtain ⟨m, rfl⟩ : ∃ m, n = m + 1 := ⟨n - 1, by omega⟩
   rw [List.range_succ_eq_map, List.filter_cons]
   have h0 : decide (rd p ((0 : Nat) : Int) = ((0 : Nat) : Int)) = true := by simpa using z0
   rw [if_pos h0]
   congr 1
   rw [List.filter_eq_nil_iff]
   intro x hx
   simp only [List.mem_map, List.mem_range] at hx
   obtain ⟨y, hy, rfl⟩ := hx
   have := ha (y + 1) (by omega)
   simp only [Nat.succ_eq_add_one, decide_eq_true_eq]
   omega
  unfold cnt at hc
  rw [this] at hc
  simp at hc; omega
 ·intro hl x hx
  have h1 : cnt n p = 1 := by omega
  have hr := h.rep x hx
  have hb := h.lo x hx
  obtain ⟨m, hm⟩ : ∃ m : Nat, rd p x = (m : Int) := ⟨(rd p x).toNat, by omega⟩
  rw [hm] at hr hb ⊢
  by_cases e : m = 0
  ·simp [e]
  ·exfalso
   unfold cnt at h1
   obtain ⟨y, hy⟩ := List.length_eq_one_iff.1 h1
   have m0 : 0 ∈ (List.range n).filter (fun x : Nat => decide (rd p x = (x : Int))) := by simp; exact ⟨by omega, z0⟩
   have mm : m ∈ (List.range n).filter (fun x : Nat => decide (rd p x = (x : Int))) := by simp; exact ⟨by omega, hr⟩
   rw [hy] at m0 mm
   simp at m0 mm
   omega
theorem out_eq {n : Nat} {l : List S32} (hv : surveyB n l = true) : (treeS n l).out = (treeG n l).out := by
 have := (inv_at hv l.length (Nat.le_refl _)).2
 rwa [at_all] at this
theorem conn_eq {n : Nat} {l : List S32} (hv : surveyB n l = true) : ((treeS n l).part.all (· == 0) = true) ↔ (((treeG n l).out.length : Int) = (n : Int) - 1) := by
 have hp := valid_pts hv
 have h := (inv_at hv l.length (Nat.le_refl _)).1
 rw [at_all] at h
 have := all_zero h (by omega)
 rw [this, ← out_eq hv]
 omega
theorem nat_pts {p : Int} {l : List S32} (hv : surveyB p l = true) : ∃ n : Nat, p = n := ⟨p.toNat, by have := valid_pts hv; omega⟩
def connB (p : Int) (l : List S32) : Bool := surveyB p l && (treeS p l).part.all (· == 0)
end Go.Proofs.Ytkafbmanmffliaa.PuT

/- The program's ValidSurvey and IsConnected: what they return. -/
namespace Go.Proofs.Ytkafbmanmffliaa.Hv
open Go Go.RowKit YtkafbmanmffliaaW.PrintWords YtkafbmanmffliaaW.PrintLast YtkafbmanmffliaaW.PrintMore Q Gd Hb Ha
theorem C_two (W : World) (g : Nat) (x y : Int) (h : W.heap[g]? = some (.cells #[.int .i64 x, .int .i64 y] 2 (0, 0))) : Kd.C (Kd.int .i64) W (some ⟨g, 0, none⟩) 2 [x, y] :=
 Kd.C_of_reads (d := (0 : Int)) ⟨rfl, by simp [maxLen], fun _ => ⟨⟨g, 0, none⟩, rfl, fun j hj => by
  obtain rfl | rfl : j = 0 ∨ j = 1 := by omega
  ·exact (blk_cell h 0).trans rfl
  ·exact (blk_cell h 1).trans rfl⟩⟩
abbrev BS (p : Int) (A : Option Addr) (n c : Nat) : Obj := .cells #[.int .i64 p, .slice A n c] 26
set_option maxHeartbeats 4000000 in
set_option maxRecDepth 100000 in
theorem valid_any (p : Int) (l : List S32) (A : Option Addr) (c : Nat) (w : World) (hr : Kd.C k32 w A l.length l) (hl : l.length ≤ 1048576) :
  Calls Try.prog 81 #[.agg #[.int .i64 p, .slice A l.length c]] w fun e w' => e = .returned (.bool (surveyB p l)) ∧ Below w.heap.size w w' := by
 have hu26 := Try.underlying26
 have hu32 := Try.underlying32
 have hu24 := Try.underlying24
 have hbx := below_alloc (Below.refl w.heap.size w) (BS p A l.length c)
 have HR := Aside0.mk (Kd.C_below hr hbx)
 have HX := Aside0.mk (heap_alloc_new w (BS p A l.length c))
 have HS := Aside0.mk (show surveyB p l = ((inB 2 5 p && decide ((l.length : Int) ≤ 8)) && l.all (sightB p)) from rfl)
 have t0 := Aside0.mk hbx
 clear hr hbx
 go_enter Try.func81, Try.ntmps81
 go_wp2_with (fail)
 go_loopw [8] (fun v8 wz => ∃ i : Nat, v8 = .int .i64 (i : Int) ∧ i ≤ l.length ∧ Aside0 (l.all (sightB p) = (l.drop i).all (sightB p)) ∧ Aside0 (Below w.heap.size w wz) ∧ Aside0 (Below (w.alloc (BS p A l.length c)).heap.size (w.alloc (BS p A l.length c)) wz)) (fun v _ => l.length - (intOf v).toNat)
 case atStart => exact ⟨0, rfl, by omega, ⟨rfl⟩, t0, ⟨Below.refl _ _⟩⟩
 case round =>
  clear t0
  obtain ⟨i, rfl, hi, HA, HB, HB0⟩ := hrel
  have K := Aside0.mk (blk_below HX.out HB0.out)
  have e0 : wr.cell? ⟨w.heap.size, 0, none⟩ = some (.int .i64 p) := (blk_cell K.out 0).trans rfl
  have e1 : wr.cell? ⟨w.heap.size, 1, none⟩ = some (.slice A l.length c) := (blk_cell K.out 1).trans rfl
  by_cases hlt : i < l.length
  ·have p1 : decide ((i : Int) < (l.length : Int)) = true := decide_eq_true (by omega)
   obtain ⟨ad, e, x0, x1, x2, x3⟩ := at_T32 (Kd.C_below HR.out HB0.out) (i : Int) (by omega) (by omega)
   subst e
   rw [Int.toNat_natCast] at x0 x1 x2 x3
   have hd : l.drop i = rd_T32 l i :: l.drop (i + 1) := by rw [List.drop_eq_getElem_cons hlt]; simp [rd_T32, hlt]
   have HD := Aside0.mk (show l.all (sightB p) = (sightB p (rd_T32 l i) && (l.drop (i + 1)).all (sightB p)) by rw [HA.out, hd]; rfl)
   clear hd HA
   obtain ⟨s, hs⟩ : ∃ s, s = rd_T32 l i := ⟨_, rfl⟩
   rw [← hs] at x0 x1 x2 x3 HD
   clear hs
   obtain ⟨f, t, ri, wt⟩ := s
   dsimp only at x0 x1 x2 x3
   have HQ := Aside0.mk (show sightB p ⟨f, t, ri, wt⟩ = ((((areIn [f, t] 0 (wrap64 (p - 1)) && !(f == t)) && inB (-100) 100 ri) && inB 1 3 wt)) by
    unfold sightB areIn
    simp only [List.all_cons, List.all_nil, Bool.and_true])
   have hba := below_alloc (below_alloc (Below.refl wr.heap.size wr) (.cells #[.int .i64 f, .int .i64 t, .int .i64 ri, .int .i64 wt] 32)) (.cells #[.int .i64 f, .int .i64 t] 2)
   have hna := blk_alloc (heap_alloc_new wr (.cells #[.int .i64 f, .int .i64 t, .int .i64 ri, .int .i64 wt] 32)) (.cells #[.int .i64 f, .int .i64 t] 2)
   have hnb := heap_alloc_new (wr.alloc (.cells #[.int .i64 f, .int .i64 t, .int .i64 ri, .int .i64 wt] 32)) (.cells #[.int .i64 f, .int .i64 t] 2)
   rw [World.size_alloc] at hnb
   have hcw := areWithin_any (some ⟨wr.heap.size + 1, 0, none⟩) 2 [f, t] 0 (wrap64 (p - 1)) _ (C_two _ _ f t hnb)
   have HNA := Aside0.mk hna
   have HBA := Aside0.mk hba
   have e0a : ((wr.alloc (.cells #[.int .i64 f, .int .i64 t, .int .i64 ri, .int .i64 wt] 32)).alloc (.cells #[.int .i64 f, .int .i64 t] 2)).cell? ⟨w.heap.size, 0, none⟩ = some (.int .i64 p) := (blk_cell (blk_alloc (blk_alloc K.out _) _) 0).trans rfl
   clear hna hnb hba
   have aft : ∀ {w1 : World}, Below ((wr.alloc (.cells #[.int .i64 f, .int .i64 t, .int .i64 ri, .int .i64 wt] 32)).alloc (.cells #[.int .i64 f, .int .i64 t] 2)).heap.size ((wr.alloc (.cells #[.int .i64 f, .int .i64 t, .int .i64 ri, .int .i64 wt] 32)).alloc (.cells #[.int .i64 f, .int .i64 t] 2)) w1 → (w1.heap[wr.heap.size]? = some (.cells #[.int .i64 f, .int .i64 t, .int .i64 ri, .int .i64 wt] 32 (0, 0))) ∧ Below w.heap.size w w1 ∧ Below (w.alloc (BS p (some ad) l.length c)).heap.size (w.alloc (BS p (some ad) l.length c)) w1 :=
    fun h => ⟨blk_below HNA.out h, below_step HB.out (below_step HBA.out h), below_step HB0.out (below_step HBA.out h)⟩
   have AFT := Aside0.mk @aft
   clear aft
   by_cases q1 : areIn [f, t] 0 (wrap64 (p - 1)) = true
   ·rw [q1] at hcw
    by_cases q2 : f = t
    ·have d2 : (f == t) = true := by simpa using q2
     have HF := Aside0.mk (show l.all (sightB p) = false by rw [HD.out, HQ.out, d2]; simp)
     clear q1 q2
     go_wp2_with (go_at_call 110; refine hcw.mono ?_; rintro e w1 ⟨rfl, hb⟩; obtain ⟨hk, hb1, hb2⟩ := AFT.out hb; have k0 : w1.cell? ⟨wr.heap.size, 0, none⟩ = some (.int .i64 f) := (blk_cell hk 0).trans rfl; have k1 : w1.cell? ⟨wr.heap.size, 1, none⟩ = some (.int .i64 t) := (blk_cell hk 1).trans rfl; have HB1 := Aside0.mk hb1; clear hb hb1 hb2 hk)
     go_ret
     exact ⟨ret_bool (by rw [HS.out, HF.out, Bool.and_false]), HB1.out⟩
    ·have d2 : (f == t) = false := by simpa using q2
     by_cases q3 : inB (-100) 100 ri = true
     ·by_cases q4 : inB 1 3 wt = true
      ·have HT := Aside0.mk (show l.all (sightB p) = (l.drop (i + 1)).all (sightB p) by rw [HD.out, HQ.out, q1, d2, q3, q4]; simp)
       clear q1 q2
       go_wp2_with (first
        | (go_at_call 110; refine hcw.mono ?_; rintro e w1 ⟨rfl, hb⟩; obtain ⟨hk, hb1, hb2⟩ := AFT.out hb; have k0 : w1.cell? ⟨wr.heap.size, 0, none⟩ = some (.int .i64 f) := (blk_cell hk 0).trans rfl; have k1 : w1.cell? ⟨wr.heap.size, 1, none⟩ = some (.int .i64 t) := (blk_cell hk 1).trans rfl; have k2 : w1.cell? ⟨wr.heap.size, 2, none⟩ = some (.int .i64 ri) := (blk_cell hk 2).trans rfl; have k3 : w1.cell? ⟨wr.heap.size, 3, none⟩ = some (.int .i64 wt) := (blk_cell hk 3).trans rfl; have HB1 := Aside0.mk hb1; have HB2 := Aside0.mk hb2; clear hb hb1 hb2 hk)
        | (go_at_call 82; refine (within_any _ _ _ _).mono ?_; rintro e w2 ⟨rfl, rfl⟩))
       go_roundw
       case rel => exact ⟨i + 1, by go_num, by omega, HT, HB1, HB2⟩
       case measure => simp [intOf]; omega
      ·have q4' : inB 1 3 wt = false := by simpa using q4
       have HF := Aside0.mk (show l.all (sightB p) = false by rw [HD.out, HQ.out, q4']; simp)
       clear q1 q2 q4
       go_wp2_with (first
        | (go_at_call 110; refine hcw.mono ?_; rintro e w1 ⟨rfl, hb⟩; obtain ⟨hk, hb1, hb2⟩ := AFT.out hb; have k0 : w1.cell? ⟨wr.heap.size, 0, none⟩ = some (.int .i64 f) := (blk_cell hk 0).trans rfl; have k1 : w1.cell? ⟨wr.heap.size, 1, none⟩ = some (.int .i64 t) := (blk_cell hk 1).trans rfl; have k2 : w1.cell? ⟨wr.heap.size, 2, none⟩ = some (.int .i64 ri) := (blk_cell hk 2).trans rfl; have k3 : w1.cell? ⟨wr.heap.size, 3, none⟩ = some (.int .i64 wt) := (blk_cell hk 3).trans rfl; have HB1 := Aside0.mk hb1; clear hb hb1 hb2 hk)
        | (go_at_call 82; refine (within_any _ _ _ _).mono ?_; rintro e w2 ⟨rfl, rfl⟩))
       go_ret
       exact ⟨ret_bool (by rw [HS.out, HF.out, Bool.and_false]), HB1.out⟩
     ·have q3' : inB (-100) 100 ri = false := by simpa using q3
      have HF := Aside0.mk (show l.all (sightB p) = false by rw [HD.out, HQ.out, q3']; simp)
      clear q1 q2 q3
      go_wp2_with (first
       | (go_at_call 110; refine hcw.mono ?_; rintro e w1 ⟨rfl, hb⟩; obtain ⟨hk, hb1, hb2⟩ := AFT.out hb; have k0 : w1.cell? ⟨wr.heap.size, 0, none⟩ = some (.int .i64 f) := (blk_cell hk 0).trans rfl; have k1 : w1.cell? ⟨wr.heap.size, 1, none⟩ = some (.int .i64 t) := (blk_cell hk 1).trans rfl; have k2 : w1.cell? ⟨wr.heap.size, 2, none⟩ = some (.int .i64 ri) := (blk_cell hk 2).trans rfl; have HB1 := Aside0.mk hb1; clear hb hb1 hb2 hk)
       | (go_at_call 82; refine (within_any _ _ _ _).mono ?_; rintro e w2 ⟨rfl, rfl⟩))
      go_ret
      exact ⟨ret_bool (by rw [HS.out, HF.out, Bool.and_false]), HB1.out⟩
   ·have q1' : areIn [f, t] 0 (wrap64 (p - 1)) = false := by simpa using q1
    rw [q1'] at hcw
    have HF := Aside0.mk (show l.all (sightB p) = false by rw [HD.out, HQ.out, q1']; simp)
    clear q1 q1'
    go_wp2_with (go_at_call 110; refine hcw.mono ?_; rintro e w1 ⟨rfl, hb⟩; obtain ⟨hk, hb1, hb2⟩ := AFT.out hb; have HB1 := Aside0.mk hb1; clear hb hb1 hb2 hk)
    go_ret
    exact ⟨ret_bool (by rw [HS.out, HF.out, Bool.and_false]), HB1.out⟩
  ·obtain rfl : l.length = i := by omega
   have p1 : decide ((l.length : Int) < (l.length : Int)) = false := decide_eq_false (by omega)
   have HT := Aside0.mk (show l.all (sightB p) = true by rw [HA.out]; simp)
   by_cases q1 : inB 2 5 p = true
   ·have HU := Aside0.mk (show surveyB p l = decide ((l.length : Int) ≤ 8) by rw [HS.out, HT.out, q1]; simp)
    go_wp2_with (go_at_call 82; refine (within_any _ _ _ _).mono ?_; rintro e w2 ⟨rfl, rfl⟩)
    go_ret
    exact ⟨ret_bool (by rw [HU.out]), HB.out⟩
   ·have q1' : inB 2 5 p = false := by simpa using q1
    have HU := Aside0.mk (show surveyB p l = false by rw [HS.out, q1']; simp)
    clear q1
    go_wp2_with (go_at_call 82; refine (within_any _ _ _ _).mono ?_; rintro e w2 ⟨rfl, rfl⟩)
    go_ret
    exact ⟨ret_bool (by rw [HU.out]), HB.out⟩
end Go.Proofs.Ytkafbmanmffliaa.Hv

/- The program's tree, connected, IsConnected and arePoints, walked by hand. -/
namespace Go.Proofs.Ytkafbmanmffliaa.Hw
open Go Go.RowKit YtkafbmanmffliaaW.PrintWords YtkafbmanmffliaaW.PrintLast YtkafbmanmffliaaW.PrintMore Q Gd Ge Gi Hb Ha Hc Hd Hv PuT
structure Two (w0 wz : World) (bo co bg cg : Nat) (o g : List Int) : Prop where
 ob : w0.heap.size ≤ bo
 gb : w0.heap.size ≤ bg
 oc : Cb wz 2 bo co (o.map (Value.int .i64))
 gc : Cb wz 2 bg cg (g.map (Value.int .i64))
 ne : bo ≠ bg
 be : Below w0.heap.size w0 wz
section
variable {w0 wr w1 w2 : World} {bo co bg cg g1 cap1 : Nat} {o g : List Int} {x : Int}
theorem Two.below (h : Two w0 wr bo co bg cg o g) (hb : Below wr.heap.size wr w1) : Two w0 w1 bo co bg cg o g := ⟨h.ob, h.gb, h.oc.below hb, h.gc.below hb, h.ne, below_step h.be hb⟩
theorem Two.pushO (h : Two w0 wr bo co bg cg o g) (hc : Cb w2 2 g1 cap1 (o.map (Value.int .i64) ++ [.int .i64 x])) (hat : g1 = bo ∨ wr.heap.size ≤ g1) (hg : wr.grownBy w2 (some bo)) : Two w0 w2 g1 cap1 bg cg (o ++ [x]) g := by
 have hs := h.be.size
 have hl := h.gc.lt
 have h1 := h.ob
 have h2 := h.ne
 refine ⟨?_, h.gb, by rw [List.map_append]; exact hc, h.gc.kept (hg.block bg hl (fun e => h2 (Option.some.inj e).symm)), ?_, below_grownB h.be (Nat.le_refl _) hg h.ob⟩
 ·rcases hat with e | e <;> omega
 ·rcases hat with e | e <;> omega
theorem Two.pushG (h : Two w0 wr bo co bg cg o g) (hc : Cb w2 2 g1 cap1 (g.map (Value.int .i64) ++ [.int .i64 x])) (hat : g1 = bg ∨ wr.heap.size ≤ g1) (hg : wr.grownBy w2 (some bg)) : Two w0 w2 bo co g1 cap1 o (g ++ [x]) := by
 have hs := h.be.size
 have hl := h.oc.lt
 have h1 := h.gb
 have h2 := h.ne
 refine ⟨h.ob, ?_, h.oc.kept (hg.block bo hl (fun e => h2 (Option.some.inj e))), by rw [List.map_append]; exact hc, ?_, below_grownB h.be (Nat.le_refl _) hg h.gb⟩
 ·rcases hat with e | e <;> omega
 ·rcases hat with e | e <;> omega
theorem Two.setG (h : Two w0 wr bo co bg cg o g) (i : Nat) (x : Int) : Two w0 (wr.setCell ⟨bg, i, none⟩ (.int .i64 x)) bo co bg cg o (g.set i x) := by
 obtain ⟨h1, h2⟩ := h.gc.put i (.int .i64 x) (Pv.i64 x)
 refine ⟨h.ob, h.gb, h.oc.kept (h2.block bo h.oc.lt (fun e => h.ne (Option.some.inj e))), ?_, h.ne, h.be.setCell (p := ⟨bg, i, none⟩) h.gb _⟩
 rw [List.map_set]
 exact h1
theorem Two.cell (h : Two w0 wr bo co bg cg o g) (i : Nat) (hi : i < g.length) : wr.cell? ⟨bg, i, none⟩ = some (.int .i64 (rd g i)) ∧ wr.frozen? ⟨bg, i, none⟩ = false :=
 h.gc.at_ i _ (by rw [List.getElem?_map, List.getElem?_eq_getElem hi]; simp [rd, List.getD_eq_getElem?_getD, hi])
end
theorem nums (i : Nat) : (List.range (i + 1)).map (fun k : Nat => (k : Int)) = (List.range i).map (fun k : Nat => (k : Int)) ++ [(i : Int)] := by simp [List.range_succ]
set_option maxHeartbeats 8000000 in
set_option maxRecDepth 100000 in
theorem tree_any (n : Nat) (l : List S32) (hv : surveyB n l = true) (A : Option Addr) (c : Nat) (w : World) (hr : Kd.C k32 w A l.length l) :
  Calls Try.prog 75 #[.agg #[.int .i64 (n : Int), .slice A l.length c]] w fun e w' => ∃ (bo co : Nat) (v : Value), e = .returned (.tuple #[.slice (some ⟨bo, 0, none⟩) (treeG n l).out.length co, v]) ∧ Below w.heap.size w w' := by
 have hu26 := Try.underlying26
 have hu32 := Try.underlying32
 have hp5 := valid_pts hv
 have hbx := below_alloc (Below.refl w.heap.size w) (BS n A l.length c)
 have HR := Aside0.mk (Kd.C_below hr hbx)
 have HX := Aside0.mk (heap_alloc_new w (BS n A l.length c))
 have HV := Aside0.mk hv
 have HB0 := Aside0.mk hbx
 clear hr hbx hv
 go_enter Try.func75, Try.ntmps75
 have hbk := blk_alloc (blk_alloc HX.out (.cells #[] 2)) (.cells #[] 2)
 have e0 : (((w.alloc (BS n A l.length c)).alloc (.cells #[] 2)).alloc (.cells #[] 2)).cell? ⟨w.heap.size, 0, none⟩ = some (.int .i64 (n : Int)) := (blk_cell hbk 0).trans rfl
 go_wp2_with (fail)
 clear hbk e0
 obtain ⟨W0, hW0⟩ : ∃ W0, W0 = w.alloc (BS n A l.length c) := ⟨_, rfl⟩
 have hs0 : W0.heap.size = w.heap.size + 1 := by rw [hW0]; simp
 rw [← hW0] at HR HX HB0
 rw [← hW0]
 have t0 := Aside0.mk (show Two W0 ((W0.alloc (.cells #[] 2)).alloc (.cells #[] 2)) (w.heap.size + 1) 0 (w.heap.size + 1 + 1) 0 [] ((List.range 0).map (fun k : Nat => (k : Int))) from
  ⟨by omega, by omega, by rw [← hs0]; exact (Cb.nil_new W0 2).below (below_alloc (Below.refl _ _) _), by have h := Cb.nil_new (W0.alloc (.cells #[] 2)) 2; rw [World.size_alloc, hs0] at h; exact h, by omega, below_alloc (below_alloc (Below.refl _ _) _) _⟩)
 clear hW0 hs0
 go_loopw [5, 16] (fun v5 v16 wz => ∃ (i bo co bg cg : Nat), v5 = .slice (some ⟨bg, 0, none⟩) i cg ∧ v16 = .int .i64 (i : Int) ∧ i ≤ n ∧ bo = w.heap.size + 1 ∧ co = 0 ∧ Aside0 (Two W0 wz bo co bg cg [] ((List.range i).map (fun k : Nat => (k : Int))))) (fun _ v _ => n - (intOf v).toNat)
 case atStart => exact ⟨0, _, _, _, 0, rfl, rfl, by omega, rfl, rfl, t0⟩
 case round =>
  clear t0
  obtain ⟨i, bo, co, bg, cg, rfl, rfl, hi, hbo, hco, HT⟩ := hrel
  by_cases hlt : i < n
  ·have p1 : decide ((i : Int) < (n : Int)) = true := decide_eq_true (by omega)
   have hlen : ((List.range i).map (fun k : Nat => (k : Int))).length = i := by simp
   go_wp2_with ((with_reducible refine gate_builtin (b := .append) (xs := #[.tmp 19, .tmp 21]) rfl ?_); at_builtin; refine Cb.append rfl (.tmp 19) (.tmp 21) 28 2 (.int .i64 0) 8 rfl Try.underlying28 info2 rfl (Pv.i64 _) (by decide) bg cg i _ (.int .i64 (i : Int)) (by rw [List.length_map, hlen]) rfl rfl rfl (Pv.i64 _) HT.out.gc (by rw [List.length_map, hlen]; omega) ?_; intro g1 cap1 w2 h1 h2 h3; have HN := Aside0.mk (HT.out.pushG h1 h2 h3); clear h1 h2 h3)
   rw [← nums] at HN
   go_roundw
   case rel => exact ⟨i + 1, bo, co, g1, cap1, by go_num, by go_num, by omega, hbo, hco, HN⟩
   case measure => simp [intOf]; omega
  ·obtain rfl : n = i := by omega
   have p1 : decide ((n : Int) < (n : Int)) = false := decide_eq_false (by omega)
   have t1 := Aside0.mk (show Two W0 wr bo co bg cg (atG n l 0).out (atG n l 0).grp from HT.out)
   have hcy : wr.cell? ⟨w.heap.size, 1, none⟩ = some (.slice A l.length c) := (blk_cell (blk_below HX.out HT.out.be) 1).trans rfl
   subst hbo hco
   clear HT
   go_wp2_with (fail)
   clear hcy
   go_loopw [4, 27] (fun v4 v27 wz => ∃ (i bo co : Nat), v4 = .slice (some ⟨bo, 0, none⟩) (atG n l i).out.length co ∧ v27 = .int .i64 (i : Int) ∧ i ≤ l.length ∧ Aside0 (Two W0 wz bo co bg cg (atG n l i).out (atG n l i).grp)) (fun _ v _ => l.length - (intOf v).toNat)
   case atStart => exact ⟨0, _, _, rfl, rfl, by omega, t1⟩
   case round =>
    clear t1
    obtain ⟨i, bo, co, rfl, rfl, hi, HT⟩ := hrel
    by_cases hlt2 : i < l.length
    ·have p2 : decide ((i : Int) < (l.length : Int)) = true := decide_eq_true (by omega)
     obtain ⟨ad, e, x0, x1, x2, x3⟩ := at_T32 (Kd.C_below HR.out HT.out.be) (i : Int) (by omega) (by omega)
     subst e
     rw [Int.toNat_natCast] at x0 x1 x2 x3
     have hva := valid_at HV.out i hlt2
     have HSU := Aside0.mk (atG_succ n l i hlt2)
     have hgl := atG_len n l i
     have hol := atG_out n l i
     rw [Int.toNat_natCast] at hgl
     obtain ⟨s, hs⟩ : ∃ s, s = rd_T32 l i := ⟨_, rfl⟩
     rw [← hs] at x0 x1 x2 x3 hva HSU
     clear hs
     obtain ⟨f, t, ri, wt⟩ := s
     dsimp only at x0 x1 x2 x3 hva
     obtain ⟨y0, y1, y2, y3⟩ := hva
     obtain ⟨f, rfl⟩ : ∃ q : Nat, f = q := ⟨f.toNat, by omega⟩
     obtain ⟨t, rfl⟩ : ∃ q : Nat, t = q := ⟨t.toNat, by omega⟩
     obtain ⟨G, hG⟩ : ∃ G, G = (atG n l i).grp := ⟨_, rfl⟩
     obtain ⟨O, hO⟩ : ∃ O, O = (atG n l i).out := ⟨_, rfl⟩
     rw [← hG] at hgl HT
     rw [← hO] at hol HT
     have HST := Aside0.mk (show atG n l (i + 1) = if rd G (f : Int) = rd G (t : Int) then ⟨O, G⟩ else ⟨O ++ [(i : Int)], G.map fun v => if v = rd G (t : Int) then rd G (f : Int) else v⟩ by rw [HSU.out, hG, hO]; rfl)
     have hba := below_alloc (Below.refl wr.heap.size wr) (.cells #[.int .i64 (f : Int), .int .i64 (t : Int), .int .i64 ri, .int .i64 wt] 32)
     have hna := heap_alloc_new wr (.cells #[.int .i64 (f : Int), .int .i64 (t : Int), .int .i64 ri, .int .i64 wt] 32)
     have HT1 := Aside0.mk (HT.out.below hba)
     have z0 := (HT1.out.cell f (by omega)).1
     have z1 := (HT1.out.cell t (by omega)).1
     obtain ⟨va, hva⟩ : ∃ va, va = rd G (f : Int) := ⟨_, rfl⟩
     obtain ⟨vb, hvb⟩ : ∃ vb, vb = rd G (t : Int) := ⟨_, rfl⟩
     rw [← hva] at z0 HST
     rw [← hvb] at z1 HST
     have i1 : (0 ≤ (f : Int)) = True := eq_true (by omega)
     have i2 : ((f : Int) < (n : Int)) = True := eq_true (by omega)
     have i3 : (0 ≤ (t : Int)) = True := eq_true (by omega)
     have i4 : ((t : Int) < (n : Int)) = True := eq_true (by omega)
     clear hva hvb HSU HT hna
     rw [← hO]
     by_cases hab : va = vb
     ·have d1 : (va == vb) = true := by simpa using hab
      have HS2 := Aside0.mk (show (atG n l (i + 1)).out = O ∧ (atG n l (i + 1)).grp = G by rw [HST.out, if_pos hab]; exact ⟨rfl, rfl⟩)
      clear hab
      go_wp2_with (fail)
      go_quiet (fail)
      go_wp2_with (fail)
      have HT2 := Aside0.mk (HT1.out.below (pw_below_drewN (Below.refl _ _) nq))
      go_roundw
      case rel => exact ⟨i + 1, bo, co, by rw [HS2.out.1], by go_num, by omega, ⟨by rw [HS2.out.1, HS2.out.2]; exact HT2.out⟩⟩
      case measure => simp [intOf]; omega
     ·have d1 : (va == vb) = false := by simpa using hab
      have HS2 := Aside0.mk (show (atG n l (i + 1)).out = O ++ [(i : Int)] ∧ (atG n l (i + 1)).grp = G.map fun v => if v = vb then va else v by rw [HST.out, if_neg hab]; exact ⟨rfl, rfl⟩)
      clear hab
      go_wp2_with (fail)
      go_quiet (fail)
      have HT2 := Aside0.mk (HT1.out.below (pw_below_drewN (Below.refl _ _) nq))
      obtain ⟨wb, hwb⟩ : ∃ wb, wb = (wr.alloc (.cells #[.int .i64 (f : Int), .int .i64 (t : Int), .int .i64 ri, .int .i64 wt] 32)).drewN nq := ⟨_, rfl⟩
      rw [← hwb] at HT2
      rw [← hwb]
      clear hwb
      go_wp2_with ((with_reducible refine gate_builtin (b := .append) (xs := #[.tmp 45, .tmp 47]) rfl ?_); at_builtin; refine Cb.append rfl (.tmp 45) (.tmp 47) 28 2 (.int .i64 0) 8 rfl Try.underlying28 info2 rfl (Pv.i64 _) (by decide) bo co O.length _ (.int .i64 (i : Int)) (by rw [List.length_map]) rfl rfl rfl (Pv.i64 _) HT2.out.oc (by rw [List.length_map]; omega) ?_; intro g1 cap1 w2 h1 h2 h3; have HT3 := Aside0.mk (HT2.out.pushO h1 h2 h3); clear h1 h2 h3)
      obtain ⟨G2, hG2⟩ : ∃ G2, G2 = G.map fun v => if v = vb then va else v := ⟨_, rfl⟩
      have hl2 : G2.length = G.length := by rw [hG2]; simp
      have HNX := Aside0.mk (show ∀ (j : Nat) (h : j < G.length), G2[j]'(by rw [hl2]; exact h) = if rd G j = vb then va else rd G j from fun j h => by
       simp only [hG2, List.getElem_map]
       rw [show rd G (j : Int) = G[j] by simp [rd, List.getD_eq_getElem?_getD, h]])
      have t2 := Aside0.mk (show Two W0 w2 g1 cap1 bg cg (O ++ [(i : Int)]) (Hc.upd G2 G 0) by rw [upd_zero]; exact HT3.out)
      have HG2 := Aside0.mk hG2
      clear hG2 HT1 HT2 HT3
      go_loopw [51] (fun v51 wz => ∃ j : Nat, v51 = .int .i64 (j : Int) ∧ j ≤ n ∧ Aside0 (Two W0 wz g1 cap1 bg cg (O ++ [(i : Int)]) (Hc.upd G2 G j))) (fun v _ => n - (intOf v).toNat)
      case atStart => exact ⟨0, rfl, by omega, t2⟩
      case round =>
       clear t2
       obtain ⟨j, rfl, hj, HT⟩ := hrel
       by_cases hjt : j < n
       ·have p3 : decide ((j : Int) < (n : Int)) = true := decide_eq_true (by omega)
        have hul := upd_len hl2 (k := j) (by omega)
        obtain ⟨z2, z3⟩ := HT.out.cell j (by omega)
        rw [rd_upd hl2 (by omega)] at z2
        have hnx := HNX.out j (by omega)
        have i5 : (0 ≤ (j : Int)) = True := eq_true (by omega)
        have i6 : ((j : Int) < (n : Int)) = True := eq_true (by omega)
        obtain ⟨vj, hvj⟩ : ∃ vj, vj = rd G (j : Int) := ⟨_, rfl⟩
        rw [← hvj] at z2 hnx
        by_cases hh : vj = vb
        ·have d2 : (vj == vb) = true := by simpa using hh
         rw [if_pos hh] at hnx
         have hst := HT.out.setG j va
         rw [← hnx, upd_set hl2 (by omega), hnx] at hst
         have HN := Aside0.mk hst
         clear hh hst hnx hvj hul
         go_wp2_with (fail)
         go_roundw
         case rel => exact ⟨j + 1, by go_num, by omega, HN⟩
         case measure => simp [intOf]; omega
        ·have d2 : (vj == vb) = false := by simpa using hh
         rw [if_neg hh, hvj, show rd G (j : Int) = G[j]'(by omega) by simp [rd, List.getD_eq_getElem?_getD, show j < G.length by omega]] at hnx
         have HN := Aside0.mk (show Two W0 wr g1 cap1 bg cg (O ++ [(i : Int)]) (Hc.upd G2 G (j + 1)) by rw [upd_same hl2 (by omega) hnx]; exact HT.out)
         clear hh hnx hvj hul z3
         go_wp2_with (fail)
         go_roundw
         case rel => exact ⟨j + 1, by go_num, by omega, HN⟩
         case measure => simp [intOf]; omega
       ·obtain rfl : n = j := by omega
        have p3 : decide ((n : Int) < (n : Int)) = false := decide_eq_false (by omega)
        have hall := HT.out
        rw [← hgl, upd_all hl2, HG2.out] at hall
        have HN := Aside0.mk hall
        clear hall
        go_wp2_with (fail)
        go_roundw
        case rel => exact ⟨i + 1, g1, cap1, by rw [HS2.out.1]; simp [hO], by go_num, by omega, ⟨by rw [HS2.out.1, HS2.out.2]; exact HN.out⟩⟩
        case measure => simp [intOf]; omega
    ·obtain rfl : l.length = i := by omega
     have p2 : decide ((l.length : Int) < (l.length : Int)) = false := decide_eq_false (by omega)
     go_wp2_with (fail)
     go_ret2
     exact ⟨bo, co, _, rfl, HB0.out.trans (HT.out.be.mono HB0.out.size)⟩
set_option maxHeartbeats 4000000 in
theorem connected_any (n : Nat) (l : List S32) (hv : surveyB n l = true) (A : Option Addr) (c : Nat) (w : World) (hr : Kd.C k32 w A l.length l) :
  Calls Try.prog 80 #[.agg #[.int .i64 (n : Int), .slice A l.length c]] w fun e w' => e = .returned (.bool (Gm.connB n l)) ∧ Below w.heap.size w w' := by
 have hu26 := Try.underlying26
 have hp5 := valid_pts hv
 have hbx := below_alloc (Below.refl w.heap.size w) (BS n A l.length c)
 have HX := Aside0.mk (heap_alloc_new w (BS n A l.length c))
 have hct := tree_any n l hv A c (w.alloc (BS n A l.length c)) (Kd.C_below hr hbx)
 have HB0 := Aside0.mk hbx
 have hw : wrap64 ((n : Int) - 1) = (n : Int) - 1 := by unfold wrap64; omega
 have HQ := Aside0.mk (show ((((treeG n l).out.length : Nat) : Int) == (n : Int) - 1) = Gm.connB n l by
  have h := conn_eq hv
  rw [Bool.eq_iff_iff, beq_iff_eq, ← h]
  unfold Gm.connB
  rw [hv, Bool.true_and])
 clear hr hbx hv
 go_enter Try.func80, Try.ntmps80
 go_wp2_with (fail)
 refine hct.mono ?_
 rintro e w1 ⟨bo, co, v, rfl, hb⟩
 have e0 : w1.cell? ⟨w.heap.size, 0, none⟩ = some (.int .i64 (n : Int)) := (blk_cell (blk_below HX.out hb) 0).trans rfl
 have HB1 := Aside0.mk (below_step HB0.out hb)
 clear hct hb
 go_wp2_with (fail)
 go_ret
 exact ⟨ret_bool HQ.out, HB1.out⟩
set_option maxHeartbeats 4000000 in
theorem isConn_any (p : Int) (l : List S32) (A : Option Addr) (c : Nat) (w : World) (hr : Kd.C k32 w A l.length l) (hl : l.length ≤ 1048576) :
  Calls Try.prog 40 #[.agg #[.int .i64 p, .slice A l.length c]] w fun e w' => e = .returned (.bool (Gm.connB p l)) ∧ Below w.heap.size w w' := by
 have hu26 := Try.underlying26
 have hbx := below_alloc (Below.refl w.heap.size w) (BS p A l.length c)
 have HX := Aside0.mk (heap_alloc_new w (BS p A l.length c))
 have HR := Aside0.mk (Kd.C_below hr hbx)
 have hcv := valid_any p l A c (w.alloc (BS p A l.length c)) HR.out hl
 have HB0 := Aside0.mk hbx
 clear hr hbx
 by_cases hv : surveyB p l = true
 ·obtain ⟨n, rfl⟩ := nat_pts hv
  have hcc := fun (W : World) (h : Kd.C k32 W A l.length l) => connected_any n l hv A c W h
  rw [hv] at hcv
  clear hv
  go_enter Try.func40, Try.ntmps40
  go_wp2_with (fail)
  refine hcv.mono ?_
  rintro e w1 ⟨rfl, hb⟩
  have hz := hcc w1 (Kd.C_below HR.out hb)
  have e0 : w1.cell? ⟨w.heap.size, 0, none⟩ = some (.int .i64 (n : Int)) := (blk_cell (blk_below HX.out hb) 0).trans rfl
  have e1 : w1.cell? ⟨w.heap.size, 1, none⟩ = some (.slice A l.length c) := (blk_cell (blk_below HX.out hb) 1).trans rfl
  have HB1 := Aside0.mk (below_step HB0.out hb)
  clear hcv hcc hb
  go_wp2_with (fail)
  refine hz.mono ?_
  rintro e w2 ⟨rfl, hb⟩
  have HB2 := Aside0.mk (below_step HB1.out hb)
  clear hz hb e0 e1
  go_wp2_with (fail)
  go_ret
  exact ⟨rfl, HB2.out⟩
 ·have hv' : surveyB p l = false := by simpa using hv
  have HF := Aside0.mk (show false = Gm.connB p l by unfold Gm.connB; rw [hv', Bool.false_and])
  rw [hv'] at hcv
  clear hv hv'
  go_enter Try.func40, Try.ntmps40
  go_wp2_with (fail)
  refine hcv.mono ?_
  rintro e w1 ⟨rfl, hb⟩
  have HB1 := Aside0.mk (below_step HB0.out hb)
  clear hcv hb
  go_wp2_with (fail)
  go_ret
  exact ⟨ret_bool HF.out, HB1.out⟩
def ptsB (p : Int) (l : List S32) (a b : Int) : Bool := Gm.connB p l && (inB 0 (p - 1) a && inB 0 (p - 1) b)
set_option maxHeartbeats 4000000 in
theorem pts_any (p : Int) (l : List S32) (a b : Int) (A : Option Addr) (c : Nat) (w : World) (hr : Kd.C k32 w A l.length l) (hl : l.length ≤ 1048576) :
  Calls Try.prog 62 #[.agg #[.int .i64 p, .slice A l.length c], .int .i64 a, .int .i64 b] w fun e w' => e = .returned (.bool (ptsB p l a b)) ∧ Below w.heap.size w w' := by
 have hu26 := Try.underlying26
 have hbx := below_alloc (Below.refl w.heap.size w) (BS p A l.length c)
 have HX := Aside0.mk (heap_alloc_new w (BS p A l.length c))
 have hcv := isConn_any p l A c (w.alloc (BS p A l.length c)) (Kd.C_below hr hbx) hl
 have HB0 := Aside0.mk hbx
 clear hr hbx
 by_cases h : Gm.connB p l = true
 ·have hp : wrap64 (p - 1) = p - 1 := by
   have h2 := h
   unfold Gm.connB surveyB inB at h2
   simp only [Bool.and_eq_true, decide_eq_true_eq] at h2
   unfold wrap64
   omega
  have HQ := Aside0.mk (show areIn [a, b] 0 (p - 1) = ptsB p l a b by unfold ptsB areIn; rw [h]; simp only [List.all_cons, List.all_nil, Bool.and_true, Bool.true_and])
  rw [h] at hcv
  clear h
  go_enter Try.func62, Try.ntmps62
  go_wp2_with (fail)
  refine hcv.mono ?_
  rintro e w1 ⟨rfl, hb⟩
  have e0 : (w1.alloc (.cells #[.int .i64 a, .int .i64 b] 2)).cell? ⟨w.heap.size, 0, none⟩ = some (.int .i64 p) := (blk_cell (blk_alloc (blk_below HX.out hb) _) 0).trans rfl
  have HB1 := Aside0.mk (below_step (below_step HB0.out hb) (below_alloc (Below.refl w1.heap.size w1) (.cells #[.int .i64 a, .int .i64 b] 2)))
  have hca := areWithin_any (some ⟨w1.heap.size, 0, none⟩) 2 [a, b] 0 (p - 1) _ (C_two _ _ a b (heap_alloc_new w1 (.cells #[.int .i64 a, .int .i64 b] 2)))
  clear hcv hb
  go_wp2_with (fail)
  refine hca.mono ?_
  rintro e w2 ⟨rfl, hb⟩
  have HB2 := Aside0.mk (below_step HB1.out hb)
  clear hca hb e0
  go_wp2_with (fail)
  go_ret
  exact ⟨ret_bool HQ.out, HB2.out⟩
 ·have h' : Gm.connB p l = false := by simpa using h
  have HF := Aside0.mk (show false = ptsB p l a b by unfold ptsB; rw [h', Bool.false_and])
  rw [h'] at hcv
  clear h h'
  go_enter Try.func62, Try.ntmps62
  go_wp2_with (fail)
  refine hcv.mono ?_
  rintro e w1 ⟨rfl, hb⟩
  have HB1 := Aside0.mk (below_step HB0.out hb)
  clear hcv hb
  go_wp2_with (fail)
  go_ret
  exact ⟨ret_bool HF.out, HB1.out⟩
end Go.Proofs.Ytkafbmanmffliaa.Hw

/- The program's AdjustSurvey, ResidualsOf, RedundanciesOf, CofactorOf, RiseBetween: what they return. -/
namespace Go.Proofs.Ytkafbmanmffliaa.Ex
open Go Go.RowKit YtkafbmanmffliaaW.PrintWords YtkafbmanmffliaaW.PrintLast YtkafbmanmffliaaW.PrintMore Q Bg Dd Bi Ra Gd Ge Hb Ha Hc Gs Gn Kc Ke Kf Gt Gu Gv Lo Lo2
theorem conn_any (p : Int) (l : List S32) (A : Option Addr) (c : Nat) (w : World) (hr : Kd.C k32 w A l.length l) (hc : l.length ≤ c) (hl : l.length ≤ 1048576) :
  Calls Try.prog 40 #[.agg #[.int .i64 p, .slice A l.length c]] w fun e w' => e = .returned (.bool (Gm.connB p l)) ∧ Below w.heap.size w w' :=
 Hw.isConn_any p l A c w hr hl
def ptsB (p : Int) (l : List S32) (a b : Int) : Bool := Gm.connB p l && (inB 0 (p - 1) a && inB 0 (p - 1) b)
theorem conn_nat {p : Int} {l : List S32} (h : Gm.connB p l = true) : ∃ n : Nat, p = (n : Int) + 1 := by
 have hv := h
 unfold Gm.connB surveyB inB at hv
 simp only [Bool.and_eq_true, decide_eq_true_eq] at hv
 exact ⟨p.toNat - 1, by omega⟩
theorem pts_any (p : Int) (l : List S32) (a b : Int) (A : Option Addr) (c : Nat) (w : World) (hr : Kd.C k32 w A l.length l) (hc : l.length ≤ c) (hl : l.length ≤ 1048576) :
  Calls Try.prog 62 #[.agg #[.int .i64 p, .slice A l.length c], .int .i64 a, .int .i64 b] w fun e w' => e = .returned (.bool (ptsB p l a b)) ∧ Below w.heap.size w w' := by
 exact Hw.pts_any p l a b A c w hr hl
def dn (n : Nat) (l : List S32) : Nat := (den l n).toNat
theorem dn_pos {n : Nat} {l : List S32} (hc : Gm.connB ((n : Int) + 1) l = true) : 0 < dn n l ∧ dn n l ≤ 1073741824 ∧ ((dn n l : Nat) : Int) = den l n := by
 have h := ok_rgt hc
 have hd := h.pos n (Nat.le_refl _)
 rw [h.last] at hd
 have hn := conn_n hc
 have hd2 : den l n ≤ 1073741824 := by
  rw [← h.last]
  obtain ⟨m, rfl⟩ : ∃ m, n = m + 1 := ⟨n - 1, by omega⟩
  rw [LL_succ _ m (by omega)]
  exact (h.size m m m (by omega) (by omega) (by omega)).2
 unfold dn
 omega
theorem nu_size {n : Nat} {l : List S32} {right : List Int} (h : Ok n l right) (p : Int) (hp : p ≤ n) : -1073741824 ≤ nu l right n p ∧ nu l right n p ≤ 1073741824 := by
 unfold nu
 split
 ·omega
 ·exact h.size n (p.toNat - 1) n (Nat.le_refl _) (by omega) (Nat.le_refl _)
theorem mkq {a : Int} {d : Nat} : mkRat a d = (a : Rat) / ((d : Int) : Rat) := by rw [Rat.mkRat_eq_div, Rat.intCast_natCast]
def resN (n : Nat) (l : List S32) (s : S32) : Int := s.f2 * den l n - nu l (rgt n l) n s.f1 + nu l (rgt n l) n s.f0
def cofN (n : Nat) (l : List S32) (a b : Int) : Int := nu l (rco n a b) n b - nu l (rco n a b) n a
def redN (n : Nat) (l : List S32) (s : S32) : Int := den l n - s.f3 * cofN n l s.f0 s.f1
theorem den_rat {n : Nat} {l : List S32} (hc : Gm.connB ((n : Int) + 1) l = true) : (((dn n l : Nat) : Int) : Rat) = (den l n : Rat) ∧ (den l n : Rat) ≠ 0 := ⟨by rw [(dn_pos hc).2.2], den_ne (ok_rgt hc)⟩
theorem res_mk {n : Nat} {l : List S32} (hc : Gm.connB ((n : Int) + 1) l = true) (s : S32) : res n l s = mkRat (resN n l s) (dn n l) := by
 obtain ⟨h1, h2⟩ := den_rat hc
 rw [mkq, h1]
 unfold res dif hts xs resN
 push_cast
 grind
theorem cof_mk {n : Nat} {l : List S32} (hc : Gm.connB ((n : Int) + 1) l = true) (a b : Int) : cof n l a b = mkRat (cofN n l a b) (dn n l) := by
 obtain ⟨h1, h2⟩ := den_rat hc
 rw [mkq, h1]
 unfold cof cox xs cofN
 push_cast
 grind
theorem resN_size {n : Nat} {l : List S32} (hc : Gm.connB ((n : Int) + 1) l = true) (s : S32) (hs : s ∈ l) : (resN n l s).natAbs < 1099511627776 := by
 have hv := mem_at (conn_v hc) s hs
 have h1 := nu_size (ok_rgt hc) s.f1 (by omega)
 have h2 := nu_size (ok_rgt hc) s.f0 (by omega)
 have h3 := dn_pos hc
 have h4 := mulb (X := 100) (Y := 1073741824) (a := s.f2) (b := den l n) (by decide) (by decide) (by unfold Bd; omega) (by unfold Bd; omega)
 unfold Bd at h4
 unfold resN
 omega
theorem sm_mk {a : Int} {d : Nat} {k : Nat} (hd : 0 < d) (h1 : a.natAbs < 2 ^ k) (h2 : d < 2 ^ k) : Sm k (mkRat a d) := by
 have := Sm.divInt (a := a) (b := (d : Int)) (by omega) h1 (by rw [Int.natAbs_natCast]; exact h2)
 rwa [Rat.divInt_ofNat] at this
theorem list_low (b cap : Nat) (us : List Value) (F : Nat → Rat) (w : World) (S : List Int) (D : Nat) (hC : Cb w 74 b cap us) (hF : RowF w us S.length F) (hl : S.length ≤ 8) (hD0 : 0 < D) (hD : D ≤ 1073741824) (hS : ∀ s, s ∈ S → s.natAbs < 1099511627776) (hFS : ∀ k (h : k < S.length), F k = mkRat S[k] D) :
  Calls Try.prog 59 #[.slice (some ⟨b, 0, none⟩) S.length cap] w fun e w' => ∃ v : Value, e = .returned (.tuple #[.int .i64 ((D / gcdAll D S : Nat) : Int), v]) ∧ T w.heap.size w' v (lowL D S) ∧ Below w.heap.size w w' := by
 have e62 : (2 : Nat) ^ 62 = 4611686018427387904 := by decide
 have e63 : (2 : Nat) ^ 63 = 9223372036854775808 := by decide
 have h := Gw.list_any b cap S.length us F D w hC hF hl hD0 (by omega) (den_low hD0 hFS) (fun k hk => by
  rw [hFS k hk]
  exact sm_mk hD0 (by have := hS _ (List.getElem_mem hk); omega) (by omega)) (fun k hk => by
  have h1 := num_low hD0 hFS k hk
  have h2 := hS _ (List.getElem_mem hk)
  omega)
 rw [numL_low hD0 hFS, lc_low hD0 hFS] at h
 exact h
theorem rd_mem {l : List S32} {k : Nat} (hk : k < l.length) : rd_T32 l (k : Int) = l[k] := by simp only [rd_T32, Int.toNat_natCast]; rw [List.getD_eq_getElem?_getD, List.getElem?_eq_getElem hk]; rfl
def wp (p : Int) : Nat := p.toNat - 1
theorem wp_eq (n : Nat) : wp ((n : Int) + 1) = n := by unfold wp; omega
def adjL (p : Int) (l : List S32) : List Int := if Gm.connB p l = true then lowL (dn (wp p) l) (nuL l (rgt (wp p) l) (wp p)) else []
def adjD (p : Int) (l : List S32) : Int := if Gm.connB p l = true then ((dn (wp p) l / gcdAll (dn (wp p) l) (nuL l (rgt (wp p) l) (wp p)) : Nat) : Int) else 0
def resL (p : Int) (l : List S32) : List Int := if Gm.connB p l = true then lowL (dn (wp p) l) (l.map (resN (wp p) l)) else []
def resD (p : Int) (l : List S32) : Int := if Gm.connB p l = true then ((dn (wp p) l / gcdAll (dn (wp p) l) (l.map (resN (wp p) l)) : Nat) : Int) else 0
def redL (p : Int) (l : List S32) : List Int := if Gm.connB p l = true then lowL (dn (wp p) l) (l.map (redN (wp p) l)) else []
def redD (p : Int) (l : List S32) : Int := if Gm.connB p l = true then ((dn (wp p) l / gcdAll (dn (wp p) l) (l.map (redN (wp p) l)) : Nat) : Int) else 0
def Post3 (w : World) (d : Int) (xs : List Int) (ok : Bool) (e : Ending) (w' : World) : Prop := ∃ v : Value, e = .returned (.tuple #[.int .i64 d, v, .bool ok]) ∧ T w.heap.size w' v xs ∧ Below w.heap.size w w'
set_option maxHeartbeats 4000000 in
set_option maxRecDepth 100000 in
theorem resid_any (p : Int) (l : List S32) (A : Option Addr) (c : Nat) (w : World) (hr : Kd.C k32 w A l.length l) (hcl : l.length ≤ c) (hl : l.length ≤ 1048576) :
  Calls Try.prog 20 #[.agg #[.int .i64 p, .slice A l.length c]] w (Post3 w (resD p l) (resL p l) (Gm.connB p l)) := by
 have hu26 := Try.underlying26
 have hbx := below_alloc (Below.refl w.heap.size w) (SX p A l.length c)
 have HR := Aside0.mk (Kd.C_below hr hbx)
 have HX := Aside0.mk (heap_alloc_new w (SX p A l.length c))
 have hc0 := conn_any p l A c (w.alloc (SX p A l.length c)) HR.out hcl hl
 have HCL := Aside0.mk hcl
 have HB := Aside0.mk hbx
 clear hr hcl hl hbx
 by_cases h : Gm.connB p l = true
 ·obtain ⟨n, rfl⟩ := conn_nat h
  have HC := Aside0.mk h
  have HAD := Aside0.mk (show resD ((n : Int) + 1) l = ((dn n l / gcdAll (dn n l) (l.map (resN n l)) : Nat) : Int) by unfold resD; rw [if_pos h, wp_eq])
  have HAL := Aside0.mk (show resL ((n : Int) + 1) l = lowL (dn n l) (l.map (resN n l)) by unfold resL; rw [if_pos h, wp_eq])
  rw [h] at hc0
  rw [h]
  clear h
  go_enter Try.func20, Try.ntmps20
  go_wp2_with (fail)
  refine hc0.mono ?_
  rintro e w1 ⟨rfl, hb1⟩
  have HB1 := Aside0.mk (below_step HB.out hb1)
  have hbk := blk_below HX.out hb1
  have c0 : w1.cell? ⟨w.heap.size, 0, none⟩ = some (.int .i64 ((n : Int) + 1)) := (blk_cell hbk 0).trans rfl
  have c1 : w1.cell? ⟨w.heap.size, 1, none⟩ = some (.slice A l.length c) := (blk_cell hbk 1).trans rfl
  have hc1 := residuals_any n l HC.out A c w1 (Kd.C_below HR.out hb1) HCL.out
  clear hb1 hc0 hbk
  go_wp2_with (fail)
  refine hc1.mono ?_
  rintro e w2 ⟨bH, capH, usH, rfl, hH⟩
  have hlen : (l.map (resN n l)).length = l.length := by simp
  have hc2 := list_low bH capH usH (fun k => res n l (rd_T32 l k)) w2 (l.map (resN n l)) (dn n l) hH.2.1 (by rw [hlen]; exact hH.2.2.1) (by have := conn_n HC.out; omega) (dn_pos HC.out).1 (dn_pos HC.out).2.1 (fun s hs => by
   obtain ⟨k, hk, rfl⟩ := List.mem_map.1 hs
   exact resN_size HC.out k hk) (fun k hk => by
   have hk' : k < l.length := by simpa using hk
   rw [res_mk HC.out, rd_mem hk', List.getElem_map])
  rw [hlen] at hc2
  have HB2 := Aside0.mk (below_step HB1.out hH.2.2.2)
  clear hc1 hH hlen c0 c1
  go_wp2_with (fail)
  refine hc2.mono ?_
  rintro e w3 ⟨v, rfl, t3, hb3⟩
  have HT3 := Aside0.mk t3
  have HB3 := Aside0.mk (below_step HB2.out hb3)
  clear hc2 t3 hb3
  go_wp2_with (fail)
  go_ret3
  rw [HAD.out, HAL.out]
  exact ⟨v, rfl, Kd.R_lower HT3.out HB2.out.size, HB3.out⟩
 ·have h' : Gm.connB p l = false := by simpa using h
  have HAD := Aside0.mk (show resD p l = 0 by unfold resD; rw [if_neg h])
  have HAL := Aside0.mk (show resL p l = [] by unfold resL; rw [if_neg h])
  rw [h'] at hc0
  rw [h']
  clear h h'
  go_enter Try.func20, Try.ntmps20
  go_wp2_with (fail)
  refine hc0.mono ?_
  rintro e w1 ⟨rfl, hb1⟩
  have HB1 := Aside0.mk (below_step HB.out hb1)
  clear hb1 hc0
  go_wp2_with (fail)
  go_ret3
  rw [HAD.out, HAL.out]
  exact ⟨_, rfl, T.nil, HB1.out⟩
end Go.Proofs.Ytkafbmanmffliaa.Ex

/- The program's CofactorOf and RiseBetween: what they return. -/
namespace Go.Proofs.Ytkafbmanmffliaa.Ex2
open Go Go.RowKit YtkafbmanmffliaaW.PrintWords YtkafbmanmffliaaW.PrintLast YtkafbmanmffliaaW.PrintMore Q Bg Dd Bi Rt Rx Ra Gd Ge Ha Hc Gs Gn Kf Gt Gu Gx Gy Ex
def okN (ok : Bool) (q : Rat) : Int := if ok = true then q.num else 0
def okD (ok : Bool) (q : Rat) : Int := if ok = true then (q.den : Int) else 0
def Post2 (w : World) (q : Rat) (ok : Bool) (e : Ending) (w' : World) : Prop := e = .returned (.tuple #[.int .i64 (okN ok q), .int .i64 (okD ok q), .bool ok]) ∧ Below w.heap.size w w'
theorem pts_le {n : Nat} {l : List S32} {a b : Int} (h : ptsB ((n : Int) + 1) l a b = true) : 0 ≤ a ∧ a ≤ n ∧ 0 ≤ b ∧ b ≤ n := by
 unfold ptsB inB at h
 simp only [Bool.and_eq_true, decide_eq_true_eq] at h
 omega
def rise (n : Nat) (l : List S32) (a b : Int) : Rat := hts n l b - hts n l a
set_option maxHeartbeats 4000000 in
set_option maxRecDepth 100000 in
theorem cofactorOf_any (p : Int) (l : List S32) (a b : Int) (A : Option Addr) (c : Nat) (w : World) (hr : Kd.C k32 w A l.length l) (hcl : l.length ≤ c) (hl : l.length ≤ 1048576) :
  Calls Try.prog 22 #[.agg #[.int .i64 p, .slice A l.length c], .int .i64 a, .int .i64 b] w (Post2 w (cof (wp p) l a b) (ptsB p l a b)) := by
 unfold Post2
 have hu26 := Try.underlying26
 have hu69 := Try.underlying69
 have hbx := below_alloc (Below.refl w.heap.size w) (SX p A l.length c)
 have HR := Aside0.mk (Kd.C_below hr hbx)
 have HX := Aside0.mk (heap_alloc_new w (SX p A l.length c))
 have hc0 := pts_any p l a b A c (w.alloc (SX p A l.length c)) HR.out hcl hl
 have HCL := Aside0.mk hcl
 have HB := Aside0.mk hbx
 clear hr hcl hl hbx
 by_cases h : ptsB p l a b = true
 ·have hcn : Gm.connB p l = true := by unfold ptsB at h; simp only [Bool.and_eq_true] at h; exact h.1
  obtain ⟨n, rfl⟩ := conn_nat hcn
  obtain ⟨ha0, ha, hb0, hb⟩ := pts_le h
  obtain ⟨a, rfl⟩ : ∃ q : Nat, a = q := ⟨a.toNat, by omega⟩
  obtain ⟨b, rfl⟩ : ∃ q : Nat, b = q := ⟨b.toNat, by omega⟩
  have HC := Aside0.mk hcn
  have HN := Aside0.mk (show okN (ptsB ((n : Int) + 1) l a b) (cof (wp ((n : Int) + 1)) l a b) = (cof n l a b).num by unfold okN; rw [if_pos h, wp_eq])
  have HD := Aside0.mk (show okD (ptsB ((n : Int) + 1) l a b) (cof (wp ((n : Int) + 1)) l a b) = ((cof n l a b).den : Int) by unfold okD; rw [if_pos h, wp_eq])
  rw [h] at hc0 HN HD
  rw [h]
  clear h hcn
  go_enter Try.func22, Try.ntmps22
  go_wp2_with (fail)
  refine hc0.mono ?_
  rintro e w1 ⟨rfl, hb1⟩
  have HB1 := Aside0.mk (below_step HB.out hb1)
  have hbk := blk_below HX.out hb1
  have c0 : w1.cell? ⟨w.heap.size, 0, none⟩ = some (.int .i64 ((n : Int) + 1)) := (blk_cell hbk 0).trans rfl
  have c1 : w1.cell? ⟨w.heap.size, 1, none⟩ = some (.slice A l.length c) := (blk_cell hbk 1).trans rfl
  have hc1 := cofactor_any n l HC.out A c a b (by omega) (by omega) w1 (Kd.C_below HR.out hb1) HCL.out
  have HSM := Aside0.mk (sm_cof HC.out ha0 ha hb0 hb)
  clear hb1 hc0 hbk
  go_wp2_with (fail)
  refine hc1.mono ?_
  rintro e w3 ⟨pz, rfl, hpz, hri, hb3⟩
  have HB3 := Aside0.mk (below_step HB1.out hb3)
  have hs1 := single_any pz (cof n l a b) w3 hri HSM.out.1 HSM.out.2
  clear hpz hri hb3 hc1 c0 c1
  go_wp2_with (fail)
  refine hs1.mono ?_
  rintro e w4 ⟨rfl, hb4⟩
  have HB4 := Aside0.mk (below_step HB3.out hb4)
  clear hs1 hb4
  go_wp2_with (fail)
  go_ret3
  rw [HN.out, HD.out]
  exact ⟨rfl, HB4.out⟩
 ·have h' : ptsB p l a b = false := by simpa using h
  have HN := Aside0.mk (show okN (ptsB p l a b) (cof (wp p) l a b) = 0 by unfold okN; rw [if_neg h])
  have HD := Aside0.mk (show okD (ptsB p l a b) (cof (wp p) l a b) = 0 by unfold okD; rw [if_neg h])
  rw [h'] at hc0 HN HD
  rw [h']
  clear h h'
  go_enter Try.func22, Try.ntmps22
  go_wp2_with (fail)
  refine hc0.mono ?_
  rintro e w1 ⟨rfl, hb1⟩
  have HB1 := Aside0.mk (below_step HB.out hb1)
  clear hb1 hc0
  go_wp2_with (fail)
  go_ret3
  rw [HN.out, HD.out]
  exact ⟨rfl, HB1.out⟩
set_option maxHeartbeats 4000000 in
set_option maxRecDepth 100000 in
theorem riseBetween_any (p : Int) (l : List S32) (a b : Int) (A : Option Addr) (c : Nat) (w : World) (hr : Kd.C k32 w A l.length l) (hcl : l.length ≤ c) (hl : l.length ≤ 1048576) :
  Calls Try.prog 23 #[.agg #[.int .i64 p, .slice A l.length c], .int .i64 a, .int .i64 b] w (Post2 w (rise (wp p) l a b) (ptsB p l a b)) := by
 unfold Post2
 have hu26 := Try.underlying26
 have hu69 := Try.underlying69
 have hbx := below_alloc (Below.refl w.heap.size w) (SX p A l.length c)
 have HR := Aside0.mk (Kd.C_below hr hbx)
 have HX := Aside0.mk (heap_alloc_new w (SX p A l.length c))
 have hc0 := pts_any p l a b A c (w.alloc (SX p A l.length c)) HR.out hcl hl
 have HCL := Aside0.mk hcl
 have HB := Aside0.mk hbx
 clear hr hcl hl hbx
 by_cases h : ptsB p l a b = true
 ·have hcn : Gm.connB p l = true := by unfold ptsB at h; simp only [Bool.and_eq_true] at h; exact h.1
  obtain ⟨n, rfl⟩ := conn_nat hcn
  obtain ⟨ha0, ha, hb0, hb⟩ := pts_le h
  obtain ⟨a, rfl⟩ : ∃ q : Nat, a = q := ⟨a.toNat, by omega⟩
  obtain ⟨b, rfl⟩ : ∃ q : Nat, b = q := ⟨b.toNat, by omega⟩
  have HC := Aside0.mk hcn
  have HN := Aside0.mk (show okN (ptsB ((n : Int) + 1) l a b) (rise (wp ((n : Int) + 1)) l a b) = (rise n l a b).num by unfold okN; rw [if_pos h, wp_eq])
  have HD := Aside0.mk (show okD (ptsB ((n : Int) + 1) l a b) (rise (wp ((n : Int) + 1)) l a b) = ((rise n l a b).den : Int) by unfold okD; rw [if_pos h, wp_eq])
  rw [h] at hc0 HN HD
  rw [h]
  clear h hcn
  go_enter Try.func23, Try.ntmps23
  go_wp2_with (fail)
  refine hc0.mono ?_
  rintro e w1 ⟨rfl, hb1⟩
  have HB1 := Aside0.mk (below_step HB.out hb1)
  have hbk := blk_below HX.out hb1
  have c0 : w1.cell? ⟨w.heap.size, 0, none⟩ = some (.int .i64 ((n : Int) + 1)) := (blk_cell hbk 0).trans rfl
  have c1 : w1.cell? ⟨w.heap.size, 1, none⟩ = some (.slice A l.length c) := (blk_cell hbk 1).trans rfl
  have hc1 := adjusted_any n l HC.out A c w1 (Kd.C_below HR.out hb1) HCL.out
  have HSB := Aside0.mk (sm_xs (conn_n HC.out).2.1 (ok_rgt HC.out) (b : Int) (by omega) (by omega))
  have HSA := Aside0.mk (sm_xs (conn_n HC.out).2.1 (ok_rgt HC.out) (a : Int) (by omega) (by omega))
  clear hb1 hc0 hbk
  go_wp2_with (fail)
  refine hc1.mono ?_
  rintro e wx ⟨bX, capX, usX, rfl, hX⟩
  have HBX := Aside0.mk (below_step HB1.out hX.2.2.2)
  obtain ⟨pb, e0, e1, hpb⟩ := row_at hX.2.1 hX.2.2.1 (show b < n + 1 by omega)
  obtain ⟨pa, e2, e3, hpa⟩ := row_at hX.2.1 hX.2.2.1 (show a < n + 1 by omega)
  have HPB := Aside0.mk hpb
  have HPA := Aside0.mk hpa
  have i1 : (0 ≤ (a : Int)) = True := eq_true (by omega)
  have i2 : ((a : Int) < (n : Int) + 1) = True := eq_true (by omega)
  have i3 : (0 ≤ (b : Int)) = True := eq_true (by omega)
  have i4 : ((b : Int) < (n : Int) + 1) = True := eq_true (by omega)
  clear hc1 hX hpb hpa e1 e3 c0 c1
  go_wp2_with (fail)
  refine start_ (n:=15) (S := fun w' => w'.cell? ⟨bX, b, none⟩ = some (.pointer (some ⟨pb, 0, none⟩)) ∧ w'.cell? ⟨bX, a, none⟩ = some (.pointer (some ⟨pa, 0, none⟩))) (ds:=[]) #[false,false,false,false,false,false,false,false,false,false,false,false,false,false,false] (by kernel_rfl) rfl rfl ⟨e0, e2⟩ (fun hHeld => ?_)
  refine pure_ (i:=0) (N:=some 20) (v:=?_) (a':=?_) #[true,false,false,false,false,false,false,false,false,false,false,false,false,false,false] rfl rfl (by kernel_rfl) (fun _ _ _ h => h) (Or.inl ⟨by rfl, ?_⟩) ?_ ?_
  rotate_left
  ·intro w'
   go_simp
   with_reducible rfl
  rotate_left
  ·simp only [Act.put, List.setIfInBounds_toArray, List.set_cons_zero, List.set_cons_succ, i64_w, i32_w]
   rfl
  refine pure_ (i:=1) (N:=some 21) (v:=?_) (a':=?_) #[true,true,false,false,false,false,false,false,false,false,false,false,false,false,false] rfl rfl (by kernel_rfl) (fun _ _ _ h => h) (Or.inl ⟨by rfl, ?_⟩) ?_ ?_
  rotate_left
  ·intro w'
   go_simp
   with_reducible rfl
  rotate_left
  ·simp only [Act.put, List.setIfInBounds_toArray, List.set_cons_zero, List.set_cons_succ, i64_w, i32_w]
   rfl
  refine pure_ (i:=2) (N:=some 22) (v:=?_) (a':=?_) #[true,true,true,false,false,false,false,false,false,false,false,false,false,false,false] rfl rfl (by kernel_rfl) (fun _ _ _ h => h) (Or.inl ⟨by rfl, ?_⟩) ?_ ?_
  rotate_left
  ·intro w'
   go_simp
   with_reducible rfl
  rotate_left
  ·simp only [Act.put, List.setIfInBounds_toArray, List.set_cons_zero, List.set_cons_succ, i64_w, i32_w]
   rfl
  refine pure_ (i:=4) (N:=some 24) (v:=?_) (a':=?_) #[true,true,true,false,true,false,false,false,false,false,false,false,false,false,false] rfl rfl (by kernel_rfl) (fun _ _ _ h => h) (Or.inl ⟨by rfl, ?_⟩) ?_ ?_
  rotate_left
  ·intro w'
   go_simp
   with_reducible rfl
  rotate_left
  ·simp only [Act.put, List.setIfInBounds_toArray, List.set_cons_zero, List.set_cons_succ, i64_w, i32_w]
   rfl
  refine pure_ (i:=5) (N:=some 25) (v:=?_) (a':=?_) #[true,true,true,false,true,true,false,false,false,false,false,false,false,false,false] rfl rfl (by kernel_rfl) (fun _ _ _ h => h) (Or.inl ⟨by rfl, ?_⟩) ?_ ?_
  rotate_left
  ·intro w'
   go_simp
   with_reducible rfl
  rotate_left
  ·simp only [Act.put, List.setIfInBounds_toArray, List.set_cons_zero, List.set_cons_succ, i64_w, i32_w]
   rfl
  refine pure_ (i:=6) (N:=some 26) (v:=?_) (a':=?_) #[true,true,true,false,true,true,true,false,false,false,false,false,false,false,false] rfl rfl (by kernel_rfl) (fun _ _ _ h => h) (Or.inl ⟨by rfl, ?_⟩) ?_ ?_
  rotate_left
  ·intro w'
   go_simp
   with_reducible rfl
  rotate_left
  ·simp only [Act.put, List.setIfInBounds_toArray, List.set_cons_zero, List.set_cons_succ, i64_w, i32_w]
   rfl
  refine take_ (i:=3) (N:=some 23) (v:=?_) (a':=?_) #[true,true,true,true,true,true,true,false,false,false,false,false,false,false,false] rfl rfl (by kernel_rfl) (fun _ _ _ h => h) (Or.inl ⟨by rfl, ?_⟩) hHeld ?_ ?_
  rotate_left
  ·rintro w' ⟨s0, s1⟩
   go_simp
   with_reducible rfl
  rotate_left
  ·simp only [Act.put, List.setIfInBounds_toArray, List.set_cons_zero, List.set_cons_succ, i64_w, i32_w]
   rfl
  refine take_ (i:=7) (N:=some 27) (v:=?_) (a':=?_) #[true,true,true,true,true,true,true,true,false,false,false,false,false,false,false] rfl rfl (by kernel_rfl) (fun _ _ _ h => h) (Or.inl ⟨by rfl, ?_⟩) hHeld ?_ ?_
  rotate_left
  ·rintro w' ⟨s0, s1⟩
   go_simp
   with_reducible rfl
  rotate_left
  ·simp only [Act.put, List.setIfInBounds_toArray, List.set_cons_zero, List.set_cons_succ, i64_w, i32_w]
   rfl
  refine one_ (i:=8) (N:=some 28) #[true,true,true,true,true,true,true,true,true,false,false,false,false,false,false] rfl rfl (by kernel_rfl) (by decide) (fun K_ hK => ?_)
  refine goes_ Try.func65 (by kernel_rfl) rfl #[.pointer (some ⟨pb, 0, none⟩), .pointer (some ⟨pa, 0, none⟩)] (by rfl) rfl rfl (by (try simp only [List.map_toArray, List.map_cons, List.map_nil]); first | done | rfl) ?_
  refine (ratMinus_any pb pa (hts n l (b : Int)) (hts n l (a : Int)) 31 wx.drew (RI.below HPB.out (below_drew (Below.refl wx.heap.size wx))) (RI.below HPA.out (below_drew (Below.refl wx.heap.size wx))) (by omega) HSB.out HSA.out).mono ?_
  rintro e w1 ⟨pz1, rfl, hpz, hri, hb1⟩
  have HB1 := Aside0.mk (below_step (below_drew (Below.refl wx.heap.size wx)) hb1)
  have HZ1 := Aside0.mk hri
  have HO1 := Aside0.mk hb1
  clear hpz hri hb1
  refine ⟨_, rfl, ?_⟩
  refine hK.out _ _ (⟨(HB1.out.cell (World.block_lt_of_cell? _ _ e0)).trans e0, (HB1.out.cell (World.block_lt_of_cell? _ _ e2)).trans e2⟩) (fun hHeld => ?_)
  clear hK K_
  refine norm_ (a':=?_) ?_ ?_
  rotate_left
  ·show Act.put _ (some 28) _ = _
   simp only [Act.put, List.setIfInBounds_toArray, List.set_cons_zero, List.set_cons_succ, i64_w, i32_w]
   rfl
  refine one_ (i:=9) (N:=some 29) #[true,true,true,true,true,true,true,true,true,true,false,false,false,false,false] rfl rfl (by kernel_rfl) (by decide) (fun K_ hK => ?_)
  refine goes_ Try.func63 (by kernel_rfl) rfl #[.pointer (some ⟨pz1, 0, none⟩)] (by rfl) rfl rfl (by (try simp only [List.map_toArray, List.map_cons, List.map_nil]); first | done | rfl) ?_
  refine (single_any pz1 (rise n l a b) w1 HZ1.out (Sm.sub HSB.out HSA.out).1 (Sm.sub HSB.out HSA.out).2).mono ?_
  rintro e w2 ⟨rfl, hb1⟩
  have HB2 := Aside0.mk (below_step HB1.out hb1)
  skip
  have HO2 := Aside0.mk hb1
  clear hb1
  refine ⟨_, rfl, ?_⟩
  refine hK.out _ _ (⟨(HB2.out.cell (World.block_lt_of_cell? _ _ e0)).trans e0, (HB2.out.cell (World.block_lt_of_cell? _ _ e2)).trans e2⟩) (fun hHeld => ?_)
  clear hK K_
  refine norm_ (a':=?_) ?_ ?_
  rotate_left
  ·show Act.put _ (some 29) _ = _
   simp only [Act.put, List.setIfInBounds_toArray, List.set_cons_zero, List.set_cons_succ, i64_w, i32_w]
   rfl
  refine pure_ (i:=10) (N:=some 19) (v:=?_) (a':=?_) #[true,true,true,true,true,true,true,true,true,true,true,false,false,false,false] rfl rfl (by kernel_rfl) (fun _ _ _ h => h) (Or.inl ⟨by rfl, ?_⟩) ?_ ?_
  rotate_left
  ·intro w'
   go_simp
   with_reducible rfl
  rotate_left
  ·simp only [Act.put, List.setIfInBounds_toArray, List.set_cons_zero, List.set_cons_succ, i64_w, i32_w]
   rfl
  refine pure_ (i:=11) (N:=some 30) (v:=?_) (a':=?_) #[true,true,true,true,true,true,true,true,true,true,true,true,false,false,false] rfl rfl (by kernel_rfl) (fun _ _ _ h => h) (Or.inl ⟨by rfl, ?_⟩) ?_ ?_
  rotate_left
  ·intro w'
   go_simp
   with_reducible rfl
  rotate_left
  ·simp only [Act.put, List.setIfInBounds_toArray, List.set_cons_zero, List.set_cons_succ, i64_w, i32_w]
   rfl
  refine pure_ (i:=12) (N:=some 31) (v:=?_) (a':=?_) #[true,true,true,true,true,true,true,true,true,true,true,true,true,false,false] rfl rfl (by kernel_rfl) (fun _ _ _ h => h) (Or.inl ⟨by rfl, ?_⟩) ?_ ?_
  rotate_left
  ·intro w'
   go_simp
   with_reducible rfl
  rotate_left
  ·simp only [Act.put, List.setIfInBounds_toArray, List.set_cons_zero, List.set_cons_succ, i64_w, i32_w]
   rfl
  refine pure_ (i:=13) (N:=some 10) (v:=?_) (a':=?_) #[true,true,true,true,true,true,true,true,true,true,true,true,true,true,false] rfl rfl (by kernel_rfl) (fun _ _ _ h => h) (Or.inl ⟨by rfl, ?_⟩) ?_ ?_
  rotate_left
  ·intro w'
   go_simp
   with_reducible rfl
  rotate_left
  ·simp only [Act.put, List.setIfInBounds_toArray, List.set_cons_zero, List.set_cons_succ, i64_w, i32_w]
   rfl
  refine pure_ (i:=14) (N:=some 11) (v:=?_) (a':=?_) #[true,true,true,true,true,true,true,true,true,true,true,true,true,true,true] rfl rfl (by kernel_rfl) (fun _ _ _ h => h) (Or.inl ⟨by rfl, ?_⟩) ?_ ?_
  rotate_left
  ·intro w'
   go_simp
   with_reducible rfl
  rotate_left
  ·simp only [Act.put, List.setIfInBounds_toArray, List.set_cons_zero, List.set_cons_succ, i64_w, i32_w]
   rfl
  refine done_ (by kernel_rfl) ?_
  go_wp2_with (fail)
  go_ret3
  rw [HN.out, HD.out]
  exact ⟨rfl, below_step HBX.out HB2.out⟩
 ·have h' : ptsB p l a b = false := by simpa using h
  have HN := Aside0.mk (show okN (ptsB p l a b) (rise (wp p) l a b) = 0 by unfold okN; rw [if_neg h])
  have HD := Aside0.mk (show okD (ptsB p l a b) (rise (wp p) l a b) = 0 by unfold okD; rw [if_neg h])
  rw [h'] at hc0 HN HD
  rw [h']
  clear h h'
  go_enter Try.func23, Try.ntmps23
  go_wp2_with (fail)
  refine hc0.mono ?_
  rintro e w1 ⟨rfl, hb1⟩
  have HB1 := Aside0.mk (below_step HB.out hb1)
  clear hb1 hc0
  go_wp2_with (fail)
  go_ret3
  rw [HN.out, HD.out]
  exact ⟨rfl, HB1.out⟩
end Go.Proofs.Ytkafbmanmffliaa.Ex2

/- The program's weighted squares of residuals. -/
namespace Go.Proofs.Ytkafbmanmffliaa.Gz
open Go Go.RowKit YtkafbmanmffliaaW.PrintWords YtkafbmanmffliaaW.PrintLast YtkafbmanmffliaaW.PrintMore Q Bg Dd Bi Rt Rx Ra Gd Ge Gi Hc Gs Gn Kc Ke Kf Gu
def sqr (n : Nat) (l : List S32) (s : S32) : Rat := (s.f3 : Rat) * (res n l s * res n l s)
theorem sm_res {n : Nat} {l : List S32} (hc : Gm.connB ((n : Int) + 1) l = true) (s : S32) (hs : s ∈ l) : Sm 95 (res n l s) := by
 have hk := ok_rgt hc
 have hv := mem_at (conn_v hc) s hs
 have h1 : Sm 31 ((s.f2 : Int) : Rat) := sm31 (by omega)
 have h2 : Sm 63 (dif (hts n l) s) := Sm.sub (sm_xs (conn_n hc).2.1 hk s.f1 (by omega) (by omega)) (sm_xs (conn_n hc).2.1 hk s.f0 (by omega) (by omega))
 exact Sm.sub h1 h2
def Oth (wz : World) (bH capH m b : Nat) (usH : List Value) (f : Nat → Rat) : Prop := Cb wz 74 bH capH usH ∧ RowF wz usH m f ∧ bH ≠ b
theorem Oth.below {wz w1 : World} {bH capH m b : Nat} {usH : List Value} {f : Nat → Rat} (h : Oth wz bH capH m b usH f) (hb : Below wz.heap.size wz w1) : Oth w1 bH capH m b usH f := ⟨h.1.below hb, h.2.1.par (Par.of_below hb), h.2.2⟩
theorem Oth.grow {wq wr w2 : World} {bH capH m b cap i g1 : Nat} {usH us : List Value} {f F : Nat → Rat} (h : Oth wr bH capH m b usH f) (hI : RowIn wq wr b cap i us F) (hat : g1 = b ∨ wr.heap.size ≤ g1) (hg : wr.grownBy w2 (some b)) : Oth w2 bH capH m g1 usH f := by
 refine ⟨h.1.kept (hg.block bH h.1.lt (fun e => h.2.2 (Option.some.inj e))), h.2.1.par (Par.grown hI.2.1 hg), ?_⟩
 have := h.1.lt
 have := h.2.2
 rcases hat with e | e <;> omega
set_option maxHeartbeats 8000000 in
set_option maxRecDepth 100000 in
theorem squares_any (n : Nat) (l : List S32) (hc : Gm.connB ((n : Int) + 1) l = true) (A : Option Addr) (c : Nat) (w : World) (hr : Kd.C k32 w A l.length l) (hcl : l.length ≤ c) :
  Calls Try.prog 67 #[.agg #[.int .i64 ((n : Int) + 1), .slice A l.length c]] w fun e w' => ∃ (b cap : Nat) (us : List Value), e = .returned (.slice (some ⟨b, 0, none⟩) l.length cap) ∧ RowIn w w' b cap l.length us (fun k => sqr n l (rd_T32 l k)) := by
 have hu26 := Try.underlying26
 have hu32 := Try.underlying32
 have hu24 := Try.underlying24
 have hu69 := Try.underlying69
 have hn := conn_n hc
 have hn4 := hn.2.1
 have hl8 := hn.2.2
 have hbx := below_alloc (Below.refl w.heap.size w) (SX ((n : Int) + 1) A l.length c)
 have HR := Aside0.mk (Kd.C_below hr hbx)
 have HX := Aside0.mk (heap_alloc_new w (SX ((n : Int) + 1) A l.length c))
 have HC := Aside0.mk hc
 have HV := Aside0.mk (conn_v hc)
 have HCL := Aside0.mk hcl
 clear hr hc hcl hn hbx
 go_enter Try.func67, Try.ntmps67
 go_wp2_with (fail)
 obtain ⟨W0, hW0⟩ : ∃ W0, W0 = w.alloc (SX ((n : Int) + 1) A l.length c) := ⟨_, rfl⟩
 have hs0 : W0.heap.size = w.heap.size + 1 := by rw [hW0]; simp
 rw [← hW0] at HR HX
 rw [← hW0]
 have HW0 := Aside0.mk hW0
 have hba := below_alloc (Below.refl W0.heap.size W0) (.cells #[] 74)
 have hrs := residuals_any n l HC.out A c (W0.alloc (.cells #[] 74)) (Kd.C_below HR.out hba) HCL.out
 have t0 := Aside0.mk (RowIn.new W0 (fun k => sqr n l (rd_T32 l k)))
 rw [hs0] at t0
 have HS0 := Aside0.mk hs0
 have HBA := Aside0.mk hba
 clear hW0 hs0 hba
 refine hrs.mono ?_
 rintro e w1 ⟨bH, capH, usH, rfl, hH⟩
 have HO := Aside0.mk (show Oth w1 bH capH l.length (w.heap.size + 1) usH (fun k => res n l (rd_T32 l k)) from ⟨hH.2.1, hH.2.2.1, by have h1 := hH.1; rw [World.size_alloc, HS0.out] at h1; omega⟩)
 have t1 := Aside0.mk (t0.out.below hH.2.2.2)
 clear hH hrs t0
 go_wp2_with (fail)
 go_loopw [3, 10] (fun v3 v10 wz => ∃ (i b cap2 : Nat) (us : List Value), v3 = .slice (some ⟨b, 0, none⟩) i cap2 ∧ v10 = .int .i64 (i : Int) ∧ i ≤ l.length ∧ Aside0 (RowIn W0 wz b cap2 i us (fun k => sqr n l (rd_T32 l k))) ∧ Aside0 (Oth wz bH capH l.length b usH (fun k => res n l (rd_T32 l k)))) (fun _ v _ => l.length - (intOf v).toNat)
 case atStart => exact ⟨0, _, 0, [], rfl, rfl, by omega, t1, HO⟩
 case round =>
  clear t1 HO
  obtain ⟨i, b, cap2, us, rfl, rfl, hi, HI, HO⟩ := hrel
  by_cases hlt : i < l.length
  ·have p1 : decide ((i : Int) < (l.length : Int)) = true := decide_eq_true (by omega)
   obtain ⟨px, e0, e1, hpx⟩ := row_at HO.out.1 HO.out.2.1 hlt
   have HPX := Aside0.mk hpx
   have hbx := blk_below HX.out HI.out.2.2.2
   have b1 : wr.cell? ⟨w.heap.size, 1, none⟩ = some (.slice A l.length c) := (blk_cell hbx 1).trans rfl
   obtain ⟨ad, e, x0, x1, x2, x3⟩ := at_T32 (Kd.C_below HR.out HI.out.2.2.2) (i : Int) (by omega) (by omega)
   subst e
   rw [Int.toNat_natCast] at x0 x1 x2 x3
   have hm : rd_T32 l i ∈ l := by simp only [rd_T32, Int.toNat_natCast]; rw [List.getD_eq_getElem?_getD, List.getElem?_eq_getElem hlt]; simp
   have hva := mem_at HV.out _ hm
   have HRE := Aside0.mk (sm_res HC.out _ hm)
   have HXF := Aside0.mk (show ((rd_T32 l i).f3 : Rat) * (res n l (rd_T32 l i) * res n l (rd_T32 l i)) = sqr n l (rd_T32 l i) from rfl)
   obtain ⟨wt, hwt⟩ : ∃ wt, wt = (rd_T32 l i).f3 := ⟨_, rfl⟩
   rw [← hwt] at x3 hva HXF
   have r0 : -9223372036854775808 ≤ wt := by omega
   have r1 : wt ≤ 9223372036854775807 := by omega
   have HRI := Aside0.mk (show Sm 31 ((wt : Int) : Rat) from sm31 (by omega))
   have i1 : (0 ≤ (i : Int)) = True := eq_true (by omega)
   have i2 : ((i : Int) < (l.length : Int)) = True := eq_true (by omega)
   have h1 := whole_any wt wr r0 r1
   clear hpx hbx hm hva hwt e1 x0 x1 x2
   go_wp2_with (fail)
   refine h1.mono ?_
   rintro e w1 ⟨p1, rfl, hp1, hz1, hb1⟩
   have HZ1 := Aside0.mk hz1
   have HB1 := Aside0.mk hb1
   have h2 := ratTimes_any px px (res n l (rd_T32 l i)) (res n l (rd_T32 l i)) 95 w1 (RI.below HPX.out hb1) (RI.below HPX.out hb1) (by omega) HRE.out HRE.out
   clear hp1 hz1 hb1 h1
   go_wp2_with (fail)
   refine h2.mono ?_
   rintro e w2 ⟨p2, rfl, hp2, hz2, hb2⟩
   have HB2 := Aside0.mk (below_step HB1.out hb2)
   have h1 := ratTimes_any p1 p2 ((wt : Int) : Rat) (res n l (rd_T32 l i) * res n l (rd_T32 l i)) 190 w2 (RI.below HZ1.out hb2) hz2 (by omega) (Sm.mono (by omega) HRI.out) (Sm.mul HRE.out HRE.out)
   clear hp2 hz2 hb2 h2
   go_wp2_with (fail)
   refine h1.mono ?_
   rintro e w3 ⟨p3, rfl, hp3, hz3, hb3⟩
   have HB3 := Aside0.mk (below_step HB2.out hb3)
   have HZ3 := Aside0.mk hz3
   clear hp3 hz3 hb3 h1
   go_wp2_with ((with_reducible refine gate_builtin (b := .append) (xs := #[.tmp 15, .tmp 27]) rfl ?_); at_builtin; refine Cb.append rfl (.tmp 15) (.tmp 27) 69 74 (.pointer none) 8 rfl Try.underlying69 info74 rfl (Pv.ptr _) (by decide) b cap2 i us (.pointer (some ⟨p3, 0, none⟩)) HI.out.len rfl rfl rfl (Pv.ptr _) (HI.out.below HB3.out).2.1 (by rw [HI.out.len]; omega) ?_; intro g1 cap1 w9 h1 h2 h3; have HN := Aside0.mk (RowIn.growF HI.out HB3.out HZ3.out h1 h2 h3 HXF.out); have HO9 := Aside0.mk ((HO.out.below HB3.out).grow (HI.out.below HB3.out) h2 h3); clear h1 h2 h3)
   go_roundw
   case rel => exact ⟨i + 1, g1, cap1, _, by go_num, by go_num, by omega, HN, HO9⟩
   case measure => simp [intOf]; omega
  ·obtain rfl : l.length = i := by omega
   have p1 : decide ((l.length : Int) < (l.length : Int)) = false := decide_eq_false (by omega)
   go_wp2_with (fail)
   go_ret
   exact ⟨b, cap2, us, rfl, HI.out.outer (by rw [HW0.out]; exact below_alloc (Below.refl _ _) _) (Below.refl _ _)⟩
end Go.Proofs.Ytkafbmanmffliaa.Gz

/- Plain: the common denominator is small, and so is the weighted sum of squares. -/
namespace Go.Proofs.Ytkafbmanmffliaa.Sb
open Go Go.RowKit YtkafbmanmffliaaW.PrintWords Q Ra La Qf Gm Gn Ka Kc Ke Kf Gz Ex
theorem diag (L : List Si) (h : ∀ s ∈ L, s.f ≠ s.t ∧ 1 ≤ s.w ∧ s.w ≤ 3) : 0 ≤ ent 1 1 L ∧ 0 ≤ ent 2 2 L ∧ 0 ≤ ent 3 3 L ∧ 0 ≤ ent 4 4 L ∧ ent 1 1 L + ent 2 2 L + ent 3 3 L + ent 4 4 L ≤ 6 * L.length := by
 induction L with
 | nil => simp [ent]
 | cons s r ih =>
  have h1 := h s (by simp)
  have h2 := ih (fun t ht => h t (by simp [ht]))
  simp only [ent, List.length_cons]
  unfold con
  rw [if_pos rfl, if_pos rfl, if_pos rfl, if_pos rfl]
  push_cast
  refine ⟨?_, ?_, ?_, ?_, ?_⟩
  ·split <;> omega
  ·split <;> omega
  ·split <;> omega
  ·split <;> omega
  ·have a : (if s.f = 1 ∨ s.t = 1 then s.w else 0) ≤ (if s.f = 1 then s.w else 0) + (if s.t = 1 then s.w else 0) := by split <;> split <;> split <;> omega
   have b : (if s.f = 2 ∨ s.t = 2 then s.w else 0) ≤ (if s.f = 2 then s.w else 0) + (if s.t = 2 then s.w else 0) := by split <;> split <;> split <;> omega
   have c : (if s.f = 3 ∨ s.t = 3 then s.w else 0) ≤ (if s.f = 3 then s.w else 0) + (if s.t = 3 then s.w else 0) := by split <;> split <;> split <;> omega
   have d : (if s.f = 4 ∨ s.t = 4 then s.w else 0) ≤ (if s.f = 4 then s.w else 0) + (if s.t = 4 then s.w else 0) := by split <;> split <;> split <;> omega
   have e : (if s.f = 1 then s.w else 0) + (if s.f = 2 then s.w else 0) + (if s.f = 3 then s.w else 0) + (if s.f = 4 then s.w else 0) ≤ s.w := by split <;> split <;> split <;> split <;> omega
   have f : (if s.t = 1 then s.w else 0) + (if s.t = 2 then s.w else 0) + (if s.t = 3 then s.w else 0) + (if s.t = 4 then s.w else 0) ≤ s.w := by split <;> split <;> split <;> split <;> omega
   omega
theorem mul3 {a b c : Int} (ha : 0 ≤ a) (hb : 0 ≤ b) (hc : 0 ≤ c) (h : a + b + c ≤ 48) : a * b * c ≤ 27648 := by
 have h1 := four_mul a b
 have h2 : (a + b) * (a + b) ≤ 48 * 48 := La.mul_le (by omega) (by omega) (by omega) (by omega)
 have h3 : a * b * c ≤ 576 * 48 := La.mul_le (Int.mul_nonneg ha hb) (by omega) (by omega) (by omega)
 omega
theorem den_small {n : Nat} {l : List S32} (hc : Gm.connB ((n : Int) + 1) l = true) : den l n ≤ 27648 := by
 have hn := conn_n hc
 have hm := sig_mem (conn_v hc)
 have hd := diag (sig l) (fun s hs => by have := hm s hs; omega)
 have hl : (sig l).length = l.length := by simp [sig]
 rw [hl] at hd
 have hp := fun c h => LL_E_pos hn.2.1 hc c h
 have s01 := E_symm l 1 0
 have s02 := E_symm l 2 0
 have s12 := E_symm l 2 1
 have s03 := E_symm l 3 0
 have s13 := E_symm l 3 1
 have s23 := E_symm l 3 2
 have e0 : E l 0 0 = ent 1 1 (sig l) := rfl
 have e1 : E l 1 1 = ent 2 2 (sig l) := rfl
 have e2 : E l 2 2 = ent 3 3 (sig l) := rfl
 have e3 : E l 3 3 = ent 4 4 (sig l) := rfl
 unfold den
 match n, hn, hp with
 | 1, _, _ => show E l 0 0 ≤ _; omega
 | 2, _, _ =>
  show d2 _ _ _ _ ≤ _
  rw [s01]
  have h1 := bound2 (E l 0 0) (E l 0 1) (E l 1 1)
  have h2 := four_mul (E l 0 0) (E l 1 1)
  have h3 : (E l 0 0 + E l 1 1) * (E l 0 0 + E l 1 1) ≤ 48 * 48 := La.mul_le (by omega) (by omega) (by omega) (by omega)
  omega
 | 3, _, hp =>
  have p1 : 0 < E l 0 0 := hp 1 (by decide)
  have p2 : 0 < d2 (E l 0 0) (E l 0 1) (E l 0 1) (E l 1 1) := by have := hp 2 (by decide); unfold LL at this; rwa [s01] at this
  show d3 _ _ _ _ _ _ _ _ _ ≤ _
  rw [s01, s02, s12]
  have h1 := bound3 (c := E l 0 2) (f := E l 1 2) (h := E l 2 2) p1 p2
  have h2 := bound2 (E l 0 0) (E l 0 1) (E l 1 1)
  have h3 : d2 (E l 0 0) (E l 0 1) (E l 0 1) (E l 1 1) * E l 2 2 ≤ E l 0 0 * E l 1 1 * E l 2 2 := Int.mul_le_mul_of_nonneg_right h2 (by omega)
  have h4 := mul3 (a := E l 0 0) (b := E l 1 1) (c := E l 2 2) (by omega) (by omega) (by omega) (by omega)
  omega
 | 4, _, hp =>
  have p1 : 0 < E l 0 0 := hp 1 (by decide)
  have p2 : 0 < d2 (E l 0 0) (E l 0 1) (E l 0 1) (E l 1 1) := by have := hp 2 (by decide); unfold LL at this; rwa [s01] at this
  have p3 : 0 < d3 (E l 0 0) (E l 0 1) (E l 0 2) (E l 0 1) (E l 1 1) (E l 1 2) (E l 0 2) (E l 1 2) (E l 2 2) := by have := hp 3 (by decide); unfold LL at this; rwa [s01, s02, s12] at this
  show d4 _ _ _ _ _ _ _ _ _ _ _ _ _ _ _ _ ≤ _
  rw [s01, s02, s12, s03, s13, s23]
  have h0 := bound4 (d := E l 0 3) (g := E l 1 3) (i := E l 2 3) (j := E l 3 3) p1 p2 p3
  have h1 := bound3 (c := E l 0 2) (f := E l 1 2) (h := E l 2 2) p1 p2
  have h2 := bound2 (E l 0 0) (E l 0 1) (E l 1 1)
  have h3 : d2 (E l 0 0) (E l 0 1) (E l 0 1) (E l 1 1) * E l 2 2 ≤ E l 0 0 * E l 1 1 * E l 2 2 := Int.mul_le_mul_of_nonneg_right h2 (by omega)
  have h5 : d3 (E l 0 0) (E l 0 1) (E l 0 2) (E l 0 1) (E l 1 1) (E l 1 2) (E l 0 2) (E l 1 2) (E l 2 2) * E l 3 3 ≤ E l 0 0 * E l 1 1 * E l 2 2 * E l 3 3 := Int.mul_le_mul_of_nonneg_right (by omega) (by omega)
  have h4 := diag_bound (a := E l 0 0) (e := E l 1 1) (h := E l 2 2) (j := E l 3 3) (by omega) (by omega) (by omega) (by omega) (by omega)
  omega
def sqN (n : Nat) (l : List S32) (s : S32) : Int := s.f3 * resN n l s * resN n l s
def smI {α : Type} (g : α → Int) : List α → Int
 | [] => 0
 | s :: r => g s + smI g r
theorem smI_append {α : Type} (g : α → Int) (a b : List α) : smI g (a ++ b) = smI g a + smI g b := by
 induction a with
 | nil => simp [smI]
 | cons s r ih => simp only [List.cons_append, smI, ih]; omega
theorem smI_cast {α : Type} (g : α → Int) (l : List α) : ((smI g l : Int) : Rat) = sm (fun s => (g s : Rat)) l := by
 induction l with
 | nil => rfl
 | cons s r ih => simp only [smI, sm, Rat.intCast_add, ih]
theorem smI_nonneg {α : Type} {g : α → Int} {l : List α} (h : ∀ s, s ∈ l → 0 ≤ g s) : 0 ≤ smI g l := by
 induction l with
 | nil => exact Int.le_refl _
 | cons s r ih =>
  have h1 := h s (by simp)
  have h2 := ih (fun t ht => h t (by simp [ht]))
  simp only [smI]
  omega
def ssq (n : Nat) (l : List S32) : Rat := sm (sqr n l) l
theorem sqr_mk {n : Nat} {l : List S32} (hc : Gm.connB ((n : Int) + 1) l = true) (s : S32) : sqr n l s = (sqN n l s : Rat) / ((dn n l : Int) * (dn n l : Int) : Int) := by
 have h := res_mk hc s
 rw [mkq] at h
 unfold sqr sqN
 rw [h]
 have h1 := dn_pos hc
 have h2 : (((dn n l : Nat) : Int) : Rat) ≠ 0 := by
  intro e
  have : ((dn n l : Nat) : Int) = 0 := by exact_mod_cast e
  omega
 push_cast
 grind
theorem ssq_mk {n : Nat} {l : List S32} (hc : Gm.connB ((n : Int) + 1) l = true) : ssq n l = mkRat (smI (sqN n l) l) (dn n l * dn n l) := by
 rw [mkq]
 unfold ssq
 have e : sm (sqr n l) l = (1 / (((dn n l : Int) * (dn n l : Int) : Int) : Rat)) * sm (fun s => (sqN n l s : Rat)) l := by
  rw [← sm_mul]
  refine sm_congr (fun s _ => ?_)
  rw [sqr_mk hc]
  grind
 rw [e, ← smI_cast]
 push_cast
 grind
theorem riN_le (m : List S32) (hm : ∀ s ∈ m, -100 ≤ s.f2 ∧ s.f2 ≤ 100 ∧ 1 ≤ s.f3 ∧ s.f3 ≤ 3) : smI (fun s : S32 => s.f3 * (s.f2 * s.f2)) m ≤ 30000 * m.length := by
 induction m with
 | nil => simp [smI]
 | cons s r ih =>
  have h1 := hm s (by simp)
  have h2 := ih (fun t ht => hm t (by simp [ht]))
  have h3 : s.f3 * (s.f2 * s.f2) ≤ 3 * 10000 := by
   have hb := mulb (X := 100) (Y := 100) (a := s.f2) (b := s.f2) (by decide) (by decide) (by unfold Bd; omega) (by unfold Bd; omega)
   have hnn := La.sq_nonneg' s.f2
   unfold Bd at hb
   exact La.mul_le (by omega) (by omega) (by omega) (by omega)
  simp only [smI, List.length_cons]
  omega
theorem rise_sq {n : Nat} {l : List S32} (hc : Gm.connB ((n : Int) + 1) l = true) : sm (fun s => (s.f3 : Rat) * (((s.f2 : Rat) - dif (fun _ => 0) s) * ((s.f2 : Rat) - dif (fun _ => 0) s))) l ≤ ((240000 : Int) : Rat) := by
 have hv := mem_at (conn_v hc)
 have hl := (conn_n hc).2.2
 have e : sm (fun s : S32 => (s.f3 : Rat) * (((s.f2 : Rat) - dif (fun _ => 0) s) * ((s.f2 : Rat) - dif (fun _ => 0) s))) l = ((smI (fun s : S32 => s.f3 * (s.f2 * s.f2)) l : Int) : Rat) := by
  rw [smI_cast]
  refine sm_congr (fun s _ => ?_)
  have hz : dif (fun _ => 0) s = 0 := by show (0 : Rat) - 0 = 0; grind
  rw [hz, Rat.intCast_mul, Rat.intCast_mul]
  have : (s.f2 : Rat) - 0 = (s.f2 : Rat) := by grind
  rw [this]
 rw [e]
 have h1 := riN_le l (fun s hs => by have := hv s hs; omega)
 exact Rat.intCast_le_intCast.2 (by omega)
theorem ssq_le {n : Nat} {l : List S32} (hc : Gm.connB ((n : Int) + 1) l = true) : ssq n l ≤ ((240000 : Int) : Rat) := by
 have h := least hc (fun _ => 0)
 have h2 := rise_sq hc
 exact Rat.le_trans h h2
theorem sqN_nonneg {n : Nat} {l : List S32} (hc : Gm.connB ((n : Int) + 1) l = true) (s : S32) (hs : s ∈ l) : 0 ≤ sqN n l s := by
 have hv := mem_at (conn_v hc) s hs
 unfold sqN
 rw [Int.mul_assoc]
 exact Int.mul_nonneg (by omega) (La.sq_nonneg' _)
theorem sumN_le {n : Nat} {l : List S32} (hc : Gm.connB ((n : Int) + 1) l = true) : 0 ≤ smI (sqN n l) l ∧ smI (sqN n l) l ≤ 240000 * ((dn n l : Int) * (dn n l : Int)) := by
 refine ⟨smI_nonneg (sqN_nonneg hc), ?_⟩
 have h := ssq_le hc
 rw [ssq_mk hc, mkq] at h
 have h1 := dn_pos hc
 have h3 : 0 < (dn n l : Int) * (dn n l : Int) := Int.mul_pos (by omega) (by omega)
 have h2 : (0 : Rat) < (((dn n l : Int) * (dn n l : Int) : Int) : Rat) := by exact_mod_cast h3
 obtain ⟨d, hd⟩ : ∃ d, d = (dn n l : Int) * (dn n l : Int) := ⟨_, rfl⟩
 have e : (((dn n l * dn n l : Nat) : Int) : Rat) = (d : Rat) := by rw [hd]; push_cast; rfl
 rw [← hd] at h2 ⊢
 rw [e] at h
 obtain ⟨t, ht⟩ : ∃ t, t = smI (sqN n l) l := ⟨_, rfl⟩
 rw [← ht] at h ⊢
 have h5 := Rat.mul_le_mul_of_nonneg_right h (Rat.le_of_lt h2)
 have h6 : (t : Rat) / (d : Rat) * (d : Rat) = (t : Rat) := by grind
 rw [h6, ← Rat.intCast_mul] at h5
 exact Rat.intCast_le_intCast.1 h5
end Go.Proofs.Ytkafbmanmffliaa.Sb

/- Plain: the uncertainties between points of a connected survey: symmetric, 0 only at a point itself, at most 4, and no detour is shorter. -/
namespace Go.Proofs.Ytkafbmanmffliaa.Pc
open Go Go.RowKit YtkafbmanmffliaaW.PrintWords Q Ka Kc Ke Kf Ex2 Sb
set_option linter.unusedSectionVars false
theorem B_neg (l : List S32) (x y : Int → Rat) : B l (fun p => - x p) y = - B l x y := by
 unfold B
 have e : - sm (fun s : S32 => (s.f3 : Rat) * (dif x s * dif y s)) l = (-1) * sm (fun s : S32 => (s.f3 : Rat) * (dif x s * dif y s)) l := by grind
 rw [e, ← sm_mul]
 exact sm_congr (fun s _ => by unfold dif; grind)
theorem cox_zero (n : Nat) (l : List S32) (a b : Int) : cox n l a b 0 = 0 := xs_zero _ _ _
theorem step_le {k : Nat} {u d E D F : Rat} (hu : u * u ≤ (k : Rat) * E) (hd : d * d = D) (hE : 0 ≤ E) (hF : E + D ≤ F) : (u + d) * (u + d) ≤ ((k + 1 : Nat) : Rat) * F := by
 have hk : (0 : Rat) ≤ (k : Rat) := by exact_mod_cast Nat.zero_le k
 have e1 : ((k + 1 : Nat) : Rat) = (k : Rat) + 1 := by push_cast; rfl
 rw [e1]
 have hD : 0 ≤ D := by rw [← hd]; exact sq_nn d
 have h1 : ((k : Rat) + 1) * (E + D) ≤ ((k : Rat) + 1) * F := Rat.mul_le_mul_of_nonneg_left hF (by grind)
 refine Rat.le_trans ?_ h1
 by_cases hk0 : k = 0
 ·subst hk0
  have e0 : ((0 : Nat) : Rat) = 0 := rfl
  rw [e0] at hu ⊢
  have h2 : u * u = 0 := by have := sq_nn u; grind
  have h3 := sq_zero_r h2
  rw [h3]
  grind
 ·have hkp : (0 : Rat) < (k : Rat) := by exact_mod_cast Nat.pos_of_ne_zero hk0
  refine Rat.le_of_mul_le_mul_left (c := (k : Rat)) ?_ hkp
  obtain ⟨K, hK⟩ : ∃ K : Rat, K = (k : Rat) := ⟨_, rfl⟩
  rw [← hK] at hu hkp ⊢
  have h4 := sq_nn (u - K * d)
  have h5 : (K + 1) * (u * u) ≤ (K + 1) * (K * E) := Rat.mul_le_mul_of_nonneg_left hu (by grind)
  rw [← hd]
  grind
def en (P : Int → Bool) (x : Int → Rat) (l : List S32) : Rat := sm (fun s => if (P s.f0 && P s.f1) = true then dif x s * dif x s else 0) l
def cnt (n : Nat) (P : Int → Bool) : Nat := (List.range (n + 1)).countP (fun q : Nat => P (q : Int))
theorem cnt_at (k m : Nat) : (List.range m).countP (fun q : Nat => (q : Int) == (k : Int)) = if k < m then 1 else 0 := by
 induction m with
 | zero => rfl
 | succ m ih =>
  rw [List.range_succ, List.countP_append, ih]
  simp only [List.countP_cons, List.countP_nil]
  by_cases h1 : k < m
  ·simp [h1, show k < m + 1 by omega, show ¬ (m : Int) = k by omega]
  ·by_cases h2 : k = m
   ·simp [h2]
   ·simp [h1, show ¬ k < m + 1 by omega, show ¬ (m : Int) = k by omega]
theorem cnt_one (n : Nat) (a : Int) (h0 : 0 ≤ a) (h : a ≤ n) : cnt n (fun q => q == a) = 1 := by
 obtain ⟨k, rfl⟩ : ∃ k : Nat, a = k := ⟨a.toNat, by omega⟩
 exact (cnt_at k (n + 1)).trans (if_pos (by omega))
theorem cnt_add (n : Nat) (P : Int → Bool) (a : Int) (h0 : 0 ≤ a) (h : a ≤ n) (hP : P a = false) : cnt n (fun q => P q || q == a) = cnt n P + 1 := by
 rw [← cnt_one n a h0 h]
 unfold cnt
 generalize List.range (n + 1) = L
 induction L with
 | nil => rfl
 | cons q L ih =>
  rw [List.countP_cons, List.countP_cons, List.countP_cons, ih]
  by_cases hq : (q : Int) = a
  ·simp [hq, hP]; omega
  ·simp [hq]; omega
theorem cnt_all (n : Nat) (P : Int → Bool) (h : cnt n P = n + 1) (q : Nat) (hq : q ≤ n) : P (q : Int) = true := by
 unfold cnt at h
 have e : (List.range (n + 1)).countP (fun q : Nat => P (q : Int)) = (List.range (n + 1)).length := by simpa using h
 exact List.countP_eq_length.1 e q (List.mem_range.2 (by omega))
section
variable {n : Nat} {l : List S32} (hc : Gm.connB ((n : Int) + 1) l = true)
include hc
theorem cross (P : Int → Bool) (a : Int) (h0 : 0 ≤ a) (ha : a ≤ n) (hPa : P a = true) (hn : cnt n P < n + 1) : ∃ s ∈ l, P s.f0 ≠ P s.f1 := by
 apply Classical.byContradiction
 intro hno
 have hall : ∀ s ∈ l, P s.f0 = P s.f1 := fun s hs => Classical.byContradiction (fun h => hno ⟨s, hs, h⟩)
 have hx : ∀ p : Int, 0 ≤ p → p ≤ n → (if P p = true then (1 : Rat) else 0) = if P 0 = true then 1 else 0 := fun p q0 q1 =>
  conn_rat hc (x := fun q => if P q = true then 1 else 0) (fun s hs => by rw [hall s hs]) p q0 q1
 have h1 := hx a h0 ha
 rw [if_pos hPa] at h1
 have hP0 : P 0 = true := by
  by_cases e : P 0 = true
  ·exact e
  ·rw [if_neg e] at h1; grind
 have h2 : cnt n P = n + 1 := by
  unfold cnt
  have : (List.range (n + 1)).countP (fun q : Nat => P (q : Int)) = (List.range (n + 1)).length := List.countP_eq_length.2 (fun q hq => by
   have := hx (q : Int) (by omega) (by have := List.mem_range.1 hq; omega)
   rw [if_pos hP0] at this
   by_cases e : P (q : Int) = true
   ·exact e
   ·rw [if_neg e] at this; grind)
  simpa using this
 omega
theorem reach (x : Int → Rat) (a : Int) (h0 : 0 ≤ a) (ha : a ≤ n) (k : Nat) (hk : k ≤ n) : ∃ P : Int → Bool, P a = true ∧ cnt n P = k + 1 ∧ ∀ q : Int, P q = true → (x q - x a) * (x q - x a) ≤ (k : Rat) * en P x l := by
 induction k with
 | zero =>
  refine ⟨fun q => q == a, by simp, cnt_one n a h0 ha, fun q hq => ?_⟩
  have : q = a := by simpa using hq
  rw [this]
  have e0 : ((0 : Nat) : Rat) = 0 := rfl
  rw [e0]
  grind
 | succ k ih =>
  obtain ⟨P, hPa, hPc, hP⟩ := ih (by omega)
  obtain ⟨s, hs, hne⟩ := cross hc P a h0 ha hPa (by omega)
  have hv := mem_at (conn_v hc) s hs
  obtain ⟨r, q', hr, hq', hrq, hin⟩ : ∃ r q' : Int, P r = true ∧ P q' = false ∧ (x q' - x r) * (x q' - x r) = dif x s * dif x s ∧ (0 ≤ q' ∧ q' ≤ n ∧ ((s.f0 = r ∧ s.f1 = q') ∨ (s.f0 = q' ∧ s.f1 = r))) := by
   cases h : P s.f0 with
   | true =>
    have h1 : P s.f1 = false := by
     cases e : P s.f1 with
     | true => exact absurd (h.trans e.symm) hne
     | false => rfl
    exact ⟨s.f0, s.f1, h, h1, rfl, by omega, by omega, Or.inl ⟨rfl, rfl⟩⟩
   | false =>
    have h1 : P s.f1 = true := by
     cases e : P s.f1 with
     | true => rfl
     | false => exact absurd (h.trans e.symm) hne
    exact ⟨s.f1, s.f0, h1, h, by unfold dif; grind, by omega, by omega, Or.inr ⟨rfl, rfl⟩⟩
  have hE : 0 ≤ en P x l := sm_nonneg (fun t _ => by
   split
   ·exact sq_nn _
   ·exact Rat.le_refl)
  have hF : en P x l + dif x s * dif x s ≤ en (fun q => P q || q == q') x l := by
   have hg : ∀ t, t ∈ l → 0 ≤ (if ((P t.f0 || t.f0 == q') && (P t.f1 || t.f1 == q')) = true then dif x t * dif x t else 0) - (if (P t.f0 && P t.f1) = true then dif x t * dif x t else 0) := fun t _ => by
    have hsq := sq_nn (dif x t)
    cases h1 : P t.f0 <;> cases h2 : P t.f1 <;> simp <;> (try split) <;> grind
   have h1 := sm_one hg s hs
   rw [sm_sub] at h1
   have h2 : (if ((P s.f0 || s.f0 == q') && (P s.f1 || s.f1 == q')) = true then dif x s * dif x s else 0) - (if (P s.f0 && P s.f1) = true then dif x s * dif x s else 0) = dif x s * dif x s := by
    rcases hin.2.2 with ⟨e1, e2⟩ | ⟨e1, e2⟩
    ·rw [e1, e2, hr, hq']; simp; grind
    ·rw [e1, e2, hr, hq']; simp; grind
   rw [h2] at h1
   unfold en
   grind
  refine ⟨fun q => P q || q == q', by simp [hPa], by rw [cnt_add n P q' hin.1 hin.2.1 hq', hPc], fun q hq => ?_⟩
  cases hPq : P q with
  | true =>
   have h1 := hP q hPq
   have h2 := step_le (d := 0) (D := 0) (F := en (fun q => P q || q == q') x l) h1 (by grind) hE (by have := sq_nn (dif x s); grind)
   rw [Rat.add_zero] at h2
   exact h2
  | false =>
   have e : q = q' := by
    dsimp only at hq
    rw [hPq] at hq
    simpa using hq
   rw [e]
   have h2 := step_le (u := x r - x a) (d := x q' - x r) (hP r hr) hrq hE hF
   have e2 : x r - x a + (x q' - x r) = x q' - x a := by grind
   rw [e2] at h2
   exact h2
theorem path (x : Int → Rat) (a b : Int) (h0 : 0 ≤ a) (ha : a ≤ n) (hb0 : 0 ≤ b) (hb : b ≤ n) : (x b - x a) * (x b - x a) ≤ 4 * B l x x := by
 obtain ⟨P, hPa, hPc, hP⟩ := reach hc x a h0 ha n (Nat.le_refl _)
 obtain ⟨q, rfl⟩ : ∃ q : Nat, b = q := ⟨b.toNat, by omega⟩
 have h1 := hP (q : Int) (cnt_all n P hPc q (by omega))
 have h2 : en P x l ≤ B l x x := sm_le (fun s hs => by
  have hw := w_pos hc s hs
  have hsq := sq_nn (dif x s)
  have h3 : 1 * (dif x s * dif x s) ≤ (s.f3 : Rat) * (dif x s * dif x s) := Rat.mul_le_mul_of_nonneg_right hw hsq
  split <;> grind)
 have hn4 : (n : Rat) ≤ 4 := by
  have := (conn_n hc).2.1
  have : (n : Rat) ≤ ((4 : Nat) : Rat) := by exact_mod_cast this
  simpa using this
 have hn0 : (0 : Rat) ≤ (n : Rat) := by exact_mod_cast Nat.zero_le n
 have hBn := B_nonneg hc x
 have h4 : (n : Rat) * en P x l ≤ (n : Rat) * B l x x := Rat.mul_le_mul_of_nonneg_left h2 hn0
 have h5 : (n : Rat) * B l x x ≤ 4 * B l x x := Rat.mul_le_mul_of_nonneg_right hn4 hBn
 exact Rat.le_trans h1 (Rat.le_trans h4 h5)
section
variable {a b c : Int} (ha0 : 0 ≤ a) (ha : a ≤ n) (hb0 : 0 ≤ b) (hb : b ≤ n)
include ha0 ha hb0 hb
theorem cox_symm (p : Int) (h0 : 0 ≤ p) (hp : p ≤ n) : cox n l b a p = - cox n l a b p := by
 refine uniq hc (x' := fun p => - cox n l a b p) (fun y => ?_) (by rw [cox_zero, cox_zero]; grind) p h0 hp
 rw [B_neg, coB hc ha0 ha hb0 hb, coB hc hb0 hb ha0 ha]
 grind
theorem cof_symm : cof n l b a = cof n l a b := by
 unfold cof
 rw [cox_symm hc ha0 ha hb0 hb a ha0 ha, cox_symm hc ha0 ha hb0 hb b hb0 hb]
 grind
theorem cof_zero : cof n l a b = 0 ↔ a = b := by
 constructor
 ·intro h
  have h1 := cof_energy hc ha0 ha hb0 hb
  rw [h] at h1
  have h2 := B_zero hc h1.symm
  have h3 := coB hc ha0 ha hb0 hb (fun q => if q = b then 1 else 0)
  have h4 : B l (cox n l a b) (fun q => if q = b then 1 else 0) = 0 := by
   unfold B
   rw [sm_congr (h := fun _ => 0) (fun s hs => by
    have e : dif (cox n l a b) s = 0 := by have := h2 s hs; unfold dif; grind
    rw [e]
    grind)]
   exact sm_zero
  rw [h4, if_pos rfl] at h3
  by_cases e : a = b
  ·exact e
  ·rw [if_neg e] at h3; grind
 ·intro e
  rw [e]
  unfold cof
  grind
theorem cof_le : cof n l a b ≤ 4 := by
 have h1 := path hc (cox n l a b) a b ha0 ha hb0 hb
 rw [← cof_energy hc ha0 ha hb0 hb] at h1
 have h0 := cof_nonneg hc ha0 ha hb0 hb
 have e : cox n l a b b - cox n l a b a = cof n l a b := rfl
 rw [e] at h1
 by_cases hz : cof n l a b = 0
 ·rw [hz]; grind
 ·have hp : 0 < cof n l a b := by grind
  exact Rat.le_of_mul_le_mul_right h1 hp
theorem top_max (p : Int) (h0 : 0 ≤ p) (hp : p ≤ n) : cox n l a b p ≤ cox n l a b b := by
 obtain ⟨u, hu⟩ : ∃ u, u = cox n l a b := ⟨_, rfl⟩
 obtain ⟨y, hy⟩ : ∃ y : Int → Rat, y = fun p => if u p ≤ u b then 0 else u p - u b := ⟨_, rfl⟩
 have hco := coB hc ha0 ha hb0 hb y
 have hnn := cof_nonneg hc ha0 ha hb0 hb
 have ecof : cof n l a b = cox n l a b b - cox n l a b a := rfl
 rw [ecof] at hnn
 rw [← hu] at hco hnn ⊢
 have yb : y b = 0 := by rw [hy]; exact if_pos Rat.le_refl
 have ya : y a = 0 := by rw [hy]; exact if_pos (by grind)
 rw [yb, ya] at hco
 have hle : B l y y ≤ B l u y := sm_le (fun s hs => by
  have hw := w_pos hc s hs
  refine Rat.mul_le_mul_of_nonneg_left ?_ (by grind)
  have h1 : ∀ q, (u q ≤ u b ∧ y q = 0) ∨ (u b < u q ∧ y q = u q - u b) := fun q => by
   rw [hy]
   by_cases e : u q ≤ u b
   ·exact Or.inl ⟨e, if_pos e⟩
   ·exact Or.inr ⟨Rat.not_le.1 e, if_neg e⟩
  unfold dif
  rcases h1 s.f0 with ⟨e1, e2⟩ | ⟨e1, e2⟩ <;> rcases h1 s.f1 with ⟨e3, e4⟩ | ⟨e3, e4⟩ <;> rw [e2, e4]
  ·grind
  ·have h5 : 0 ≤ (u s.f1 - u b) * (u b - u s.f0) := Rat.mul_nonneg (by grind) (by grind)
   grind
  ·have h5 : 0 ≤ (u s.f0 - u b) * (u b - u s.f1) := Rat.mul_nonneg (by grind) (by grind)
   grind
  ·have e : u s.f1 - u b - (u s.f0 - u b) = u s.f1 - u s.f0 := by grind
   rw [e]
   exact Rat.le_refl)
 have h0' := B_nonneg hc y
 have hz : B l y y = 0 := by grind
 have c1 := B_const hc hz p h0 hp
 have c2 := B_const hc hz b hb0 hb
 have hyp : y p = 0 := by grind
 rw [hy] at hyp
 dsimp only at hyp
 by_cases e : u p ≤ u b
 ·exact e
 ·rw [if_neg e] at hyp; grind
end
theorem low_min {a b : Int} (ha0 : 0 ≤ a) (ha : a ≤ n) (hb0 : 0 ≤ b) (hb : b ≤ n) (p : Int) (h0 : 0 ≤ p) (hp : p ≤ n) : cox n l a b a ≤ cox n l a b p := by
 have h := top_max hc hb0 hb ha0 ha p h0 hp
 rw [cox_symm hc ha0 ha hb0 hb p h0 hp, cox_symm hc ha0 ha hb0 hb a ha0 ha] at h
 grind
theorem cof_tri {a b c : Int} (ha0 : 0 ≤ a) (ha : a ≤ n) (hb0 : 0 ≤ b) (hb : b ≤ n) (hc0 : 0 ≤ c) (hcn : c ≤ n) : cof n l a c ≤ cof n l a b + cof n l b c := by
 have e : ∀ p : Int, 0 ≤ p → p ≤ n → cox n l a c p = cox n l a b p + cox n l b c p := fun p h0 hp =>
  uniq hc (x' := fun p => cox n l a b p + cox n l b c p) (fun y => by
   rw [B_add, coB hc ha0 ha hb0 hb, coB hc hb0 hb hc0 hcn, coB hc ha0 ha hc0 hcn]
   grind) (by rw [cox_zero, cox_zero, cox_zero]; grind) p h0 hp
 have h1 := top_max hc ha0 ha hb0 hb c hc0 hcn
 have h2 := low_min hc hb0 hb hc0 hcn a ha0 ha
 unfold cof
 rw [e c hc0 hcn, e a ha0 ha]
 grind
theorem energy_le : B l (hts n l) (hts n l) ≤ ((240000 : Int) : Rat) := by
 have h1 := rise_sq hc
 have h2 := normal hc (hts n l)
 have e : sm (fun s : S32 => (s.f3 : Rat) * (((s.f2 : Rat) - dif (fun _ => 0) s) * ((s.f2 : Rat) - dif (fun _ => 0) s))) l = sm (fun s : S32 => (s.f3 : Rat) * (res n l s * res n l s)) l + 2 * sm (fun s : S32 => (s.f3 : Rat) * (res n l s * dif (hts n l) s)) l + B l (hts n l) (hts n l) := by
  unfold B
  rw [← sm_mul, ← sm_add, ← sm_add]
  refine sm_congr (fun s _ => ?_)
  unfold res dif
  grind
 have h3 : 0 ≤ sm (fun s : S32 => (s.f3 : Rat) * (res n l s * res n l s)) l := sm_nonneg (fun s hs => term_nonneg (w_pos hc s hs))
 rw [e, h2] at h1
 grind
theorem rise_le {a b : Int} (ha0 : 0 ≤ a) (ha : a ≤ n) (hb0 : 0 ≤ b) (hb : b ≤ n) : -1000 ≤ rise n l a b ∧ rise n l a b ≤ 1000 := by
 have h1 := path hc (hts n l) a b ha0 ha hb0 hb
 have h2 := energy_le hc
 have e : hts n l b - hts n l a = rise n l a b := rfl
 rw [e] at h1
 obtain ⟨r, hr⟩ : ∃ r, r = rise n l a b := ⟨_, rfl⟩
 rw [← hr] at h1 ⊢
 have h3 : ((240000 : Int) : Rat) = 240000 := rfl
 rw [h3] at h2
 have h4 : r * r ≤ 960000 := by grind
 constructor
 ·by_cases hlt : -1000 ≤ r
  ·exact hlt
  ·have h5 : r < -1000 := Rat.not_le.1 hlt
   have h6 : 0 ≤ (-1000 - r) * (1000 - r) := Rat.mul_nonneg (by grind) (by grind)
   grind
 ·by_cases hlt : r ≤ 1000
  ·exact hlt
  ·have h5 : 1000 < r := Rat.not_le.1 hlt
   have h6 : 0 ≤ (r - 1000) * (r + 1000) := Rat.mul_nonneg (by grind) (by grind)
   grind
end
end Go.Proofs.Ytkafbmanmffliaa.Pc

/- Plain: the uncertainties and the rises as whole numbers over their denominators. -/
namespace Go.Proofs.Ytkafbmanmffliaa.Pd
open Go Go.RowKit YtkafbmanmffliaaW.PrintWords Q Gn Kc Ke Kf Lo2 Ex Ex2 Sb Pc
set_option linter.unusedSectionVars false
theorem den_le {D : Nat} (hD : 0 < D) {a : Int} {q : Rat} (h : q = mkRat a D) : 1 ≤ q.den ∧ q.den ≤ D := by
 have h1 := den_low (S := [a]) hD (F := fun _ => q) (fun k hk => by
  have : k = 0 := by simp at hk; omega
  subst this
  exact h) 0 (by simp)
 exact ⟨q.den_pos, Nat.le_of_dvd hD h1⟩
theorem as_div (q : Rat) : q = (q.num : Rat) / ((q.den : Int) : Rat) ∧ ((q.den : Int) : Rat) ≠ 0 := by
 have h1 : ((q.den : Int) : Rat) ≠ 0 := by have := q.den_pos; exact_mod_cast (show (q.den : Int) ≠ 0 by omega)
 exact ⟨(Rat.mkRat_self q).symm.trans mkq, h1⟩
section
variable {n : Nat} {l : List S32} (hc : Gm.connB ((n : Int) + 1) l = true)
include hc
theorem rise_mk (a b : Int) : rise n l a b = mkRat (nu l (rgt n l) n b - nu l (rgt n l) n a) (dn n l) := by
 obtain ⟨h1, h2⟩ := den_rat hc
 rw [mkq, h1]
 unfold rise hts xs
 push_cast
 grind
section
variable {a b : Int} (ha0 : 0 ≤ a) (ha : a ≤ n) (hb0 : 0 ≤ b) (hb : b ≤ n)
include ha0 ha hb0 hb
theorem cof_nums : 1 ≤ ((cof n l a b).den : Int) ∧ ((cof n l a b).den : Int) ≤ 27648 ∧ 0 ≤ (cof n l a b).num ∧ (cof n l a b).num ≤ 4 * ((cof n l a b).den : Int) ∧ ((cof n l a b).num = 0 ↔ a = b) := by
 have h1 := dn_pos hc
 have h2 := den_small hc
 have h3 := den_le h1.1 (cof_mk hc a b)
 have h4 := cof_nonneg hc ha0 ha hb0 hb
 have h5 := cof_le hc ha0 ha hb0 hb
 have h6 := cof_zero hc ha0 ha hb0 hb
 obtain ⟨q, hq⟩ : ∃ q, q = cof n l a b := ⟨_, rfl⟩
 rw [← hq] at h3 h4 h5 h6 ⊢
 refine ⟨by omega, by omega, Rat.num_nonneg.2 h4, ?_, ?_⟩
 ·have e := (as_div q).1
  have n1 := (as_div q).2
  have p1 : (0 : Rat) < ((q.den : Int) : Rat) := by have := q.den_pos; exact_mod_cast (show (0 : Int) < (q.den : Int) by omega)
  have h7 := Rat.mul_le_mul_of_nonneg_right h5 (Rat.le_of_lt p1)
  have e2 : q * ((q.den : Int) : Rat) = (q.num : Rat) := by grind
  rw [e2] at h7
  have e4 : (4 : Rat) = ((4 : Int) : Rat) := rfl
  rw [e4, ← Rat.intCast_mul] at h7
  exact Rat.intCast_le_intCast.1 h7
 ·rw [← h6]
  exact Rat.num_eq_zero
theorem rise_nums : 1 ≤ ((rise n l a b).den : Int) ∧ ((rise n l a b).den : Int) ≤ 27648 ∧ -(1000 * ((rise n l a b).den : Int)) ≤ (rise n l a b).num ∧ (rise n l a b).num ≤ 1000 * ((rise n l a b).den : Int) := by
 have h1 := dn_pos hc
 have h2 := den_small hc
 have h3 := den_le h1.1 (rise_mk hc a b)
 have h5 := rise_le hc ha0 ha hb0 hb
 obtain ⟨q, hq⟩ : ∃ q, q = rise n l a b := ⟨_, rfl⟩
 rw [← hq] at h3 h5 ⊢
 have e := (as_div q).1
 have n1 := (as_div q).2
 have p1 : (0 : Rat) < ((q.den : Int) : Rat) := by have := q.den_pos; exact_mod_cast (show (0 : Int) < (q.den : Int) by omega)
 have h7 := Rat.mul_le_mul_of_nonneg_right h5.2 (Rat.le_of_lt p1)
 have h8 := Rat.mul_le_mul_of_nonneg_right h5.1 (Rat.le_of_lt p1)
 have e2 : q * ((q.den : Int) : Rat) = (q.num : Rat) := by grind
 rw [e2] at h7 h8
 have e4 : (1000 : Rat) = ((1000 : Int) : Rat) := rfl
 have e5 : (-1000 : Rat) = ((-1000 : Int) : Rat) := rfl
 rw [e4, ← Rat.intCast_mul] at h7
 rw [e5, ← Rat.intCast_mul] at h8
 have h9 : q.num ≤ 1000 * (q.den : Int) := Rat.intCast_le_intCast.1 h7
 have h10 : -1000 * (q.den : Int) ≤ q.num := Rat.intCast_le_intCast.1 h8
 omega
end
section
variable {a b c : Int} (ha0 : 0 ≤ a) (ha : a ≤ n) (hb0 : 0 ≤ b) (hb : b ≤ n) (hc0 : 0 ≤ c) (hcn : c ≤ n)
include ha0 ha hb0 hb hc0 hcn
theorem tri_nums : (cof n l a c).num * ((cof n l a b).den : Int) * ((cof n l b c).den : Int) ≤ ((cof n l a b).num * ((cof n l b c).den : Int) + (cof n l b c).num * ((cof n l a b).den : Int)) * ((cof n l a c).den : Int) := by
 have h := cof_tri hc ha0 ha hb0 hb hc0 hcn
 obtain ⟨x, hx⟩ : ∃ q, q = cof n l a b := ⟨_, rfl⟩
 obtain ⟨y, hy⟩ : ∃ q, q = cof n l b c := ⟨_, rfl⟩
 obtain ⟨z, hz⟩ : ∃ q, q = cof n l a c := ⟨_, rfl⟩
 rw [← hx, ← hy, ← hz] at h ⊢
 have p1 : (0 : Rat) < ((x.den : Int) : Rat) := by have := x.den_pos; exact_mod_cast (show (0 : Int) < (x.den : Int) by omega)
 have p2 : (0 : Rat) < ((y.den : Int) : Rat) := by have := y.den_pos; exact_mod_cast (show (0 : Int) < (y.den : Int) by omega)
 have p3 : (0 : Rat) < ((z.den : Int) : Rat) := by have := z.den_pos; exact_mod_cast (show (0 : Int) < (z.den : Int) by omega)
 have hm := Rat.mul_le_mul_of_nonneg_right h (Rat.le_of_lt (Rat.mul_pos (Rat.mul_pos p1 p2) p3))
 have ex : x * ((x.den : Int) : Rat) = (x.num : Rat) := by have := (as_div x).1; have := (as_div x).2; grind
 have ey : y * ((y.den : Int) : Rat) = (y.num : Rat) := by have := (as_div y).1; have := (as_div y).2; grind
 have ez : z * ((z.den : Int) : Rat) = (z.num : Rat) := by have := (as_div z).1; have := (as_div z).2; grind
 have e1 : z * (((x.den : Int) : Rat) * ((y.den : Int) : Rat) * ((z.den : Int) : Rat)) = (z.num : Rat) * ((x.den : Int) : Rat) * ((y.den : Int) : Rat) := by rw [← ez]; grind
 have e2 : (x + y) * (((x.den : Int) : Rat) * ((y.den : Int) : Rat) * ((z.den : Int) : Rat)) = ((x.num : Rat) * ((y.den : Int) : Rat) + (y.num : Rat) * ((x.den : Int) : Rat)) * ((z.den : Int) : Rat) := by rw [← ex, ← ey]; grind
 rw [e1, e2] at hm
 exact_mod_cast hm
theorem add_nums : ((rise n l a b).num * ((rise n l b c).den : Int) + (rise n l b c).num * ((rise n l a b).den : Int)) * ((rise n l a c).den : Int) = (rise n l a c).num * ((rise n l a b).den : Int) * ((rise n l b c).den : Int) := by
 have h : rise n l a c = rise n l a b + rise n l b c := by unfold rise; grind
 obtain ⟨x, hx⟩ : ∃ q, q = rise n l a b := ⟨_, rfl⟩
 obtain ⟨y, hy⟩ : ∃ q, q = rise n l b c := ⟨_, rfl⟩
 obtain ⟨z, hz⟩ : ∃ q, q = rise n l a c := ⟨_, rfl⟩
 rw [← hx, ← hy, ← hz] at h ⊢
 have ex : x * ((x.den : Int) : Rat) = (x.num : Rat) := by have := (as_div x).1; have := (as_div x).2; grind
 have ey : y * ((y.den : Int) : Rat) = (y.num : Rat) := by have := (as_div y).1; have := (as_div y).2; grind
 have ez : z * ((z.den : Int) : Rat) = (z.num : Rat) := by have := (as_div z).1; have := (as_div z).2; grind
 have e : ((x.num : Rat) * ((y.den : Int) : Rat) + (y.num : Rat) * ((x.den : Int) : Rat)) * ((z.den : Int) : Rat) = (z.num : Rat) * ((x.den : Int) : Rat) * ((y.den : Int) : Rat) := by
  rw [← ex, ← ey, ← ez]
  grind
 exact_mod_cast e
end
end
end Go.Proofs.Ytkafbmanmffliaa.Pd

