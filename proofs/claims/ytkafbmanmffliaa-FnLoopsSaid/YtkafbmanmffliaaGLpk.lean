/- Parts of the proof that the law of this seat holds: Hc, Hd, La, Qf, Gm, Gn, Ka, Kb, Kc. -/
import Derived.Test.YtkafbmanmffliaaGLpa
import Derived.Test.YtkafbmanmffliaaGLph
import Derived.Test.YtkafbmanmffliaaGLwb
import Derived.Test.YtkafbmanmffliaaGLpj
set_option linter.unusedVariables false
set_option linter.unusedSimpArgs false
/- Rows of int64 numbers that a call has made: small laws over the kinds; and a list that is rewritten from its beginning on. -/
namespace Go.Proofs.Ytkafbmanmffliaa.Hc
open Go.RowKit YtkafbmanmffliaaW.PrintWords YtkafbmanmffliaaW.PrintLast YtkafbmanmffliaaW.PrintMore Q
def T (B : Nat) (W : World) (v : Value) (xs : List Int) : Prop := (Kd.int .i64).R 2 W B (fun _ => True) v xs
def NE (u v : Value) : Prop := ∀ k, u.ownBlock = some k → v.ownBlock ≠ some k
theorem NE.symm {u v : Value} (h : NE u v) : NE v u := fun k hk hu => h k hu hk
variable {B : Nat} {W w1 : World} {u v v1 : Value} {xs ys : List Int}
theorem T.of {ok : Nat → Prop} (h : (Kd.int .i64).R 2 W B ok v xs) : T B W v xs := Kd.R_mono h (fun _ _ => trivial)
theorem T.lt (h : T B W v xs) {k : Nat} (hk : v.ownBlock = some k) : k < W.heap.size := Kd.R_lt h k hk
theorem T.grown (h : T B W u xs) (hg : W.grownBy w1 v.ownBlock) (hn : NE u v) : T B w1 u xs :=
 T.of (Kd.R_grown (Kd.R_tight rfl h) hg (fun k hk e => hn k hk.symm e.symm))
theorem T.below (h : T B W u xs) (hb : Below W.heap.size W w1) : T B w1 u xs := Kd.R_below h hb
theorem NE.after (hu : T B W u xs) (hn : NE u v) (hat : v1.ownBlock = v.ownBlock ∨ ∃ b, v1.ownBlock = some b ∧ W.heap.size ≤ b) : NE u v1 := by
 intro k hk h1
 rcases hat with e | ⟨b, e, hb⟩
 ·exact hn k hk (e ▸ h1)
 ·have := hu.lt hk
  rw [e] at h1; injection h1 with h1; omega
theorem NE.new (hu : T B W u xs) (hat : ∃ b, v1.ownBlock = some b ∧ W.heap.size ≤ b) : NE u v1 := by
 intro k hk h1
 obtain ⟨b, e, hb⟩ := hat
 have := hu.lt hk
 rw [e] at h1; injection h1 with h1; omega
theorem T.form (h : T B W v xs) (hp : 0 < xs.length) : ∃ g cap, v = .slice (some ⟨g, 0, none⟩) xs.length cap ∧ B ≤ g ∧ g < W.heap.size := by
 obtain ⟨g, cap, he, hb, hl, _⟩ := Kd.R_form h hp
 exact ⟨g, cap, he, hb, hl⟩
theorem T.cell {g n cap : Nat} (h : T B W (.slice (some ⟨g, 0, none⟩) n cap) xs) (i : Nat) (hi : i < n) : W.cell? ⟨g, i, none⟩ = some (.int .i64 (rd xs i)) ∧ W.frozen? ⟨g, i, none⟩ = false :=
 Kd.R_celln 0 h (i : Int) (by omega) (by omega)
theorem T.put {g n cap : Nat} (h : T B W (.slice (some ⟨g, 0, none⟩) n cap) xs) (i : Nat) (x : Int) : T B (W.setCell ⟨g, i, none⟩ (.int .i64 x)) (.slice (some ⟨g, 0, none⟩) n cap) (xs.set i x) ∧ W.grownBy (W.setCell ⟨g, i, none⟩ (.int .i64 x)) (some g) :=
 Kd.R_putg h (i : Int) x
theorem T.len {g n cap : Nat} (h : T B W (.slice (some ⟨g, 0, none⟩) n cap) xs) : n = xs.length := (Kd.R_reads' h).1
theorem T.nil_new (hB : B ≤ W.heap.size) : T B (W.alloc (.cells #[] 2)) (.slice (some ⟨W.heap.size, 0, none⟩) 0 0) [] := by
 have ho : (W.alloc (.cells #[] 2)).ownsRow B 2 1 (.slice (some ⟨W.heap.size, 0, none⟩) 0 0) ([] : List Int).length (encs (Value.int .i64) []) :=
  ⟨rfl, .inr ⟨W.heap.size, 0, #[], rfl, hB, by simpa using heap_alloc_new W _, Nat.le_refl _, by simp [maxLen], rfl, rfl⟩⟩
 exact Kd.R_of_own ho (fun _ _ => trivial)
theorem NE.of {a b : Nat} {n1 c1 n2 c2 : Nat} (h : a ≠ b) : NE (.slice (some ⟨a, 0, none⟩) n1 c1) (.slice (some ⟨b, 0, none⟩) n2 c2) := by
 intro k h1 h2
 simp [Value.ownBlock] at h1 h2
 omega
theorem NE.nil {v : Value} : NE (.slice none 0 0) v := by intro k h; simp [Value.ownBlock] at h
theorem T.nil : T B W (.slice none 0 0) [] := Kd.R_nil _ _ _ _ _
theorem T.append {P : Program} {ops : Array Oper} {Q : Exit → Act → World → Prop} {rest : List Oper} {o : Oper} {a : Act} {w0 : World} (hP : P = Try.prog) (hgd : o.guard = none) (s x : Operand)
  (ho : o.op = .call { callee := .builtin .append, args := #[s, x], argTypes := #[28, 28] }) (p : Int) (hs : a.eval s = v) (hx : a.eval x = .slice (some ⟨W.heap.size, 0, none⟩) 1 1)
  (HO : T B W v xs) (HB : Below B w0 W) (hbase : B ≤ W.heap.size) (hl : xs.length ≤ 1048576)
  (h : ∀ v1 w1, T B w1 v1 (xs ++ [p]) → Below B w0 w1 → W.grownBy w1 v.ownBlock → (v1.ownBlock = v.ownBlock ∨ ∃ b, v1.ownBlock = some b ∧ W.heap.size ≤ b) → wpList P ops Q rest (a.put o.dst v1) w1) :
  wpList P ops Q (o :: rest) a (W.alloc (.cells #[.int .i64 p] 2)) := by
 subst hP
 exact Kd.R_append (Kd.int .i64) (w0 := w0) B hgd s x 28 2 (.int .i64 0) 8 ho Try.underlying28 info2 rfl (by decide) (by omega) v xs p [.int .i64 p] (fun _ => True) (fun _ => False) hs hx rfl (fun _ hk => hk.elim) (fun _ _ => trivial) HO HB hbase (by omega) h
def TB (B : Nat) (W : World) (v : Value) (xs : List Bool) : Prop := Kd.bool.R 4 W B (fun _ => True) v xs
section
variable {bs : List Bool}
theorem TB.of {ok : Nat → Prop} (h : Kd.bool.R 4 W B ok v bs) : TB B W v bs := Kd.R_mono h (fun _ _ => trivial)
theorem TB.lt (h : TB B W v bs) {k : Nat} (hk : v.ownBlock = some k) : k < W.heap.size := Kd.R_lt h k hk
theorem TB.grown (h : TB B W u bs) (hg : W.grownBy w1 v.ownBlock) (hn : NE u v) : TB B w1 u bs :=
 TB.of (Kd.R_grown (Kd.R_tight rfl h) hg (fun k hk e => hn k hk.symm e.symm))
theorem TB.below (h : TB B W u bs) (hb : Below W.heap.size W w1) : TB B w1 u bs := Kd.R_below h hb
theorem TB.form (h : TB B W v bs) (hp : 0 < bs.length) : ∃ g cap, v = .slice (some ⟨g, 0, none⟩) bs.length cap ∧ B ≤ g ∧ g < W.heap.size := by
 obtain ⟨g, cap, he, hb, hl, _⟩ := Kd.R_form h hp
 exact ⟨g, cap, he, hb, hl⟩
theorem TB.cell {g n cap : Nat} (h : TB B W (.slice (some ⟨g, 0, none⟩) n cap) bs) (i : Nat) (hi : i < n) : W.cell? ⟨g, i, none⟩ = some (.bool (rdOf false bs i)) ∧ W.frozen? ⟨g, i, none⟩ = false :=
 Kd.R_celln false h (i : Int) (by omega) (by omega)
theorem TB.put {g n cap : Nat} (h : TB B W (.slice (some ⟨g, 0, none⟩) n cap) bs) (i : Nat) (x : Bool) : TB B (W.setCell ⟨g, i, none⟩ (.bool x)) (.slice (some ⟨g, 0, none⟩) n cap) (bs.set i x) ∧ W.grownBy (W.setCell ⟨g, i, none⟩ (.bool x)) (some g) :=
 Kd.R_putg h (i : Int) x
theorem TB.len {g n cap : Nat} (h : TB B W (.slice (some ⟨g, 0, none⟩) n cap) bs) : n = bs.length := (Kd.R_reads' h).1
end
def upd {α : Type} (new old : List α) (k : Nat) : List α := new.take k ++ old.drop k
section
variable {α : Type} {new old : List α} {k : Nat}
theorem upd_zero : upd new old 0 = old := by simp [upd]
theorem upd_all (h : new.length = old.length) : upd new old old.length = new := by simp [upd, ← h]
theorem upd_len (h : new.length = old.length) (hk : k ≤ old.length) : (upd new old k).length = old.length := by simp [upd]; omega
theorem upd_get (h : new.length = old.length) (hk : k < old.length) : (upd new old k)[k]? = old[k]? := by
 rw [upd, List.getElem?_append_right (by simp; omega)]; simp [show min k new.length = k by omega]
theorem upd_set (h : new.length = old.length) (hk : k < old.length) : (upd new old k).set k (new[k]'(by omega)) = upd new old (k + 1) := by
 rw [upd, List.set_append_right _ _ (by simp; omega), List.length_take, show k - min k new.length = 0 by omega, List.drop_eq_getElem_cons hk, List.set_cons_zero, upd, List.take_succ_eq_append_getElem (by omega), List.append_assoc]; rfl
theorem upd_same (h : new.length = old.length) (hk : k < old.length) (he : new[k]'(by omega) = old[k]) : upd new old (k + 1) = upd new old k := by
 rw [upd, List.take_succ_eq_append_getElem (by omega), he, List.append_assoc, upd, List.drop_eq_getElem_cons hk]; rfl
end
theorem rd_upd {new old : List Int} {k : Nat} (h : new.length = old.length) (hk : k < old.length) : rd (upd new old k) k = rd old k := by
 simp only [rd, Int.toNat_natCast, List.getD_eq_getElem?_getD]; rw [upd_get h hk]
theorem rd_nat (l : List Int) (k : Nat) (h : k < l.length) : rd l k = l[k] := by simp [rd, List.getD_eq_getElem?_getD, h]
end Go.Proofs.Ytkafbmanmffliaa.Hc

/- The reference's l10Tree: the sights that connect points without loops, and the heights that follow. -/
namespace Go.Proofs.Ytkafbmanmffliaa.Hd
open Go.RowKit YtkafbmanmffliaaW.PrintWords YtkafbmanmffliaaW.PrintLast YtkafbmanmffliaaW.PrintMore Q Ha Hb Hc
def mxI (a b : Int) : Int := if b < a then a else b
def mnI (a b : Int) : Int := if a < b then a else b
theorem max_any (a b : Int) (w : World) : Calls Try.prog 95 #[.int .i64 a, .int .i64 b] w fun e w' => e = .returned (.int .i64 (mxI a b)) ∧ w' = w := by
 by_cases h : b < a
 ·have h' : decide (b < a) = true := by simpa using h
  go_enter Try.func95, Try.ntmps95
  go_wp2
  go_ret
  exact ⟨ret_int (by simp [mxI, h]), rfl⟩
 ·have h' : decide (b < a) = false := by simpa using h
  go_enter Try.func95, Try.ntmps95
  go_wp2
  go_ret
  exact ⟨ret_int (by simp [mxI]; omega), rfl⟩
theorem min_any (a b : Int) (w : World) : Calls Try.prog 129 #[.int .i64 a, .int .i64 b] w fun e w' => e = .returned (.int .i64 (mnI a b)) ∧ w' = w := by
 by_cases h : a < b
 ·have h' : decide (a < b) = true := by simpa using h
  go_enter Try.func129, Try.ntmps129
  go_wp2
  go_ret
  exact ⟨ret_int (by simp [mnI, h]), rfl⟩
 ·have h' : decide (a < b) = false := by simpa using h
  go_enter Try.func129, Try.ntmps129
  go_wp2
  go_ret
  exact ⟨ret_int (by simp [mnI]; omega), rfl⟩
structure St where
 out : List Int
 part : List Int
 hts : List Int
def liftOf (st : St) (s : S32) : Int :=
 let lf := wrap64 (wrap64 (rd st.hts s.f0 + s.f2) - rd st.hts s.f1)
 if rd st.part s.f1 < rd st.part s.f0 then wrap64 (-lf) else lf
def newPart (part : List Int) (a b : Int) : List Int := part.map fun v => if v = mxI a b then mnI a b else v
def newHts (part hts : List Int) (a b lf : Int) : List Int := List.zipWith (fun v h => if v = mxI a b then wrap64 (h + lf) else h) part hts
def step (st : St) (x : S32 × Nat) : St :=
 if rd st.part x.1.f0 = rd st.part x.1.f1 then st
 else ⟨st.out ++ [(x.2 : Int)], newPart st.part (rd st.part x.1.f0) (rd st.part x.1.f1), newHts st.part st.hts (rd st.part x.1.f0) (rd st.part x.1.f1) (liftOf st x.1)⟩
def start (pts : Int) : St := ⟨[], (List.range pts.toNat).map fun k : Nat => (k : Int), List.replicate pts.toNat 0⟩
def treeS (pts : Int) (l : List S32) : St := l.zipIdx.foldl step (start pts)
theorem newPart_len (part : List Int) (a b : Int) : (newPart part a b).length = part.length := by simp [newPart]
theorem newHts_len (part hts : List Int) (a b lf : Int) (h : part.length = hts.length) : (newHts part hts a b lf).length = hts.length := by simp [newHts, h]
theorem step_len (n : Nat) (st : St) (x : S32 × Nat) (h : st.part.length = n ∧ st.hts.length = n) : (step st x).part.length = n ∧ (step st x).hts.length = n := by
 unfold step
 split
 ·exact h
 ·exact ⟨by simp [newPart_len, h.1], by simp [newHts, h.1, h.2]⟩
theorem foldl_len (n : Nat) (l : List (S32 × Nat)) (st : St) (h : st.part.length = n ∧ st.hts.length = n) : (l.foldl step st).part.length = n ∧ (l.foldl step st).hts.length = n := by
 induction l generalizing st with
 | nil => exact h
 | cons x xs ih => exact ih _ (step_len n st x h)
theorem out_len (l : List (S32 × Nat)) (st : St) : (l.foldl step st).out.length ≤ st.out.length + l.length := by
 induction l generalizing st with
 | nil => simp
 | cons x xs ih =>
  have h1 := ih (step st x)
  have h2 : (step st x).out.length ≤ st.out.length + 1 := by unfold step; split <;> simp
  simp only [List.foldl_cons, List.length_cons]; omega
def at_ (pts : Int) (l : List S32) (k : Nat) : St := (l.zipIdx.take k).foldl step (start pts)
theorem at_zero (pts : Int) (l : List S32) : at_ pts l 0 = start pts := by simp [at_]
theorem at_all (pts : Int) (l : List S32) : at_ pts l l.length = treeS pts l := by
 unfold at_ treeS; rw [List.take_of_length_le (by simp)]
theorem at_succ (pts : Int) (l : List S32) (k : Nat) (h : k < l.length) : at_ pts l (k + 1) = step (at_ pts l k) (rd_T32 l k, k) := by
 unfold at_
 rw [List.take_succ_eq_append_getElem (by simpa using h), List.foldl_append]
 simp [rd_T32, h, List.getElem_zipIdx]
theorem at_len (pts : Int) (l : List S32) (k : Nat) : (at_ pts l k).part.length = pts.toNat ∧ (at_ pts l k).hts.length = pts.toNat :=
 foldl_len _ _ _ (by simp [start])
theorem at_out (pts : Int) (l : List S32) (k : Nat) : (at_ pts l k).out.length ≤ k := by
 have := out_len (l.zipIdx.take k) (start pts)
 simp only [start, List.length_nil, List.length_take, List.length_zipIdx] at this
 unfold at_; simp only [start]; omega
theorem valid_pts {pts : Int} {l : List S32} (h : surveyB pts l = true) : 2 ≤ pts ∧ pts ≤ 5 ∧ l.length ≤ 8 := by
 simp [surveyB, inB] at h; omega
theorem valid_at {pts : Int} {l : List S32} (h : surveyB pts l = true) (k : Nat) (hk : k < l.length) : 0 ≤ (rd_T32 l k).f0 ∧ (rd_T32 l k).f0 < pts ∧ 0 ≤ (rd_T32 l k).f1 ∧ (rd_T32 l k).f1 < pts := by
 have hp := valid_pts h
 have hm : rd_T32 l k ∈ l := by simp only [rd_T32, Int.toNat_natCast]; rw [List.getD_eq_getElem?_getD, List.getElem?_eq_getElem hk]; simp
 have h1 : l.all (sightB pts) = true := by simp only [surveyB, Bool.and_eq_true] at h; exact h.2
 have h2 := List.all_eq_true.1 h1 _ hm
 have e : wrap64 (pts - 1) = pts - 1 := by unfold wrap64; omega
 simp [sightB, inB, e] at h2
 omega
section
variable {part hts : List Int} {a b lf : Int} {j : Nat}
theorem np_hit (hj : j < part.length) (h : rd part j = mxI a b) : (upd (newPart part a b) part j).set j (mnI a b) = upd (newPart part a b) part (j + 1) := by
 have e : (newPart part a b)[j]'(by simp [newPart_len, hj]) = mnI a b := by
  rw [rd_nat _ _ hj] at h; simp [newPart, h]
 rw [← upd_set (newPart_len ..) hj, e]
theorem np_miss (hj : j < part.length) (h : ¬ rd part j = mxI a b) : upd (newPart part a b) part (j + 1) = upd (newPart part a b) part j := by
 rw [rd_nat _ _ hj] at h
 exact upd_same (newPart_len ..) hj (by simp [newPart, h])
theorem nh_hit (hl : part.length = hts.length) (hj : j < hts.length) (h : rd part j = mxI a b) : (upd (newHts part hts a b lf) hts j).set j (wrap64 (rd hts j + lf)) = upd (newHts part hts a b lf) hts (j + 1) := by
 have e : (newHts part hts a b lf)[j]'(by simp [newHts, hl, hj]) = wrap64 (rd hts j + lf) := by
  rw [rd_nat _ _ (by omega)] at h; simp [newHts, h, rd_nat _ _ hj]
 rw [← upd_set (newHts_len _ _ _ _ _ hl) hj, e]
theorem nh_miss (hl : part.length = hts.length) (hj : j < hts.length) (h : ¬ rd part j = mxI a b) : upd (newHts part hts a b lf) hts (j + 1) = upd (newHts part hts a b lf) hts j := by
 rw [rd_nat _ _ (by omega)] at h
 exact upd_same (newHts_len _ _ _ _ _ hl) hj (by simp [newHts, h])
end
def Ends (w : World) (pts : Int) (l : List S32) (e : Ending) (w' : World) : Prop :=
 ∃ v0 v1 : Value, ∃ ok : Bool, e = .returned (.tuple #[v0, v1, .bool ok]) ∧ ok = (treeS pts l).part.all (· == 0) ∧
  T w.heap.size w' v0 (if ok then (treeS pts l).out else []) ∧ T w.heap.size w' v1 (if ok then (treeS pts l).hts else []) ∧ NE v0 v1 ∧ Below w.heap.size w w'
set_option maxHeartbeats 4000000 in
set_option maxRecDepth 100000 in
theorem l10Tree_any (g : Nat) (pts : Int) (A : Option Addr) (c : Nat) (l : List S32) (w : World) (hb : w.heap[g]? = some (.cells #[.int .i64 pts, .slice A l.length c] 26 (0, 0))) (hr : Kd.C k32 w A l.length l) (hv : surveyB pts l = true) :
  Calls Try.prog 99 #[.pointer (some ⟨g, 0, none⟩)] w (Ends w pts l) := by
 obtain ⟨n, rfl⟩ : ∃ n : Nat, pts = (n : Int) := ⟨pts.toNat, by have := valid_pts hv; omega⟩
 have hn : 2 ≤ n ∧ n ≤ 5 ∧ l.length ≤ 8 := by have := valid_pts hv; omega
 obtain ⟨hn2, hn5, hl8⟩ := hn
 have HV := Aside0.mk hv
 have HBK := Aside0.mk hb
 have HR := Aside0.mk hr
 have hgl : g < w.heap.size := blk_lt hb
 have hc0 : w.cell? ⟨g, 0, none⟩ = some (.int .i64 n) := (blk_cell hb 0).trans rfl
 have hc1 : w.cell? ⟨g, 1, none⟩ = some (.slice A l.length c) := (blk_cell hb 1).trans rfl
 clear hb hr hv
 have hu32 := Try.underlying32
 have HB0 := Aside0.mk (Below.refl w.heap.size w)
 go_enter Try.func99, Try.ntmps99
 go_wp2_with (fail)
 go_loopw [6, 7, 8] (fun v6 v7 v8 wr => ∃ k : Nat, k ≤ n ∧ v8 = .int .i64 k ∧ Aside0 (T w.heap.size wr (.slice (some ⟨w.heap.size, 0, none⟩) 0 0) []) ∧ Aside0 (T w.heap.size wr v6 ((List.range k).map fun j : Nat => (j : Int))) ∧ Aside0 (T w.heap.size wr v7 (List.replicate k 0)) ∧
   Aside0 (NE (.slice (some ⟨w.heap.size, 0, none⟩) 0 0) v6) ∧ Aside0 (NE (.slice (some ⟨w.heap.size, 0, none⟩) 0 0) v7) ∧ Aside0 (NE v6 v7) ∧ Aside0 (Below w.heap.size w wr)) (fun _ _ i _ => n - (intOf i).toNat)
 case atStart =>
  have t0 := T.nil_new (B := w.heap.size) (W := w) (Nat.le_refl _)
  have t1 := T.nil_new (B := w.heap.size) (W := w.alloc (.cells #[] 2)) (by simp)
  have t2 := T.nil_new (B := w.heap.size) (W := (w.alloc (.cells #[] 2)).alloc (.cells #[] 2)) (by simp; omega)
  simp only [World.size_alloc] at t1 t2
  exact ⟨0, by omega, rfl, ⟨(t0.below (below_alloc (Below.refl _ _) _)).below (below_alloc (Below.refl _ _) _)⟩, ⟨t1.below (below_alloc (Below.refl _ _) _)⟩, ⟨t2⟩, ⟨NE.of (by omega)⟩, ⟨NE.of (by omega)⟩, ⟨NE.of (by omega)⟩, ⟨below_alloc (below_alloc (below_alloc (Below.refl _ _) _) _) _⟩⟩
 case round =>
  obtain ⟨k, hk, rfl, t5, t6, t7, n56, n57, n67, hbw⟩ := hrel
  clear hc0 hc1
  have hc0 : wr.cell? ⟨g, 0, none⟩ = some (.int .i64 n) := (blk_cell (blk_below HBK.out hbw.out) 0).trans rfl
  have hsz := hbw.out.size
  by_cases hlt : k < n
  ·have hlt' : decide ((k : Int) < (n : Int)) = true := by simpa using hlt
   go_wp2_with (first
    | ((with_reducible refine gate_builtin (b := .append) (xs := #[.tmp 27, .tmp 29]) rfl ?_); at_builtin; refine T.append (w0 := w) rfl rfl (.tmp 27) (.tmp 29) rfl (k : Int) rfl rfl t6.out hbw.out hsz (by simp; omega) ?_; intro v1 w1 h1 h2 h3 h4; have t5' := Aside0.mk (t5.out.grown h3 n56.out); have t7' := Aside0.mk (t7.out.grown h3 n67.out.symm); have t6' := Aside0.mk h1; have n56' := Aside0.mk (NE.after t5.out n56.out h4); have n67' := Aside0.mk (NE.after t7.out n67.out.symm h4).symm; have hbw' := Aside0.mk h2; have hsz' := h2.size; clear t5 t6 t7 n56 n67 hbw hsz h1 h2 h3 h4)
    | ((with_reducible refine gate_builtin (b := .append) (xs := #[.tmp 31, .tmp 32]) rfl ?_); at_builtin; refine T.append (w0 := w) rfl rfl (.tmp 31) (.tmp 32) rfl 0 rfl rfl t7'.out hbw'.out hsz' (by simp; omega) ?_; intro v2 w2 h1 h2 h3 h4; have t5 := Aside0.mk (t5'.out.grown h3 n57.out); have t6 := Aside0.mk (t6'.out.grown h3 n67'.out); have t7 := Aside0.mk h1; have m57 := Aside0.mk (NE.after t5'.out n57.out h4); have n67 := Aside0.mk (NE.after t6'.out n67'.out h4); have hbw := Aside0.mk h2; clear t5' t6' t7' n57 n67' hbw' h1 h2 h3 h4))
   go_roundw
   case rel => exact ⟨k + 1, by omega, by go_num, t5, ⟨by rw [List.range_succ, List.map_append]; exact t6.out⟩, ⟨by rw [List.replicate_succ']; exact t7.out⟩, n56', m57, n67, hbw⟩
   case measure => simp [intOf]; omega
  ·obtain rfl : k = n := by omega
   have hlt' : decide ((k : Int) < (k : Int)) = false := by simp
   go_wp2_with (fail)
   obtain ⟨g6, c6, e6, hB6, -⟩ := t6.out.form (by simp; omega)
   obtain ⟨g7, c7, e7, hB7, -⟩ := t7.out.form (by simp; omega)
   simp only [List.length_map, List.length_range, List.length_replicate] at e6 e7
   subst e6
   subst e7
   have hne : g6 ≠ g7 := fun e => n67.out g6 rfl (by rw [e]; rfl)
   have HL := Aside0.mk (at_len (k : Int) l)
   have HO := Aside0.mk (at_out (k : Int) l)
   clear hc0 hsz
   go_loopw [5, 9] (fun v5 v9 wz => ∃ i : Nat, i ≤ l.length ∧ v9 = .int .i64 i ∧ Aside0 (T w.heap.size wz v5 (at_ k l i).out) ∧ Aside0 (T w.heap.size wz (.slice (some ⟨g6, 0, none⟩) k c6) (at_ k l i).part) ∧ Aside0 (T w.heap.size wz (.slice (some ⟨g7, 0, none⟩) k c7) (at_ k l i).hts) ∧
     Aside0 (NE v5 (.slice (some ⟨g6, 0, none⟩) k c6)) ∧ Aside0 (NE v5 (.slice (some ⟨g7, 0, none⟩) k c7)) ∧ Aside0 (Below w.heap.size w wz)) (fun _ i _ => l.length - (intOf i).toNat)
   case atStart => exact ⟨0, by omega, rfl, ⟨by rw [at_zero]; exact t5.out⟩, ⟨by rw [at_zero]; exact t6.out⟩, ⟨by rw [at_zero]; exact t7.out⟩, n56, n57, hbw⟩
   case round =>
    clear t5 t6 t7 n56 n57 n67 hbw
    obtain ⟨i, hi, rfl, t5, t6, t7, n56, n57, hbw⟩ := hrel
    have HB1 := Aside0.mk (blk_below HBK.out hbw.out)
    have hc0 : wr.cell? ⟨g, 0, none⟩ = some (.int .i64 k) := (blk_cell HB1.out 0).trans rfl
    have hc1 : wr.cell? ⟨g, 1, none⟩ = some (.slice A l.length c) := (blk_cell HB1.out 1).trans rfl
    have hsz := hbw.out.size
    have hlp : (at_ k l i).part.length = k := by have := (HL.out i).1; simpa using this
    have hlh : (at_ k l i).hts.length = k := by have := (HL.out i).2; simpa using this
    have hol := HO.out i
    by_cases hlt : i < l.length
    ·have hlt' : decide ((i : Int) < (l.length : Int)) = true := by simpa using hlt
     have hr1 := Kd.C_below HR.out hbw.out
     obtain ⟨ad, rfl, hx0, hx1, hx2, hx3⟩ := at_T32 hr1 (i : Int) (by omega) (by omega)
     clear hr1
     simp only [Int.toNat_natCast] at hx0 hx1 hx2 hx3
     obtain ⟨hs0, hs1, hs2, hs3⟩ := valid_at HV.out i hlt
     have HS := Aside0.mk (at_succ k l i hlt)
     obtain ⟨st, hst⟩ : ∃ st, st = at_ k l i := ⟨_, rfl⟩
     obtain ⟨s, hs⟩ : ∃ s, s = rd_T32 l i := ⟨_, rfl⟩
     rw [← hst] at t5 t6 t7 hlp hlh hol HS
     rw [← hs] at hx0 hx1 hx2 hx3 hs0 hs1 hs2 hs3 HS
     clear hst hs
     have hg6 : g6 < wr.heap.size := t6.out.lt rfl
     have hg7 : g7 < wr.heap.size := t7.out.lt rfl
     have hp0 := (Kd.R_celln 0 t6.out s.f0 hs0 hs1).1
     have hp1 := (Kd.R_celln 0 t6.out s.f1 hs2 hs3).1
     change wr.cell? ⟨g6, s.f0.toNat, none⟩ = some (.int .i64 (rd st.part s.f0)) at hp0
     change wr.cell? ⟨g6, s.f1.toNat, none⟩ = some (.int .i64 (rd st.part s.f1)) at hp1
     by_cases hab : rd st.part s.f0 = rd st.part s.f1
     ·have hab' : (rd st.part s.f0 == rd st.part s.f1) = true := by simpa using hab
      have HE := Aside0.mk (show step st (s, i) = st by simp [step, hab])
      clear hab
      go_wp2_with (fail)
      go_roundw
      case rel =>
       have hbl := below_alloc (Below.refl wr.heap.size wr) (.cells #[.int .i64 s.f0, .int .i64 s.f1, .int .i64 s.f2, .int .i64 s.f3] 32)
       exact ⟨i + 1, by omega, by go_num, ⟨by rw [HS.out, HE.out]; exact t5.out.below hbl⟩, ⟨by rw [HS.out, HE.out]; exact t6.out.below hbl⟩, ⟨by rw [HS.out, HE.out]; exact t7.out.below hbl⟩, n56, n57, ⟨below_step hbw.out hbl⟩⟩
      case measure => simp [intOf]; omega
     ·have hab' : (rd st.part s.f0 == rd st.part s.f1) = false := by simpa using hab
      have hbl := below_alloc (Below.refl wr.heap.size wr) (.cells #[.int .i64 s.f0, .int .i64 s.f1, .int .i64 s.f2, .int .i64 s.f3] 32)
      have a5 := Aside0.mk (t5.out.below hbl)
      have a6 := Aside0.mk (t6.out.below hbl)
      have a7 := Aside0.mk (t7.out.below hbl)
      have ab := Aside0.mk (below_step hbw.out hbl)
      have ax := Aside0.mk (heap_alloc_new wr (.cells #[.int .i64 s.f0, .int .i64 s.f1, .int .i64 s.f2, .int .i64 s.f3] 32))
      have a5x := Aside0.mk (fun e : some wr.heap.size = _ => Nat.lt_irrefl _ (t5.out.lt e.symm))
      have hsz1 : w.heap.size ≤ (wr.alloc (.cells #[.int .i64 s.f0, .int .i64 s.f1, .int .i64 s.f2, .int .i64 s.f3] 32)).heap.size := below_size ab.out
      clear hbl
      go_wp2_with (first
       | ((with_reducible refine gate_builtin (b := .append) (xs := #[.tmp 63, .tmp 65]) rfl ?_); at_builtin; refine T.append (w0 := w) rfl rfl (.tmp 63) (.tmp 65) rfl (i : Int) rfl ?hx a5.out ab.out hsz1 (by omega) ?_; (case hx => (go_simp; done)); intro v1 w1 h1 h2 h3 h4; have b5 := Aside0.mk h1; have b6 := Aside0.mk (a6.out.grown h3 n56.out.symm); have b7 := Aside0.mk (a7.out.grown h3 n57.out.symm); have m56 := Aside0.mk (NE.after a6.out n56.out.symm h4).symm; have m57 := Aside0.mk (NE.after a7.out n57.out.symm h4).symm; have bb := Aside0.mk h2; have bx := Aside0.mk (blk_grown ax.out h3 a5x.out); clear a5 a6 a7 n56 n57 ab h1 h2 h3 h4))
      have hy0 : w1.cell? ⟨wr.heap.size, 0, none⟩ = some (.int .i64 s.f0) := (blk_cell bx.out 0).trans rfl
      have hy1 : w1.cell? ⟨wr.heap.size, 1, none⟩ = some (.int .i64 s.f1) := (blk_cell bx.out 1).trans rfl
      have hy2 : w1.cell? ⟨wr.heap.size, 2, none⟩ = some (.int .i64 s.f2) := (blk_cell bx.out 2).trans rfl
      have hq0 := (Kd.R_celln 0 b7.out s.f0 hs0 hs1).1
      have hq1 := (Kd.R_celln 0 b7.out s.f1 hs2 hs3).1
      change w1.cell? ⟨g7, s.f0.toNat, none⟩ = some (.int .i64 (rd st.hts s.f0)) at hq0
      change w1.cell? ⟨g7, s.f1.toNat, none⟩ = some (.int .i64 (rd st.hts s.f1)) at hq1
      go_quiet (fail)
      have HST := Aside0.mk (show step st (s, i) = ⟨st.out ++ [(i : Int)], newPart st.part (rd st.part s.f0) (rd st.part s.f1), newHts st.part st.hts (rd st.part s.f0) (rd st.part s.f1) (liftOf st s)⟩ by simp [step, hab])
      have n67' := Aside0.mk (NE.of (n1 := k) (c1 := c6) (n2 := k) (c2 := c7) hne)
      clear hab
      by_cases hgt : rd st.part s.f1 < rd st.part s.f0
      ·have hgt' : decide (rd st.part s.f1 < rd st.part s.f0) = true := by simpa using hgt
       have HLF := Aside0.mk (show liftOf st s = wrap64 (-wrap64 (wrap64 (rd st.hts s.f0 + s.f2) - rd st.hts s.f1)) by simp [liftOf, hgt])
       clear hgt
       go_wp2_with (fail)
       have hdn := pw_below_drewN (Below.refl w1.heap.size w1) nq
       go_loopw [14] (fun v14 wz => ∃ j : Nat, j ≤ k ∧ v14 = .int .i64 j ∧ Aside0 (T w.heap.size wz v1 (st.out ++ [(i : Int)])) ∧ Aside0 (T w.heap.size wz (.slice (some ⟨g6, 0, none⟩) k c6) (upd (newPart st.part (rd st.part s.f0) (rd st.part s.f1)) st.part j)) ∧
         Aside0 (T w.heap.size wz (.slice (some ⟨g7, 0, none⟩) k c7) (upd (newHts st.part st.hts (rd st.part s.f0) (rd st.part s.f1) (wrap64 (-wrap64 (wrap64 (rd st.hts s.f0 + s.f2) - rd st.hts s.f1)))) st.hts j)) ∧ Aside0 (Below w.heap.size w wz)) (fun v _ => k - (intOf v).toNat)
       case atStart => exact ⟨0, by omega, rfl, ⟨b5.out.below hdn⟩, ⟨by rw [upd_zero]; exact b6.out.below hdn⟩, ⟨by rw [upd_zero]; exact b7.out.below hdn⟩, ⟨below_step bb.out hdn⟩⟩
       case round =>
        clear hx0 hx1 hx2 hx3 hy0 hy1 hy2 hq0 hq1 hp0 hp1 hc0 hc1 hdn
        clear hg6 hg7 b5 b6 b7 bb bx
        obtain ⟨j, hj, rfl, r5, r6, r7, rb⟩ := hrel
        have hc0 : wr.cell? ⟨g, 0, none⟩ = some (.int .i64 k) := (blk_cell (blk_below HBK.out rb.out) 0).trans rfl
        by_cases hjk : j < k
        ·have hjk' : decide ((j : Int) < (k : Int)) = true := by simpa using hjk
         have hpc := (r6.out.cell j hjk).1
         rw [rd_upd (newPart_len ..) (by omega)] at hpc
         by_cases hm : rd st.part j = mxI (rd st.part s.f0) (rd st.part s.f1)
         ·have hm' : (rd st.part j == mxI (rd st.part s.f0) (rd st.part s.f1)) = true := by simpa using hm
          have HP := Aside0.mk (np_hit (a := rd st.part s.f0) (b := rd st.part s.f1) (by omega) hm)
          have HH := Aside0.mk (nh_hit (hts := st.hts) (lf := wrap64 (-wrap64 (wrap64 (rd st.hts s.f0 + s.f2) - rd st.hts s.f1))) (a := rd st.part s.f0) (b := rd st.part s.f1) (by omega) (by omega) hm)
          clear hm
          go_wp2_with (fail)
          go_quiet ((go_at_call 95; exact Calls.quiet_of_same (max_any _ _ _)))
          have hdq := pw_below_drewN (Below.refl wr.heap.size wr) nq
          have q5 := Aside0.mk (r5.out.below hdq)
          have q6 := Aside0.mk (r6.out.below hdq)
          have q7 := Aside0.mk (r7.out.below hdq)
          have qb := Aside0.mk (below_step rb.out hdq)
          clear hdq r5 r6 r7
          have s6 := Aside0.mk (q6.out.put j (mnI (rd st.part s.f0) (rd st.part s.f1)))
          have s7 := Aside0.mk (T.grown (v := .slice (some ⟨g6, 0, none⟩) k c6) q7.out s6.out.2 n67'.out.symm)
          have s5 := Aside0.mk (T.grown (v := .slice (some ⟨g6, 0, none⟩) k c6) q5.out s6.out.2 m56.out)
          obtain ⟨hz1, hz2⟩ := q6.out.cell j hjk
          obtain ⟨hz3, hz4⟩ := s7.out.cell j hjk
          rw [rd_upd (newHts_len _ _ _ _ _ (by omega)) (by omega)] at hz3
          go_wp2_with (go_at_call 129; refine (min_any _ _ _).mono ?_; rintro e w' ⟨rfl, rfl⟩)
          have z7 := Aside0.mk (s7.out.put j (wrap64 (rd st.hts j + (wrap64 (-wrap64 (wrap64 (rd st.hts s.f0 + s.f2) - rd st.hts s.f1))))))
          go_roundw
          case rel => exact ⟨j + 1, by omega, by go_num, ⟨T.grown (v := .slice (some ⟨g7, 0, none⟩) k c7) s5.out z7.out.2 m57.out⟩, ⟨by rw [← HP.out]; exact T.grown (v := .slice (some ⟨g7, 0, none⟩) k c7) s6.out.1 z7.out.2 n67'.out⟩, ⟨by rw [← HH.out]; exact z7.out.1⟩, ⟨(qb.out.setCell hB6 _).setCell hB7 _⟩⟩
          case measure => simp [intOf]; omega
         ·have hm' : (rd st.part j == mxI (rd st.part s.f0) (rd st.part s.f1)) = false := by simpa using hm
          have HP := Aside0.mk (np_miss (a := rd st.part s.f0) (b := rd st.part s.f1) (by omega) hm)
          have HH := Aside0.mk (nh_miss (hts := st.hts) (lf := wrap64 (-wrap64 (wrap64 (rd st.hts s.f0 + s.f2) - rd st.hts s.f1))) (a := rd st.part s.f0) (b := rd st.part s.f1) (by omega) (by omega) hm)
          clear hm
          go_wp2_with (fail)
          go_quiet ((go_at_call 95; exact Calls.quiet_of_same (max_any _ _ _)))
          have hdq := pw_below_drewN (Below.refl wr.heap.size wr) nq
          go_wp2_with (fail)
          go_roundw
          case rel => exact ⟨j + 1, by omega, by go_num, ⟨r5.out.below hdq⟩, ⟨by rw [HP.out]; exact r6.out.below hdq⟩, ⟨by rw [HH.out]; exact r7.out.below hdq⟩, ⟨below_step rb.out hdq⟩⟩
          case measure => simp [intOf]; omega
        ·obtain rfl : j = k := by omega
         have hjk' : decide ((j : Int) < (j : Int)) = false := by simp
         go_wp2_with (fail)
         go_roundw
         case rel => exact ⟨i + 1, by omega, by go_num, ⟨by rw [HS.out, HST.out]; exact r5.out⟩, ⟨by rw [HS.out, HST.out]; have h := r6.out; rw [← hlp, upd_all (newPart_len ..), hlp] at h; exact h⟩, ⟨by rw [HS.out, HST.out]; have h := r7.out; rw [← hlh, upd_all (newHts_len _ _ _ _ _ (by omega)), ← HLF.out, hlh] at h; exact h⟩, m56, m57, rb⟩
         case measure => simp [intOf]; omega
      ·have hgt' : decide (rd st.part s.f1 < rd st.part s.f0) = false := by simpa using hgt
       have HLF := Aside0.mk (show liftOf st s = wrap64 (wrap64 (rd st.hts s.f0 + s.f2) - rd st.hts s.f1) by simp [liftOf, hgt])
       clear hgt
       go_wp2_with (fail)
       have hdn := pw_below_drewN (Below.refl w1.heap.size w1) nq
       go_loopw [14] (fun v14 wz => ∃ j : Nat, j ≤ k ∧ v14 = .int .i64 j ∧ Aside0 (T w.heap.size wz v1 (st.out ++ [(i : Int)])) ∧ Aside0 (T w.heap.size wz (.slice (some ⟨g6, 0, none⟩) k c6) (upd (newPart st.part (rd st.part s.f0) (rd st.part s.f1)) st.part j)) ∧
         Aside0 (T w.heap.size wz (.slice (some ⟨g7, 0, none⟩) k c7) (upd (newHts st.part st.hts (rd st.part s.f0) (rd st.part s.f1) (wrap64 (wrap64 (rd st.hts s.f0 + s.f2) - rd st.hts s.f1))) st.hts j)) ∧ Aside0 (Below w.heap.size w wz)) (fun v _ => k - (intOf v).toNat)
       case atStart => exact ⟨0, by omega, rfl, ⟨b5.out.below hdn⟩, ⟨by rw [upd_zero]; exact b6.out.below hdn⟩, ⟨by rw [upd_zero]; exact b7.out.below hdn⟩, ⟨below_step bb.out hdn⟩⟩
       case round =>
        clear hx0 hx1 hx2 hx3 hy0 hy1 hy2 hq0 hq1 hp0 hp1 hc0 hc1 hdn
        clear hg6 hg7 b5 b6 b7 bb bx
        obtain ⟨j, hj, rfl, r5, r6, r7, rb⟩ := hrel
        have hc0 : wr.cell? ⟨g, 0, none⟩ = some (.int .i64 k) := (blk_cell (blk_below HBK.out rb.out) 0).trans rfl
        by_cases hjk : j < k
        ·have hjk' : decide ((j : Int) < (k : Int)) = true := by simpa using hjk
         have hpc := (r6.out.cell j hjk).1
         rw [rd_upd (newPart_len ..) (by omega)] at hpc
         by_cases hm : rd st.part j = mxI (rd st.part s.f0) (rd st.part s.f1)
         ·have hm' : (rd st.part j == mxI (rd st.part s.f0) (rd st.part s.f1)) = true := by simpa using hm
          have HP := Aside0.mk (np_hit (a := rd st.part s.f0) (b := rd st.part s.f1) (by omega) hm)
          have HH := Aside0.mk (nh_hit (hts := st.hts) (lf := wrap64 (wrap64 (rd st.hts s.f0 + s.f2) - rd st.hts s.f1)) (a := rd st.part s.f0) (b := rd st.part s.f1) (by omega) (by omega) hm)
          clear hm
          go_wp2_with (fail)
          go_quiet ((go_at_call 95; exact Calls.quiet_of_same (max_any _ _ _)))
          have hdq := pw_below_drewN (Below.refl wr.heap.size wr) nq
          have q5 := Aside0.mk (r5.out.below hdq)
          have q6 := Aside0.mk (r6.out.below hdq)
          have q7 := Aside0.mk (r7.out.below hdq)
          have qb := Aside0.mk (below_step rb.out hdq)
          clear hdq r5 r6 r7
          have s6 := Aside0.mk (q6.out.put j (mnI (rd st.part s.f0) (rd st.part s.f1)))
          have s7 := Aside0.mk (T.grown (v := .slice (some ⟨g6, 0, none⟩) k c6) q7.out s6.out.2 n67'.out.symm)
          have s5 := Aside0.mk (T.grown (v := .slice (some ⟨g6, 0, none⟩) k c6) q5.out s6.out.2 m56.out)
          obtain ⟨hz1, hz2⟩ := q6.out.cell j hjk
          obtain ⟨hz3, hz4⟩ := s7.out.cell j hjk
          rw [rd_upd (newHts_len _ _ _ _ _ (by omega)) (by omega)] at hz3
          go_wp2_with (go_at_call 129; refine (min_any _ _ _).mono ?_; rintro e w' ⟨rfl, rfl⟩)
          have z7 := Aside0.mk (s7.out.put j (wrap64 (rd st.hts j + (wrap64 (wrap64 (rd st.hts s.f0 + s.f2) - rd st.hts s.f1)))))
          go_roundw
          case rel => exact ⟨j + 1, by omega, by go_num, ⟨T.grown (v := .slice (some ⟨g7, 0, none⟩) k c7) s5.out z7.out.2 m57.out⟩, ⟨by rw [← HP.out]; exact T.grown (v := .slice (some ⟨g7, 0, none⟩) k c7) s6.out.1 z7.out.2 n67'.out⟩, ⟨by rw [← HH.out]; exact z7.out.1⟩, ⟨(qb.out.setCell hB6 _).setCell hB7 _⟩⟩
          case measure => simp [intOf]; omega
         ·have hm' : (rd st.part j == mxI (rd st.part s.f0) (rd st.part s.f1)) = false := by simpa using hm
          have HP := Aside0.mk (np_miss (a := rd st.part s.f0) (b := rd st.part s.f1) (by omega) hm)
          have HH := Aside0.mk (nh_miss (hts := st.hts) (lf := wrap64 (wrap64 (rd st.hts s.f0 + s.f2) - rd st.hts s.f1)) (a := rd st.part s.f0) (b := rd st.part s.f1) (by omega) (by omega) hm)
          clear hm
          go_wp2_with (fail)
          go_quiet ((go_at_call 95; exact Calls.quiet_of_same (max_any _ _ _)))
          have hdq := pw_below_drewN (Below.refl wr.heap.size wr) nq
          go_wp2_with (fail)
          go_roundw
          case rel => exact ⟨j + 1, by omega, by go_num, ⟨r5.out.below hdq⟩, ⟨by rw [HP.out]; exact r6.out.below hdq⟩, ⟨by rw [HH.out]; exact r7.out.below hdq⟩, ⟨below_step rb.out hdq⟩⟩
          case measure => simp [intOf]; omega
        ·obtain rfl : j = k := by omega
         have hjk' : decide ((j : Int) < (j : Int)) = false := by simp
         go_wp2_with (fail)
         go_roundw
         case rel => exact ⟨i + 1, by omega, by go_num, ⟨by rw [HS.out, HST.out]; exact r5.out⟩, ⟨by rw [HS.out, HST.out]; have h := r6.out; rw [← hlp, upd_all (newPart_len ..), hlp] at h; exact h⟩, ⟨by rw [HS.out, HST.out]; have h := r7.out; rw [← hlh, upd_all (newHts_len _ _ _ _ _ (by omega)), ← HLF.out, hlh] at h; exact h⟩, m56, m57, rb⟩
         case measure => simp [intOf]; omega
    ·obtain rfl : i = l.length := by omega
     rw [at_all] at t5 t6 t7 hlp hlh
     have hlt' : decide ((l.length : Int) < (l.length : Int)) = false := by simp
     have he5 := Aside0.mk (fun hh : (treeS (k : Int) l).part.all (· == 0) = true => (show Ends w k l (.returned (.tuple #[_, .slice (some ⟨g7, 0, none⟩) k c7, .bool true])) wr from ⟨_, _, true, rfl, hh.symm, t5.out, t7.out, n57.out, hbw.out⟩))
     have he0 := Aside0.mk (fun hh : (treeS (k : Int) l).part.all (· == 0) = false => (show Ends w k l (.returned (.tuple #[.slice none 0 0, .slice none 0 0, .bool false])) wr from ⟨_, _, false, rfl, hh.symm, T.nil, T.nil, NE.nil, hbw.out⟩))
     clear t5 t7 n56 n57 hbw HO HL hol hlh
     go_wp2_with (fail)
     go_loop [15] (fun v => ∃ j : Nat, j ≤ k ∧ v = .int .i64 j ∧ Aside0 (((treeS (k : Int) l).part.take j).all (· == 0) = true)) (fun v => k - (intOf v).toNat)
     case atStart => exact ⟨0, by omega, rfl, ⟨by simp⟩⟩
     case round =>
      obtain ⟨j, hj, rfl, ha⟩ := hrel
      by_cases hjk : j < k
      ·have hjk' : decide ((j : Int) < (k : Int)) = true := by simpa using hjk
       have hpc := (t6.out.cell j hjk).1
       have ht := Aside0.mk (show (treeS (k : Int) l).part.take (j + 1) = (treeS (k : Int) l).part.take j ++ [rd (treeS (k : Int) l).part j] by rw [List.take_succ_eq_append_getElem (by omega), rd_nat _ _ (by omega)])
       by_cases h0 : rd (treeS (k : Int) l).part j = 0
       ·have h0' : (rd (treeS (k : Int) l).part j != 0) = false := by simpa using h0
        have ha1 := Aside0.mk (show ((treeS (k : Int) l).part.take (j + 1)).all (· == 0) = true by rw [ht.out, List.all_append, ha.out]; simp [h0])
        clear h0
        go_wp2_with (fail)
        go_round
        case rel => exact ⟨j + 1, by omega, by go_num, ha1⟩
        case measure => simp [intOf]; omega
       ·have h0' : (rd (treeS (k : Int) l).part j != 0) = true := by simpa using h0
        have hf := Aside0.mk (show (treeS (k : Int) l).part.all (· == 0) = false by rw [List.all_eq_false]; exact ⟨rd (treeS (k : Int) l).part j, by rw [rd_nat _ _ (by omega)]; exact List.getElem_mem _, by simpa using h0⟩)
        clear h0
        go_wp2_with (fail)
        go_ret3
        exact he0.out hf.out
      ·obtain rfl : j = k := by omega
       have hjk' : decide ((j : Int) < (j : Int)) = false := by simp
       have hf := Aside0.mk (show (treeS (j : Int) l).part.all (· == 0) = true by have h := ha.out; rwa [List.take_of_length_le (by omega)] at h)
       go_wp2_with (fail)
       go_ret3
       exact he5.out hf.out
end Go.Proofs.Ytkafbmanmffliaa.Hd

/- Plain: minors of matrices of up to four rows: the steps of an elimination without fractions divide without a rest; positive forms have positive leading minors; bounds. No seat: nothing is imported. -/
namespace Go.Proofs.Ytkafbmanmffliaa.La
def d2 (a b c d : Int) : Int := a * d - b * c
def d3 (a0 a1 a2 b0 b1 b2 c0 c1 c2 : Int) : Int := a0 * d2 b1 b2 c1 c2 - a1 * d2 b0 b2 c0 c2 + a2 * d2 b0 b1 c0 c1
def d4 (a0 a1 a2 a3 b0 b1 b2 b3 c0 c1 c2 c3 e0 e1 e2 e3 : Int) : Int :=
 a0 * d3 b1 b2 b3 c1 c2 c3 e1 e2 e3 - a1 * d3 b0 b2 b3 c0 c2 c3 e0 e2 e3 + a2 * d3 b0 b1 b3 c0 c1 c3 e0 e1 e3 - a3 * d3 b0 b1 b2 c0 c1 c2 e0 e1 e2
theorem st2 (a00 a01 a0k a10 a11 a1k ai0 ai1 aik : Int) : d3 a00 a01 a0k a10 a11 a1k ai0 ai1 aik * a00 = (aik * a00 - ai0 * a0k) * (a11 * a00 - a10 * a01) - (ai1 * a00 - ai0 * a01) * (a1k * a00 - a10 * a0k) := by
 unfold d3 d2; grind
set_option maxHeartbeats 4000000 in
theorem st3 (a0 a1 a2 a3 b0 b1 b2 b3 c0 c1 c2 c3 e0 e1 e2 e3 : Int) :
  d4 a0 a1 a2 a3 b0 b1 b2 b3 c0 c1 c2 c3 e0 e1 e2 e3 * d2 a0 a1 b0 b1 = d3 a0 a1 a3 b0 b1 b3 e0 e1 e3 * d3 a0 a1 a2 b0 b1 b2 c0 c1 c2 - d3 a0 a1 a2 b0 b1 b2 e0 e1 e2 * d3 a0 a1 a3 b0 b1 b3 c0 c1 c3 := by
 unfold d4 d3 d2; grind
theorem up3_0 (a0 a1 a2 ak b0 b1 b2 bk c0 c1 c2 ck : Int) : d3 ak a1 a2 bk b1 b2 ck c1 c2 * d2 a0 a1 b0 b1 = d2 ak a1 bk b1 * d3 a0 a1 a2 b0 b1 b2 c0 c1 c2 - d2 a2 a1 b2 b1 * d3 a0 a1 ak b0 b1 bk c0 c1 ck := by unfold d3 d2; grind
theorem up3_1 (a0 a1 a2 ak b0 b1 b2 bk c0 c1 c2 ck : Int) : d3 a0 ak a2 b0 bk b2 c0 ck c2 * d2 a0 a1 b0 b1 = d2 a0 ak b0 bk * d3 a0 a1 a2 b0 b1 b2 c0 c1 c2 - d2 a0 a2 b0 b2 * d3 a0 a1 ak b0 b1 bk c0 c1 ck := by unfold d3 d2; grind
set_option maxHeartbeats 8000000 in
theorem up4_0 (a0 a1 a2 a3 ak b0 b1 b2 b3 bk c0 c1 c2 c3 ck e0 e1 e2 e3 ek : Int) :
  d4 ak a1 a2 a3 bk b1 b2 b3 ck c1 c2 c3 ek e1 e2 e3 * d3 a0 a1 a2 b0 b1 b2 c0 c1 c2 = d3 ak a1 a2 bk b1 b2 ck c1 c2 * d4 a0 a1 a2 a3 b0 b1 b2 b3 c0 c1 c2 c3 e0 e1 e2 e3 - d3 a3 a1 a2 b3 b1 b2 c3 c1 c2 * d4 a0 a1 a2 ak b0 b1 b2 bk c0 c1 c2 ck e0 e1 e2 ek := by
 unfold d4 d3 d2; grind
set_option maxHeartbeats 8000000 in
theorem up4_1 (a0 a1 a2 a3 ak b0 b1 b2 b3 bk c0 c1 c2 c3 ck e0 e1 e2 e3 ek : Int) :
  d4 a0 ak a2 a3 b0 bk b2 b3 c0 ck c2 c3 e0 ek e2 e3 * d3 a0 a1 a2 b0 b1 b2 c0 c1 c2 = d3 a0 ak a2 b0 bk b2 c0 ck c2 * d4 a0 a1 a2 a3 b0 b1 b2 b3 c0 c1 c2 c3 e0 e1 e2 e3 - d3 a0 a3 a2 b0 b3 b2 c0 c3 c2 * d4 a0 a1 a2 ak b0 b1 b2 bk c0 c1 c2 ck e0 e1 e2 ek := by
 unfold d4 d3 d2; grind
set_option maxHeartbeats 8000000 in
theorem up4_2 (a0 a1 a2 a3 ak b0 b1 b2 b3 bk c0 c1 c2 c3 ck e0 e1 e2 e3 ek : Int) :
  d4 a0 a1 ak a3 b0 b1 bk b3 c0 c1 ck c3 e0 e1 ek e3 * d3 a0 a1 a2 b0 b1 b2 c0 c1 c2 = d3 a0 a1 ak b0 b1 bk c0 c1 ck * d4 a0 a1 a2 a3 b0 b1 b2 b3 c0 c1 c2 c3 e0 e1 e2 e3 - d3 a0 a1 a3 b0 b1 b3 c0 c1 c3 * d4 a0 a1 a2 ak b0 b1 b2 bk c0 c1 c2 ck e0 e1 e2 ek := by
 unfold d4 d3 d2; grind
def qf (a b c d e f g h i j x y z u : Int) : Int := a * x * x + e * y * y + h * z * z + j * u * u + 2 * (b * x * y + c * x * z + d * x * u + f * y * z + g * y * u + i * z * u)
theorem qf2 (a b c d e f g h i j : Int) : qf a b c d e f g h i j (-b) a 0 0 = a * d2 a b b e := by unfold qf d2; grind
theorem qf3 (a b c d e f g h i j : Int) : qf a b c d e f g h i j (- d2 c b f e) (- d2 a c b f) (d2 a b b e) 0 = d2 a b b e * d3 a b c b e f c f h := by unfold qf d3 d2; grind
set_option maxHeartbeats 8000000 in
theorem qf4 (a b c d e f g h i j : Int) : qf a b c d e f g h i j (- d3 d b c g e f i f h) (- d3 a d c b g f c i h) (- d3 a b d b e g c f i) (d3 a b c b e f c f h) = d3 a b c b e f c f h * d4 a b c d b e f g c f h i d g i j := by
 unfold qf d4 d3 d2; grind
theorem le2 (a b e : Int) : a * e - d2 a b b e = b * b := by unfold d2; grind
theorem le3 (a b c e f h : Int) : a * (d2 a b b e * h - d3 a b c b e f c f h) = (a * f - b * c) * (a * f - b * c) + c * c * d2 a b b e := by unfold d3 d2; grind
set_option maxHeartbeats 8000000 in
theorem le4 (a b c d e f g h i j : Int) : a * (d2 a b b e * (d3 a b c b e f c f h * j - d4 a b c d b e f g c f h i d g i j)) = a * (d3 a b d b e g c f i * d3 a b d b e g c f i) + d3 a b c b e f c f h * ((a * g - b * d) * (a * g - b * d) + d * d * d2 a b b e) := by
 unfold d4 d3 d2; grind
theorem mul_pos_right {a b : Int} (ha : 0 < a) (h : 0 < a * b) : 0 < b := by
 rcases Int.lt_trichotomy b 0 with hb | hb | hb
 ·have := Int.mul_neg_of_pos_of_neg ha hb; omega
 ·subst hb; simp at h
 ·exact hb
theorem minors_pos {a b c d e f g h i j : Int} (hq : ∀ x y z u : Int, ¬ (x = 0 ∧ y = 0 ∧ z = 0 ∧ u = 0) → 0 < qf a b c d e f g h i j x y z u) :
  0 < a ∧ 0 < d2 a b b e ∧ 0 < d3 a b c b e f c f h ∧ 0 < d4 a b c d b e f g c f h i d g i j := by
 have h1 : 0 < a := by
  have := hq 1 0 0 0 (by omega)
  unfold qf at this
  simpa using this
 have h2 : 0 < d2 a b b e := by
  have := hq (-b) a 0 0 (by omega)
  rw [qf2] at this
  exact mul_pos_right h1 this
 have h3 : 0 < d3 a b c b e f c f h := by
  have := hq (- d2 c b f e) (- d2 a c b f) (d2 a b b e) 0 (by omega)
  rw [qf3] at this
  exact mul_pos_right h2 this
 have h4 : 0 < d4 a b c d b e f g c f h i d g i j := by
  have := hq (- d3 d b c g e f i f h) (- d3 a d c b g f c i h) (- d3 a b d b e g c f i) (d3 a b c b e f c f h) (by omega)
  rw [qf4] at this
  exact mul_pos_right h3 this
 exact ⟨h1, h2, h3, h4⟩
theorem le_of_mul_le {a x y : Int} (ha : 0 < a) (h : 0 ≤ a * (x - y)) : y ≤ x := by
 rcases Int.lt_trichotomy (x - y) 0 with hb | hb | hb
 ·have := Int.mul_neg_of_pos_of_neg ha hb; omega
 ·omega
 ·omega
theorem sq_nonneg' (x : Int) : 0 ≤ x * x := by
 rcases Int.le_total 0 x with h | h
 ·exact Int.mul_nonneg h h
 ·exact Int.mul_nonneg_of_nonpos_of_nonpos h h
theorem bound2 (a b e : Int) : d2 a b b e ≤ a * e := by have := le2 a b e; have := sq_nonneg' b; omega
theorem bound3 {a b c e f h : Int} (h1 : 0 < a) (h2 : 0 < d2 a b b e) : d3 a b c b e f c f h ≤ d2 a b b e * h := by
 have hh := le3 a b c e f h
 have p := sq_nonneg' (a * f - b * c)
 have q := Int.mul_nonneg (sq_nonneg' c) (Int.le_of_lt h2)
 exact le_of_mul_le h1 (by omega)
theorem bound4 {a b c d e f g h i j : Int} (h1 : 0 < a) (h2 : 0 < d2 a b b e) (h3 : 0 < d3 a b c b e f c f h) : d4 a b c d b e f g c f h i d g i j ≤ d3 a b c b e f c f h * j := by
 have hh := le4 a b c d e f g h i j
 have p := Int.mul_nonneg (Int.le_of_lt h1) (sq_nonneg' (d3 a b d b e g c f i))
 have q := Int.mul_nonneg (Int.le_of_lt h3) (Int.add_nonneg (sq_nonneg' (a * g - b * d)) (Int.mul_nonneg (sq_nonneg' d) (Int.le_of_lt h2)))
 have r : 0 ≤ a * (d2 a b b e * (d3 a b c b e f c f h * j - d4 a b c d b e f g c f h i d g i j)) := by omega
 have s : 0 ≤ d2 a b b e * (d3 a b c b e f c f h * j - d4 a b c d b e f g c f h i d g i j) := le_of_mul_le (x := d2 a b b e * (d3 a b c b e f c f h * j - d4 a b c d b e f g c f h i d g i j)) (y := 0) h1 (by rw [Int.sub_zero]; exact r)
 exact le_of_mul_le h2 s
theorem four_mul (x y : Int) : 4 * (x * y) ≤ (x + y) * (x + y) := by
 have := sq_nonneg' (x - y)
 have e : (x - y) * (x - y) = (x + y) * (x + y) - 4 * (x * y) := by grind
 omega
theorem mul_le {a b c d : Int} (ha : 0 ≤ a) (hd : 0 ≤ d) (h1 : a ≤ b) (h2 : c ≤ d) : a * c ≤ b * d :=
 Int.le_trans (Int.mul_le_mul_of_nonneg_left h2 ha) (Int.mul_le_mul_of_nonneg_right h1 hd)
theorem diag_bound {a e h j : Int} (ha : 0 ≤ a) (he : 0 ≤ e) (hh : 0 ≤ h) (hj : 0 ≤ j) (hs : a + e + h + j ≤ 48) : a * e * h * j ≤ 20736 := by
 have p1 := four_mul a e
 have p2 := four_mul h j
 have p3 := four_mul (a + e) (h + j)
 obtain ⟨s, hs1⟩ : ∃ s, s = a + e := ⟨_, rfl⟩
 obtain ⟨t, ht1⟩ : ∃ t, t = h + j := ⟨_, rfl⟩
 rw [← hs1, ← ht1] at p3
 rw [← hs1] at p1
 rw [← ht1] at p2
 have s0 : 0 ≤ s := by omega
 have t0 : 0 ≤ t := by omega
 have st : (s + t) * (s + t) ≤ 48 * 48 := mul_le (by omega) (by omega) (by omega) (by omega)
 have st2 : s * t ≤ 576 := by omega
 have ae0 := Int.mul_nonneg ha he
 have q : (4 * (a * e)) * (4 * (h * j)) ≤ (s * s) * (t * t) := mul_le (by omega) (Int.mul_nonneg t0 t0) p1 p2
 have r : (s * t) * (s * t) ≤ 576 * 576 := mul_le (Int.mul_nonneg s0 t0) (by decide) st2 st2
 have e1 : (s * s) * (t * t) = (s * t) * (s * t) := by grind
 have e2 : (4 * (a * e)) * (4 * (h * j)) = 16 * (a * e * h * j) := by grind
 omega
end Go.Proofs.Ytkafbmanmffliaa.La

/- Plain: the grounded sums of weights over sights between points 0 .. 4: their form is the weighted sum of squares of differences. No seat: nothing is imported. -/
namespace Go.Proofs.Ytkafbmanmffliaa.Qf
structure Si where
 f : Int
 t : Int
 w : Int
def qf (a b c d e f g h i j x y z u : Int) : Int := a * x * x + e * y * y + h * z * z + j * u * u + 2 * (b * x * y + c * x * z + d * x * u + f * y * z + g * y * u + i * z * u)
def con (s : Si) (p q : Int) : Int := if p = q then (if s.f = p ∨ s.t = p then s.w else 0) else (if (s.f = p ∧ s.t = q) ∨ (s.f = q ∧ s.t = p) then - s.w else 0)
def ent (p q : Int) : List Si → Int
 | [] => 0
 | s :: r => con s p q + ent p q r
def sq (x : Int → Int) : List Si → Int
 | [] => 0
 | s :: r => s.w * (x s.f - x s.t) * (x s.f - x s.t) + sq x r
def form (L : List Si) (x : Int → Int) : Int := qf (ent 1 1 L) (ent 1 2 L) (ent 1 3 L) (ent 1 4 L) (ent 2 2 L) (ent 2 3 L) (ent 2 4 L) (ent 3 3 L) (ent 3 4 L) (ent 4 4 L) (x 1) (x 2) (x 3) (x 4)
theorem qf_add (a b c d e f g h i j a' b' c' d' e' f' g' h' i' j' x y z u : Int) : qf (a + a') (b + b') (c + c') (d + d') (e + e') (f + f') (g + g') (h + h') (i + i') (j + j') x y z u = qf a b c d e f g h i j x y z u + qf a' b' c' d' e' f' g' h' i' j' x y z u := by unfold qf; grind
theorem one (s : Si) (x : Int → Int) (h0 : x 0 = 0) (hf : 0 ≤ s.f ∧ s.f ≤ 4) (ht : 0 ≤ s.t ∧ s.t ≤ 4) (hne : s.f ≠ s.t) :
  qf (con s 1 1) (con s 1 2) (con s 1 3) (con s 1 4) (con s 2 2) (con s 2 3) (con s 2 4) (con s 3 3) (con s 3 4) (con s 4 4) (x 1) (x 2) (x 3) (x 4) = s.w * (x s.f - x s.t) * (x s.f - x s.t) := by
 obtain ⟨f, t, w⟩ := s
 simp only at hf ht hne ⊢
 have cf : f = 0 ∨ f = 1 ∨ f = 2 ∨ f = 3 ∨ f = 4 := by omega
 have ct : t = 0 ∨ t = 1 ∨ t = 2 ∨ t = 3 ∨ t = 4 := by omega
 rcases cf with rfl | rfl | rfl | rfl | rfl <;> rcases ct with rfl | rfl | rfl | rfl | rfl <;> first | exact absurd rfl hne | (simp [con, qf, h0]; try grind)
theorem form_eq (L : List Si) (x : Int → Int) (h0 : x 0 = 0) (hv : ∀ s ∈ L, (0 ≤ s.f ∧ s.f ≤ 4) ∧ (0 ≤ s.t ∧ s.t ≤ 4) ∧ s.f ≠ s.t) : form L x = sq x L := by
 induction L with
 | nil => simp [form, ent, sq, qf]
 | cons s r ih =>
  have h := hv s (by simp)
  unfold form
  simp only [ent, qf_add, sq]
  rw [one s x h0 h.1 h.2.1 h.2.2]
  have := ih (fun t ht => hv t (by simp [ht]))
  unfold form at this
  rw [this]
theorem sq_nonneg (L : List Si) (x : Int → Int) (hw : ∀ s ∈ L, 0 ≤ s.w) : 0 ≤ sq x L := by
 induction L with
 | nil => simp [sq]
 | cons s r ih =>
  have h1 := ih (fun t ht => hw t (by simp [ht]))
  have h2 := hw s (by simp)
  have h3 : 0 ≤ (x s.f - x s.t) * (x s.f - x s.t) := by
   rcases Int.le_total 0 (x s.f - x s.t) with h | h
   ·exact Int.mul_nonneg h h
   ·exact Int.mul_nonneg_of_nonpos_of_nonpos h h
  have h4 := Int.mul_nonneg h2 h3
  rw [← Int.mul_assoc] at h4
  unfold sq
  omega
theorem sq_zero (L : List Si) (x : Int → Int) (hw : ∀ s ∈ L, 0 < s.w) (h : sq x L = 0) : ∀ s ∈ L, x s.f = x s.t := by
 induction L with
 | nil => intro s hs; cases hs
 | cons s r ih =>
  have h1 := sq_nonneg r x (fun t ht => Int.le_of_lt (hw t (by simp [ht])))
  have h2 := hw s (by simp)
  have h3 : 0 ≤ (x s.f - x s.t) * (x s.f - x s.t) := by
   rcases Int.le_total 0 (x s.f - x s.t) with h | h
   ·exact Int.mul_nonneg h h
   ·exact Int.mul_nonneg_of_nonpos_of_nonpos h h
  have h4 := Int.mul_nonneg (Int.le_of_lt h2) h3
  rw [← Int.mul_assoc] at h4
  unfold sq at h
  intro t ht
  rcases List.mem_cons.1 ht with rfl | ht
  ·have h5 : t.w * (x t.f - x t.t) * (x t.f - x t.t) = 0 := by omega
   rcases Int.mul_eq_zero.1 h5 with h6 | h6
   ·rcases Int.mul_eq_zero.1 h6 with h7 | h7
    ·omega
    ·omega
   ·omega
  ·exact ih (fun t ht => hw t (by simp [ht])) (by omega) t ht
end Go.Proofs.Ytkafbmanmffliaa.Qf

/- Plain: the table of a connected survey: its leading minors are positive; the elimination without fractions, told by minors; the fractions' elimination beside it. -/
namespace Go.Proofs.Ytkafbmanmffliaa.Gm
open Go Go.RowKit YtkafbmanmffliaaW.PrintWords Q Gf Gs Gl Hb Hd La Qf
def connB (p : Int) (l : List S32) : Bool := surveyB p l && (treeS p l).part.all (· == 0)
def Same (x : Int → Int) (n : Nat) (part : List Int) : Prop := part.length = n ∧ ∀ p : Nat, p < n → x (rd part p) = x p
theorem rd_getElem (l : List Int) (k : Nat) (h : k < l.length) : rd l k = l[k] := by simp [rd, List.getD_eq_getElem?_getD, h]
theorem same_step {x : Int → Int} {n : Nat} {st : Hd.St} (h : Same x n st.part) (y : S32 × Nat) (h0 : 0 ≤ y.1.f0 ∧ y.1.f0 < n) (h1 : 0 ≤ y.1.f1 ∧ y.1.f1 < n) (hx : x y.1.f0 = x y.1.f1) : Same x n (Hd.step st y).part := by
 unfold Hd.step
 split
 ·exact h
 ·refine ⟨by simp [newPart_len, h.1], fun p hp => ?_⟩
  show x (rd (newPart st.part _ _) p) = x p
  have hl : p < st.part.length := by rw [h.1]; exact hp
  rw [rd_getElem _ p (by simp [newPart_len, hl])]
  have hq := h.2 p hp
  rw [rd_getElem _ p hl] at hq
  simp only [newPart, List.getElem_map]
  split
  ·rename_i e
   have e0 := h.2 y.1.f0.toNat (by omega)
   have e1 := h.2 y.1.f1.toNat (by omega)
   rw [Int.toNat_of_nonneg h0.1] at e0
   rw [Int.toNat_of_nonneg h1.1] at e1
   have em : x (mxI (rd st.part y.1.f0) (rd st.part y.1.f1)) = x y.1.f0 := by
    unfold mxI
    split
    ·exact e0
    ·rw [e1, hx]
   have en : x (mnI (rd st.part y.1.f0) (rd st.part y.1.f1)) = x y.1.f0 := by
    unfold mnI
    split
    ·exact e0
    ·rw [e1, hx]
   rw [en, ← em, ← e]
   exact hq
  ·exact hq
theorem same_all {n : Nat} {l : List S32} (hv : surveyB n l = true) {x : Int → Int} (hx : ∀ k, k < l.length → x (rd_T32 l k).f0 = x (rd_T32 l k).f1) : ∀ k, k ≤ l.length → Same x n (at_ n l k).part := by
 intro k
 induction k with
 | zero =>
  intro _
  rw [at_zero]
  refine ⟨by simp [Hd.start], fun p hp => ?_⟩
  rw [rd_getElem _ p (by simp [Hd.start, hp])]
  simp [Hd.start]
 | succ k ih =>
  intro hk
  rw [at_succ _ _ _ (by omega)]
  have := valid_at hv k (by omega)
  exact same_step (ih (by omega)) _ ⟨this.1, this.2.1⟩ ⟨this.2.2.1, this.2.2.2⟩ (hx k (by omega))
theorem conn_zero {n : Nat} {l : List S32} (hc : connB n l = true) {x : Int → Int} (hx : ∀ k, k < l.length → x (rd_T32 l k).f0 = x (rd_T32 l k).f1) (p : Nat) (hp : p < n) : x p = x 0 := by
 unfold connB at hc
 simp only [Bool.and_eq_true] at hc
 have h := same_all hc.1 hx l.length (Nat.le_refl _)
 rw [at_all] at h
 have hl : p < (treeS n l).part.length := by rw [h.1]; exact hp
 have h2 := h.2 p hp
 rw [rd_getElem _ p hl] at h2
 have h3 := List.all_eq_true.1 hc.2 _ (List.getElem_mem hl)
 rw [← h2, beq_iff_eq.1 h3]
def sig (l : List S32) : List Si := l.map fun s => ⟨s.f0, s.f1, s.f3⟩
theorem ent_append (p q : Int) (L : List Si) (s : Si) : ent p q (L ++ [s]) = ent p q L + con s p q := by
 induction L with
 | nil => simp [ent]
 | cons a r ih => simp only [List.cons_append, ent, ih]; omega
theorem dl_eq (w p q : Int) (r k : Nat) : dl w p q r k = if (r : Int) = p ∧ (k : Int) = q then (if p = q then w else - w) else 0 := by
 unfold dl
 by_cases h : (r : Int) = p ∧ (k : Int) = q
 ·rw [if_pos h, if_pos ⟨by omega, by omega, h⟩]
 ·rw [if_neg h, if_neg (by omega)]
set_option maxHeartbeats 8000000 in
theorem con_dl (f t w : Int) (hf : f ≠ t) (r k : Nat) : dl w (f - 1) (f - 1) r k + dl w (f - 1) (t - 1) r k + dl w (t - 1) (f - 1) r k + dl w (t - 1) (t - 1) r k = con ⟨f, t, w⟩ ((r : Int) + 1) ((k : Int) + 1) := by
 rw [dl_eq, dl_eq, dl_eq, dl_eq, if_pos (rfl : f - 1 = f - 1), if_pos (rfl : t - 1 = t - 1), if_neg (show ¬ f - 1 = t - 1 by omega), if_neg (show ¬ t - 1 = f - 1 by omega)]
 unfold con
 dsimp only
 by_cases h : (r : Int) + 1 = (k : Int) + 1
 ·rw [if_pos h, if_neg (show ¬ ((r : Int) = f - 1 ∧ (k : Int) = t - 1) by omega), if_neg (show ¬ ((r : Int) = t - 1 ∧ (k : Int) = f - 1) by omega)]
  by_cases h1 : (r : Int) = f - 1
  ·rw [if_pos ⟨h1, by omega⟩, if_neg (by omega), if_pos (by omega)]; omega
  ·rw [if_neg (by omega)]
   by_cases h2 : (r : Int) = t - 1
   ·rw [if_pos ⟨h2, by omega⟩, if_pos (by omega)]; omega
   ·rw [if_neg (by omega), if_neg (by omega)]; rfl
 ·rw [if_neg h, if_neg (show ¬ ((r : Int) = f - 1 ∧ (k : Int) = f - 1) by omega), if_neg (show ¬ ((r : Int) = t - 1 ∧ (k : Int) = t - 1) by omega)]
  by_cases h1 : (r : Int) = f - 1 ∧ (k : Int) = t - 1
  ·rw [if_pos h1, if_neg (by omega), if_pos (by omega)]; omega
  ·rw [if_neg h1]
   by_cases h2 : (r : Int) = t - 1 ∧ (k : Int) = f - 1
   ·rw [if_pos h2, if_pos (by omega)]; omega
   ·rw [if_neg h2, if_neg (by omega)]; rfl
theorem sgs_ent {n : Nat} {l : List S32} (hv : surveyB ((n : Int) + 1) l = true) (M : TI) (i : Nat) (hi : i ≤ l.length) (r k : Nat) : sgs l M i r k = M r k + ent ((r : Int) + 1) ((k : Int) + 1) (sig (l.take i)) := by
 induction i with
 | zero => simp [sgs, sig, ent]
 | succ i ih =>
  have hs := sight_at hv i (by omega)
  have e : l.take (i + 1) = l.take i ++ [rd_T32 l i] := by
   rw [List.take_succ_eq_append_getElem (by omega)]
   simp [rd_T32, show i < l.length by omega]
  rw [e]
  unfold sig
  rw [List.map_append, List.map_singleton, ent_append]
  have hd := con_dl (rd_T32 l i).f0 (rd_T32 l i).f1 (rd_T32 l i).f3 hs.2.2.2.2.1 r k
  show stp _ _ _ (stp _ _ _ (stp _ _ _ (stp _ _ _ (sgs l M i)))) r k = _
  simp only [stp_dl, ih (by omega)]
  unfold sig
  have a1 : ptq ((rd_T32 l i).f0 - 1) ((rd_T32 l i).f1 - 1) (0 / 2) = (rd_T32 l i).f0 - 1 := rfl
  have a2 : ptq ((rd_T32 l i).f0 - 1) ((rd_T32 l i).f1 - 1) (1 % 2) = (rd_T32 l i).f1 - 1 := rfl
  rw [a1, a2]
  omega
theorem tab_ent {n : Nat} {l : List S32} (hv : surveyB ((n : Int) + 1) l = true) (right : List Int) (r k : Nat) : tab l right n r k = MI0 right n r k + ent ((r : Int) + 1) ((k : Int) + 1) (sig l) := by
 unfold tab
 rw [sgs_ent hv _ _ (Nat.le_refl _), List.take_length]
theorem ent_out (p q : Int) (L : List Si) (h : ∀ s ∈ L, s.f ≠ q ∧ s.t ≠ q) (hpq : p ≠ q) : ent p q L = 0 := by
 induction L with
 | nil => rfl
 | cons s r ih =>
  have h1 := h s (by simp)
  have h2 := ih (fun t ht => h t (by simp [ht]))
  simp only [ent, h2]
  unfold con
  rw [if_neg hpq, if_neg (by omega)]
  rfl
theorem ent_symm (p q : Int) (L : List Si) : ent p q L = ent q p L := by
 induction L with
 | nil => rfl
 | cons s r ih =>
  simp only [ent, ih]
  unfold con
  by_cases h : p = q
  ·subst h; rfl
  ·rw [if_neg h, if_neg (Ne.symm h)]
   congr 1
   by_cases h2 : (s.f = p ∧ s.t = q) ∨ (s.f = q ∧ s.t = p)
   ·rw [if_pos h2, if_pos (by omega)]
   ·rw [if_neg h2, if_neg (by omega)]
theorem ent_size (p q : Int) (L : List Si) (h : ∀ s ∈ L, 0 ≤ s.w ∧ s.w ≤ 3) : -(3 * (L.length : Int)) ≤ ent p q L ∧ ent p q L ≤ 3 * L.length := by
 induction L with
 | nil => simp [ent]
 | cons s r ih =>
  have h1 := h s (by simp)
  have h2 := ih (fun t ht => h t (by simp [ht]))
  simp only [ent, List.length_cons]
  unfold con
  split <;> split <;> omega
theorem sig_mem {n : Nat} {l : List S32} (hv : surveyB ((n : Int) + 1) l = true) : ∀ s ∈ sig l, (0 ≤ s.f ∧ s.f ≤ n) ∧ (0 ≤ s.t ∧ s.t ≤ n) ∧ s.f ≠ s.t ∧ 1 ≤ s.w ∧ s.w ≤ 3 := by
 intro s hs
 unfold sig at hs
 obtain ⟨t, ht, rfl⟩ := List.mem_map.1 hs
 obtain ⟨k, hk, rfl⟩ := List.getElem_of_mem ht
 have := sight_at hv k hk
 simp only [rd_T32, Int.toNat_natCast] at this
 rw [List.getD_eq_getElem?_getD, List.getElem?_eq_getElem hk] at this
 simp only [Option.getD_some] at this
 dsimp only
 omega
def E (l : List S32) (p q : Nat) : Int := ent ((p : Int) + 1) ((q : Int) + 1) (sig l)
theorem E_symm (l : List S32) (p q : Nat) : E l p q = E l q p := ent_symm _ _ _
def fx (x y z u : Int) (p : Int) : Int := if p = 1 then x else if p = 2 then y else if p = 3 then z else if p = 4 then u else 0
def one_ (b : Prop) [Decidable b] : Int := if b then 1 else 0
theorem minors {n : Nat} {l : List S32} (hn : n ≤ 4) (hc : connB ((n : Int) + 1) l = true) :
  0 < E l 0 0 + one_ (n < 1) ∧ 0 < d2 (E l 0 0 + one_ (n < 1)) (E l 0 1) (E l 0 1) (E l 1 1 + one_ (n < 2)) ∧ 0 < d3 (E l 0 0 + one_ (n < 1)) (E l 0 1) (E l 0 2) (E l 0 1) (E l 1 1 + one_ (n < 2)) (E l 1 2) (E l 0 2) (E l 1 2) (E l 2 2 + one_ (n < 3)) ∧
   0 < d4 (E l 0 0 + one_ (n < 1)) (E l 0 1) (E l 0 2) (E l 0 3) (E l 0 1) (E l 1 1 + one_ (n < 2)) (E l 1 2) (E l 1 3) (E l 0 2) (E l 1 2) (E l 2 2 + one_ (n < 3)) (E l 2 3) (E l 0 3) (E l 1 3) (E l 2 3) (E l 3 3 + one_ (n < 4)) := by
 have hv : surveyB ((n : Int) + 1) l = true := by unfold connB at hc; simp only [Bool.and_eq_true] at hc; exact hc.1
 have hm := sig_mem hv
 refine minors_pos (fun x y z u h0 => ?_)
 have h1 := form_eq (sig l) (fx x y z u) rfl (fun s hs => by have := hm s hs; omega)
 have h2 := sq_nonneg (sig l) (fx x y z u) (fun s hs => by have := hm s hs; omega)
 have h3 : La.qf (E l 0 0 + one_ (n < 1)) (E l 0 1) (E l 0 2) (E l 0 3) (E l 1 1 + one_ (n < 2)) (E l 1 2) (E l 1 3) (E l 2 2 + one_ (n < 3)) (E l 2 3) (E l 3 3 + one_ (n < 4)) x y z u =
   Qf.sq (fx x y z u) (sig l) + (one_ (n < 1) * (x * x) + one_ (n < 2) * (y * y) + one_ (n < 3) * (z * z) + one_ (n < 4) * (u * u)) := by
  rw [← h1]
  show La.qf _ _ _ _ _ _ _ _ _ _ x y z u = Qf.qf (E l 0 0) (E l 0 1) (E l 0 2) (E l 0 3) (E l 1 1) (E l 1 2) (E l 1 3) (E l 2 2) (E l 2 3) (E l 3 3) x y z u + _
  unfold La.qf Qf.qf
  generalize one_ (n < 1) = o1
  generalize one_ (n < 2) = o2
  generalize one_ (n < 3) = o3
  generalize one_ (n < 4) = o4
  grind
 rw [h3]
 have o : ∀ (b : Prop) [Decidable b], 0 ≤ one_ b := fun b _ => by unfold one_; split <;> omega
 have q1 := Int.mul_nonneg (o (n < 1)) (sq_nonneg' x)
 have q2 := Int.mul_nonneg (o (n < 2)) (sq_nonneg' y)
 have q3 := Int.mul_nonneg (o (n < 3)) (sq_nonneg' z)
 have q4 := Int.mul_nonneg (o (n < 4)) (sq_nonneg' u)
 by_cases hz : Qf.sq (fx x y z u) (sig l) = 0
 ·have h4 := sq_zero (sig l) (fx x y z u) (fun s hs => by have := hm s hs; omega) hz
  have h5 : ∀ k, k < l.length → fx x y z u (rd_T32 l k).f0 = fx x y z u (rd_T32 l k).f1 := by
   intro k hk
   have := h4 ⟨l[k].f0, l[k].f1, l[k].f3⟩ (List.mem_map.2 ⟨l[k], List.getElem_mem hk, rfl⟩)
   simp only [rd_T32, Int.toNat_natCast]
   rw [List.getD_eq_getElem?_getD, List.getElem?_eq_getElem hk]
   exact this
  have hc' : connB ((n + 1 : Nat) : Int) l = true := by exact_mod_cast hc
  have hzero : ∀ p : Nat, p < n + 1 → fx x y z u p = 0 := fun p hp => (conn_zero hc' h5 p hp).trans rfl
  have sqp : ∀ a : Int, a ≠ 0 → 0 < a * a := by
   intro a ha
   rcases Int.lt_or_gt_of_ne ha with h | h
   ·exact Int.mul_pos_of_neg_of_neg h h
   ·exact Int.mul_pos h h
  have c1 : x ≠ 0 → n < 1 := by
   intro hx
   apply Nat.lt_of_not_le
   intro hle
   exact hx (hzero 1 (by omega))
  have c2 : y ≠ 0 → n < 2 := by
   intro hx
   apply Nat.lt_of_not_le
   intro hle
   exact hx (hzero 2 (by omega))
  have c3 : z ≠ 0 → n < 3 := by
   intro hx
   apply Nat.lt_of_not_le
   intro hle
   exact hx (hzero 3 (by omega))
  have c4 : u ≠ 0 → n < 4 := by
   intro hx
   apply Nat.lt_of_not_le
   intro hle
   exact hx (hzero 4 (by omega))
  have ob : ∀ (b : Prop) [Decidable b], b → one_ b = 1 := fun b _ hb => by unfold one_; rw [if_pos hb]
  by_cases hx : x = 0
  ·by_cases hy : y = 0
   ·by_cases hz2 : z = 0
    ·have hu : u ≠ 0 := by omega
     have := sqp u hu
     rw [ob _ (c4 hu), Int.one_mul] at q4 ⊢
     omega
    ·have := sqp z hz2
     rw [ob _ (c3 hz2), Int.one_mul] at q3 ⊢
     omega
   ·have := sqp y hy
    rw [ob _ (c2 hy), Int.one_mul] at q2 ⊢
    omega
  ·have := sqp x hx
   rw [ob _ (c1 hx), Int.one_mul] at q1 ⊢
   omega
 ·omega
end Go.Proofs.Ytkafbmanmffliaa.Gm

/- Plain: the elimination without fractions told by minors, and the fractions' beside it. -/
namespace Go.Proofs.Ytkafbmanmffliaa.Gn
open Go Go.RowKit YtkafbmanmffliaaW.PrintWords Q Gf Gs Hb La Gm
def SS (A : TI) : Nat → TI
 | 0 => A
 | 1 => fun i k => if i = 0 then A 0 k else d2 (A 0 0) (A 0 k) (A i 0) (A i k)
 | 2 => fun i k => if i = 0 then d2 (A 0 k) (A 0 1) (A 1 k) (A 1 1) else if i = 1 then d2 (A 0 0) (A 0 k) (A 1 0) (A 1 k) else d3 (A 0 0) (A 0 1) (A 0 k) (A 1 0) (A 1 1) (A 1 k) (A i 0) (A i 1) (A i k)
 | 3 => fun i k => if i = 0 then d3 (A 0 k) (A 0 1) (A 0 2) (A 1 k) (A 1 1) (A 1 2) (A 2 k) (A 2 1) (A 2 2) else if i = 1 then d3 (A 0 0) (A 0 k) (A 0 2) (A 1 0) (A 1 k) (A 1 2) (A 2 0) (A 2 k) (A 2 2) else if i = 2 then d3 (A 0 0) (A 0 1) (A 0 k) (A 1 0) (A 1 1) (A 1 k) (A 2 0) (A 2 1) (A 2 k)
   else d4 (A 0 0) (A 0 1) (A 0 2) (A 0 k) (A 1 0) (A 1 1) (A 1 2) (A 1 k) (A 2 0) (A 2 1) (A 2 2) (A 2 k) (A i 0) (A i 1) (A i 2) (A i k)
 | _ + 4 => fun i k => if i = 0 then d4 (A 0 k) (A 0 1) (A 0 2) (A 0 3) (A 1 k) (A 1 1) (A 1 2) (A 1 3) (A 2 k) (A 2 1) (A 2 2) (A 2 3) (A 3 k) (A 3 1) (A 3 2) (A 3 3) else if i = 1 then d4 (A 0 0) (A 0 k) (A 0 2) (A 0 3) (A 1 0) (A 1 k) (A 1 2) (A 1 3) (A 2 0) (A 2 k) (A 2 2) (A 2 3) (A 3 0) (A 3 k) (A 3 2) (A 3 3)
   else if i = 2 then d4 (A 0 0) (A 0 1) (A 0 k) (A 0 3) (A 1 0) (A 1 1) (A 1 k) (A 1 3) (A 2 0) (A 2 1) (A 2 k) (A 2 3) (A 3 0) (A 3 1) (A 3 k) (A 3 3) else d4 (A 0 0) (A 0 1) (A 0 2) (A 0 k) (A 1 0) (A 1 1) (A 1 2) (A 1 k) (A 2 0) (A 2 1) (A 2 2) (A 2 k) (A 3 0) (A 3 1) (A 3 2) (A 3 k)
def LL (A : TI) : Nat → Int
 | 0 => 1
 | 1 => A 0 0
 | 2 => d2 (A 0 0) (A 0 1) (A 1 0) (A 1 1)
 | 3 => d3 (A 0 0) (A 0 1) (A 0 2) (A 1 0) (A 1 1) (A 1 2) (A 2 0) (A 2 1) (A 2 2)
 | _ + 4 => d4 (A 0 0) (A 0 1) (A 0 2) (A 0 3) (A 1 0) (A 1 1) (A 1 2) (A 1 3) (A 2 0) (A 2 1) (A 2 2) (A 2 3) (A 3 0) (A 3 1) (A 3 2) (A 3 3)
theorem LL_succ (A : TI) (c : Nat) (hc : c < 4) : LL A (c + 1) = SS A c c c := by
 match c, hc with
 | 0, _ => rfl
 | 1, _ => rfl
 | 2, _ => rfl
 | 3, _ => rfl
theorem SS_own (A : TI) (c k : Nat) (hc : c < 4) : SS A (c + 1) c k = SS A c c k := by
 match c, hc with
 | 0, _ => rfl
 | 1, _ => rfl
 | 2, _ => rfl
 | 3, _ => rfl
theorem SS_step (A : TI) (c i k : Nat) (hc : c < 4) (hi : i < 4) (hne : i ≠ c) : SS A (c + 1) i k * LL A c = SS A c i k * SS A c c c - SS A c i c * SS A c c k := by
 match c, hc, i, hi with
 | 0, _, 0, _ => exact absurd rfl hne
 | 0, _, 1, _ => show d2 _ _ _ _ * 1 = _ * _ - _ * _; unfold d2 SS; grind
 | 0, _, 2, _ => show d2 _ _ _ _ * 1 = _ * _ - _ * _; unfold d2 SS; grind
 | 0, _, 3, _ => show d2 _ _ _ _ * 1 = _ * _ - _ * _; unfold d2 SS; grind
 | 1, _, 0, _ => show d2 (A 0 k) (A 0 1) (A 1 k) (A 1 1) * A 0 0 = A 0 k * d2 (A 0 0) (A 0 1) (A 1 0) (A 1 1) - A 0 1 * d2 (A 0 0) (A 0 k) (A 1 0) (A 1 k); unfold d2; grind
 | 1, _, 1, _ => exact absurd rfl hne
 | 1, _, 2, _ => show d3 (A 0 0) (A 0 1) (A 0 k) (A 1 0) (A 1 1) (A 1 k) (A 2 0) (A 2 1) (A 2 k) * A 0 0 = d2 (A 0 0) (A 0 k) (A 2 0) (A 2 k) * d2 (A 0 0) (A 0 1) (A 1 0) (A 1 1) - d2 (A 0 0) (A 0 1) (A 2 0) (A 2 1) * d2 (A 0 0) (A 0 k) (A 1 0) (A 1 k); unfold d3 d2; grind
 | 1, _, 3, _ => show d3 (A 0 0) (A 0 1) (A 0 k) (A 1 0) (A 1 1) (A 1 k) (A 3 0) (A 3 1) (A 3 k) * A 0 0 = d2 (A 0 0) (A 0 k) (A 3 0) (A 3 k) * d2 (A 0 0) (A 0 1) (A 1 0) (A 1 1) - d2 (A 0 0) (A 0 1) (A 3 0) (A 3 1) * d2 (A 0 0) (A 0 k) (A 1 0) (A 1 k); unfold d3 d2; grind
 | 2, _, 0, _ => exact up3_0 ..
 | 2, _, 1, _ => exact up3_1 ..
 | 2, _, 2, _ => exact absurd rfl hne
 | 2, _, 3, _ => exact st3 ..
 | 3, _, 0, _ => exact up4_0 ..
 | 3, _, 1, _ => exact up4_1 ..
 | 3, _, 2, _ => exact up4_2 ..
 | 3, _, 3, _ => exact absurd rfl hne
def Bd (X a : Int) : Prop := -X ≤ a ∧ a ≤ X
theorem mulb {X Y a b : Int} (hX : 0 ≤ X) (hY : 0 ≤ Y) (ha : Bd X a) (hb : Bd Y b) : Bd (X * Y) (a * b) := by
 obtain ⟨x, rfl⟩ := Int.eq_ofNat_of_zero_le hX
 obtain ⟨y, rfl⟩ := Int.eq_ofNat_of_zero_le hY
 unfold Bd at *
 have h1 : a.natAbs * b.natAbs ≤ x * y := Nat.mul_le_mul (by omega) (by omega)
 have h2 : (a * b).natAbs = a.natAbs * b.natAbs := Int.natAbs_mul a b
 have h3 : ((x * y : Nat) : Int) = (x : Int) * (y : Int) := by push_cast; rfl
 omega
theorem d2_b {P Q a b c d : Int} (hP : 0 ≤ P) (hQ : 0 ≤ Q) (ha : Bd P a) (hb : Bd Q b) (hc : Bd P c) (hd : Bd Q d) : Bd (2 * (P * Q)) (d2 a b c d) := by
 have h1 := mulb hP hQ ha hd
 have h2 := mulb hQ hP hb hc
 rw [Int.mul_comm Q P] at h2
 unfold Bd d2 at *
 omega
theorem d3_b {P Q R a0 a1 a2 b0 b1 b2 c0 c1 c2 : Int} (hP : 0 ≤ P) (hQ : 0 ≤ Q) (hR : 0 ≤ R) (ha0 : Bd P a0) (ha1 : Bd Q a1) (ha2 : Bd R a2) (hb0 : Bd P b0) (hb1 : Bd Q b1) (hb2 : Bd R b2) (hc0 : Bd P c0) (hc1 : Bd Q c1) (hc2 : Bd R c2) :
  Bd (6 * (P * (Q * R))) (d3 a0 a1 a2 b0 b1 b2 c0 c1 c2) := by
 have m1 : 0 ≤ 2 * (Q * R) := by have := Int.mul_nonneg hQ hR; omega
 have m2 : 0 ≤ 2 * (P * R) := by have := Int.mul_nonneg hP hR; omega
 have m3 : 0 ≤ 2 * (P * Q) := by have := Int.mul_nonneg hP hQ; omega
 have h1 := mulb hP m1 ha0 (d2_b hQ hR hb1 hb2 hc1 hc2)
 have h2 := mulb hQ m2 ha1 (d2_b hP hR hb0 hb2 hc0 hc2)
 have h3 := mulb hR m3 ha2 (d2_b hP hQ hb0 hb1 hc0 hc1)
 rw [show P * (2 * (Q * R)) = 2 * (P * (Q * R)) by grind] at h1
 rw [show Q * (2 * (P * R)) = 2 * (P * (Q * R)) by grind] at h2
 rw [show R * (2 * (P * Q)) = 2 * (P * (Q * R)) by grind] at h3
 unfold Bd d3 at *
 omega
theorem d4_b {P Q R T a0 a1 a2 a3 b0 b1 b2 b3 c0 c1 c2 c3 e0 e1 e2 e3 : Int} (hP : 0 ≤ P) (hQ : 0 ≤ Q) (hR : 0 ≤ R) (hT : 0 ≤ T) (ha0 : Bd P a0) (ha1 : Bd Q a1) (ha2 : Bd R a2) (ha3 : Bd T a3) (hb0 : Bd P b0) (hb1 : Bd Q b1) (hb2 : Bd R b2) (hb3 : Bd T b3)
  (hc0 : Bd P c0) (hc1 : Bd Q c1) (hc2 : Bd R c2) (hc3 : Bd T c3) (he0 : Bd P e0) (he1 : Bd Q e1) (he2 : Bd R e2) (he3 : Bd T e3) : Bd (24 * (P * (Q * (R * T)))) (d4 a0 a1 a2 a3 b0 b1 b2 b3 c0 c1 c2 c3 e0 e1 e2 e3) := by
 have n1 := Int.mul_nonneg hQ (Int.mul_nonneg hR hT)
 have n2 := Int.mul_nonneg hP (Int.mul_nonneg hR hT)
 have n3 := Int.mul_nonneg hP (Int.mul_nonneg hQ hT)
 have n4 := Int.mul_nonneg hP (Int.mul_nonneg hQ hR)
 have h1 := mulb hP (by omega) ha0 (d3_b hQ hR hT hb1 hb2 hb3 hc1 hc2 hc3 he1 he2 he3)
 have h2 := mulb hQ (by omega) ha1 (d3_b hP hR hT hb0 hb2 hb3 hc0 hc2 hc3 he0 he2 he3)
 have h3 := mulb hR (by omega) ha2 (d3_b hP hQ hT hb0 hb1 hb3 hc0 hc1 hc3 he0 he1 he3)
 have h4 := mulb hT (by omega) ha3 (d3_b hP hQ hR hb0 hb1 hb2 hc0 hc1 hc2 he0 he1 he2)
 rw [show P * (6 * (Q * (R * T))) = 6 * (P * (Q * (R * T))) by grind] at h1
 rw [show Q * (6 * (P * (R * T))) = 6 * (P * (Q * (R * T))) by grind] at h2
 rw [show R * (6 * (P * (Q * T))) = 6 * (P * (Q * (R * T))) by grind] at h3
 rw [show T * (6 * (P * (Q * R))) = 6 * (P * (Q * (R * T))) by grind] at h4
 unfold Bd d4 at *
 omega
theorem Bd.mono {X Y a : Int} (h : Bd X a) (hXY : X ≤ Y) : Bd Y a := by unfold Bd at *; omega
theorem SS_size {A : TI} {n : Nat} (hn : n ≤ 4) (h1 : ∀ r k, r < n → k < n → Bd 24 (A r k)) (h2 : ∀ r k, r < n → k ≤ n → Bd 2400 (A r k)) (c i k : Nat) (hc : c ≤ n) (hi : i < n) (hk : k ≤ n) : Bd 1073741824 (SS A c i k) := by
 have p : (0 : Int) ≤ 24 := by decide
 have q : (0 : Int) ≤ 2400 := by decide
 match c, (show c ≤ 4 by omega) with
 | 0, _ => exact (h2 i k hi hk).mono (by decide)
 | 1, _ =>
  have a := fun r k hr hk => h1 r k (show r < n by omega) (show k < n by omega)
  show Bd _ (if i = 0 then _ else _)
  split
  ·exact (h2 0 k (by omega) hk).mono (by decide)
  ·exact (d2_b p q (h1 0 0 (by omega) (by omega)) (h2 0 k (by omega) hk) (h1 i 0 hi (by omega)) (h2 i k hi hk)).mono (by decide)
 | 2, _ =>
  show Bd _ (if i = 0 then _ else if i = 1 then _ else _)
  split
  ·exact (d2_b q p (h2 0 k (by omega) hk) (h1 0 1 (by omega) (by omega)) (h2 1 k (by omega) hk) (h1 1 1 (by omega) (by omega))).mono (by decide)
  ·split
   ·exact (d2_b p q (h1 0 0 (by omega) (by omega)) (h2 0 k (by omega) hk) (h1 1 0 (by omega) (by omega)) (h2 1 k (by omega) hk)).mono (by decide)
   ·exact (d3_b p p q (h1 0 0 (by omega) (by omega)) (h1 0 1 (by omega) (by omega)) (h2 0 k (by omega) hk) (h1 1 0 (by omega) (by omega)) (h1 1 1 (by omega) (by omega)) (h2 1 k (by omega) hk) (h1 i 0 hi (by omega)) (h1 i 1 hi (by omega)) (h2 i k hi hk)).mono (by decide)
 | 3, _ =>
  have a : ∀ r k, r < 3 → k < 3 → Bd 24 (A r k) := fun r k hr hk => h1 r k (by omega) (by omega)
  have b : ∀ r, r < 3 → Bd 2400 (A r k) := fun r hr => h2 r k (by omega) hk
  show Bd _ (if i = 0 then _ else if i = 1 then _ else if i = 2 then _ else _)
  split
  ·exact (d3_b q p p (b 0 (by decide)) (a 0 1 (by decide) (by decide)) (a 0 2 (by decide) (by decide)) (b 1 (by decide)) (a 1 1 (by decide) (by decide)) (a 1 2 (by decide) (by decide)) (b 2 (by decide)) (a 2 1 (by decide) (by decide)) (a 2 2 (by decide) (by decide))).mono (by decide)
  ·split
   ·exact (d3_b p q p (a 0 0 (by decide) (by decide)) (b 0 (by decide)) (a 0 2 (by decide) (by decide)) (a 1 0 (by decide) (by decide)) (b 1 (by decide)) (a 1 2 (by decide) (by decide)) (a 2 0 (by decide) (by decide)) (b 2 (by decide)) (a 2 2 (by decide) (by decide))).mono (by decide)
   ·split
    ·exact (d3_b p p q (a 0 0 (by decide) (by decide)) (a 0 1 (by decide) (by decide)) (b 0 (by decide)) (a 1 0 (by decide) (by decide)) (a 1 1 (by decide) (by decide)) (b 1 (by decide)) (a 2 0 (by decide) (by decide)) (a 2 1 (by decide) (by decide)) (b 2 (by decide))).mono (by decide)
    ·exact (d4_b p p p q (a 0 0 (by decide) (by decide)) (a 0 1 (by decide) (by decide)) (a 0 2 (by decide) (by decide)) (b 0 (by decide)) (a 1 0 (by decide) (by decide)) (a 1 1 (by decide) (by decide)) (a 1 2 (by decide) (by decide)) (b 1 (by decide)) (a 2 0 (by decide) (by decide)) (a 2 1 (by decide) (by decide)) (a 2 2 (by decide) (by decide)) (b 2 (by decide)) (h1 i 0 hi (by omega)) (h1 i 1 hi (by omega)) (h1 i 2 hi (by omega)) (h2 i k hi hk)).mono (by decide)
 | 4, _ =>
  have a : ∀ r k, r < 4 → k < 4 → Bd 24 (A r k) := fun r k hr hk => h1 r k (by omega) (by omega)
  have b : ∀ r, r < 4 → Bd 2400 (A r k) := fun r hr => h2 r k (by omega) hk
  show Bd _ (if i = 0 then _ else if i = 1 then _ else if i = 2 then _ else _)
  split
  ·exact (d4_b q p p p (b 0 (by decide)) (a 0 1 (by decide) (by decide)) (a 0 2 (by decide) (by decide)) (a 0 3 (by decide) (by decide)) (b 1 (by decide)) (a 1 1 (by decide) (by decide)) (a 1 2 (by decide) (by decide)) (a 1 3 (by decide) (by decide)) (b 2 (by decide)) (a 2 1 (by decide) (by decide)) (a 2 2 (by decide) (by decide)) (a 2 3 (by decide) (by decide)) (b 3 (by decide)) (a 3 1 (by decide) (by decide)) (a 3 2 (by decide) (by decide)) (a 3 3 (by decide) (by decide))).mono (by decide)
  ·split
   ·exact (d4_b p q p p (a 0 0 (by decide) (by decide)) (b 0 (by decide)) (a 0 2 (by decide) (by decide)) (a 0 3 (by decide) (by decide)) (a 1 0 (by decide) (by decide)) (b 1 (by decide)) (a 1 2 (by decide) (by decide)) (a 1 3 (by decide) (by decide)) (a 2 0 (by decide) (by decide)) (b 2 (by decide)) (a 2 2 (by decide) (by decide)) (a 2 3 (by decide) (by decide)) (a 3 0 (by decide) (by decide)) (b 3 (by decide)) (a 3 2 (by decide) (by decide)) (a 3 3 (by decide) (by decide))).mono (by decide)
   ·split
    ·exact (d4_b p p q p (a 0 0 (by decide) (by decide)) (a 0 1 (by decide) (by decide)) (b 0 (by decide)) (a 0 3 (by decide) (by decide)) (a 1 0 (by decide) (by decide)) (a 1 1 (by decide) (by decide)) (b 1 (by decide)) (a 1 3 (by decide) (by decide)) (a 2 0 (by decide) (by decide)) (a 2 1 (by decide) (by decide)) (b 2 (by decide)) (a 2 3 (by decide) (by decide)) (a 3 0 (by decide) (by decide)) (a 3 1 (by decide) (by decide)) (b 3 (by decide)) (a 3 3 (by decide) (by decide))).mono (by decide)
    ·exact (d4_b p p p q (a 0 0 (by decide) (by decide)) (a 0 1 (by decide) (by decide)) (a 0 2 (by decide) (by decide)) (b 0 (by decide)) (a 1 0 (by decide) (by decide)) (a 1 1 (by decide) (by decide)) (a 1 2 (by decide) (by decide)) (b 1 (by decide)) (a 2 0 (by decide) (by decide)) (a 2 1 (by decide) (by decide)) (a 2 2 (by decide) (by decide)) (b 2 (by decide)) (a 3 0 (by decide) (by decide)) (a 3 1 (by decide) (by decide)) (a 3 2 (by decide) (by decide)) (b 3 (by decide))).mono (by decide)
theorem gj_SS {A : TI} {n : Nat} (hn : n ≤ 4) (hp : ∀ c, c ≤ n → 0 < LL A c) (c : Nat) (hc : c ≤ n) : ∀ r k, r < n → ((SS A c r k : Int) : Rat) = ((LL A c : Int) : Rat) * gj (cst A) c r k := by
 induction c with
 | zero => intro r k _; show ((A r k : Int) : Rat) = ((1 : Int) : Rat) * ((A r k : Int) : Rat); grind
 | succ c ih =>
  intro r k hr
  have hl : ((LL A c : Int) : Rat) ≠ 0 := by
   intro h
   have h2 := hp c (by omega)
   have h3 : LL A c = 0 := by exact_mod_cast h
   omega
  have hcc := ih (by omega) c c (by omega)
  have hL := LL_succ A c (by omega)
  have hpc : ((SS A c c c : Int) : Rat) ≠ 0 := by
   intro h
   have h2 := hp (c + 1) (by omega)
   rw [hL] at h2
   have h3 : SS A c c c = 0 := by exact_mod_cast h
   omega
  have hrc : gj (cst A) c c c ≠ 0 := by
   intro h
   rw [h] at hcc
   apply hpc
   rw [hcc]
   grind
  have hck := ih (by omega) c k (by omega)
  rw [hL]
  by_cases e : r = c
  ·subst e
   rw [SS_own A r k (by omega), hck, hcc]
   show _ = _ * (if r = r then _ else _)
   rw [if_pos rfl]
   grind
  ·have h1 := SS_step A c r k (by omega) (by omega) e
   have h2 : ((SS A (c + 1) r k : Int) : Rat) * ((LL A c : Int) : Rat) = ((SS A c r k : Int) : Rat) * ((SS A c c c : Int) : Rat) - ((SS A c r c : Int) : Rat) * ((SS A c c k : Int) : Rat) := by exact_mod_cast h1
   rw [ih (by omega) r k hr, hcc, ih (by omega) r c hr, hck] at h2
   rw [hcc]
   show _ = _ * (if r = c then _ else _)
   rw [if_neg e]
   grind
theorem gj_piv {A : TI} {n : Nat} (hn : n ≤ 4) (hp : ∀ c, c ≤ n → 0 < LL A c) (c : Nat) (hc : c < n) : gj (cst A) c c c ≠ 0 := by
 intro h
 have h1 := gj_SS hn hp c (by omega) c c hc
 rw [h] at h1
 have h2 := hp (c + 1) (by omega)
 rw [LL_succ A c (by omega)] at h2
 have h3 : ((SS A c c c : Int) : Rat) = 0 := by rw [h1]; grind
 have h4 : SS A c c c = 0 := by exact_mod_cast h3
 omega
theorem tab_E {n : Nat} {l : List S32} (hv : surveyB ((n : Int) + 1) l = true) (right : List Int) (r k : Nat) (hk : k < n) : tab l right n r k = E l r k := by
 rw [tab_ent hv]
 unfold MI0 E
 rw [if_neg (by omega)]
 omega
theorem tab_right {n : Nat} {l : List S32} (hv : surveyB ((n : Int) + 1) l = true) (right : List Int) (r : Nat) (hr : r < n) : tab l right n r n = rd right ((r : Int) + 1) := by
 rw [tab_ent hv, ent_out _ _ _ (fun s hs => by have := sig_mem hv s hs; omega) (by omega)]
 unfold MI0
 rw [if_pos rfl]
 omega
theorem E_size {n : Nat} {l : List S32} (hv : surveyB ((n : Int) + 1) l = true) (hl : l.length ≤ 8) (r k : Nat) : Bd 24 (E l r k) := by
 have := ent_size ((r : Int) + 1) ((k : Int) + 1) (sig l) (fun s hs => by have := sig_mem hv s hs; omega)
 have hs : (sig l).length = l.length := by simp [sig]
 unfold Bd E
 omega
def den (l : List S32) (n : Nat) : Int := LL (E l) n
theorem LL_congr {A B : TI} {n : Nat} (hn : n ≤ 4) (h : ∀ r k, r < n → k < n → A r k = B r k) (c : Nat) (hc : c ≤ n) : LL A c = LL B c := by
 match c, (show c ≤ 4 by omega) with
 | 0, _ => rfl
 | 1, _ => exact h 0 0 (by omega) (by omega)
 | 2, _ =>
  unfold LL
  rw [h 0 0 (by omega) (by omega), h 0 1 (by omega) (by omega), h 1 0 (by omega) (by omega), h 1 1 (by omega) (by omega)]
 | 3, _ =>
  have a : ∀ r k, r < 3 → k < 3 → A r k = B r k := fun r k hr hk => h r k (by omega) (by omega)
  unfold LL
  rw [a 0 0 (by decide) (by decide), a 0 1 (by decide) (by decide), a 0 2 (by decide) (by decide), a 1 0 (by decide) (by decide), a 1 1 (by decide) (by decide), a 1 2 (by decide) (by decide), a 2 0 (by decide) (by decide), a 2 1 (by decide) (by decide), a 2 2 (by decide) (by decide)]
 | 4, _ =>
  have a : ∀ r k, r < 4 → k < 4 → A r k = B r k := fun r k hr hk => h r k (by omega) (by omega)
  unfold LL
  rw [a 0 0 (by decide) (by decide), a 0 1 (by decide) (by decide), a 0 2 (by decide) (by decide), a 0 3 (by decide) (by decide), a 1 0 (by decide) (by decide), a 1 1 (by decide) (by decide), a 1 2 (by decide) (by decide), a 1 3 (by decide) (by decide),
   a 2 0 (by decide) (by decide), a 2 1 (by decide) (by decide), a 2 2 (by decide) (by decide), a 2 3 (by decide) (by decide), a 3 0 (by decide) (by decide), a 3 1 (by decide) (by decide), a 3 2 (by decide) (by decide), a 3 3 (by decide) (by decide)]
theorem LL_E_pos {n : Nat} {l : List S32} (hn : n ≤ 4) (hc : Gm.connB ((n : Int) + 1) l = true) (c : Nat) (hcn : c ≤ n) : 0 < LL (E l) c := by
 obtain ⟨h1, h2, h3, h4⟩ := minors hn hc
 have o : ∀ j, j ≤ c → one_ (n < j) = 0 := fun j hj => by unfold one_; rw [if_neg (by omega)]
 match c, (show c ≤ 4 by omega) with
 | 0, _ => show (0 : Int) < 1; decide
 | 1, _ =>
  rw [o 1 (by omega), Int.add_zero] at h1
  exact h1
 | 2, _ =>
  rw [o 1 (by omega), o 2 (by omega), Int.add_zero, Int.add_zero] at h2
  show 0 < d2 _ _ (E l 1 0) _
  rw [E_symm l 1 0]
  exact h2
 | 3, _ =>
  rw [o 1 (by omega), o 2 (by omega), o 3 (by omega), Int.add_zero, Int.add_zero, Int.add_zero] at h3
  show 0 < d3 _ _ _ (E l 1 0) _ _ (E l 2 0) (E l 2 1) _
  rw [E_symm l 1 0, E_symm l 2 0, E_symm l 2 1]
  exact h3
 | 4, _ =>
  rw [o 1 (by omega), o 2 (by omega), o 3 (by omega), o 4 (by omega), Int.add_zero, Int.add_zero, Int.add_zero, Int.add_zero] at h4
  show 0 < d4 _ _ _ _ (E l 1 0) _ _ _ (E l 2 0) (E l 2 1) _ _ (E l 3 0) (E l 3 1) (E l 3 2) _
  rw [E_symm l 1 0, E_symm l 2 0, E_symm l 2 1, E_symm l 3 0, E_symm l 3 1, E_symm l 3 2]
  exact h4
structure Ok (n : Nat) (l : List S32) (right : List Int) : Prop where
 v : surveyB ((n : Int) + 1) l = true
 pos : ∀ c, c ≤ n → 0 < LL (tab l right n) c
 size : ∀ c i k, c ≤ n → i < n → k ≤ n → -1073741824 ≤ SS (tab l right n) c i k ∧ SS (tab l right n) c i k ≤ 1073741824
 piv : ∀ c, c < n → gj (cst (tab l right n)) c c c ≠ 0
 last : LL (tab l right n) n = den l n
 sol : ∀ r, r < n → gj (cst (tab l right n)) n r n = ((SS (tab l right n) n r n : Int) : Rat) / ((den l n : Int) : Rat)
theorem ok {n : Nat} {l : List S32} (hn : n ≤ 4) (hc : Gm.connB ((n : Int) + 1) l = true) (right : List Int) (hr : ∀ i : Int, -2400 ≤ rd right i ∧ rd right i ≤ 2400) : Ok n l right := by
 have hv : surveyB ((n : Int) + 1) l = true := by unfold Gm.connB at hc; simp only [Bool.and_eq_true] at hc; exact hc.1
 have hl8 : l.length ≤ 8 := by
  have := hv
  unfold surveyB at this
  simp only [Bool.and_eq_true, decide_eq_true_eq] at this
  have := this.1.2
  omega
 have hE : ∀ r k, r < n → k < n → tab l right n r k = E l r k := fun r k _ hk => tab_E hv right r k hk
 have hp : ∀ c, c ≤ n → 0 < LL (tab l right n) c := fun c hcn => by rw [LL_congr hn hE c hcn]; exact LL_E_pos hn hc c hcn
 have hlast : LL (tab l right n) n = den l n := LL_congr hn hE n (Nat.le_refl _)
 have b1 : ∀ r k, r < n → k < n → Bd 24 (tab l right n r k) := fun r k hr hk => by rw [hE r k hr hk]; exact E_size hv hl8 r k
 have b2 : ∀ r k, r < n → k ≤ n → Bd 2400 (tab l right n r k) := fun r k hr2 hk => by
  by_cases e : k = n
  ·subst e
   rw [tab_right hv right r hr2]
   exact hr _
  ·exact (b1 r k hr2 (by omega)).mono (by decide)
 refine ⟨hv, hp, fun c i k h1 h2 h3 => SS_size hn b1 b2 c i k h1 h2 h3, fun c hc2 => gj_piv hn hp c hc2, hlast, fun r hr2 => ?_⟩
 have h1 := gj_SS hn hp n (Nat.le_refl _) r n hr2
 have hl : ((den l n : Int) : Rat) ≠ 0 := by
  intro h
  have h2 := hp n (Nat.le_refl _)
  rw [hlast] at h2
  have h3 : den l n = 0 := by exact_mod_cast h
  omega
 rw [hlast] at h1
 rw [h1]
 grind
end Go.Proofs.Ytkafbmanmffliaa.Gn

/- Plain: sums over lists of fractions. No seat: nothing is imported. -/
namespace Go.Proofs.Ytkafbmanmffliaa.Ka
def sm {α : Type} (g : α → Rat) : List α → Rat
 | [] => 0
 | s :: r => g s + sm g r
section
variable {α β : Type} {g h : α → Rat} {l : List α}
theorem sm_congr (e : ∀ s, s ∈ l → g s = h s) : sm g l = sm h l := by
 induction l with
 | nil => rfl
 | cons s r ih =>
  unfold sm
  rw [e s (by simp), ih (fun t ht => e t (by simp [ht]))]
theorem sm_append (a b : List α) : sm g (a ++ b) = sm g a + sm g b := by
 induction a with
 | nil => simp [sm, Rat.zero_add]
 | cons s r ih => simp only [List.cons_append, sm, ih]; grind
theorem sm_add : sm (fun s => g s + h s) l = sm g l + sm h l := by
 induction l with
 | nil => simp [sm, Rat.add_zero]
 | cons s r ih => simp only [sm, ih]; grind
theorem sm_sub : sm (fun s => g s - h s) l = sm g l - sm h l := by
 induction l with
 | nil => simp only [sm]; grind
 | cons s r ih => simp only [sm, ih]; grind
theorem sm_mul (c : Rat) : sm (fun s => c * g s) l = c * sm g l := by
 induction l with
 | nil => simp only [sm]; grind
 | cons s r ih => simp only [sm, ih]; grind
theorem sm_zero : sm (fun _ : α => (0 : Rat)) l = 0 := by
 induction l with
 | nil => rfl
 | cons s r ih => simp only [sm, ih]; grind
theorem sm_nonneg (hn : ∀ s, s ∈ l → 0 ≤ g s) : 0 ≤ sm g l := by
 induction l with
 | nil => exact Rat.le_refl
 | cons s r ih =>
  have h1 := hn s (by simp)
  have h2 := ih (fun t ht => hn t (by simp [ht]))
  unfold sm
  grind
theorem sm_le (hn : ∀ s, s ∈ l → g s ≤ h s) : sm g l ≤ sm h l := by
 induction l with
 | nil => exact Rat.le_refl
 | cons s r ih =>
  have h1 := hn s (by simp)
  have h2 := ih (fun t ht => hn t (by simp [ht]))
  unfold sm
  grind
theorem sm_one (hn : ∀ s, s ∈ l → 0 ≤ g s) (s : α) (hs : s ∈ l) : g s ≤ sm g l := by
 induction l with
 | nil => cases hs
 | cons a r ih =>
  have h1 := hn a (by simp)
  have h2 := sm_nonneg (fun t ht => hn t (List.mem_cons_of_mem a ht))
  unfold sm
  rcases List.mem_cons.1 hs with rfl | hs
  ·grind
  ·have := ih (fun t ht => hn t (by simp [ht])) hs
   grind
theorem sm_zero_all (hn : ∀ s, s ∈ l → 0 ≤ g s) (hz : sm g l = 0) (s : α) (hs : s ∈ l) : g s = 0 := by
 have h1 := sm_one hn s hs
 have h2 := hn s hs
 grind
end
theorem sq_nn (x : Rat) : 0 ≤ x * x := by
 rcases Rat.le_total (a := 0) (b := x) with h | h
 ·exact Rat.mul_nonneg h h
 ·have : 0 ≤ (-x) * (-x) := Rat.mul_nonneg (by grind) (by grind)
  grind
theorem sq_zero_r {x : Rat} (h : x * x = 0) : x = 0 := by
 rcases Rat.mul_eq_zero.1 h with h | h <;> exact h
end Go.Proofs.Ytkafbmanmffliaa.Ka

/- Plain: Cramer's rule for up to four rows. -/
namespace Go.Proofs.Ytkafbmanmffliaa.Kb
open La
theorem cr2_0 (a0 a1 ak b0 b1 bk : Int) : a0 * d2 ak a1 bk b1 + a1 * d2 a0 ak b0 bk = d2 a0 a1 b0 b1 * ak := by unfold d2; grind
theorem cr2_1 (a0 a1 ak b0 b1 bk : Int) : b0 * d2 ak a1 bk b1 + b1 * d2 a0 ak b0 bk = d2 a0 a1 b0 b1 * bk := by unfold d2; grind
theorem cr3_0 (a0 a1 a2 ak b0 b1 b2 bk c0 c1 c2 ck : Int) : a0 * d3 ak a1 a2 bk b1 b2 ck c1 c2 + a1 * d3 a0 ak a2 b0 bk b2 c0 ck c2 + a2 * d3 a0 a1 ak b0 b1 bk c0 c1 ck = d3 a0 a1 a2 b0 b1 b2 c0 c1 c2 * ak := by unfold d3 d2; grind
theorem cr3_1 (a0 a1 a2 ak b0 b1 b2 bk c0 c1 c2 ck : Int) : b0 * d3 ak a1 a2 bk b1 b2 ck c1 c2 + b1 * d3 a0 ak a2 b0 bk b2 c0 ck c2 + b2 * d3 a0 a1 ak b0 b1 bk c0 c1 ck = d3 a0 a1 a2 b0 b1 b2 c0 c1 c2 * bk := by unfold d3 d2; grind
theorem cr3_2 (a0 a1 a2 ak b0 b1 b2 bk c0 c1 c2 ck : Int) : c0 * d3 ak a1 a2 bk b1 b2 ck c1 c2 + c1 * d3 a0 ak a2 b0 bk b2 c0 ck c2 + c2 * d3 a0 a1 ak b0 b1 bk c0 c1 ck = d3 a0 a1 a2 b0 b1 b2 c0 c1 c2 * ck := by unfold d3 d2; grind
set_option maxHeartbeats 8000000 in
theorem cr4 (x0 x1 x2 x3 a0 a1 a2 a3 ak b0 b1 b2 b3 bk c0 c1 c2 c3 ck e0 e1 e2 e3 ek : Int) :
  x0 * d4 ak a1 a2 a3 bk b1 b2 b3 ck c1 c2 c3 ek e1 e2 e3 + x1 * d4 a0 ak a2 a3 b0 bk b2 b3 c0 ck c2 c3 e0 ek e2 e3 + x2 * d4 a0 a1 ak a3 b0 b1 bk b3 c0 c1 ck c3 e0 e1 ek e3 + x3 * d4 a0 a1 a2 ak b0 b1 b2 bk c0 c1 c2 ck e0 e1 e2 ek =
   ak * d4 x0 x1 x2 x3 b0 b1 b2 b3 c0 c1 c2 c3 e0 e1 e2 e3 + bk * d4 a0 a1 a2 a3 x0 x1 x2 x3 c0 c1 c2 c3 e0 e1 e2 e3 + ck * d4 a0 a1 a2 a3 b0 b1 b2 b3 x0 x1 x2 x3 e0 e1 e2 e3 + ek * d4 a0 a1 a2 a3 b0 b1 b2 b3 c0 c1 c2 c3 x0 x1 x2 x3 := by
 unfold d4 d3 d2; grind
theorem d4_same (a0 a1 a2 a3 b0 b1 b2 b3 c0 c1 c2 c3 : Int) :
  d4 a0 a1 a2 a3 a0 a1 a2 a3 b0 b1 b2 b3 c0 c1 c2 c3 = 0 ∧ d4 a0 a1 a2 a3 b0 b1 b2 b3 a0 a1 a2 a3 c0 c1 c2 c3 = 0 ∧ d4 a0 a1 a2 a3 b0 b1 b2 b3 c0 c1 c2 c3 a0 a1 a2 a3 = 0 ∧
  d4 b0 b1 b2 b3 a0 a1 a2 a3 a0 a1 a2 a3 c0 c1 c2 c3 = 0 ∧ d4 b0 b1 b2 b3 a0 a1 a2 a3 c0 c1 c2 c3 a0 a1 a2 a3 = 0 ∧ d4 b0 b1 b2 b3 c0 c1 c2 c3 a0 a1 a2 a3 a0 a1 a2 a3 = 0 := by
 unfold d4 d3 d2; grind
end Go.Proofs.Ytkafbmanmffliaa.Kb

/- Plain: the form of a survey's weights at two functions of its points; the numbers that the elimination ends in solve it. -/
namespace Go.Proofs.Ytkafbmanmffliaa.Kc
open Go Go.RowKit YtkafbmanmffliaaW.PrintWords Q Gf Gs La Qf Gm Gn Ka Kb
def dif (x : Int → Rat) (s : S32) : Rat := x s.f1 - x s.f0
def B (l : List S32) (x y : Int → Rat) : Rat := sm (fun s => (s.f3 : Rat) * (dif x s * dif y s)) l
def bf (e : Int → Int → Int) (x y : Int → Rat) : Rat :=
 y 1 * (e 1 1 * x 1 + e 1 2 * x 2 + e 1 3 * x 3 + e 1 4 * x 4) + y 2 * (e 2 1 * x 1 + e 2 2 * x 2 + e 2 3 * x 3 + e 2 4 * x 4) + y 3 * (e 3 1 * x 1 + e 3 2 * x 2 + e 3 3 * x 3 + e 3 4 * x 4) + y 4 * (e 4 1 * x 1 + e 4 2 * x 2 + e 4 3 * x 3 + e 4 4 * x 4)
theorem bf_add (e e' : Int → Int → Int) (x y : Int → Rat) : bf (fun p q => e p q + e' p q) x y = bf e x y + bf e' x y := by
 unfold bf
 simp only [Rat.intCast_add]
 grind
set_option maxHeartbeats 8000000 in
theorem bf_one (s : Si) (x y : Int → Rat) (h0 : x 0 = 0) (k0 : y 0 = 0) (hf : 0 ≤ s.f ∧ s.f ≤ 4) (ht : 0 ≤ s.t ∧ s.t ≤ 4) (hne : s.f ≠ s.t) :
  bf (fun p q => con s p q) x y = (s.w : Rat) * ((x s.t - x s.f) * (y s.t - y s.f)) := by
 obtain ⟨f, t, w⟩ := s
 simp only at hf ht hne ⊢
 have cf : f = 0 ∨ f = 1 ∨ f = 2 ∨ f = 3 ∨ f = 4 := by omega
 have ct : t = 0 ∨ t = 1 ∨ t = 2 ∨ t = 3 ∨ t = 4 := by omega
 rcases cf with rfl | rfl | rfl | rfl | rfl <;> rcases ct with rfl | rfl | rfl | rfl | rfl <;> first | exact absurd rfl hne | (simp [con, bf, h0, k0]; try grind)
theorem B_eq (l : List S32) (x y : Int → Rat) (h0 : x 0 = 0) (k0 : y 0 = 0) (hv : ∀ s ∈ l, (0 ≤ s.f0 ∧ s.f0 ≤ 4) ∧ (0 ≤ s.f1 ∧ s.f1 ≤ 4) ∧ s.f0 ≠ s.f1) : B l x y = bf (fun p q => ent p q (sig l)) x y := by
 induction l with
 | nil => simp [B, sm, bf, sig, ent]; grind
 | cons s r ih =>
  have h := hv s (by simp)
  have e : bf (fun p q => ent p q (sig (s :: r))) x y = bf (fun p q => con ⟨s.f0, s.f1, s.f3⟩ p q) x y + bf (fun p q => ent p q (sig r)) x y := bf_add _ _ _ _
  rw [e, bf_one _ x y h0 k0 h.1 h.2.1 h.2.2, ← ih (fun t ht => hv t (by simp [ht]))]
  rfl
theorem B_shift (l : List S32) (x y : Int → Rat) (c : Rat) : B l x (fun p => y p - c) = B l x y := sm_congr (fun s _ => by unfold dif; grind)
theorem B_sub (l : List S32) (x x' y : Int → Rat) : B l (fun p => x p - x' p) y = B l x y - B l x' y := by
 unfold B
 rw [← sm_sub]
 exact sm_congr (fun s _ => by unfold dif; grind)
theorem cram1 (A : TI) : A 0 0 * SS A 1 0 1 = LL A 1 * A 0 1 := rfl
theorem cram2 (A : TI) : (A 0 0 * SS A 2 0 2 + A 0 1 * SS A 2 1 2 = LL A 2 * A 0 2) ∧ (A 1 0 * SS A 2 0 2 + A 1 1 * SS A 2 1 2 = LL A 2 * A 1 2) := ⟨cr2_0 .., cr2_1 ..⟩
theorem cram3 (A : TI) : (A 0 0 * SS A 3 0 3 + A 0 1 * SS A 3 1 3 + A 0 2 * SS A 3 2 3 = LL A 3 * A 0 3) ∧ (A 1 0 * SS A 3 0 3 + A 1 1 * SS A 3 1 3 + A 1 2 * SS A 3 2 3 = LL A 3 * A 1 3) ∧ (A 2 0 * SS A 3 0 3 + A 2 1 * SS A 3 1 3 + A 2 2 * SS A 3 2 3 = LL A 3 * A 2 3) :=
 ⟨cr3_0 .., cr3_1 .., cr3_2 ..⟩
theorem cram4 (A : TI) (r : Nat) (hr : r < 4) : A r 0 * SS A 4 0 4 + A r 1 * SS A 4 1 4 + A r 2 * SS A 4 2 4 + A r 3 * SS A 4 3 4 = LL A 4 * A r 4 := by
 have h := cr4 (A r 0) (A r 1) (A r 2) (A r 3) (A 0 0) (A 0 1) (A 0 2) (A 0 3) (A 0 4) (A 1 0) (A 1 1) (A 1 2) (A 1 3) (A 1 4) (A 2 0) (A 2 1) (A 2 2) (A 2 3) (A 2 4) (A 3 0) (A 3 1) (A 3 2) (A 3 3) (A 3 4)
 refine Eq.trans h ?_
 match r, hr with
 | 0, _ =>
  rw [(d4_same (A 0 0) (A 0 1) (A 0 2) (A 0 3) (A 2 0) (A 2 1) (A 2 2) (A 2 3) (A 3 0) (A 3 1) (A 3 2) (A 3 3)).1, (d4_same (A 0 0) (A 0 1) (A 0 2) (A 0 3) (A 1 0) (A 1 1) (A 1 2) (A 1 3) (A 3 0) (A 3 1) (A 3 2) (A 3 3)).2.1, (d4_same (A 0 0) (A 0 1) (A 0 2) (A 0 3) (A 1 0) (A 1 1) (A 1 2) (A 1 3) (A 2 0) (A 2 1) (A 2 2) (A 2 3)).2.2.1]
  show A 0 4 * LL A 4 + _ + _ + _ = _
  grind
 | 1, _ =>
  rw [(d4_same (A 1 0) (A 1 1) (A 1 2) (A 1 3) (A 2 0) (A 2 1) (A 2 2) (A 2 3) (A 3 0) (A 3 1) (A 3 2) (A 3 3)).1, (d4_same (A 1 0) (A 1 1) (A 1 2) (A 1 3) (A 0 0) (A 0 1) (A 0 2) (A 0 3) (A 3 0) (A 3 1) (A 3 2) (A 3 3)).2.2.2.1, (d4_same (A 1 0) (A 1 1) (A 1 2) (A 1 3) (A 0 0) (A 0 1) (A 0 2) (A 0 3) (A 2 0) (A 2 1) (A 2 2) (A 2 3)).2.2.2.2.1]
  show _ + A 1 4 * LL A 4 + _ + _ = _
  grind
 | 2, _ =>
  rw [(d4_same (A 2 0) (A 2 1) (A 2 2) (A 2 3) (A 1 0) (A 1 1) (A 1 2) (A 1 3) (A 3 0) (A 3 1) (A 3 2) (A 3 3)).2.1, (d4_same (A 2 0) (A 2 1) (A 2 2) (A 2 3) (A 0 0) (A 0 1) (A 0 2) (A 0 3) (A 3 0) (A 3 1) (A 3 2) (A 3 3)).2.2.2.1, (d4_same (A 2 0) (A 2 1) (A 2 2) (A 2 3) (A 0 0) (A 0 1) (A 0 2) (A 0 3) (A 1 0) (A 1 1) (A 1 2) (A 1 3)).2.2.2.2.2]
  show _ + _ + A 2 4 * LL A 4 + _ = _
  grind
 | 3, _ =>
  rw [(d4_same (A 3 0) (A 3 1) (A 3 2) (A 3 3) (A 1 0) (A 1 1) (A 1 2) (A 1 3) (A 2 0) (A 2 1) (A 2 2) (A 2 3)).2.2.1, (d4_same (A 3 0) (A 3 1) (A 3 2) (A 3 3) (A 0 0) (A 0 1) (A 0 2) (A 0 3) (A 2 0) (A 2 1) (A 2 2) (A 2 3)).2.2.2.2.1, (d4_same (A 3 0) (A 3 1) (A 3 2) (A 3 3) (A 0 0) (A 0 1) (A 0 2) (A 0 3) (A 1 0) (A 1 1) (A 1 2) (A 1 3)).2.2.2.2.2]
  show _ + _ + _ + A 3 4 * LL A 4 = _
  grind
def nu (l : List S32) (right : List Int) (n : Nat) (p : Int) : Int := if p ≤ 0 then 0 else SS (tab l right n) n (p.toNat - 1) n
def xs (l : List S32) (right : List Int) (n : Nat) (p : Int) : Rat := (nu l right n p : Rat) / (den l n : Rat)
theorem nu_zero (l : List S32) (right : List Int) (n : Nat) : nu l right n 0 = 0 := rfl
theorem xs_zero (l : List S32) (right : List Int) (n : Nat) : xs l right n 0 = 0 := by unfold xs; rw [nu_zero, Rat.div_def]; exact Rat.zero_mul _
def rs (right : List Int) (n : Nat) (y : Int → Rat) : Rat := sm (fun p : Nat => (rd right ((p : Int) + 1) : Rat) * (y ((p : Int) + 1) - y 0)) (List.range n)
theorem ent_zero (p q : Int) (L : List Si) (h : ∀ s ∈ L, s.f ≠ q ∧ s.t ≠ q) : ent p q L = 0 := by
 induction L with
 | nil => rfl
 | cons s r ih =>
  have h1 := h s (by simp)
  simp only [ent, ih (fun t ht => h t (by simp [ht]))]
  unfold con
  split
  ·rw [if_neg (by omega)]; rfl
  ·rw [if_neg (by omega)]; rfl
theorem den_ne {n : Nat} {l : List S32} {right : List Int} (h : Ok n l right) : (den l n : Rat) ≠ 0 := by
 intro e
 have h2 := h.pos n (Nat.le_refl _)
 rw [h.last] at h2
 have h3 : den l n = 0 := by exact_mod_cast e
 omega
theorem weak {n : Nat} {l : List S32} {right : List Int} (hn : n ≤ 4) (hn1 : 1 ≤ n) (h : Ok n l right) (y : Int → Rat) : B l (xs l right n) y = rs right n y := by
 have hm := sig_mem h.v
 have hd := den_ne h
 have hv : ∀ s ∈ l, (0 ≤ s.f0 ∧ s.f0 ≤ 4) ∧ (0 ≤ s.f1 ∧ s.f1 ≤ 4) ∧ s.f0 ≠ s.f1 := fun s hs => by
  have := hm ⟨s.f0, s.f1, s.f3⟩ (List.mem_map.2 ⟨s, hs, rfl⟩)
  dsimp only at this
  omega
 rw [← B_shift l _ y (y 0), B_eq l _ _ (xs_zero _ _ _) (by grind) hv]
 have z1 : ∀ p q : Int, (n : Int) < q → ent p q (sig l) = 0 := fun p q hq => ent_zero p q _ (fun s hs => by have := hm s hs; omega)
 have z2 : ∀ p q : Int, (n : Int) < p → ent p q (sig l) = 0 := fun p q hp => by rw [ent_symm]; exact z1 q p hp
 have hE : ∀ r k : Nat, k < n → tab l right n r k = ent ((r : Int) + 1) ((k : Int) + 1) (sig l) := fun r k hk => tab_E h.v right r k hk
 have hR : ∀ r : Nat, r < n → tab l right n r n = rd right ((r : Int) + 1) := fun r hr => tab_right h.v right r hr
 have hL := h.last
 have cs : ∀ r : Nat, r < n → True := fun _ _ => trivial
 match n, hn1, hn with
 | 1, _, _ =>
  have c0 := cram1 (tab l right 1)
  rw [hE 0 0 (by decide), hR 0 (by decide), hL] at c0
  have d0 : ((ent 1 1 (sig l) : Int) : Rat) * ((SS (tab l right 1) 1 0 1 : Int) : Rat) = ((den l 1 : Int) : Rat) * ((rd right 1 : Int) : Rat) := by exact_mod_cast c0
  have e0 : ((ent 1 1 (sig l) : Int) : Rat) * xs l right 1 1 = ((rd right 1 : Int) : Rat) := by
   show ((ent 1 1 (sig l) : Int) : Rat) * (((SS (tab l right 1) 1 0 1 : Int) : Rat) / ((den l 1 : Int) : Rat)) = _
   grind
  clear c0 d0
  show bf _ _ _ = sm _ [0]
  simp only [bf, sm, z1 _ 2 (by decide), z1 _ 3 (by decide), z1 _ 4 (by decide), z2 2 _ (by decide), z2 3 _ (by decide), z2 4 _ (by decide)]
  simp
  grind
 | 2, _, _ =>
  have c0 := (cram2 (tab l right 2)).1
  rw [hE 0 0 (by decide), hE 0 1 (by decide), hR 0 (by decide), hL] at c0
  have d0 : ((ent 1 1 (sig l) : Int) : Rat) * ((SS (tab l right 2) 2 0 2 : Int) : Rat) + ((ent 1 2 (sig l) : Int) : Rat) * ((SS (tab l right 2) 2 1 2 : Int) : Rat) = ((den l 2 : Int) : Rat) * ((rd right 1 : Int) : Rat) := by exact_mod_cast c0
  have e0 : ((ent 1 1 (sig l) : Int) : Rat) * xs l right 2 1 + ((ent 1 2 (sig l) : Int) : Rat) * xs l right 2 2 = ((rd right 1 : Int) : Rat) := by
   show ((ent 1 1 (sig l) : Int) : Rat) * (((SS (tab l right 2) 2 0 2 : Int) : Rat) / ((den l 2 : Int) : Rat)) + ((ent 1 2 (sig l) : Int) : Rat) * (((SS (tab l right 2) 2 1 2 : Int) : Rat) / ((den l 2 : Int) : Rat)) = _
   grind
  clear c0 d0
  have c1 := (cram2 (tab l right 2)).2
  rw [hE 1 0 (by decide), hE 1 1 (by decide), hR 1 (by decide), hL] at c1
  have d1 : ((ent 2 1 (sig l) : Int) : Rat) * ((SS (tab l right 2) 2 0 2 : Int) : Rat) + ((ent 2 2 (sig l) : Int) : Rat) * ((SS (tab l right 2) 2 1 2 : Int) : Rat) = ((den l 2 : Int) : Rat) * ((rd right 2 : Int) : Rat) := by exact_mod_cast c1
  have e1 : ((ent 2 1 (sig l) : Int) : Rat) * xs l right 2 1 + ((ent 2 2 (sig l) : Int) : Rat) * xs l right 2 2 = ((rd right 2 : Int) : Rat) := by
   show ((ent 2 1 (sig l) : Int) : Rat) * (((SS (tab l right 2) 2 0 2 : Int) : Rat) / ((den l 2 : Int) : Rat)) + ((ent 2 2 (sig l) : Int) : Rat) * (((SS (tab l right 2) 2 1 2 : Int) : Rat) / ((den l 2 : Int) : Rat)) = _
   grind
  clear c1 d1
  show bf _ _ _ = sm _ [0, 1]
  simp only [bf, sm, z1 _ 3 (by decide), z1 _ 4 (by decide), z2 3 _ (by decide), z2 4 _ (by decide)]
  simp
  grind
 | 3, _, _ =>
  have c0 := (cram3 (tab l right 3)).1
  rw [hE 0 0 (by decide), hE 0 1 (by decide), hE 0 2 (by decide), hR 0 (by decide), hL] at c0
  have d0 : ((ent 1 1 (sig l) : Int) : Rat) * ((SS (tab l right 3) 3 0 3 : Int) : Rat) + ((ent 1 2 (sig l) : Int) : Rat) * ((SS (tab l right 3) 3 1 3 : Int) : Rat) + ((ent 1 3 (sig l) : Int) : Rat) * ((SS (tab l right 3) 3 2 3 : Int) : Rat) = ((den l 3 : Int) : Rat) * ((rd right 1 : Int) : Rat) := by exact_mod_cast c0
  have e0 : ((ent 1 1 (sig l) : Int) : Rat) * xs l right 3 1 + ((ent 1 2 (sig l) : Int) : Rat) * xs l right 3 2 + ((ent 1 3 (sig l) : Int) : Rat) * xs l right 3 3 = ((rd right 1 : Int) : Rat) := by
   show ((ent 1 1 (sig l) : Int) : Rat) * (((SS (tab l right 3) 3 0 3 : Int) : Rat) / ((den l 3 : Int) : Rat)) + ((ent 1 2 (sig l) : Int) : Rat) * (((SS (tab l right 3) 3 1 3 : Int) : Rat) / ((den l 3 : Int) : Rat)) + ((ent 1 3 (sig l) : Int) : Rat) * (((SS (tab l right 3) 3 2 3 : Int) : Rat) / ((den l 3 : Int) : Rat)) = _
   grind
  clear c0 d0
  have c1 := (cram3 (tab l right 3)).2.1
  rw [hE 1 0 (by decide), hE 1 1 (by decide), hE 1 2 (by decide), hR 1 (by decide), hL] at c1
  have d1 : ((ent 2 1 (sig l) : Int) : Rat) * ((SS (tab l right 3) 3 0 3 : Int) : Rat) + ((ent 2 2 (sig l) : Int) : Rat) * ((SS (tab l right 3) 3 1 3 : Int) : Rat) + ((ent 2 3 (sig l) : Int) : Rat) * ((SS (tab l right 3) 3 2 3 : Int) : Rat) = ((den l 3 : Int) : Rat) * ((rd right 2 : Int) : Rat) := by exact_mod_cast c1
  have e1 : ((ent 2 1 (sig l) : Int) : Rat) * xs l right 3 1 + ((ent 2 2 (sig l) : Int) : Rat) * xs l right 3 2 + ((ent 2 3 (sig l) : Int) : Rat) * xs l right 3 3 = ((rd right 2 : Int) : Rat) := by
   show ((ent 2 1 (sig l) : Int) : Rat) * (((SS (tab l right 3) 3 0 3 : Int) : Rat) / ((den l 3 : Int) : Rat)) + ((ent 2 2 (sig l) : Int) : Rat) * (((SS (tab l right 3) 3 1 3 : Int) : Rat) / ((den l 3 : Int) : Rat)) + ((ent 2 3 (sig l) : Int) : Rat) * (((SS (tab l right 3) 3 2 3 : Int) : Rat) / ((den l 3 : Int) : Rat)) = _
   grind
  clear c1 d1
  have c2 := (cram3 (tab l right 3)).2.2
  rw [hE 2 0 (by decide), hE 2 1 (by decide), hE 2 2 (by decide), hR 2 (by decide), hL] at c2
  have d2 : ((ent 3 1 (sig l) : Int) : Rat) * ((SS (tab l right 3) 3 0 3 : Int) : Rat) + ((ent 3 2 (sig l) : Int) : Rat) * ((SS (tab l right 3) 3 1 3 : Int) : Rat) + ((ent 3 3 (sig l) : Int) : Rat) * ((SS (tab l right 3) 3 2 3 : Int) : Rat) = ((den l 3 : Int) : Rat) * ((rd right 3 : Int) : Rat) := by exact_mod_cast c2
  have e2 : ((ent 3 1 (sig l) : Int) : Rat) * xs l right 3 1 + ((ent 3 2 (sig l) : Int) : Rat) * xs l right 3 2 + ((ent 3 3 (sig l) : Int) : Rat) * xs l right 3 3 = ((rd right 3 : Int) : Rat) := by
   show ((ent 3 1 (sig l) : Int) : Rat) * (((SS (tab l right 3) 3 0 3 : Int) : Rat) / ((den l 3 : Int) : Rat)) + ((ent 3 2 (sig l) : Int) : Rat) * (((SS (tab l right 3) 3 1 3 : Int) : Rat) / ((den l 3 : Int) : Rat)) + ((ent 3 3 (sig l) : Int) : Rat) * (((SS (tab l right 3) 3 2 3 : Int) : Rat) / ((den l 3 : Int) : Rat)) = _
   grind
  clear c2 d2
  show bf _ _ _ = sm _ [0, 1, 2]
  simp only [bf, sm, z1 _ 4 (by decide), z2 4 _ (by decide)]
  simp
  grind
 | 4, _, _ =>
  have c0 := cram4 (tab l right 4) 0 (by decide)
  rw [hE 0 0 (by decide), hE 0 1 (by decide), hE 0 2 (by decide), hE 0 3 (by decide), hR 0 (by decide), hL] at c0
  have d0 : ((ent 1 1 (sig l) : Int) : Rat) * ((SS (tab l right 4) 4 0 4 : Int) : Rat) + ((ent 1 2 (sig l) : Int) : Rat) * ((SS (tab l right 4) 4 1 4 : Int) : Rat) + ((ent 1 3 (sig l) : Int) : Rat) * ((SS (tab l right 4) 4 2 4 : Int) : Rat) + ((ent 1 4 (sig l) : Int) : Rat) * ((SS (tab l right 4) 4 3 4 : Int) : Rat) = ((den l 4 : Int) : Rat) * ((rd right 1 : Int) : Rat) := by exact_mod_cast c0
  have e0 : ((ent 1 1 (sig l) : Int) : Rat) * xs l right 4 1 + ((ent 1 2 (sig l) : Int) : Rat) * xs l right 4 2 + ((ent 1 3 (sig l) : Int) : Rat) * xs l right 4 3 + ((ent 1 4 (sig l) : Int) : Rat) * xs l right 4 4 = ((rd right 1 : Int) : Rat) := by
   show ((ent 1 1 (sig l) : Int) : Rat) * (((SS (tab l right 4) 4 0 4 : Int) : Rat) / ((den l 4 : Int) : Rat)) + ((ent 1 2 (sig l) : Int) : Rat) * (((SS (tab l right 4) 4 1 4 : Int) : Rat) / ((den l 4 : Int) : Rat)) + ((ent 1 3 (sig l) : Int) : Rat) * (((SS (tab l right 4) 4 2 4 : Int) : Rat) / ((den l 4 : Int) : Rat)) + ((ent 1 4 (sig l) : Int) : Rat) * (((SS (tab l right 4) 4 3 4 : Int) : Rat) / ((den l 4 : Int) : Rat)) = _
   grind
  clear c0 d0
  have c1 := cram4 (tab l right 4) 1 (by decide)
  rw [hE 1 0 (by decide), hE 1 1 (by decide), hE 1 2 (by decide), hE 1 3 (by decide), hR 1 (by decide), hL] at c1
  have d1 : ((ent 2 1 (sig l) : Int) : Rat) * ((SS (tab l right 4) 4 0 4 : Int) : Rat) + ((ent 2 2 (sig l) : Int) : Rat) * ((SS (tab l right 4) 4 1 4 : Int) : Rat) + ((ent 2 3 (sig l) : Int) : Rat) * ((SS (tab l right 4) 4 2 4 : Int) : Rat) + ((ent 2 4 (sig l) : Int) : Rat) * ((SS (tab l right 4) 4 3 4 : Int) : Rat) = ((den l 4 : Int) : Rat) * ((rd right 2 : Int) : Rat) := by exact_mod_cast c1
  have e1 : ((ent 2 1 (sig l) : Int) : Rat) * xs l right 4 1 + ((ent 2 2 (sig l) : Int) : Rat) * xs l right 4 2 + ((ent 2 3 (sig l) : Int) : Rat) * xs l right 4 3 + ((ent 2 4 (sig l) : Int) : Rat) * xs l right 4 4 = ((rd right 2 : Int) : Rat) := by
   show ((ent 2 1 (sig l) : Int) : Rat) * (((SS (tab l right 4) 4 0 4 : Int) : Rat) / ((den l 4 : Int) : Rat)) + ((ent 2 2 (sig l) : Int) : Rat) * (((SS (tab l right 4) 4 1 4 : Int) : Rat) / ((den l 4 : Int) : Rat)) + ((ent 2 3 (sig l) : Int) : Rat) * (((SS (tab l right 4) 4 2 4 : Int) : Rat) / ((den l 4 : Int) : Rat)) + ((ent 2 4 (sig l) : Int) : Rat) * (((SS (tab l right 4) 4 3 4 : Int) : Rat) / ((den l 4 : Int) : Rat)) = _
   grind
  clear c1 d1
  have c2 := cram4 (tab l right 4) 2 (by decide)
  rw [hE 2 0 (by decide), hE 2 1 (by decide), hE 2 2 (by decide), hE 2 3 (by decide), hR 2 (by decide), hL] at c2
  have d2 : ((ent 3 1 (sig l) : Int) : Rat) * ((SS (tab l right 4) 4 0 4 : Int) : Rat) + ((ent 3 2 (sig l) : Int) : Rat) * ((SS (tab l right 4) 4 1 4 : Int) : Rat) + ((ent 3 3 (sig l) : Int) : Rat) * ((SS (tab l right 4) 4 2 4 : Int) : Rat) + ((ent 3 4 (sig l) : Int) : Rat) * ((SS (tab l right 4) 4 3 4 : Int) : Rat) = ((den l 4 : Int) : Rat) * ((rd right 3 : Int) : Rat) := by exact_mod_cast c2
  have e2 : ((ent 3 1 (sig l) : Int) : Rat) * xs l right 4 1 + ((ent 3 2 (sig l) : Int) : Rat) * xs l right 4 2 + ((ent 3 3 (sig l) : Int) : Rat) * xs l right 4 3 + ((ent 3 4 (sig l) : Int) : Rat) * xs l right 4 4 = ((rd right 3 : Int) : Rat) := by
   show ((ent 3 1 (sig l) : Int) : Rat) * (((SS (tab l right 4) 4 0 4 : Int) : Rat) / ((den l 4 : Int) : Rat)) + ((ent 3 2 (sig l) : Int) : Rat) * (((SS (tab l right 4) 4 1 4 : Int) : Rat) / ((den l 4 : Int) : Rat)) + ((ent 3 3 (sig l) : Int) : Rat) * (((SS (tab l right 4) 4 2 4 : Int) : Rat) / ((den l 4 : Int) : Rat)) + ((ent 3 4 (sig l) : Int) : Rat) * (((SS (tab l right 4) 4 3 4 : Int) : Rat) / ((den l 4 : Int) : Rat)) = _
   grind
  clear c2 d2
  have c3 := cram4 (tab l right 4) 3 (by decide)
  rw [hE 3 0 (by decide), hE 3 1 (by decide), hE 3 2 (by decide), hE 3 3 (by decide), hR 3 (by decide), hL] at c3
  have d3 : ((ent 4 1 (sig l) : Int) : Rat) * ((SS (tab l right 4) 4 0 4 : Int) : Rat) + ((ent 4 2 (sig l) : Int) : Rat) * ((SS (tab l right 4) 4 1 4 : Int) : Rat) + ((ent 4 3 (sig l) : Int) : Rat) * ((SS (tab l right 4) 4 2 4 : Int) : Rat) + ((ent 4 4 (sig l) : Int) : Rat) * ((SS (tab l right 4) 4 3 4 : Int) : Rat) = ((den l 4 : Int) : Rat) * ((rd right 4 : Int) : Rat) := by exact_mod_cast c3
  have e3 : ((ent 4 1 (sig l) : Int) : Rat) * xs l right 4 1 + ((ent 4 2 (sig l) : Int) : Rat) * xs l right 4 2 + ((ent 4 3 (sig l) : Int) : Rat) * xs l right 4 3 + ((ent 4 4 (sig l) : Int) : Rat) * xs l right 4 4 = ((rd right 4 : Int) : Rat) := by
   show ((ent 4 1 (sig l) : Int) : Rat) * (((SS (tab l right 4) 4 0 4 : Int) : Rat) / ((den l 4 : Int) : Rat)) + ((ent 4 2 (sig l) : Int) : Rat) * (((SS (tab l right 4) 4 1 4 : Int) : Rat) / ((den l 4 : Int) : Rat)) + ((ent 4 3 (sig l) : Int) : Rat) * (((SS (tab l right 4) 4 2 4 : Int) : Rat) / ((den l 4 : Int) : Rat)) + ((ent 4 4 (sig l) : Int) : Rat) * (((SS (tab l right 4) 4 3 4 : Int) : Rat) / ((den l 4 : Int) : Rat)) = _
   grind
  clear c3 d3
  show bf _ _ _ = sm _ [0, 1, 2, 3]
  simp only [bf, sm]
  simp
  grind
end Go.Proofs.Ytkafbmanmffliaa.Kc

