/- Parts of the proof that the law of this seat holds: Gi, Ha, Hb. -/
import Derived.Test.YtkafbmanmffliaaGLpg
import Derived.Test.YtkafbmanmffliaaProg
import Derived.Test.YtkafbmanmffliaaGLwa
import Derived.Test.YtkafbmanmffliaaGLwb
import Derived.Lib.Hide
import Derived.Outline
import Derived.Test.YtkafbmanmffliaaGLpa
set_option linter.unusedVariables false
set_option linter.unusedSimpArgs false
/- Tables of int64 numbers in memory: a row of rows; append of one value told at any world. -/
namespace Go.Proofs.Ytkafbmanmffliaa.Gi
open Go Go.RowKit YtkafbmanmffliaaW.PrintWords YtkafbmanmffliaaW.PrintLast YtkafbmanmffliaaW.PrintMore Q Gd Gf Ge
theorem Pv.i64 (x : Int) : Pv (.int .i64 x) := ⟨(fun _ h => by cases h), (fun _ h => by cases h)⟩
def RowI (us : List Value) (wd : Nat) (f : Nat → Int) : Prop := us.length = wd ∧ ∀ k, k < wd → us[k]? = some (.int .i64 (f k))
theorem RowI.congr {us : List Value} {wd : Nat} {f g : Nat → Int} (h : RowI us wd f) (e : ∀ k, k < wd → f k = g k) : RowI us wd g :=
 ⟨h.1, fun k hk => by rw [h.2 k hk, e k hk]⟩
theorem RowI.zeros (wd : Nat) : RowI (List.replicate wd (.int .i64 0)) wd (fun _ => 0) := ⟨by simp, fun k hk => by simp [hk]⟩
theorem RowI.snoc {us : List Value} {wd : Nat} {f : Nat → Int} (h : RowI us wd f) (x : Int) : RowI (us ++ [.int .i64 x]) (wd + 1) (fun k => if k = wd then x else f k) := by
 refine ⟨by simp [h.1], fun k hk => ?_⟩
 by_cases e : k = wd
 ·subst e
  rw [List.getElem?_append_right (Nat.le_of_eq h.1)]
  simp [h.1]
 ·rw [List.getElem?_append_left (by have := h.1; omega), h.2 k (by omega)]
  simp [e]
theorem RowI.set {us : List Value} {wd : Nat} {f : Nat → Int} (h : RowI us wd f) (k0 : Nat) (x : Int) : RowI (us.set k0 (.int .i64 x)) wd (fun k => if k = k0 then x else f k) := by
 refine ⟨by simp [h.1], fun k hk => ?_⟩
 by_cases e : k = k0
 ·subst e
  rw [List.getElem?_set_self (Nat.lt_of_lt_of_eq hk h.1.symm)]
  simp
 ·rw [List.getElem?_set_ne (by omega), h.2 k hk]
  simp [e]
def updI (M : TI) (r k : Nat) (x : Int) : TI := fun r' k' => if r' = r ∧ k' = k then x else M r' k'
def Gri (W : World) (lo g cap : Nat) (vs : List Value) (m wd : Nat) (M : TI) : Prop :=
 lo ≤ g ∧ Cb W 28 g cap vs ∧ vs.length = m ∧ (∀ r, r < m → ∃ b c us, vs[r]? = some (.slice (some ⟨b, 0, none⟩) wd c) ∧ lo ≤ b ∧ Cb W 2 b c us ∧ RowI us wd (M r)) ∧
 (∀ (r s b c c' : Nat), r < m → s < m → vs[r]? = some (.slice (some ⟨b, 0, none⟩) wd c) → vs[s]? = some (.slice (some ⟨b, 0, none⟩) wd c') → r = s)
section
variable {W W' : World} {lo g cap m wd : Nat} {vs : List Value} {M : TI}
theorem Gri.congr {N : TI} (h : Gri W lo g cap vs m wd M) (e : ∀ r k, r < m → k < wd → M r k = N r k) : Gri W lo g cap vs m wd N := by
 obtain ⟨h0, h1, h2, h3, h4⟩ := h
 refine ⟨h0, h1, h2, fun r hr => ?_, h4⟩
 obtain ⟨b, c, us, q1, q2, q3, q4⟩ := h3 r hr
 exact ⟨b, c, us, q1, q2, q3, q4.congr (fun k hk => e r k hr hk)⟩
theorem Gri.below (h : Gri W lo g cap vs m wd M) (hb : Below W.heap.size W W') : Gri W' lo g cap vs m wd M := by
 obtain ⟨h0, h1, h2, h3, h4⟩ := h
 refine ⟨h0, h1.below hb, h2, fun r hr => ?_, h4⟩
 obtain ⟨b, c, us, q1, q2, q3, q4⟩ := h3 r hr
 exact ⟨b, c, us, q1, q2, q3.below hb, q4⟩
theorem Gri.new (W : World) (wd : Nat) (M : TI) (lo : Nat) (hlo : lo ≤ W.heap.size) : Gri (W.alloc (.cells #[] 28)) lo W.heap.size 0 [] 0 wd M :=
 ⟨hlo, Cb.nil_new W 28, rfl, fun r hr => by omega, fun r s b c c' hr => by omega⟩
theorem Gri.row (h : Gri W lo g cap vs m wd M) (r : Nat) (hr : r < m) : ∃ b c us, vs[r]? = some (.slice (some ⟨b, 0, none⟩) wd c) ∧ lo ≤ b ∧ Cb W 2 b c us ∧ RowI us wd (M r) ∧ W.cell? ⟨g, r, none⟩ = some (.slice (some ⟨b, 0, none⟩) wd c) ∧ W.frozen? ⟨g, r, none⟩ = false := by
 obtain ⟨b, c, us, q1, q2, q3, q4⟩ := h.2.2.2.1 r hr
 exact ⟨b, c, us, q1, q2, q3, q4, h.2.1.at_ r _ q1⟩
theorem rowI_at {us : List Value} {f : Nat → Int} {b c k : Nat} (hc : Cb W 2 b c us) (hr : RowI us wd f) (hk : k < wd) : W.cell? ⟨b, k, none⟩ = some (.int .i64 (f k)) ∧ W.frozen? ⟨b, k, none⟩ = false := hc.at_ k _ (hr.2 k hk)
theorem Gri.snoc {Wq : World} (h : Gri Wq lo g cap vs m wd M) (hb : Below Wq.heap.size Wq W) (hlo : lo ≤ Wq.heap.size) {b c : Nat} {us : List Value} {f : Nat → Int} (hle : Wq.heap.size ≤ b) (hc : Cb W 2 b c us) (hr : RowI us wd f)
  {w1 : World} {g1 cap1 : Nat} (hC : Cb w1 28 g1 cap1 (vs ++ [.slice (some ⟨b, 0, none⟩) wd c])) (hat : g1 = g ∨ W.heap.size ≤ g1) (hg : W.grownBy w1 (some g)) :
  Gri w1 lo g1 cap1 (vs ++ [.slice (some ⟨b, 0, none⟩) wd c]) (m + 1) wd (fun r k => if r = m then f k else M r k) := by
 have hW := h.below hb
 have hp : Par W w1 := Par.grown hW.2.1 hg
 have hgl := h.2.1.lt
 have hs := hb.size
 refine ⟨?_, hC, by simp [h.2.2.1], fun r hrm => ?_, fun r s b1 c1 c2 hrm hsm e1 e2 => ?_⟩
 ·have := h.1
  rcases hat with e | e <;> omega
 ·by_cases e : r = m
  ·subst e
   refine ⟨b, c, us, by rw [List.getElem?_append_right (by have := h.2.2.1; omega)]; simp [h.2.2.1], by omega, hc.kept (hg.block b hc.lt (fun e2 => ?_)), ?_⟩
   ·have := Option.some.inj e2
    omega
   ·exact hr.congr (fun k hk => by dsimp only; rw [if_pos rfl])
  ·obtain ⟨b1, c1, us1, q1, q2, q3, q4, _⟩ := hW.row r (by omega)
   refine ⟨b1, c1, us1, by rw [List.getElem?_append_left (by have := h.2.2.1; omega)]; exact q1, q2, q3.kept (hg.block b1 q3.lt (fun e2 => ?_)), q4.congr (fun k hk => by dsimp only; rw [if_neg e])⟩
   exact Cb.ne q3 hW.2.1 (by decide) (Option.some.inj e2)
 ·have hlen := h.2.2.1
  have old : ∀ r, r < m → (vs ++ [Value.slice (some ⟨b, 0, none⟩) wd c])[r]? = vs[r]? := fun r hr => List.getElem?_append_left (by omega)
  have new : (vs ++ [Value.slice (some ⟨b, 0, none⟩) wd c])[m]? = some (.slice (some ⟨b, 0, none⟩) wd c) := by rw [List.getElem?_append_right (by omega)]; simp [hlen]
  have far : ∀ r, r < m → ∀ b1 c1, vs[r]? = some (.slice (some ⟨b1, 0, none⟩) wd c1) → b1 < Wq.heap.size := by
   intro r hr b1 c1 e
   obtain ⟨b2, c2, us2, q1, q2, q3, q4, _⟩ := h.row r hr
   rw [q1] at e
   have e' : b2 = b1 := by injection e with e; injection e with e _ _; injection e with e; injection e
   rw [← e']; exact q3.lt
  by_cases hr : r = m <;> by_cases hs2 : s = m
  ·omega
  ·subst hr
   rw [new] at e1
   rw [old s (by omega)] at e2
   have e' : b = b1 := by injection e1 with e; injection e with e _ _; injection e with e; injection e
   have := far s (by omega) b1 c2 e2
   omega
  ·subst hs2
   rw [new] at e2
   rw [old r (by omega)] at e1
   have e' : b = b1 := by injection e2 with e; injection e with e _ _; injection e with e; injection e
   have := far r (by omega) b1 c1 e1
   omega
  ·rw [old r (by omega)] at e1
   rw [old s (by omega)] at e2
   exact h.2.2.2.2 r s b1 c1 c2 (by omega) (by omega) e1 e2
theorem Gri.put (h : Gri W lo g cap vs m wd M) {r k b c : Nat} {x : Int} (hr : r < m) (hk : k < wd) (hv : vs[r]? = some (.slice (some ⟨b, 0, none⟩) wd c)) :
  Gri (W.setCell ⟨b, k, none⟩ (.int .i64 x)) lo g cap vs m wd (updI M r k x) := by
 obtain ⟨b0, c0, us, q1, q2, q3, q4, _⟩ := h.row r hr
 have e : b0 = b ∧ c0 = c := by
  rw [hv] at q1
  injection q1 with q1
  injection q1 with e1 e2 e3
  injection e1 with e1
  injection e1 with e1
  exact ⟨e1.symm, e3.symm⟩
 obtain ⟨rfl, rfl⟩ := e
 obtain ⟨hc1, hg⟩ := q3.put k (.int .i64 x) (Pv.i64 _)
 have hp : Par W (W.setCell ⟨b0, k, none⟩ (.int .i64 x)) := Par.grown q3 hg
 refine ⟨h.1, h.2.1.kept (hg.block g h.2.1.lt (fun e2 => Cb.ne h.2.1 q3 (by decide) (Option.some.inj e2))), h.2.2.1, fun s hs => ?_, h.2.2.2.2⟩
 by_cases e : s = r
 ·subst e
  refine ⟨b0, c0, _, hv, q2, hc1, (q4.set k x).congr (fun k' hk' => ?_)⟩
  unfold updI
  by_cases e : k' = k
  ·rw [if_pos e, if_pos ⟨rfl, e⟩]
  ·rw [if_neg e, if_neg (by omega)]
 ·obtain ⟨b1, c1, us1, t1, t2, t3, t4, _⟩ := h.row s hs
  refine ⟨b1, c1, us1, t1, t2, t3.kept (hg.block b1 t3.lt (fun e2 => ?_)), t4.congr (fun k' hk' => by unfold updI; rw [if_neg (by omega)])⟩
  obtain rfl := Option.some.inj e2
  exact e (h.2.2.2.2 s r b1 c1 c0 hs hr t1 hv)
theorem Gri.same (h : Gri W lo g cap vs m wd M) {r : Nat} {u : Value} (hr : r < m) (hv : vs[r]? = some u) : Gri (W.setCell ⟨g, r, none⟩ u) lo g cap vs m wd M := by
 obtain ⟨b0, c0, us, q1, q2, q3, q4, _⟩ := h.row r hr
 have hu : Pv u := by rw [hv] at q1; injection q1 with q1; rw [q1]; exact Pv.slice _ _ _
 obtain ⟨hc1, hg⟩ := h.2.1.put r u hu
 have e : vs.set r u = vs := by
  apply List.ext_getElem?
  intro i
  rw [List.getElem?_set]
  split
  ·rename_i e; subst e
   rw [hv]
   split
   ·rfl
   ·rename_i hlt; have := h.2.2.1; omega
  ·rfl
 rw [e] at hc1
 have hp : Par W (W.setCell ⟨g, r, none⟩ u) := Par.grown h.2.1 hg
 refine ⟨h.1, hc1, h.2.2.1, fun s hs => ?_, h.2.2.2.2⟩
 obtain ⟨b1, c1, us1, t1, t2, t3, t4, _⟩ := h.row s hs
 exact ⟨b1, c1, us1, t1, t2, t3.kept (hg.block b1 t3.lt (fun e2 => Cb.ne t3 h.2.1 (by decide) (Option.some.inj e2))), t4⟩
end
section
variable {P : Program} {ops : Array Oper} {rest : List Oper} {o : Oper} {a : Act} {Q : Exit → Act → World → Prop} {Kc : Act → World → Prop}
theorem Cb.run {W : World} (t ty e : TypeId) (z : Value) (bytes : Nat)
  (ht : P.underlying t = some (.slice e)) (hinfo : (P.info? e).map (fun i => (i.zero, i.size, i.bytes)) = some (some z, 1, bytes)) (hz : z.cells = #[z]) (hpz : Pv z) (hb0 : 0 < bytes)
  (g cap bx : Nat) (us : List Value) (u : Value) (hx : W.cell? ⟨bx, 0, none⟩ = some u) (hu1 : u.oneCell' = true) (hpu : Pv u)
  (HO : Cb W e g cap us) (hl : (us.length + 1) * bytes ≤ 140737488355328) :
  ∃ g1 cap1 w1, (Builtin.append_ #[t, t] ty #[.slice (some ⟨g, 0, none⟩) us.length cap, .slice (some ⟨bx, 0, none⟩) 1 1]).run P W = .ok (.slice (some ⟨g1, 0, none⟩) (us.length + 1) cap1) w1 ∧
   Cb w1 e g1 cap1 (us ++ [u]) ∧ (g1 = g ∨ W.heap.size ≤ g1) ∧ W.grownBy w1 (some g) := by
 obtain ⟨i0, hi, hzz⟩ := Option.map_eq_some_iff.1 hinfo
 simp only [Prod.mk.injEq] at hzz
 obtain ⟨hz0, hz1, hz2⟩ := hzz
 have hlen : us.length + 1 ≤ 140737488355328 := Nat.le_trans (Nat.le_mul_of_pos_right _ hb0) hl
 obtain ⟨cs, h1, h2, h3, h4, h5, h6⟩ := HO
 have hlt := blk_lt h1
 have hnews : ∀ j v, ([u] : List Value)[j]? = some v → W.cell? ((⟨bx, 0, none⟩ : Addr).add j) = some v := by
  intro j v hj
  match j, hj with
  | 0, hj =>
   simp at hj
   subst hj
   simpa [Addr.add] using hx
 by_cases hroom : us.length + 1 ≤ cap
 ·have hr := run_append_room (P := P) W t ty e i0 ht hi g us.length cap cs h1 ⟨bx, 0, none⟩ 1 1 [u] (by rw [hz1]; rfl) hnews (by simpa using hu1) hroom (by rw [hz1]; simp; omega)
  rw [hz1] at hr
  refine ⟨g, cap, _, hr, ⟨_, setRow_heap _ g cs _ e _ h1, ?_, ?_, h4, ?_, ?_⟩, .inl rfl, ⟨rfl, rfl, rfl, by simp [World.setRow], fun k hk hne => ?_⟩⟩
  ·simp; omega
  ·simp; omega
  ·intro v hv
   simp only [List.mem_append, List.mem_singleton] at hv
   rcases hv with (hv | hv) | hv
   ·exact h5 v (List.mem_of_mem_take hv)
   ·exact hv ▸ hpu
   ·exact h5 v (List.mem_of_mem_drop hv)
  ·have e0 : (us ++ [u]).length = us.length + 1 := by simp
   rw [e0]
   simp only [Nat.mul_one]
   rw [h6]
   rw [List.take_append_of_le_length (by simp)]
   rw [List.take_of_length_le (by simp)]
  ·exact setRow_other _ g k _ (fun e2 => hne (by rw [e2]))
 ·have holds : ∀ j v, us[j]? = some v → W.cell? ((⟨g, 0, none⟩ : Addr).add j) = some v := by
   intro j v hv
   have hadd : (⟨g, 0, none⟩ : Addr).add j = ⟨g, j, none⟩ := by unfold Addr.add; split <;> simp_all
   rw [hadd, blk_cell h1 j]
   rw [← h6, List.getElem?_take] at hv
   split at hv
   ·simpa using hv
   ·cases hv
  have hr := run_append_grow (P := P) W t ty e i0 z ht hi hz0 ⟨g, 0, none⟩ us.length cap us (by rw [hz1]; simp) holds ⟨bx, 0, none⟩ 1 1 [u] (by rw [hz1]; rfl) hnews (by omega) (by omega) (by rw [hz2]; exact growslice_fits (by omega) hl)
  have hge := grownCap_ge W (us.length + 1) cap e
  have hcm : grownCap W (us.length + 1) cap e ≤ maxLen := grownCap_le_maxLen _ _ _ e (by simp only [maxLen]; omega)
  refine ⟨W.heap.size, _, _, hr, ⟨_, heap_alloc_new W.drew _, ?_, ?_, hcm, ?_, ?_⟩, .inr (Nat.le_refl _), ⟨rfl, rfl, rfl, by simp, fun k hk hne => ?_⟩⟩
  ·simp only [Array.size_append, List.size_toArray, size_zeroCells, hz]
   simp; omega
  ·simp; omega
  ·intro v hv
   simp only [Array.toList_append, List.mem_append] at hv
   rcases hv with (hv | hv) | hv
   ·have hv' : v ∈ us := by simpa using hv
    rw [← h6] at hv'
    exact h5 v (List.mem_of_mem_take hv')
   ·have hv' : v = u := by simpa using hv
    exact hv' ▸ hpu
   ·rw [hz] at hv
    exact mem_zeroCells hv ▸ hpz
  ·simp only [Array.toList_append]
   rw [List.take_append_of_le_length (by simp)]
   rw [List.take_of_length_le (by simp)]
  ·exact Below.heap_alloc W.drew _ k hk
theorem Cb.append_step {W : World} (hw : Region.wanted o (yielded ops a.tmps) = true) (s x : Operand) (t e : TypeId) (z : Value) (bytes : Nat)
  (ho : o.op = .call { callee := .builtin .append, args := #[s, x], argTypes := #[t, t] })
  (ht : P.underlying t = some (.slice e)) (hinfo : (P.info? e).map (fun i => (i.zero, i.size, i.bytes)) = some (some z, 1, bytes)) (hz : z.cells = #[z]) (hpz : Pv z) (hb0 : 0 < bytes)
  (g cap bx n : Nat) (us : List Value) (u : Value) (hn : us.length = n) (hs : a.eval s = .slice (some ⟨g, 0, none⟩) n cap) (hxs : a.eval x = .slice (some ⟨bx, 0, none⟩) 1 1) (hx : W.cell? ⟨bx, 0, none⟩ = some u) (hu1 : u.oneCell' = true) (hpu : Pv u)
  (HO : Cb W e g cap us) (hl : (us.length + 1) * bytes ≤ 140737488355328)
  (h : ∀ g1 cap1 w1, Cb w1 e g1 cap1 (us ++ [u]) → (g1 = g ∨ W.heap.size ≤ g1) → W.grownBy w1 (some g) → Kc (a.put o.dst (.slice (some ⟨g1, 0, none⟩) (n + 1) cap1)) w1) :
  if Region.wanted o (yielded ops a.tmps) = true then Oper.wp P o a W Kc Q else Kc (a.put o.dst undef) W := by
 subst hn
 rw [if_pos hw]
 obtain ⟨g1, cap1, w1, hr, h1, h2, h3⟩ := Cb.run (P := P) (W := W) t o.type e z bytes ht hinfo hz hpz hb0 g cap bx us u hx hu1 hpu HO hl
 unfold Oper.wp execOp
 simp only [ho, resolve, invoke, builtin, Sem.run_bind, Sem.run_pure, Result.andThen_ok, List.map_toArray, List.map_cons, List.map_nil, hs, hxs, hr]
 exact h g1 cap1 w1 h1 h2 h3
end
end Go.Proofs.Ytkafbmanmffliaa.Gi

namespace Go.Proofs.Ytkafbmanmffliaa.Ha
open Go.RowKit YtkafbmanmffliaaW.PrintWords YtkafbmanmffliaaW.PrintLast YtkafbmanmffliaaW.PrintMore
theorem ret_bool {a b : Bool} (h : a = b) : Ending.returned (.bool a) = .returned (.bool b) := by rw [h]
theorem ret_int {k : IntKind} {a b : Int} (h : a = b) : Ending.returned (.int k a) = .returned (.int k b) := by rw [h]
def inB (lo hi n : Int) : Bool := decide (lo ≤ n) && decide (n ≤ hi)
theorem within_any (n lo hi : Int) (w : World) :
  Calls Try.prog 82 #[.int .i64 n, .int .i64 lo, .int .i64 hi] w fun e w' => e = .returned (.bool (inB lo hi n)) ∧ w' = w := by
 by_cases h : lo ≤ n
 ·go_enter Try.func82, Try.ntmps82
  go_wp2
  go_ret
  exact ⟨ret_bool (by simp [inB, h]), rfl⟩
 ·have h' : decide (lo ≤ n) = false := by simpa using h
  go_enter Try.func82, Try.ntmps82
  go_wp2
  go_ret
  exact ⟨ret_bool (by simp [inB]; omega), rfl⟩
theorem lit1_any (n lo hi : Int) (b1 b2 : Nat) (w : World) (h1 : w.cell? ⟨b1, 0, none⟩ = some (.int .i64 lo)) (h2 : w.cell? ⟨b2, 0, none⟩ = some (.int .i64 hi)) :
  Calls Try.prog 140 #[.int .i64 n, .pointer (some ⟨b1, 0, none⟩), .pointer (some ⟨b2, 0, none⟩)] w fun e w' => e = .returned (.bool (!inB lo hi n)) ∧ w' = w := by
 go_enter Try.func140, Try.ntmps140
 go_wp2_with (go_at_call 82; refine (within_any _ _ _ _).mono ?_; rintro e w' ⟨rfl, rfl⟩)
 go_ret
 exact ⟨rfl, rfl⟩
def idxOf (p : Int → Bool) : List Int → Int → Int
 | [], _ => -1
 | x :: xs, k => if p x then k else idxOf p xs (k + 1)
theorem idx_any (lo hi : Int) (b1 b2 : Nat) (A : Option Addr) (c : Nat) (l : List Int) (w : World) (h1 : w.cell? ⟨b1, 0, none⟩ = some (.int .i64 lo)) (h2 : w.cell? ⟨b2, 0, none⟩ = some (.int .i64 hi))
  (hr : Kd.C (Kd.int .i64) w A l.length l) :
  Calls Try.prog 149 #[.slice A l.length c, .func (.func 140) #[] #[.pointer (some ⟨b1, 0, none⟩), .pointer (some ⟨b2, 0, none⟩)]] w fun e w' => e = .returned (.int .i64 (idxOf (fun n => !inB lo hi n) l 0)) ∧ w' = w := by
 have hlen : l.length ≤ 9223372036854775807 := hr.2.1
 go_enter Try.func149, Try.ntmps149
 go_wp2
 go_loop [8, 5] (fun i _ => ∃ k : Nat, k ≤ l.length ∧ i = .int .i64 k ∧ idxOf (fun n => !inB lo hi n) l 0 = idxOf (fun n => !inB lo hi n) (l.drop k) k) (fun i _ => l.length - (intOf i).toNat)
 case atStart => exact ⟨0, by omega, rfl, by simp⟩
 case round =>
  obtain ⟨k, hk, rfl, hi⟩ := hrel
  have HI := Lib.hid hi
  clear hi
  by_cases hlt : k < l.length
  ·obtain ⟨ad, rfl, hc⟩ := Kd.at_int hr (k : Int) (by omega) (by omega)
   have hc' : w.cell? (ad.add k) = some (.int .i64 (rd l k)) := by simpa using hc
   have hd : l.drop k = rd l k :: l.drop (k + 1) := by rw [List.drop_eq_getElem_cons hlt]; simp [rd, hlt]
   have HD := Lib.hid hd
   clear hd
   by_cases hin : inB lo hi (rd l k) = true
   ·go_wp2_with (go_at_call 140; refine (lit1_any _ _ _ _ _ _ h1 h2).mono ?_; rintro e w' ⟨rfl, rfl⟩)
    go_round
    case rel => exact ⟨k + 1, by omega, by go_num, by rw [HI.out, HD.out]; simp [idxOf, hin]⟩
    case measure => simp [intOf]; omega
   ·have hin' : inB lo hi (rd l k) = false := by simpa using hin
    clear hin
    go_wp2_with (go_at_call 140; refine (lit1_any _ _ _ _ _ _ h1 h2).mono ?_; rintro e w' ⟨rfl, rfl⟩)
    go_ret
    exact ⟨ret_int (by rw [HI.out, HD.out]; simp [idxOf, hin']), rfl⟩
  ·go_wp2
   go_ret
   have : k = l.length := by omega
   subst this
   exact ⟨ret_int (by rw [HI.out]; simp [idxOf]), rfl⟩
theorem idxOf_neg (p : Int → Bool) (l : List Int) (k : Int) (hk : 0 ≤ k) : decide (idxOf p l k ≥ 0) = l.any p := by
 induction l generalizing k with
 | nil => simp [idxOf]
 | cons x xs ih =>
  by_cases h : p x = true
  ·simp [idxOf, h, hk]
  ·simp only [idxOf, h]; simp [ih (k + 1) (by omega), h]
theorem contains_any (lo hi : Int) (b1 b2 : Nat) (A : Option Addr) (c : Nat) (l : List Int) (w : World) (h1 : w.cell? ⟨b1, 0, none⟩ = some (.int .i64 lo)) (h2 : w.cell? ⟨b2, 0, none⟩ = some (.int .i64 hi))
  (hr : Kd.C (Kd.int .i64) w A l.length l) :
  Calls Try.prog 139 #[.slice A l.length c, .func (.func 140) #[] #[.pointer (some ⟨b1, 0, none⟩), .pointer (some ⟨b2, 0, none⟩)]] w fun e w' => e = .returned (.bool (l.any fun n => !inB lo hi n)) ∧ w' = w := by
 have HR := Lib.hid (idxOf_neg (fun n => !inB lo hi n) l 0 (by omega))
 go_enter Try.func139, Try.ntmps139
 go_wp2_with (go_at_call 149; refine (idx_any _ _ _ _ _ _ _ _ h1 h2 hr).mono ?_; rintro e w' ⟨rfl, rfl⟩)
 go_ret
 exact ⟨ret_bool HR.out, rfl⟩
def areIn (l : List Int) (lo hi : Int) : Bool := l.all fun n => inB lo hi n
theorem areIn_any (l : List Int) (lo hi : Int) : (!l.any fun n => !inB lo hi n) = areIn l lo hi := by
 simp [areIn, List.any_eq_not_all_not]
theorem areWithin_any (A : Option Addr) (c : Nat) (l : List Int) (lo hi : Int) (w : World) (hr : Kd.C (Kd.int .i64) w A l.length l) :
  Calls Try.prog 110 #[.slice A l.length c, .int .i64 lo, .int .i64 hi] w fun e w' => e = .returned (.bool (areIn l lo hi)) ∧ Below w.heap.size w w' := by
 have HX := Lib.hid (areIn_any l lo hi)
 have hC := fun W hW h1 h2 => contains_any lo hi w.heap.size (w.heap.size + 1) A c l W h1 h2 hW
 go_enter Try.func110, Try.ntmps110
 go_wp2_with (go_at_call 139; refine (hC _ (Kd.C_alloc (Kd.C_alloc hr _) _) (by simp) (by simp)).mono ?_; rintro e w' ⟨rfl, rfl⟩)
 go_ret
 exact ⟨ret_bool HX.out, below_alloc (below_alloc (Below.refl _ _) _) _⟩
end Go.Proofs.Ytkafbmanmffliaa.Ha

namespace Go.Proofs.Ytkafbmanmffliaa.Hb
open Go.RowKit YtkafbmanmffliaaW.PrintWords YtkafbmanmffliaaW.PrintLast YtkafbmanmffliaaW.PrintMore Q Ha
theorem l00In_any (n lo hi : Int) (w : World) :
  Calls Try.prog 114 #[.int .i64 n, .int .i64 lo, .int .i64 hi] w fun e w' => e = .returned (.bool (inB lo hi n)) ∧ w' = w := by
 by_cases h : lo ≤ n
 ·have h' : decide (lo ≤ n) = true := by simpa using h
  go_enter Try.func114, Try.ntmps114
  go_wp2
  go_ret
  exact ⟨ret_bool (by simp [inB, h]), rfl⟩
 ·have h' : decide (lo ≤ n) = false := by simpa using h
  go_enter Try.func114, Try.ntmps114
  go_wp2
  go_ret
  exact ⟨ret_bool (by simp [inB]; omega), rfl⟩
def sightB (pts : Int) (s : S32) : Bool :=
 inB 0 (wrap64 (pts - 1)) s.f0 && inB 0 (wrap64 (pts - 1)) s.f1 && !(s.f0 == s.f1) && inB (-100) 100 s.f2 && inB 1 3 s.f3
def surveyB (pts : Int) (l : List S32) : Bool := inB 2 5 pts && decide ((l.length : Int) ≤ 8) && l.all (sightB pts)
theorem surveyB_no (pts : Int) (l : List S32) (k : Nat) (hk : k < l.length) (h : sightB pts (rd_T32 l k) = false) : surveyB pts l = false := by
 have hm : rd_T32 l k ∈ l := by simp only [rd_T32, Int.toNat_natCast]; rw [List.getD_eq_getElem?_getD, List.getElem?_eq_getElem hk]; simp
 have : l.all (sightB pts) = false := by
  rw [List.all_eq_false]; exact ⟨_, hm, by simp [h]⟩
 simp [surveyB, this]
theorem all_step (pts : Int) (l : List S32) (k : Nat) (hk : k < l.length) (hp : (l.take k).all (sightB pts) = true) (h : sightB pts (rd_T32 l k) = true) : (l.take (k + 1)).all (sightB pts) = true := by
 have : l.take (k + 1) = l.take k ++ [rd_T32 l k] := by
  rw [List.take_succ_eq_append_getElem hk]; simp [rd_T32, hk]
 rw [this, List.all_append, hp]; simp [h]
theorem l10Is_round (g : Nat) (pts : Int) (A : Option Addr) (c : Nat) (l : List S32) (w : World) (hb : w.heap[g]? = some (.cells #[.int .i64 pts, .slice A l.length c] 26 (0, 0))) (hr : Kd.C k32 w A l.length l)
  (h1 : inB 2 5 pts = true) (h2 : (l.length : Int) ≤ 8) :
  Calls Try.prog 98 #[.pointer (some ⟨g, 0, none⟩)] w fun e w' => e = .returned (.bool (surveyB pts l)) ∧ Below w.heap.size w w' := by
 have hu32 := Try.underlying32
 have hlen : l.length ≤ 9223372036854775807 := hr.2.1
 have hc0 : w.cell? ⟨g, 0, none⟩ = some (.int .i64 pts) := (blk_cell hb 0).trans rfl
 have hc1 : w.cell? ⟨g, 1, none⟩ = some (.slice A l.length c) := (blk_cell hb 1).trans rfl
 have HB := Aside0.mk hb
 have HR := Aside0.mk hr
 have HW := Aside0.mk (Below.refl w.heap.size w)
 clear hb hr
 have h2' : decide ((8 : Int) < (l.length : Int)) = false := by simpa using h2
 go_enter Try.func98, Try.ntmps98
 go_wp2_with (go_at_call 114; refine (l00In_any _ _ _ _).mono ?_; rintro e w' ⟨rfl, rfl⟩)
 go_loopw [3] (fun i wr => ∃ k : Nat, k ≤ l.length ∧ i = .int .i64 k ∧ Aside0 ((l.take k).all (sightB pts) = true) ∧ Aside0 (Below w'.heap.size w' wr)) (fun i _ => l.length - (intOf i).toNat)
 case atStart => exact ⟨0, by omega, rfl, ⟨by simp⟩, ⟨Below.refl _ _⟩⟩
 case round =>
  rename_i wr _
  obtain ⟨k, hk, rfl, hall, hbw⟩ := hrel
  clear hc0 hc1
  have HB1 := Aside0.mk (blk_below HB.out hbw.out)
  have hc0 : wr.cell? ⟨g, 0, none⟩ = some (.int .i64 pts) := (blk_cell HB1.out 0).trans rfl
  have hc1 : wr.cell? ⟨g, 1, none⟩ = some (.slice A l.length c) := (blk_cell HB1.out 1).trans rfl
  by_cases hlt : k < l.length
  ·have hr1 := Kd.C_below HR.out hbw.out
   obtain ⟨ad, rfl, hx0, hx1, hx2, hx3⟩ := at_T32 hr1 (k : Int) (by omega) (by omega)
   clear hr1
   simp only [Int.toNat_natCast] at hx0 hx1 hx2 hx3
   go_wp2
   have hgl : g < wr.heap.size := blk_lt HB1.out
   have HA := Aside0.mk (hbw.out.alloc hbw.out.size (.cells #[.int .i64 (rd_T32 l ↑k).f0, .int .i64 (rd_T32 l ↑k).f1, .int .i64 (rd_T32 l ↑k).f2, .int .i64 (rd_T32 l ↑k).f3] 32))
   by_cases e0 : inB 0 (wrap64 (pts - 1)) (rd_T32 l k).f0 = true
   ·by_cases e1 : inB 0 (wrap64 (pts - 1)) (rd_T32 l k).f1 = true
    ·by_cases e2 : (rd_T32 l k).f0 = (rd_T32 l k).f1
     ·have HF := Aside0.mk (show sightB pts (rd_T32 l k) = false by simp [sightB, e2])
      have e2' : ((rd_T32 l k).f0 == (rd_T32 l k).f1) = true := by simpa using e2
      clear e2
      go_quiet ((go_at_call 114; exact Calls.quiet_of_same (l00In_any _ _ _ _)))
      go_wp2
      go_ret
      exact ⟨ret_bool (surveyB_no pts l k hlt HF.out).symm, pw_below_drewN HA.out _⟩
     ·have e2' : ((rd_T32 l k).f0 == (rd_T32 l k).f1) = false := by simpa using e2
      clear e2
      by_cases e3 : inB (-100) 100 (rd_T32 l k).f2 = true
      ·by_cases e4 : inB 1 3 (rd_T32 l k).f3 = true
       ·have HF := Aside0.mk (show sightB pts (rd_T32 l k) = true by simp [sightB, e0, e1, e2', e3, e4])
        go_quiet ((go_at_call 114; exact Calls.quiet_of_same (l00In_any _ _ _ _)))
        go_wp2
        go_roundw
        case rel => exact ⟨k + 1, by omega, by go_num, ⟨all_step pts l k hlt hall.out HF.out⟩, ⟨pw_below_drewN HA.out _⟩⟩
        case measure => simp [intOf]; omega
       ·have e4 : inB 1 3 (rd_T32 l k).f3 = false := by simpa using e4
        have HF := Aside0.mk (show sightB pts (rd_T32 l k) = false by simp [sightB, e4])
        go_quiet ((go_at_call 114; exact Calls.quiet_of_same (l00In_any _ _ _ _)))
        go_wp2
        go_ret
        exact ⟨ret_bool (surveyB_no pts l k hlt HF.out).symm, pw_below_drewN HA.out _⟩
      ·have e3 : inB (-100) 100 (rd_T32 l k).f2 = false := by simpa using e3
       have HF := Aside0.mk (show sightB pts (rd_T32 l k) = false by simp [sightB, e3])
       go_quiet ((go_at_call 114; exact Calls.quiet_of_same (l00In_any _ _ _ _)))
       go_wp2
       go_ret
       exact ⟨ret_bool (surveyB_no pts l k hlt HF.out).symm, pw_below_drewN HA.out _⟩
    ·have e1 : inB 0 (wrap64 (pts - 1)) (rd_T32 l k).f1 = false := by simpa using e1
     have HF := Aside0.mk (show sightB pts (rd_T32 l k) = false by simp [sightB, e1])
     go_quiet ((go_at_call 114; exact Calls.quiet_of_same (l00In_any _ _ _ _)))
     go_wp2
     go_ret
     exact ⟨ret_bool (surveyB_no pts l k hlt HF.out).symm, pw_below_drewN HA.out _⟩
   ·have e0 : inB 0 (wrap64 (pts - 1)) (rd_T32 l k).f0 = false := by simpa using e0
    have HF := Aside0.mk (show sightB pts (rd_T32 l k) = false by simp [sightB, e0])
    go_quiet ((go_at_call 114; exact Calls.quiet_of_same (l00In_any _ _ _ _)))
    go_wp2
    go_ret
    exact ⟨ret_bool (surveyB_no pts l k hlt HF.out).symm, pw_below_drewN HA.out _⟩
  ·obtain rfl : k = l.length := by omega
   have HF := Aside0.mk (show surveyB pts l = true by have := hall.out; simp at this; simp [surveyB, h1, h2]; exact this)
   go_wp2
   go_ret
   exact ⟨ret_bool HF.out.symm, hbw.out⟩
theorem l10Is_any (g : Nat) (pts : Int) (A : Option Addr) (c : Nat) (l : List S32) (w : World) (hb : w.heap[g]? = some (.cells #[.int .i64 pts, .slice A l.length c] 26 (0, 0))) (hr : Kd.C k32 w A l.length l) :
  Calls Try.prog 98 #[.pointer (some ⟨g, 0, none⟩)] w fun e w' => e = .returned (.bool (surveyB pts l)) ∧ Below w.heap.size w w' := by
 by_cases h1 : inB 2 5 pts = true
 ·by_cases h2 : (l.length : Int) ≤ 8
  ·exact l10Is_round g pts A c l w hb hr h1 h2
  ·have HF := Aside0.mk (show surveyB pts l = false by simp [surveyB]; omega)
   have hc0 : w.cell? ⟨g, 0, none⟩ = some (.int .i64 pts) := (blk_cell hb 0).trans rfl
   have hc1 : w.cell? ⟨g, 1, none⟩ = some (.slice A l.length c) := (blk_cell hb 1).trans rfl
   clear hb hr
   have h2' : decide ((8 : Int) < (l.length : Int)) = true := by simp; omega
   go_enter Try.func98, Try.ntmps98
   go_wp2_with (go_at_call 114; refine (l00In_any _ _ _ _).mono ?_; rintro e w' ⟨rfl, rfl⟩)
   go_ret
   exact ⟨ret_bool HF.out.symm, Below.refl _ _⟩
 ·have h1 : inB 2 5 pts = false := by simpa using h1
  have HF := Aside0.mk (show surveyB pts l = false by simp [surveyB, h1])
  have hc0 : w.cell? ⟨g, 0, none⟩ = some (.int .i64 pts) := (blk_cell hb 0).trans rfl
  have hc1 : w.cell? ⟨g, 1, none⟩ = some (.slice A l.length c) := (blk_cell hb 1).trans rfl
  clear hb hr
  go_enter Try.func98, Try.ntmps98
  go_wp2_with (go_at_call 114; refine (l00In_any _ _ _ _).mono ?_; rintro e w' ⟨rfl, rfl⟩)
  go_ret
  exact ⟨ret_bool HF.out.symm, Below.refl _ _⟩
end Go.Proofs.Ytkafbmanmffliaa.Hb

