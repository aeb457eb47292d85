/- Parts of the proof that the law of this seat holds: Db, Dc. -/
import Derived.Test.YtkafbmanmffliaaGLpb
import Derived.Lib.JoinLaws
set_option linter.unusedVariables false
set_option linter.unusedSimpArgs false
/- A block of digits; digits taken from, and given back to, a part of it. -/
namespace Go.Proofs.Ytkafbmanmffliaa.Db
open Go Go.RowKit YtkafbmanmffliaaW.PrintWords YtkafbmanmffliaaW.PrintLast YtkafbmanmffliaaW.PrintMore Q Bg PuG
def Bk (W : World) (g : Nat) (L : List Int) : Prop := ∃ cur : Array Value, W.heap[g]? = some (.cells cur 146 (0, 0)) ∧ ∀ i : Nat, i < L.length → cur[i]? = some (.int .u32 (rd L i))
theorem Bk.cell {W : World} {g : Nat} {L : List Int} (h : Bk W g L) (i : Nat) (hi : i < L.length) : W.cell? ⟨g, i, none⟩ = some (.int .u32 (rd L i)) := by
 obtain ⟨cur, h1, h2⟩ := h
 rw [blk_cell h1 i, h2 i hi]
theorem Bk.frozen {W : World} {g : Nat} {L : List Int} (h : Bk W g L) (i : Nat) : W.frozen? ⟨g, i, none⟩ = false := by
 obtain ⟨cur, h1, h2⟩ := h
 exact blk_frozen h1 i
theorem rd_set {L : List Int} (i : Nat) (x : Int) (k : Nat) (hk : k < L.length) : rd (L.set i x) (k : Int) = if i = k then x else rd L (k : Int) := by
 rw [rd_at k (by simpa using hk), rd_at k hk, List.getElem_set]
theorem Bk.put {W : World} {g : Nat} {L : List Int} (h : Bk W g L) (i : Nat) (x : Int) : Bk (W.setCell ⟨g, i, none⟩ (.int .u32 x)) g (L.set i x) := by
 obtain ⟨cur, h1, h2⟩ := h
 refine ⟨_, blk_put h1 i _ rfl, fun k hk => ?_⟩
 rw [List.length_set] at hk
 rw [rd_set i x k hk, Array.getElem?_setIfInBounds]
 have hks := h2 k hk
 by_cases e : i = k
 ·subst e
  rw [if_pos rfl, if_pos rfl]
  have : i < cur.size := by
   rcases Nat.lt_or_ge i cur.size with h3 | h3
   ·exact h3
   ·rw [Array.getElem?_eq_none h3] at hks; cases hks
  rw [if_pos this]
 ·rw [if_neg e, if_neg e, hks]
theorem Bk.same {W W' : World} {g : Nat} {L : List Int} (h : Bk W g L) (hm : W'.heap[g]? = W.heap[g]?) : Bk W' g L := by
 obtain ⟨cur, h1, h2⟩ := h
 exact ⟨cur, hm.trans h1, h2⟩
theorem Bk.lt {W : World} {g : Nat} {L : List Int} (h : Bk W g L) : g < W.heap.size := by
 obtain ⟨cur, h1, h2⟩ := h
 exact blk_lt h1
theorem grown_set {w W : World} {p : Addr} (h : w.grownBy W (some p.block)) (u : Value) : w.grownBy (W.setCell p u) (some p.block) :=
 ⟨h.os, h.tape, h.output, by simpa [World.setCell] using h.size, fun k hk hne => (Below.heap_setCell W p u k (fun e => hne (by rw [e]))).trans (h.block k hk hne)⟩
theorem grown_refl (w : World) (r : Option Nat) : w.grownBy w r := ⟨rfl, rfl, rfl, Nat.le_refl _, fun _ _ _ => rfl⟩
def win (L : List Int) (j n : Nat) (x : List Int) : List Int := L.take j ++ x ++ L.drop (j + n)
theorem win_len {L : List Int} {j n : Nat} {x : List Int} (h : j + n ≤ L.length) (hx : x.length = n) : (win L j n x).length = L.length := by simp [win]; omega
theorem win_self {L : List Int} {j n : Nat} (h : j + n ≤ L.length) : win L j n ((L.drop j).take n) = L := by
 unfold win
 rw [List.append_assoc, ← List.drop_drop, List.take_append_drop, List.take_append_drop]
theorem win_at {L : List Int} {j n : Nat} {x : List Int} (h : j + n ≤ L.length) (hx : x.length = n) (i : Nat) (hi : i < n) : rd (win L j n x) ((j + i : Nat) : Int) = rd x (i : Int) := by
 rw [rd_at (j + i) (by rw [win_len h hx]; omega), rd_at i (by omega)]
 unfold win
 rw [List.getElem_append_left (by simp; omega), List.getElem_append_right (by simp; omega)]
 simp [Nat.min_eq_left (show j ≤ L.length by omega)]
theorem win_set {L : List Int} {j n : Nat} {x : List Int} (h : j + n ≤ L.length) (hx : x.length = n) (i : Nat) (hi : i < n) (u : Int) : (win L j n x).set (j + i) u = win L j n (x.set i u) := by
 unfold win
 rw [List.set_append_left _ _ (by simp; omega), List.set_append_right _ _ (by simp; omega)]
 simp [Nat.min_eq_left (show j ≤ L.length by omega)]
theorem sub_of {x y b d o : Int} (h : bits_Sub32.f x y b = some (d, o)) (w : World) :
  Calls Try.prog 157 #[.int .u32 x, .int .u32 y, .int .u32 b] w fun e w' => e = .returned (.tuple #[.int .u32 d, .int .u32 o]) ∧ w' = w := by
 unfold bits_Sub32.f at h
 by_cases hc : 0 ≤ x ∧ x < 4294967296 ∧ 0 ≤ y ∧ y < 4294967296 ∧ 0 ≤ b ∧ b ≤ 1
 ·rw [if_pos hc] at h
  simp only [Option.some.injEq, Prod.mk.injEq] at h
  obtain ⟨rfl, rfl⟩ := h
  obtain ⟨h0, h1, h2, h3, h4, h5⟩ := hc
  exact Bw.sub32_any x y b w h0 h1 h2 h3 h4 h5
 ·rw [if_neg hc] at h
  exact absurd h (by simp)
theorem add_of (x y b : Int) (w : World) :
  Calls Try.prog 159 #[.int .u32 x, .int .u32 y, .int .u32 b] w fun e w' => e = .returned (.tuple #[.int .u32 (IntKind.u64.wrap (IntKind.u64.wrap (IntKind.u64.wrap x + IntKind.u64.wrap y) + IntKind.u64.wrap b) % 4294967296), .int .u32 (IntKind.u64.wrap (IntKind.u64.wrap (IntKind.u64.wrap x + IntKind.u64.wrap y) + IntKind.u64.wrap b) / 4294967296 % 4294967296)]) ∧ w' = w := by
 go_enter Try.func159, Try.ntmps159
 go_wp2
 go_ret2
 exact ⟨by first | rfl | (simp; done) | (simp [*]; done), rfl⟩
set_option maxHeartbeats 4000000 in
set_option maxRecDepth 100000 in
theorem take_any (g j n cap : Nat) (L vs : List Int) (A : Option Addr) (c : Nat) (t : Int) (k : Nat) (r1 : Bool) (r2 : List Int) (w : World) (hL : Bk w g L) (hj : j + n ≤ L.length) (hn : n < 1073741824) (hv : Kd.F (Kd.int .u32) w (fun k => k ≠ g) A vs.length vs)
  (h : impl_takeTimes.l0 k ((L.drop j).take n) vs t 0 0 (n : Int) 0 = some (r1, r2)) :
  Calls Try.prog 155 #[.slice (some ⟨g, j, none⟩) n cap, .slice A vs.length c, .int .u32 t] w fun e w' => e = .returned (.bool r1) ∧ Bk w' g (win L j n r2) ∧ w.grownBy w' (some g) := by
 have hu := Try.underlying108
 have hx0 : ((L.drop j).take n).length = n := by simp; omega
 have H0 := Aside0.mk h
 have HL := Aside0.mk (show Bk w g (win L j n ((L.drop j).take n)) by rw [win_self hj]; exact hL)
 have HV := Aside0.mk hv
 clear h hL hv
 go_enter Try.func155, Try.ntmps155
 go_wp2
 go_loopg [7, 8, 12] k (fun kq v7 v8 v12 wz => ∃ (x : List Int) (x7 x8 : Int) (i : Nat), v7 = .int .u64 x7 ∧ v8 = .int .u32 x8 ∧ v12 = .int .i64 (i : Int) ∧ i ≤ n ∧ x.length = n ∧ Aside0 (impl_takeTimes.l0 kq x vs t x7 x8 (n : Int) (i : Int) = some (r1, r2)) ∧ Aside0 (Bk wz g (win L j n x)) ∧ Aside0 (w.grownBy wz (some g)) ∧ Aside0 (kq ≤ k))
 case atStart => exact ⟨_, 0, 0, 0, rfl, rfl, rfl, by omega, hx0, H0, HL, ⟨grown_refl w _⟩, ⟨Nat.le_refl _⟩⟩
 case round =>
  clear H0 hx0
  obtain ⟨x, x7, x8, i, rfl, rfl, rfl, hi, hx, HA, HB, HG, HK⟩ := hrel
  cases gk with
  | zero => exact absurd HA.out (by simp [impl_takeTimes.l0])
  | succ k1 =>
   have H := HA.out
   clear HA
   simp only [impl_takeTimes.l0] at H
   by_cases hlt : i < n
   ·have p1 : decide ((i : Int) < (n : Int)) = true := decide_eq_true (by omega)
    have hlw : j + i < (win L j n x).length := by rw [win_len hj hx]; omega
    have q1 : wr.cell? ⟨g, j + i, none⟩ = some (.int .u32 (rd x (i : Int))) := by rw [HB.out.cell (j + i) hlw, win_at hj hx i hlt]
    have q2 : wr.frozen? ⟨g, j + i, none⟩ = false := HB.out.frozen _
    have a1 : (⟨g, j, none⟩ : Addr).add i = ⟨g, j + i, none⟩ := add_at g j i
    have e0 : decide (0 ≤ (i : Int)) = true := decide_eq_true (by omega)
    rw [if_pos (by omega)] at H
    by_cases hiv : i < vs.length
    ·have p2 : decide ((i : Int) < (vs.length : Int)) = true := decide_eq_true (by omega)
     rw [if_pos (by omega), if_pos (by omega), if_pos (by omega)] at H
     obtain ⟨⟨d, o⟩, h1, h2⟩ := Option.bind_eq_some_iff.mp H
     have h3 : impl_takeTimes.l0 k1 (x.set i d) vs t ((IntKind.u64.wrap (x7 + (IntKind.u64.wrap ((IntKind.u64.wrap t) * (IntKind.u64.wrap (rd vs (i : Int))))))) / 4294967296) o (n : Int) (wrap64 ((i : Int) + 1)) = some (r1, r2) := h2
     rw [wi (by omega) (by omega)] at h3
     have HS := Aside0.mk h1
     have H3 := Aside0.mk h3
     clear H h1 h2 h3
     obtain ⟨ad, e, hy⟩ := Kd.at_int (Kd.F_now (Kd.F_grown HV.out HG.out (fun k hk e => hk (Option.some.inj e)))) (i : Int) (by omega) (by omega)
     cases e
     rw [Int.toNat_natCast] at hy
     go_wp2_with (go_at_call 157; refine (sub_of HS.out _).mono ?_; rintro e w1 ⟨rfl, rfl⟩)
     go_roundg k1
     case rel => exact ⟨x.set i d, _, _, i + 1, rfl, rfl, by go_num, by omega, by simpa using hx, ⟨H3.out⟩, ⟨by rw [← win_set hj hx i hlt]; exact HB.out.put _ _⟩, ⟨grown_set HG.out _⟩, ⟨by have := HK.out; omega⟩⟩
     case measure => have := HK.out; omega
    ·have p2 : decide ((i : Int) < (vs.length : Int)) = false := decide_eq_false (by omega)
     rw [if_neg (by omega), if_pos (by omega), if_pos (by omega)] at H
     obtain ⟨⟨d, o⟩, h1, h2⟩ := Option.bind_eq_some_iff.mp H
     have h3 : impl_takeTimes.l0 k1 (x.set i d) vs t (x7 / 4294967296) o (n : Int) (wrap64 ((i : Int) + 1)) = some (r1, r2) := h2
     rw [wi (by omega) (by omega)] at h3
     have HS := Aside0.mk h1
     have H3 := Aside0.mk h3
     clear H h1 h2 h3
     go_wp2_with (go_at_call 157; refine (sub_of HS.out _).mono ?_; rintro e w1 ⟨rfl, rfl⟩)
     go_roundg k1
     case rel => exact ⟨x.set i d, _, _, i + 1, rfl, rfl, by go_num, by omega, by simpa using hx, ⟨H3.out⟩, ⟨by rw [← win_set hj hx i hlt]; exact HB.out.put _ _⟩, ⟨grown_set HG.out _⟩, ⟨by have := HK.out; omega⟩⟩
     case measure => have := HK.out; omega
   ·obtain rfl : i = n := by omega
    have p1 : decide ((i : Int) < (i : Int)) = false := decide_eq_false (by omega)
    rw [if_neg (by omega)] at H
    simp only [Option.some.injEq, Prod.mk.injEq] at H
    obtain ⟨rfl, rfl⟩ := H
    go_wp2
    go_ret
    exact ⟨rfl, HB.out, HG.out⟩
set_option maxHeartbeats 4000000 in
set_option maxRecDepth 100000 in
theorem give_any (g j n cap : Nat) (L vs : List Int) (A : Option Addr) (c : Nat) (k : Nat) (r : List Int) (w : World) (hL : Bk w g L) (hj : j + n ≤ L.length) (hn : n < 1073741824) (hv : Kd.F (Kd.int .u32) w (fun k => k ≠ g) A vs.length vs)
  (h : impl_giveBack.l0 k ((L.drop j).take n) vs 0 (n : Int) 0 = some r) :
  Calls Try.prog 156 #[.slice (some ⟨g, j, none⟩) n cap, .slice A vs.length c] w fun e w' => e = .returned (.tuple #[]) ∧ Bk w' g (win L j n r) ∧ w.grownBy w' (some g) := by
 have hu := Try.underlying108
 have hx0 : ((L.drop j).take n).length = n := by simp; omega
 have H0 := Aside0.mk h
 have HL := Aside0.mk (show Bk w g (win L j n ((L.drop j).take n)) by rw [win_self hj]; exact hL)
 have HV := Aside0.mk hv
 clear h hL hv
 go_enter Try.func156, Try.ntmps156
 go_wp2
 go_loopg [4, 9] k (fun kq v4 v9 wz => ∃ (x : List Int) (x4 : Int) (i : Nat), v4 = .int .u32 x4 ∧ v9 = .int .i64 (i : Int) ∧ i ≤ n ∧ x.length = n ∧ Aside0 (impl_giveBack.l0 kq x vs x4 (n : Int) (i : Int) = some r) ∧ Aside0 (Bk wz g (win L j n x)) ∧ Aside0 (w.grownBy wz (some g)) ∧ Aside0 (kq ≤ k))
 case atStart => exact ⟨_, 0, 0, rfl, rfl, by omega, hx0, H0, HL, ⟨grown_refl w _⟩, ⟨Nat.le_refl _⟩⟩
 case round =>
  clear H0 hx0
  obtain ⟨x, x4, i, rfl, rfl, hi, hx, HA, HB, HG, HK⟩ := hrel
  cases gk with
  | zero => exact absurd HA.out (by simp [impl_giveBack.l0])
  | succ k1 =>
   have H := HA.out
   clear HA
   simp only [impl_giveBack.l0] at H
   by_cases hlt : i < n
   ·have p1 : decide ((i : Int) < (n : Int)) = true := decide_eq_true (by omega)
    have hlw : j + i < (win L j n x).length := by rw [win_len hj hx]; omega
    have q1 : wr.cell? ⟨g, j + i, none⟩ = some (.int .u32 (rd x (i : Int))) := by rw [HB.out.cell (j + i) hlw, win_at hj hx i hlt]
    have q2 : wr.frozen? ⟨g, j + i, none⟩ = false := HB.out.frozen _
    have a1 : (⟨g, j, none⟩ : Addr).add i = ⟨g, j + i, none⟩ := add_at g j i
    have e0 : decide (0 ≤ (i : Int)) = true := decide_eq_true (by omega)
    rw [if_pos (by omega)] at H
    by_cases hiv : i < vs.length
    ·have p2 : decide ((i : Int) < (vs.length : Int)) = true := decide_eq_true (by omega)
     rw [if_pos (by omega), if_pos (by omega), if_pos (by omega)] at H
     obtain ⟨⟨d, o⟩, h1, h2⟩ := Option.bind_eq_some_iff.mp H
     have h3 : impl_giveBack.l0 k1 (x.set i d) vs o (n : Int) (wrap64 ((i : Int) + 1)) = some r := h2
     rw [wi (by omega) (by omega)] at h3
     simp only [bits_Add32.f, Option.some.injEq, Prod.mk.injEq] at h1
     obtain ⟨rfl, rfl⟩ := h1
     have H3 := Aside0.mk h3
     clear H h2 h3
     obtain ⟨ad, e, hy⟩ := Kd.at_int (Kd.F_now (Kd.F_grown HV.out HG.out (fun k hk e => hk (Option.some.inj e)))) (i : Int) (by omega) (by omega)
     cases e
     rw [Int.toNat_natCast] at hy
     go_wp2_with (go_at_call 159; refine (add_of _ _ _ _).mono ?_; rintro e w1 ⟨rfl, rfl⟩)
     go_roundg k1
     case rel => exact ⟨_, _, i + 1, rfl, by go_num, by omega, by simpa using hx, ⟨H3.out⟩, ⟨by rw [← win_set hj hx i hlt]; exact HB.out.put _ _⟩, ⟨grown_set HG.out _⟩, ⟨by have := HK.out; omega⟩⟩
     case measure => have := HK.out; omega
    ·have p2 : decide ((i : Int) < (vs.length : Int)) = false := decide_eq_false (by omega)
     rw [if_neg (by omega), if_pos (by omega), if_pos (by omega)] at H
     obtain ⟨⟨d, o⟩, h1, h2⟩ := Option.bind_eq_some_iff.mp H
     have h3 : impl_giveBack.l0 k1 (x.set i d) vs o (n : Int) (wrap64 ((i : Int) + 1)) = some r := h2
     rw [wi (by omega) (by omega)] at h3
     simp only [bits_Add32.f, Option.some.injEq, Prod.mk.injEq] at h1
     obtain ⟨rfl, rfl⟩ := h1
     have H3 := Aside0.mk h3
     clear H h2 h3
     go_wp2_with (go_at_call 159; refine (add_of _ _ _ _).mono ?_; rintro e w1 ⟨rfl, rfl⟩)
     go_roundg k1
     case rel => exact ⟨_, _, i + 1, rfl, by go_num, by omega, by simpa using hx, ⟨H3.out⟩, ⟨by rw [← win_set hj hx i hlt]; have e : IntKind.u64.wrap 0 = 0 := rfl; rw [e, Int.add_zero]; exact HB.out.put _ _⟩, ⟨grown_set HG.out _⟩, ⟨by have := HK.out; omega⟩⟩
     case measure => have := HK.out; omega
   ·obtain rfl : i = n := by omega
    have p1 : decide ((i : Int) < (i : Int)) = false := decide_eq_false (by omega)
    rw [if_neg (by omega)] at H
    obtain rfl := Option.some.inj H
    go_wp2
    go_end0
    exact ⟨rfl, HB.out, HG.out⟩
end Go.Proofs.Ytkafbmanmffliaa.Db

/- Rows of digits that a call has made; digits times a power of two. -/
namespace Go.Proofs.Ytkafbmanmffliaa.Dc
open Go Go.RowKit YtkafbmanmffliaaW.PrintWords YtkafbmanmffliaaW.PrintLast YtkafbmanmffliaaW.PrintMore Q Bg PuG Da Db
def U (B : Nat) (W : World) (v : Value) (xs : List Int) : Prop := (Kd.int .u32).R 146 W B (fun _ => True) v xs
variable {B : Nat} {W w1 : World} {u v v1 : Value} {xs ys : List Int}
theorem U.of {ok : Nat → Prop} (h : (Kd.int .u32).R 146 W B ok v xs) : U B W v xs := Kd.R_mono h (fun _ _ => trivial)
theorem U.lt (h : U B W v xs) {k : Nat} (hk : v.ownBlock = some k) : k < W.heap.size := Kd.R_lt h k hk
theorem U.below (h : U B W v xs) (hb : Below W.heap.size W w1) : U B w1 v xs := Kd.R_below h hb
theorem U.lower {B' : Nat} (h : U B W v xs) (hb : B' ≤ B) : U B' W v xs := Kd.R_lower h hb
theorem U.slice (h : U B W v xs) : ∃ A c, v = .slice A xs.length c := Kd.R_slice h
theorem U.reads {A : Option Addr} {n c : Nat} (h : U B W (.slice A n c) xs) : n = xs.length ∧ n ≤ c ∧ (Kd.int .u32).C W A xs.length xs := Kd.R_reads' h
theorem U.take {A : Option Addr} {n c m : Nat} (h : U B W (.slice A n c) xs) (hm : m ≤ xs.length) : U B W (.slice A m c) (xs.take m) := Kd.R_take h hm
theorem U.nil_new (hB : B ≤ W.heap.size) : U B (W.alloc (.cells #[] 146)) (.slice (some ⟨W.heap.size, 0, none⟩) 0 0) [] := by
 have ho : (W.alloc (.cells #[] 146)).ownsRow B 146 1 (.slice (some ⟨W.heap.size, 0, none⟩) 0 0) ([] : List Int).length (encs (Value.int .u32) []) :=
  ⟨rfl, .inr ⟨W.heap.size, 0, #[], rfl, hB, by simpa using heap_alloc_new W _, Nat.le_refl _, by simp [maxLen], rfl, rfl⟩⟩
 exact Kd.R_of_own ho (fun _ _ => trivial)
theorem U.nil : U B W (.slice none 0 0) [] := Kd.R_nil _ _ _ _ _
theorem U.append {P : Program} {ops : Array Oper} {Q : Exit → Act → World → Prop} {rest : List Oper} {o : Oper} {a : Act} {w0 : World} (hP : P = Try.prog) (hgd : o.guard = none) (s x : Operand)
  (ho : o.op = .call { callee := .builtin .append, args := #[s, x], argTypes := #[108, 108] }) (p : Int) (hs : a.eval s = v) (hx : a.eval x = .slice (some ⟨W.heap.size, 0, none⟩) 1 1)
  (HO : U B W v xs) (HB : Below B w0 W) (hbase : B ≤ W.heap.size) (hl : xs.length ≤ 1073741824)
  (h : ∀ v1 w1, U B w1 v1 (xs ++ [p]) → Below B w0 w1 → W.grownBy w1 v.ownBlock → (v1.ownBlock = v.ownBlock ∨ ∃ b, v1.ownBlock = some b ∧ W.heap.size ≤ b) → wpList P ops Q rest (a.put o.dst v1) w1) :
  wpList P ops Q (o :: rest) a (W.alloc (.cells #[.int .u32 p] 146)) := by
 subst hP
 exact Kd.R_append (Kd.int .u32) (w0 := w0) B hgd s x 108 146 (.int .u32 0) 4 ho Try.underlying108 infoU rfl (by decide) (by omega) v xs p [.int .u32 p] (fun _ => True) (fun _ => False) hs hx rfl (fun _ hk => hk.elim) (fun _ _ => trivial) HO HB hbase (by omega) h
theorem mkU (m : Nat) (hm : m ≤ 1073741824) : ∀ W : World, (Instr.makeSlice 108 (.int .i64 0) (.int .i64 (m : Int))).run Try.prog W = .ok (.slice (some ⟨W.heap.size, 0, none⟩) 0 m) (W.alloc (.cells (madeCells #[.int .u32 0] m) 146)) := fun W =>
 run_make_room 108 146 (.int .u32 0) 4 Try.underlying108 infoU rfl .i64 .i64 m (by omega) (by omega) W
theorem U.room (m : Nat) (hm : m ≤ 1073741824) (hB : B ≤ W.heap.size) : U B (W.alloc (.cells (madeCells #[.int .u32 0] m) 146)) (.slice (some ⟨W.heap.size, 0, none⟩) 0 m) [] := by
 have ho := World.ownsRow_made (base := B) (e := 146) (size := 1) W (madeCells #[.int .u32 0] m) m hB (by simp [maxLen]; omega) (by simp [madeCells])
 exact Kd.R_of_own (xs := []) ho (fun _ _ => trivial)
theorem or_shift {c x : Int} {s : Nat} (hs : s ≤ 31) (c0 : 0 ≤ c) (c1 : c < 2 ^ s) (x0 : 0 ≤ x) (x1 : x < 4294967296) : Go.bits .or .u64 c (x * 2 ^ s) = c + x * 2 ^ s := by
 have hp : (2 : Int) ^ s ≤ 2 ^ 31 := by exact_mod_cast Nat.pow_le_pow_right (n := 2) (by decide) hs
 have hp0 : (0 : Int) < 2 ^ s := Int.pow_pos (by decide)
 have e31 : (2 : Int) ^ 31 = 2147483648 := by decide
 have h1 : x * 2 ^ s ≤ x * 2147483648 := Int.mul_le_mul_of_nonneg_left (by omega) x0
 exact bits_join_low .u64 64 (by decide) wraps_u64 s c (x * 2 ^ s) c0 c1 (by omega) (Int.mul_nonneg x0 (by omega)) (Int.mul_emod_left _ _) (by omega)
set_option maxHeartbeats 4000000 in
set_option maxRecDepth 100000 in
theorem shift_any (A : Option Addr) (c : Nat) (ds : List Int) (s : Nat) (w : World) (hC : Kd.C (Kd.int .u32) w A ds.length ds) (hc : ds.length ≤ c) (hd : Dig ds) (hl : ds.length < 1073741824) (hs : s ≤ 31) :
  Calls Try.prog 154 #[.slice A ds.length c, .int .u64 (s : Int)] w fun e w' => ∃ v r, e = .returned v ∧ U w.heap.size w' v r ∧ Dig r ∧ Trim r ∧ val r = val ds * 2 ^ s ∧ r.length ≤ ds.length + 1 ∧ Below w.heap.size w w' := by
 have hu := Try.underlying108
 have e2 : (s : Int) / 32 = 0 := by omega
 have e4 : (s : Int) % 32 = (s : Int) := by omega
 have mk := mkU (ds.length + 1) (by omega)
 rw [show ((ds.length + 1 : Nat) : Int) = (ds.length : Int) + 1 by omega] at mk
 have HC := Aside0.mk hC
 have HCC := Aside0.mk hc
 have HD := Aside0.mk hd
 clear hC hc hd
 go_enter Try.func154, Try.ntmps154
 go_wp2
 have tb := Aside0.mk (below_alloc (Below.refl w.heap.size w) (.cells (madeCells #[.int .u32 0] (ds.length + 1)) 146))
 have t0 := Aside0.mk (U.room (B := w.heap.size) (W := w) (ds.length + 1) (by omega) (Nat.le_refl _))
 have hp0 : (0 : Int) < 2 ^ s := Int.pow_pos (by decide)
 have hp1 : (2 : Int) ^ s ≤ 2147483648 := by
  have : (2 : Int) ^ s ≤ 2 ^ 31 := by exact_mod_cast Nat.pow_le_pow_right (n := 2) (by decide) hs
  have e31 : (2 : Int) ^ 31 = 2147483648 := by decide
  omega
 go_loopw [5, 6, 22] (fun v5 v6 v22 wz => ∃ (i : Nat) (ys : List Int) (cr : Int), v6 = .int .u64 cr ∧ v22 = .int .i64 (i : Int) ∧ i ≤ ds.length ∧ ys.length = i ∧ Aside0 (U w.heap.size wz v5 ys) ∧ Aside0 (Dig ys ∧ 0 ≤ cr ∧ cr < 2 ^ s ∧ val ys + bp i * cr = val (ds.take i) * 2 ^ s) ∧ Aside0 (Below w.heap.size w wz)) (fun _ _ v _ => ds.length - (intOf v).toNat)
 case atStart => exact ⟨0, [], 0, rfl, rfl, by omega, rfl, t0, ⟨Dig.nil, by omega, hp0, by simp [val]⟩, tb⟩
 case round =>
  clear t0 tb
  obtain ⟨i, ys, cr, rfl, rfl, hi, hy, HU, HF, HB⟩ := hrel
  by_cases hlt : i < ds.length
  ·have p1 : decide ((i : Int) < (ds.length : Int)) = true := decide_eq_true (by omega)
   obtain ⟨ad, e, hx⟩ := Kd.at_int (Kd.C_below HC.out HB.out) (i : Int) (by omega) (by omega)
   cases e
   rw [Int.toNat_natCast] at hx
   have hdi := HD.out.at i hlt
   rw [rd_at i hlt] at hx
   obtain ⟨x, hxx⟩ : ∃ x, x = ds[i] := ⟨_, rfl⟩
   rw [← hxx] at hx hdi
   obtain ⟨hd1, hc0, hc1, hv⟩ := HF.out
   have hm1 : x * 2 ^ s ≤ x * 2147483648 := Int.mul_le_mul_of_nonneg_left hp1 hdi.1
   have hm0 : 0 ≤ x * 2 ^ s := Int.mul_nonneg hdi.1 (by omega)
   have hm2 : x * 2 ^ s ≤ 4294967295 * 2 ^ s := Int.mul_le_mul_of_nonneg_right (by omega) (by omega)
   obtain ⟨m, hm⟩ : ∃ m, m = cr + x * 2 ^ s := ⟨_, rfl⟩
   have hor : bits BinOp.or IntKind.u64 cr (IntKind.u64.wrap (IntKind.u64.wrap x * 2 ^ s)) = m := by
    rw [w64 hdi.1 (by omega), w64 hm0 (by omega), or_shift hs hc0 hc1 hdi.1 hdi.2, hm]
   have hmB : m / 4294967296 < 2 ^ s := Int.ediv_lt_of_lt_mul (by omega) (by omega)
   have HN := Aside0.mk (show Dig (ys ++ [m % 4294967296]) ∧ 0 ≤ m / 4294967296 ∧ m / 4294967296 < 2 ^ s ∧ val (ys ++ [m % 4294967296]) + bp (i + 1) * (m / 4294967296) = val (ds.take (i + 1)) * 2 ^ s by
    refine ⟨Dig.append.2 ⟨hd1, Dig.cons.2 ⟨by omega, Dig.nil⟩⟩, by omega, hmB, ?_⟩
    rw [val_append, hy, val_take_succ i hlt, ← hxx, bp_succ]
    simp only [val]
    have e := Int.mul_ediv_add_emod m 4294967296
    generalize m / 4294967296 = q at *
    generalize m % 4294967296 = r at *
    grind)
   clear hd1 hc0 hc1 hv hm1 hm0 hm2 hm hmB HF hxx hdi
   go_wp2_with ((with_reducible refine gate_builtin (b := .append) (xs := #[.tmp 33, .tmp 36]) rfl ?_); at_builtin; refine U.append (w0 := w) rfl rfl (.tmp 33) (.tmp 36) rfl (m % 4294967296) rfl rfl HU.out HB.out HB.out.size (by omega) ?_; intro v1 w4 h1 h2 h3 h4; have n1 := Aside0.mk h1; have n2 := Aside0.mk h2; clear h1 h2 h3 h4)
   go_roundw
   case rel => exact ⟨i + 1, _, _, rfl, by go_num, by omega, by simp [hy], n1, HN, n2⟩
   case measure => simp [intOf]; omega
  ·obtain rfl : i = ds.length := by omega
   have p1 : decide ((ds.length : Int) < (ds.length : Int)) = false := decide_eq_false (by omega)
   obtain ⟨hd1, hc0, hc1, hv⟩ := HF.out
   have HN := Aside0.mk (show Dig (ys ++ [cr % 4294967296]) ∧ val (ys ++ [cr % 4294967296]) = val ds * 2 ^ s by
    have e : cr % 4294967296 = cr := by omega
    rw [e]
    refine ⟨Dig.append.2 ⟨hd1, Dig.cons.2 ⟨by omega, Dig.nil⟩⟩, ?_⟩
    rw [val_append, hy]
    rw [val_take_all (Nat.le_refl _)] at hv
    simp only [val, Int.mul_zero, Int.add_zero]
    exact hv)
   obtain ⟨zs, hzs⟩ : ∃ zs, zs = ys ++ [cr % 4294967296] := ⟨_, rfl⟩
   have hzl : zs.length = ds.length + 1 := by rw [hzs]; simp [hy]
   rw [← hzs] at HN
   have HZ := Aside0.mk hzs
   have HL := Aside0.mk hzl
   clear hd1 hc0 hc1 hv HF hzs hzl
   go_wp2_with ((with_reducible refine gate_builtin (b := .append) (xs := #[.tmp 41, .tmp 44]) rfl ?_); at_builtin; refine U.append (w0 := w) rfl rfl (.tmp 41) (.tmp 44) rfl (cr % 4294967296) rfl rfl HU.out HB.out HB.out.size (by omega) ?_; intro v1 w4 h1 h2 h3 h4; rw [← HZ.out] at h1; obtain ⟨A1, c1, hv1⟩ := U.slice h1; subst hv1; have n1 := Aside0.mk h1; have n2 := Aside0.mk h2; clear h1 h2 h3 h4)
   refine (trim_any A1 c1 zs w4 (U.reads n1.out).2.2 (U.reads n1.out).2.1).mono ?_
   rintro e w5 ⟨rfl, rfl⟩
   go_wp2
   go_ret
   have hle := tl_le zs zs.length
   have hv := tl_val zs zs.length (Nat.le_refl _)
   rw [List.take_of_length_le (Nat.le_refl _)] at hv
   exact ⟨_, _, rfl, n1.out.take hle, HN.out.1.take _, tl_trim zs zs.length (Nat.le_refl _), by rw [hv]; exact HN.out.2, by rw [List.length_take, HL.out]; omega, n2.out⟩
end Go.Proofs.Ytkafbmanmffliaa.Dc

