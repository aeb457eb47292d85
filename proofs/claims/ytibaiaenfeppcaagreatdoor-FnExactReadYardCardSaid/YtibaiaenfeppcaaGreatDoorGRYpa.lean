/- Parts of the proof that the law of this seat holds: Q0, Sv, Gr, Cc, Shelf, Sw, Ha, Yl, Yv, Yw, Yg, Ym, Tb, Jn, Sp, Q96, Q99, Q100, Q101, Q93, Q94, Q95, Q1, Q5, Q6, PuYa, Lw, RyW, Q18, Ri, Q48, Q49, Q58, Q59, Q60, Q91. -/
import Derived.Test.YtibaiaenfeppcaaGreatDoorProg
import Derived.Below
import Derived.Deep.Draws
import Derived.Deep.AppendLies
import Derived.Maps.AppendAt
import Derived.OwnWalk
import Derived.Laws.BytesArg
import Derived.Laws.MakeOwn
import Derived.Laws.OwnMore
import Derived.Deep.OwnRows
import Derived.Tactics
import Derived.Lib.ConvBytes
import Derived.Laws.Slices
import Derived.WalkKit
import Derived.KernelRfl
import Derived.RowKit3
import Derived.Deep.LoopGhost
import Derived.Deep.QuietTactic
import Derived.BigQuiet
import Derived.WideLaws
import Derived.Deep.DeepCutAuto
import Derived.Deep.CutBlock
import Derived.Deep.RegionHeld3
import Derived.Laws.Rows
import Derived.Lib.AppendStr
import Derived.ArgAppend
import Derived.Laws.IdiomCopy
import Derived.OrdersHeld
import Derived.Laws.BitsLemmas
import Derived.RowKit
import Derived.Test.YtibaiaenfeppcaaGreatDoorGRYw
import Derived.RangeFuncNested
import Derived.RangeFuncBound
import Derived.RangeFuncCalls
import Derived.RangeFuncLeaves
import Derived.RangeFuncFrom
import Derived.RangeFuncBox
import Derived.Shelf.Abstract
import Derived.Shelf.RegionOpen
import Derived.OwnWalkIn
import Derived.TacticsInMore
import Derived.LoopNIn
import Derived.LoopIn
import Derived.Laws.AppendOwn
import Derived.Shelf.Strings.Builder1
import Derived.Shelf.Strings.Builder2
import Derived.Shelf.Strings.OnBuilder
import Derived.Shelf.Small.Bits
import Derived.Shelf.Utf8.RuneCount
import Derived.Shelf.Strconv.Itoa0
import Derived.Shelf.Strconv.Itoa1
import Derived.Shelf.LaysM
import Derived.Shelf.Strconv.Itoa2
import Derived.Shelf.Strconv.Itoa3
import Derived.Shelf.Strconv.Itoa4
import Derived.Shelf.Strconv.ParseIntEmpty
import Derived.Shelf.Strconv.Clone
import Derived.Shelf.Strconv.SyntaxError
import Derived.Shelf.LaysC
import Derived.Shelf.Strconv.ToError
import Derived.Shelf.Strconv.Lower
import Derived.Shelf.Strconv.ParseUint10
import Derived.Shelf.Strconv.ParseUint10Empty
import Derived.Shelf.Strconv.ParseUint10Any
import Derived.Shelf.Strconv.ParseInt10
import Derived.Shelf.Strconv.RangeError
import Derived.Shelf.Strconv.ToErrorRange
import Derived.Shelf.Strconv.ParseUintEmpty
import Derived.Shelf.Strconv.ParseUint10b64
import Derived.Shelf.Strconv.ParseUint10b32
import Derived.Shelf.Strconv.ParseUint10b16
import Derived.Shelf.Strconv.ParseUint10b8
import Derived.Shelf.Strconv.ParseUint10At
import Derived.Shelf.Strconv.ParseInt10At64
import Derived.Shelf.Strconv.ParseInt10At32
import Derived.Shelf.Strconv.ParseInt10At16
import Derived.Shelf.Strconv.ParseInt10At8
import Derived.Shelf.Strconv.ParseInt10All
import Derived.Shelf.Strconv.ParseIntPublic10
import Derived.Shelf.Strconv.ErrVarParseInt
import Derived.Shelf.Strings.Search1
import Derived.Shelf.Strings.Search2
import Derived.Shelf.Strings.Search3
import Derived.Shelf.Strings.Cut
import Derived.Shelf.Strings.Count
import Derived.Shelf.Strings.Shaped
import Derived.Shelf.Strings.Split
import Derived.Shelf.Strings.SplitShaped
import Derived.Shelf.Unicode.Decode
import Derived.Shelf.Strings.RuneCount
import Derived.Shelf.Strings.Explode
import Derived.Shelf.Unicode.DecodeSlow
import Derived.Shelf.Unicode.DecodeAny
import Derived.Ground.SlgmProg
import Derived.Shelf.SortM.Plain
import Derived.Shelf.SortM.SortNone
import Derived.Sort.OwnSortedInts
import Derived.Lib.Hide
import Derived.Outline
import Derived.Deep.RegionHeld
import Derived.Deep.RegionWith
import Derived.Lib.AtoiErrMem
import Derived.Lib.ParseIntBTie
set_option linter.unusedVariables false
set_option linter.unusedSimpArgs false
-- made by a patched copy of print.sh: this session's own
namespace Go.Proofs.YtibaiaenfeppcaaGreatDoor.Q
open Go.RowKit Go.Proofs.YtibaiaenfeppcaaGreatDoorW.PrintWords Go.Proofs.YtibaiaenfeppcaaGreatDoorW.PrintLast Go.Proofs.YtibaiaenfeppcaaGreatDoorW.PrintMore
attribute [local go_sem] max2_int min2_int max_two min_two max_three min_three max_four min_four   -- for this text's walks alone
set_option linter.unusedVariables false
set_option linter.unusedSimpArgs false



def errW : Option Int → Value
  | none => .nilIface
  | some c => .iface 136 (.int .i64 c)
theorem errW_none : errW none = .nilIface := rfl
theorem errW_some (c : Int) : errW (some c) = .iface 136 (.int .i64 c) := rfl

theorem info2 : (Tryz.prog.info? 2).map (fun i => (i.zero, i.size, i.bytes)) = some (some (.int .i64 0), 1, 8) := by kernel_rfl
theorem info35 : (Tryz.prog.info? 35).map (fun i => (i.zero, i.size, i.bytes)) = some (some (.slice none 0 0), 1, 24) := by kernel_rfl
-- the values' own types
def rd_L2 (xs : List (List Int)) (i : Int) : (List Int) := xs.getD i.toNat ([] : List Int)
theorem at_L2 {w : World} {A : Option Addr} {n : Nat} {xs : List (List Int)} (h : Kd.C (Kd.slice 2 (Kd.int .i64)) w A n xs) (i : Int) (h0 : 0 ≤ i) (h1 : i < n) : ∃ ad A0 c0, A = some ad ∧ w.cell? (ad.add i.toNat) = some (.slice A0 (rd_L2 xs i).length c0) ∧ (rd_L2 xs i).length ≤ c0 ∧ (Kd.int .i64).C w A0 (rd_L2 xs i).length (rd_L2 xs i) := by
  obtain ⟨ad, c, e, _, hK, hc0⟩ := Kd.C_get h ([] : List Int) i h0 h1
  have hc : ∀ j u, c[j]? = some u → w.cell? (ad.add (i.toNat * 1 + j)) = some u := hc0
  obtain ⟨A0, c0, rfl, l0, g0⟩ := hK
  exact ⟨ad, A0, c0, e, by have hq := hc 0 _ rfl; rwa [Nat.mul_one, Nat.add_zero] at hq, l0, g0⟩

def rd_L4 (xs : List (List ByteArray)) (i : Int) : (List ByteArray) := xs.getD i.toNat ([] : List ByteArray)
def rd_L5 (xs : List (List (List Int))) (i : Int) : (List (List Int)) := xs.getD i.toNat ([] : List (List Int))
end Go.Proofs.YtibaiaenfeppcaaGreatDoor.Q

/- slices.Values and slices.Sorted at []int64: the iterator over a slice that is read, and what is collected out of it, sorted. -/
namespace Go.Proofs.YtibaiaenfeppcaaGreatDoor.Sv
open Go.RowKit Go.Shelf Go.Proofs
attribute [local go_sem] Oper.semAt_some
/-- The first k of a list. -/
def upto (zs : List Int) (k : Nat) : List Int := (List.range k).map fun j => zs[j]?.getD 0
theorem upto_succ (zs : List Int) (k : Nat) : upto zs (k + 1) = upto zs k ++ [zs[k]?.getD 0] := by simp [upto, List.range_succ]
theorem upto_len (zs : List Int) (k : Nat) : (upto zs k).length = k := by simp [upto]
theorem upto_take (zs : List Int) {k : Nat} (hk : k ≤ zs.length) : upto zs k = zs.take k := by
  apply List.ext_getElem
  · simp [upto, hk]
  · intro i h1 h2
    have : i < zs.length := by simp [upto] at h1; omega
    simp [upto, this]
/-- A slice value that holds numbers in a block below n₀, or nil. -/
def Ints (n₀ : Nat) (W : World) (sv : Value) (zs : List Int) : Prop :=
  (sv = .slice none 0 0 ∧ zs = []) ∨ ∃ b off cap, sv = .slice (some ⟨b, off, none⟩) zs.length cap ∧ b < n₀ ∧ ∀ j, j < zs.length → W.cell? ⟨b, off + j, none⟩ = some (.int .i64 (zs[j]?.getD 0))
theorem Ints.below {n₀ : Nat} {A B : World} (h : Below n₀ A B) {sv : Value} {zs : List Int} : Ints n₀ A sv zs → Ints n₀ B sv zs
  | .inl e => .inl e
  | .inr ⟨b, off, cap, e, hb, hc⟩ => .inr ⟨b, off, cap, e, hb, fun j hj => (h.cell (p := ⟨b, off + j, none⟩) hb).trans (hc j hj)⟩
set_option maxRecDepth 100000 in
set_option maxHeartbeats 2000000 in
theorem iter_in (F : Fence) (n : Nat) (h7 : F.fn 68) (hro : F.round = none) (hn : 1 ≤ n) (l Bs n₀ b off len cap : Nat) (zs : List Int) (hreach : len * 8 ≤ 140737488351232) (hb : b < n₀) (J Jx : List Int → World → Prop)
    (hY : ∀ pre x W, J pre W → pre.length < len → YieldAt F (n - 1) Tryz.prog l #[.int .i64 x] W fun e W' =>
      (e = .returned (.bool true) ∧ J (pre ++ [x]) W' ∧ Below n₀ W W') ∨ (e = .returned (.bool false) ∧ Jx (pre ++ [x]) W'))
    (W : World) (hBs : W.cell? ⟨Bs, 0, none⟩ = some (.slice (some ⟨b, off, none⟩) len cap)) (hc : ∀ j, j < len → W.cell? ⟨b, off + j, none⟩ = some (.int .i64 (zs[j]?.getD 0))) (h0 : J [] W) :
    CallsIn F n Tryz.prog 68 #[.func (.yield l) #[] #[], .pointer (some ⟨Bs, 0, none⟩)] W fun e W' => (∃ v, e = .returned v) ∧
      (J (upto zs len) W' ∨ (∃ k, k ≤ len ∧ Jx (upto zs k) W')) := by
  refine callsIn_of_wp Tryz.func68 rfl h7 ?_ hro
  simp only [Tryz.ntmps68, List.size_toArray, List.length_cons, List.length_nil, Nat.reduceAdd, Nat.reduceSub, Array.replicate_succ, Array.replicate_zero, List.push_toArray, List.append_toArray, List.nil_append, List.cons_append]
  gi_wp2
  gi_loopw [7] (fun i wr => ∃ k : Nat, k ≤ len ∧ i = .int .i64 k ∧ J (upto zs k) wr ∧ Below n₀ W wr)
    (fun i _ => len - (intOf i).toNat)
  case atStart => exact ⟨0, Nat.zero_le _, rfl, h0, Below.refl _ _⟩
  case round =>
    obtain ⟨k, hk, rfl, hJs, hnx⟩ := hrel
    have hcx : k < len → wr.cell? ⟨b, off + k, none⟩ = some (.int .i64 (zs[k]?.getD 0)) := fun h => (hnx.cell (p := ⟨b, off + k, none⟩) hb).trans (hc k h)
    by_cases hlt : k < len
    · obtain ⟨fn, tmps, assign, body, hy, hR⟩ := hY _ (zs[k]?.getD 0) wr hJs (by rw [upto_len]; exact hlt)
      have hcx' := hcx hlt
      gi_wp2
      refine hR.mono ?_
      rintro e W3 (⟨rfl, hJ3, hk3⟩ | ⟨rfl, hJx3⟩)
      · gi_wp2
        go_roundw
        case rel => exact ⟨k + 1, by omega, by simp, by rw [upto_succ]; exact hJ3, hnx.trans hk3⟩
        case measure => simp [intOf]; omega
      · gi_wp2
        refine bodyPost_ret (results_none rfl _ _ _) rfl ?_
        exact ⟨⟨_, rfl⟩, .inr ⟨k + 1, by omega, by rw [upto_succ]; exact hJx3⟩⟩
    · obtain rfl : k = len := by omega
      gi_wp2
      go_end0
      exact ⟨⟨_, rfl⟩, .inl hJs⟩
set_option maxRecDepth 100000 in
set_option maxHeartbeats 1000000 in
theorem iter_nil_in (F : Fence) (n : Nat) (h7 : F.fn 68) (hro : F.round = none) (l Bs : Nat) (J : List Int → World → Prop) (W : World) (hBs : W.cell? ⟨Bs, 0, none⟩ = some (.slice none 0 0)) (h0 : J [] W) :
    CallsIn F n Tryz.prog 68 #[.func (.yield l) #[] #[], .pointer (some ⟨Bs, 0, none⟩)] W fun e W' => (∃ v, e = .returned v) ∧ J [] W' := by
  refine callsIn_of_wp Tryz.func68 rfl h7 ?_ hro
  simp only [Tryz.ntmps68, List.size_toArray, List.length_cons, List.length_nil, Nat.reduceAdd, Nat.reduceSub, Array.replicate_succ, Array.replicate_zero, List.push_toArray, List.append_toArray, List.nil_append, List.cons_append]
  gi_wp2
  gi_loopw [7] (fun i wr => i = .int .i64 0 ∧ J [] wr) (fun _ _ => 0)
  case atStart => exact ⟨rfl, h0⟩
  case round =>
    obtain ⟨rfl, hJs⟩ := hrel
    gi_wp2
    go_end0
    exact ⟨⟨_, rfl⟩, hJs⟩
set_option maxHeartbeats 1000000 in
theorem values_in (F : Fence) (n : Nat) (h5 : F.fn 49) (hro : F.round = none) (a : Option Addr) (len cap : Nat) (w : World) :
    CallsIn F n Tryz.prog 49 #[.slice a len cap] w fun e w' => e = .returned (.func (.func 68) #[] #[.pointer (some ⟨w.heap.size, 0, none⟩)]) ∧ w' = w.alloc (.cells #[.slice a len cap] 35) := by
  refine callsIn_of_wp Tryz.func49 rfl h5 ?_ hro
  simp only [Tryz.ntmps49, List.size_toArray, List.length_cons, List.length_nil, Nat.reduceAdd, Nat.reduceSub, Array.replicate_succ, Array.replicate_zero, List.push_toArray, List.append_toArray, List.nil_append, List.cons_append]
  gi_wp2
  go_ret
  exact ⟨rfl, rfl⟩
set_option maxHeartbeats 1000000 in
theorem iter_stops (F : Fence) (n : Nat) (h7 : F.fn 68) (hro : F.round = none) (hn : 1 ≤ n) (Bs n₀ : Nat) (sv : Value) (zs : List Int) (hreach : zs.length * 8 ≤ 140737488351232) (w : World) (hBs : Bs < w.heap.size) (hn₀ : n₀ ≤ w.heap.size)
    (hc : w.cell? ⟨Bs, 0, none⟩ = some sv) (hI : Ints n₀ w sv zs) :
    SeqStopsK F n Tryz.prog 68 #[.pointer (some ⟨Bs, 0, none⟩)] (fun x : Int => #[Value.int .i64 x]) (Below n₀) (fun ys => ys = zs) (fun pre => pre <+: zs) zs.length w := fun l J Jx W hW _ _ hY h0 => by
  have hc' := (hW.cell (p := ⟨Bs, 0, none⟩) hBs).trans hc
  rcases hI.below (hW.mono hn₀) with ⟨rfl, rfl⟩ | ⟨b, off, cap, rfl, hb, hcs⟩
  · exact (iter_nil_in F n h7 hro l Bs J W hc' h0).mono fun e W' ⟨he, hj⟩ => ⟨he, .inl ⟨_, rfl, hj⟩⟩
  · refine (iter_in F n h7 hro hn l Bs n₀ b off zs.length cap zs hreach hb J Jx hY W hc' hcs h0).mono ?_
    rintro e W' ⟨he, hj | ⟨k, hk, hj⟩⟩
    · exact ⟨he, .inl ⟨_, by rw [upto_take zs (Nat.le_refl _), List.take_length], hj⟩⟩
    · exact ⟨he, .inr ⟨_, by rw [upto_take zs hk]; exact List.take_prefix _ _, hj⟩⟩
theorem infoI : (Tryz.prog.info? 2).map (fun i => (i.zero, i.size, i.bytes)) = some (some (.int .i64 0), 1, 8) := by kernel_rfl
set_option maxRecDepth 100000 in
set_option maxHeartbeats 2000000 in
/-- slices.AppendSeq at no slice: what comes is appended one by one. -/
theorem append_in (F : Fence) (n : Nat) (hA : F.fn 99) (hV : F.fn 68) (hro : F.round = none) (hn : 2 ≤ n) (lb : Array Value) (zs : List Int) (hlen : zs.length ≤ 1000000) (w : World)
    (hseq : SeqStopsK F (n - 1) Tryz.prog 68 lb (fun x : Int => #[Value.int .i64 x]) (Below w.heap.size) (fun ys => ys = zs) (fun pre => pre <+: zs) zs.length w) :
    CallsIn F n Tryz.prog 99 #[.slice none 0 0, .func (.func 68) #[] lb] w fun e w' => ∃ v, e = .returned v ∧ w'.ownsRow w.heap.size 2 1 v zs.length (zs.map (Value.int .i64)) ∧ Below w.heap.size w w' := by
  have h1 : 1 ≤ n := by omega
  have hmax : 1000001 ≤ maxLen := by unfold maxLen; omega
  obtain ⟨i0, hi, hz0, hz1, hz2⟩ := info_parts infoI
  refine callsIn_of_wp_marks Tryz.func99 rfl hA ?_ hro
  simp only [Tryz.ntmps99, List.size_toArray, List.length_cons, List.length_nil, Nat.reduceAdd, Nat.reduceSub, Array.replicate_succ, Array.replicate_zero, List.push_toArray, List.append_toArray, List.nil_append, List.cons_append]
  gi_wp2
  have hB0 : Below w.heap.size w (w.alloc (.cells #[.slice none 0 0] 35)) := (Below.refl _ w).alloc (Nat.le_refl _) _
  refine wpIn_rangeFunc_ownF hro h1 (gf := 68) (lb := lb) rfl hV (enters_of Tryz.func68 (by kernel_rfl) rfl) hseq belowK_t (belowK_b (by simp)) hB0 (fun _ => rfl)
    (fun (pre : List Int) W => (∃ v, Boxed W w.heap.size 35 v ∧ W.ownsRow w.heap.size 2 1 v pre.length (pre.map (Value.int .i64)) ∧ True) ∧ Below w.heap.size w W)
    (fun _ _ _ => False)
    (OwnFrom.and (Own.from (holdsRow_own w.heap.size w.heap.size 35 2 1 (fun (pre : List Int) => pre.length) (fun (pre : List Int) => pre.map (Value.int .i64)) (fun _ _ => True)) _) (ownFrom_below (Nat.le_refl _) (by simp)))
    (fun _ _ _ _ _ hs _ _ => hs)
    ⟨⟨_, Boxed.new w 35 (.slice none 0 0), ⟨rfl, .inl ⟨rfl, rfl⟩⟩, trivial⟩, hB0⟩
    (fun x => { tmps := #[.slice none 0 0, .func (.func 68) #[] lb, .pointer (some ⟨w.heap.size, 0, none⟩), undef, .slice none 0 0, .int .i64 x, .func (.func 68) #[] lb, .int .i64 x, undef, undef, undef, undef, undef], defers := [] }) ?assign ?body ?done ?stop
  case assign =>
    intro l x W K hK
    gi_wp2
    exact hK
  case body =>
    rintro l pre x W ⟨⟨v, hv, hrow, _⟩, hB⟩ hle
    have hc := hv.cell
    gi_wp2_with (gi_at_builtin; refine wpListIn_append_own _ rfl _ _ 35 rfl w.heap.size 2 i0 (.int .i64 0) 1 8 Tryz.underlying35 hi hz0 hz1 hz2 rfl (by decide) _ _ _ rfl (hrow.alloc _) ⟨W.heap.size, 0, none⟩ 1 1 [.int .i64 x] rfl rfl (cell_one_new _ _ _) (by simp [Value.oneCell']) (by omega) (by omega) (by have := hB.size; simp; omega) ?_; intro v' w1 hown' hgrow _; obtain ⟨g', cap', rfl⟩ := ownsRow_succ hown'; obtain ⟨hv1, hv2, hr2, hk2, hb2⟩ := hv.appended (by decide) hrow hB.size (Nat.le_refl _) hown' hgrow; have hc1 := hv1.cell; have hf1 := hv1.frozen)
    exact ⟨hk2, hb2, ⟨_, hv2, by simpa using hr2, trivial⟩, hB.trans hb2⟩
  case done =>
    rintro D ys W hD rfl ⟨⟨v, hv, hrow, _⟩, hB⟩ hK
    have hc := hv.cell
    gi_wp2
    refine ⟨by simp, .inl ⟨_, _, rfl, run_takeDeferred hK, ?_⟩⟩
    exact ⟨_, results_tmp rfl _ _ _, v, rfl, ownsRow_putObj hrow _ hK rfl, hB.trans (belowK_b (w := w) (Nat.le_refl _) W D _ _ (by simp at hD; omega) hK rfl rfl)⟩
  case stop =>
    rintro D c pre W _ _ h _
    exact h.elim
set_option maxHeartbeats 1000000 in
/-- slices.Collect over a slice's values: the same numbers in memory of the call's own. -/
theorem collect_any (Bs : Nat) (sv : Value) (zs : List Int) (hlen : zs.length ≤ 1000000) (w : World) (hBs : Bs < w.heap.size) (hc : w.cell? ⟨Bs, 0, none⟩ = some sv) (hI : Ints w.heap.size w sv zs) :
    Calls Tryz.prog 67 #[.func (.func 68) #[] #[.pointer (some ⟨Bs, 0, none⟩)]] w fun e w' => ∃ v, e = .returned v ∧ w'.ownsRow w.heap.size 2 1 v zs.length (zs.map (Value.int .i64)) ∧ Below w.heap.size w w' := by
  refine (callsIn_wide (n := 6)).1 ?_
  have hs := iter_stops Fence.wide 4 trivial rfl (by omega) Bs w.heap.size sv zs (by omega) w hBs (Nat.le_refl _) hc hI
  have cA := append_in Fence.wide 5 trivial trivial rfl (by omega) #[.pointer (some ⟨Bs, 0, none⟩)] zs hlen w hs
  have hfA : Fence.wide.fn 99 := trivial
  refine callsIn_of_wp Tryz.func67 rfl trivial ?_ rfl
  simp only [Tryz.ntmps67, List.size_toArray, List.length_cons, List.length_nil, Nat.reduceAdd, Nat.reduceSub, Array.replicate_succ, Array.replicate_zero, List.push_toArray, List.append_toArray, List.nil_append, List.cons_append]
  gi_wp2_with (gi_at_call 99; refine cA.mono ?_; rintro e w' ⟨v, rfl, hrow, hb⟩)
  go_ret
  exact ⟨v, rfl, hrow, hb⟩
end Go.Proofs.YtibaiaenfeppcaaGreatDoor.Sv

/- slices.Grow at no slice, and slices.Concat at []int64. -/
namespace Go.Proofs.YtibaiaenfeppcaaGreatDoor.Gr
open Go Go.RowKit Go.Proofs.YtibaiaenfeppcaaGreatDoorW.PrintWords Go.Proofs.YtibaiaenfeppcaaGreatDoor.Sv
set_option linter.unusedSimpArgs false in
/-- append(nil, make([]E, n)...): one append with a number for what is appended. -/
theorem run_append_make {P : Program} (w : World) (t u ty e : TypeId) (i : TypeInfo) (z : Value) (ht : P.underlying t = some (.slice e)) (hu : P.underlying u = some (.int .i64)) (hi : P.info? e = some i) (hz : i.zero = some z)
    (n : Nat) (hs1 : 0 < i.size) (h0 : 0 < n) (h63 : (n : Int) ≤ 9223372036854775807) (h48 : n * i.bytes ≤ 281474976710656) :
    (Builtin.append_ #[t, u] ty #[.slice none 0 0, .int .i64 n]).run P w =
      .ok (.slice (some ⟨w.heap.size, 0, none⟩) n (grownCap w n 0 e)) (w.drew.alloc (.cells (Builtin.zeroCells z.cells n ++ Builtin.zeroCells z.cells (grownCap w n 0 e - n)) e)) := by
  have hn : n ≠ 0 := by omega
  have h63' : ¬ (9223372036854775807 < (n : Int)) := by omega
  have h48' : ¬ (281474976710656 < Builtin.nextslicecap n 0 * i.bytes) := by rw [nextslicecap_zero h0]; omega
  have h48i : ¬ (281474976710656 < (n : Int) * (i.bytes : Int)) := by
    have h : ((n * i.bytes : Nat) : Int) = (n : Int) * (i.bytes : Int) := by simp
    rw [← h]; omega
  have hw : IntKind.i64.wrap (n : Int) = (n : Int) := by rw [IntKind.wrap_i64]; omega
  have hneg : ¬ ((n : Int) < 0) := by omega
  have hs0 : i.size ≠ 0 := by omega
  have hmx : max (n : Int) 0 = (n : Int) := by omega
  simp [Builtin.append_, run_underlying ht, run_underlying hu, sizeOf, typeInfo, zeroValue, hi, hz, hn, h63', h48', Question.forced, run_firstCells_none, newRow, grownCap, asInt, asIntOf, hw, hneg, h48i, hs0, hmx]
  exact fun h => absurd h (Nat.mul_ne_zero hn hs0)
set_option maxRecDepth 100000 in
set_option maxHeartbeats 1000000 in
/-- slices.Grow(nil, n): no slice, or room of the call's own. -/
theorem grow_any (n : Nat) (hn : n ≤ 1000000) (w : World) :
    Calls Tryz.prog 100 #[.slice none 0 0, .int .i64 n] w fun e w' => ∃ v, e = .returned v ∧ w'.ownsRow w.heap.size 2 1 v 0 [] ∧ RowKit.Below w.heap.size w w' := by
  have c0 : decide ((n : Int) < 0) = false := decide_eq_false (by omega)
  have hw : wrap64 ((n : Int) - wrap64 (0 - 0)) = (n : Int) := by unfold wrap64; omega
  by_cases h : n = 0
  · subst h
    go_enter Tryz.func100, Tryz.ntmps100
    go_wp2
    go_ret
    exact ⟨_, rfl, World.ownsRow_nil _ _ _ _, RowKit.Below.refl _ _⟩
  · obtain ⟨i0, hi, hz0, hz1, hz2⟩ := info_parts infoI
    have hr := run_append_make (P := Tryz.prog) w 35 3 35 2 i0 (.int .i64 0) Tryz.underlying35 Tryz.underlying3 hi hz0 n (by rw [hz1]; decide) (by omega) (by omega) (by rw [hz2]; omega)
    have ho := World.ownsRow_made (e := 2) (size := 1) w.drew (Builtin.zeroCells (Value.int .i64 0).cells n ++ Builtin.zeroCells (Value.int .i64 0).cells (grownCap w n 0 2 - n)) (grownCap w n 0 2) (base := w.heap.size) (Nat.le_refl _) (grownCap_le_maxLen w n 0 2 (by unfold maxLen; omega)) (by
      have := grownCap_ge w n 0 2
      simp [size_zeroCells, Value.cells]; omega)
    have hb : RowKit.Below w.heap.size w (w.drew.alloc (.cells (Builtin.zeroCells (Value.int .i64 0).cells n ++ Builtin.zeroCells (Value.int .i64 0).cells (grownCap w n 0 2 - n)) 2)) := below_alloc (below_drew1 (RowKit.Below.refl _ _)) _
    revert hr ho hb
    generalize w.drew.alloc (.cells (Builtin.zeroCells (Value.int .i64 0).cells n ++ Builtin.zeroCells (Value.int .i64 0).cells (grownCap w n 0 2 - n)) 2) = W1
    generalize grownCap w n 0 2 = cap
    intro hr ho hb
    have HR := Aside0.mk hr
    have HO := Aside0.mk ho
    have HB := Aside0.mk hb
    have c1 : decide ((0 : Int) < (n : Int)) = true := decide_eq_true (by omega)
    have hp : (0 < n) = True := eq_true (by omega)
    clear hr ho hb hi hz0 hz1 hz2 h
    go_enter Tryz.func100, Tryz.ntmps100
    go_wp2_with ((with_reducible refine gate_dst (N := 22) rfl ?_); refine Kd.event_run (by rfl) (v := .slice (some ⟨w.heap.size, 0, none⟩) n cap) (w1 := W1) (by have h_ := HR.out; simp [execOp, resolve, invoke, builtin, Act.eval, h_, Result.andThen]) ?_)
    go_ret
    exact ⟨_, rfl, HO.out, HB.out⟩
end Go.Proofs.YtibaiaenfeppcaaGreatDoor.Gr

/- slices.Concat at []int64: the lists one behind the other, in memory of the call's own. -/
namespace Go.Proofs.YtibaiaenfeppcaaGreatDoor.Gr
open Go Go.RowKit Go.Proofs.YtibaiaenfeppcaaGreatDoorW.PrintWords Go.Proofs.YtibaiaenfeppcaaGreatDoor.Sv
def rdl (xs : List (List Int)) (i : Int) : List Int := xs.getD i.toNat []
theorem at_rows {w : World} {A : Option Addr} {n : Nat} {xs : List (List Int)} (h : Kd.C (Kd.slice 2 (Kd.int .i64)) w A n xs) (i : Int) (h0 : 0 ≤ i) (h1 : i < n) : ∃ ad A0 c0, A = some ad ∧ w.cell? (ad.add i.toNat) = some (.slice A0 (rdl xs i).length c0) ∧ (rdl xs i).length ≤ c0 ∧ (Kd.int .i64).C w A0 (rdl xs i).length (rdl xs i) := by
  obtain ⟨ad, c, e, _, hK, hc0⟩ := Kd.C_get h ([] : List Int) i h0 h1
  have hc : ∀ j u, c[j]? = some u → w.cell? (ad.add (i.toNat * 1 + j)) = some u := hc0
  obtain ⟨A0, c0, rfl, l0, g0⟩ := hK
  exact ⟨ad, A0, c0, e, by have hq := hc 0 _ rfl; rwa [Nat.mul_one, Nat.add_zero] at hq, l0, g0⟩
/-- The first lists, one behind the other. -/
def cat (xs : List (List Int)) (j : Nat) : List Int := (xs.take j).flatten
theorem cat_all (xs : List (List Int)) : cat xs xs.length = xs.flatten := by simp [cat]
theorem cat_succ (xs : List (List Int)) (j : Nat) (h : j < xs.length) : cat xs (j + 1) = cat xs j ++ rdl xs (j : Int) := by
  have e : rdl xs (j : Int) = xs[j] := by simp [rdl, h]
  rw [e]; unfold cat
  rw [List.take_succ_eq_append_getElem h, List.flatten_append]; simp
theorem cat_le (xs : List (List Int)) (j : Nat) : (cat xs j).length ≤ xs.flatten.length := by
  have : xs.flatten = cat xs j ++ (xs.drop j).flatten := by unfold cat; rw [← List.flatten_append, List.take_append_drop]
  rw [this, List.length_append]; omega
theorem infoK : (Tryz.prog.info? 2).map (fun i => (i.zero, i.size, i.bytes)) = some (some (.int .i64 0), 1, 8) := by kernel_rfl
set_option maxRecDepth 100000 in
set_option maxHeartbeats 2000000 in
theorem concat_any (A : Option Addr) (c : Nat) (xs : List (List Int)) (hn : xs.length ≤ 1000000) (hl : xs.flatten.length ≤ 1000000) (w : World) (hr : Kd.C (Kd.slice 2 (Kd.int .i64)) w A xs.length xs) :
    Calls Tryz.prog 69 #[.slice A xs.length c] w fun e w' => ∃ v, e = .returned v ∧ Kd.R (Kd.int .i64) 2 w' w.heap.size (fun _ => True) v xs.flatten ∧ RowKit.Below w.heap.size w w' := by
  have HR := Aside0.mk hr
  have HL := Aside0.mk hl
  have HN := Aside0.mk hn
  clear hr hl hn
  go_enter Tryz.func69, Tryz.ntmps69
  go_wp2
  go_loopw [3, 11] (fun v3 v11 wz => ∃ j : Nat, j ≤ xs.length ∧ v3 = .int .i64 ((cat xs j).length : Int) ∧ v11 = .int .i64 (j : Int) ∧ wz = w) (fun _ v _ => xs.length - (intOf v).toNat)
  case atStart => exact ⟨0, by omega, by simp [cat], rfl, rfl⟩
  case round =>
    obtain ⟨j, hj, rfl, rfl, hwr⟩ := hrel
    have hwr' := hwr.symm
    subst hwr'
    clear hwr
    have hN := HN.out
    have hcl := cat_le xs j
    have hL := HL.out
    by_cases hlt : j < xs.length
    · have c0 : decide ((j : Int) < (xs.length : Int)) = true := decide_eq_true (by omega)
      have p1 : 0 ≤ (j : Int) := by omega
      have q1 : (j : Int) < (xs.length : Int) := by omega
      obtain ⟨ad, A0, c0', rfl, hx, _, _⟩ := at_rows HR.out (j : Int) p1 q1
      simp only [Int.toNat_natCast] at hx
      have hs := cat_succ xs j hlt
      have hcl2 := cat_le xs (j + 1)
      obtain ⟨m, hm⟩ : ∃ m, m = (rdl xs (j : Int)).length := ⟨_, rfl⟩
      obtain ⟨k, hk⟩ : ∃ k, k = (cat xs j).length := ⟨_, rfl⟩
      have hk2 : (cat xs (j + 1)).length = k + m := by rw [hs, List.length_append, hk, hm]
      have hw1 : wrap64 ((k : Int) + (m : Int)) = ((k + m : Nat) : Int) := by unfold wrap64; omega
      have hw2 : wrap64 ((j : Int) + 1) = ((j + 1 : Nat) : Int) := by unfold wrap64; omega
      have c1 : decide (wrap64 ((k : Int) + (m : Int)) < 0) = false := decide_eq_false (by rw [hw1]; omega)
      rw [← hm] at hx
      rw [← hk]
      replace p1 := eq_true p1
      replace q1 := eq_true q1
      have HK := Aside0.mk (And.intro hk2 (And.intro hw1 hw2))
      have HJ := Aside0.mk hlt
      clear hw1 hw2 hk2 hs hcl hcl2 hm hk hlt
      go_wp2
      go_roundw
      case rel => exact ⟨j + 1, by have := HJ.out; omega, by have h1 := HK.out.1; have h2 := HK.out.2.1; congr 1; omega, by have h2 := HK.out.2.2; first | (congr 1; done) | (congr 1; omega), by first | rfl | trivial⟩
      case measure => have := HJ.out; have h2 := HK.out.2.2; simp only [intOf]; omega
    · have c0 : decide ((j : Int) < (xs.length : Int)) = false := decide_eq_false (by omega)
      obtain rfl : j = xs.length := by omega
      obtain ⟨k, hk⟩ : ∃ k, k = (cat xs xs.length).length := ⟨_, rfl⟩
      have HK := Aside0.mk hk
      rw [← hk]
      have hk1 : k ≤ 1000000 := by omega
      clear hlt hcl hk
      go_wp2_with (go_at_call 100; refine (grow_any k hk1 _).mono ?_; rintro e w1 ⟨v, rfl, ho, hb⟩; have HO := Aside0.mk ho; have HB := Aside0.mk hb; clear ho hb)
      have h0 : Kd.R (Kd.int .i64) 2 w1 w.heap.size (fun _ => True) v (cat xs 0) := Kd.R_of_own (xs := []) HO.out (fun _ _ => trivial)
      have H0 := Aside0.mk h0
      clear h0
      have HN0 := Aside0.mk hN
      have HL0 := Aside0.mk hL
      clear hN hL hj c0 hk1
      go_loopw [6, 27] (fun v6 v27 wz => ∃ j : Nat, j ≤ xs.length ∧ v27 = .int .i64 (j : Int) ∧ Aside0 (Kd.R (Kd.int .i64) 2 wz w.heap.size (fun _ => True) v6 (cat xs j)) ∧ Aside0 (RowKit.Below w.heap.size w wz)) (fun _ v _ => xs.length - (intOf v).toNat)
      case atStart => exact ⟨0, by omega, rfl, H0, HB⟩
      case round =>
        obtain ⟨j, hj, rfl, hv, hb⟩ := hrel
        have hN := HN0.out
        by_cases hlt : j < xs.length
        · have c0 : decide ((j : Int) < (xs.length : Int)) = true := decide_eq_true (by omega)
          have p1 : 0 ≤ (j : Int) := by omega
          have q1 : (j : Int) < (xs.length : Int) := by omega
          obtain ⟨ad, A0, c0', rfl, hx, hcx, hCx⟩ := at_rows HR.out (j : Int) p1 q1
          simp only [Int.toNat_natCast] at hx
          replace hx := pw_cell_below hb.out hx
          have HX := Aside0.mk (Kd.C_below hCx hb.out)
          have hs := cat_succ xs j hlt
          have hcl := cat_le xs (j + 1)
          have hlen := Aside0.mk (show ((cat xs j).length + (rdl xs (j : Int)).length) * 8 ≤ 140737488355328 by have hL := HL0.out; rw [hs, List.length_append] at hcl; omega)
          have HS := Aside0.mk hs
          have HJ := Aside0.mk hlt
          have HW := Aside0.mk (show wrap64 ((j : Int) + 1) = ((j + 1 : Nat) : Int) by unfold wrap64; omega)
          replace p1 := eq_true p1
          replace q1 := eq_true q1
          clear hs hcl hlt hcx hCx
          go_wp2_with ((with_reducible refine gate_dst (N := 33) rfl ?_); refine Kd.R_append_row (Value.int .i64) (0 : Int) (w0 := w) w.heap.size (by rfl) (.tmp 31) (.tmp 32) 35 2 (.int .i64 0) 8 rfl Tryz.underlying35 infoK rfl (by decide) _ (cat xs j) (rdl xs (j : Int)) A0 _ c0' (fun _ => True) rfl rfl (fun _ _ => trivial) hv.out HX.out hb.out hb.out.size hlen.out ?_; intro v1 w2 h1 h2 h3 h4; have H1 := Aside0.mk h1; have H2 := Aside0.mk h2; clear h1 h2 h3 h4)
          go_roundw
          case rel => exact ⟨j + 1, by have := HJ.out; omega, by have h2 := HW.out; first | (congr 1; done) | (congr 1; omega), ⟨by rw [HS.out]; exact H1.out⟩, H2⟩
          case measure => have := HJ.out; have h2 := HW.out; simp only [intOf]; omega
        · have c0 : decide ((j : Int) < (xs.length : Int)) = false := decide_eq_false (by omega)
          obtain rfl : j = xs.length := by omega
          clear hlt
          go_wp2
          go_ret
          exact ⟨_, rfl, by rw [← cat_all]; exact hv.out, hb.out⟩
end Go.Proofs.YtibaiaenfeppcaaGreatDoor.Gr

/-
  DERIVED: THE SHELF's CONTRACTS AT THIS DUMP, IN PLAIN WORDS (tools/lay-plain.mjs out of 'TryzShelf.lean', which tools/lay-shelf.mjs wrote): THE SAME DECLARATIONS UNDER THE SAME NAMES: 'import', 'namespace', 'open', 'def', 'theorem' AND NOTHING ELSE: no command of the shelf's: FOR A HAND-IN. Each laying: the table of numbers ('.._ren') and one theorem, a field a fact of the dump's own or the kernel's comparison; each contract: ONE APPLICATION.
-/
namespace Go.Proofs
open Go.Shelf
def Tryz.lays169_ren : Go.Shelf.Ren := ⟨fun | 169 => 78 | n => n, fun | 70 => 99 | 9 => 9 | 0 => 0 | 72 => 101 | 37 => 30 | 127 => 127 | 3 => 3 | 5 => 5 | n => n, fun | n => n⟩
def Tryz.lays241_ren : Go.Shelf.Ren := ⟨fun | 241 => 104 | 277 => 124 | n => n, fun | 70 => 99 | 3 => 3 | 0 => 0 | 72 => 101 | 37 => 30 | 5 => 5 | n => n, fun | n => n⟩
def Tryz.lays165_ren : Go.Shelf.Ren := ⟨fun | 165 => 76 | 240 => 103 | 241 => 104 | 276 => 123 | 277 => 124 | n => n, fun | 70 => 99 | 3 => 3 | 0 => 0 | 4 => 4 | 9 => 9 | 20 => 20 | 72 => 101 | 37 => 30 | 164 => 147 | 5 => 5 | n => n, fun | n => n⟩
def Tryz.lays156_ren : Go.Shelf.Ren := ⟨fun | 156 => 58 | 165 => 76 | 166 => 77 | 169 => 78 | 240 => 103 | 241 => 104 | 276 => 123 | 277 => 124 | n => n, fun | 31 => 50 | 9 => 9 | 3 => 3 | 4 => 4 | 0 => 0 | 20 => 20 | 72 => 101 | 76 => 103 | 70 => 99 | 37 => 30 | 75 => 88 | 127 => 127 | 164 => 147 | 5 => 5 | 80 => 105 | n => n, fun | n => n⟩
theorem Tryz.lays156 : Go.Proofs.Lays.n156 Tryz.prog Tryz.lays156_ren := {
  mixed := by kernel_rfl
  f156 := Tryz.func58.trans (congrArg some (by kernel_rfl))
  f165 := Tryz.func76.trans (congrArg some (by kernel_rfl))
  f166 := Tryz.func77.trans (congrArg some (by kernel_rfl))
  f169 := Tryz.func78.trans (congrArg some (by kernel_rfl))
  f240 := Tryz.func103.trans (congrArg some (by kernel_rfl))
  f241 := Tryz.func104.trans (congrArg some (by kernel_rfl))
  f276 := Tryz.func123.trans (congrArg some (by kernel_rfl))
  f277 := Tryz.func124.trans (congrArg some (by kernel_rfl))
  t0 := Tryz.underlying0
  a0 := Tryz.isAgg0
  z0 := Tryz.sizeOf0
  v0 := Tryz.zeroValue0
  t3 := Tryz.underlying3
  a3 := Tryz.isAgg3
  z3 := Tryz.sizeOf3
  v3 := Tryz.zeroValue3
  t4 := Tryz.underlying4
  a4 := Tryz.isAgg4
  z4 := Tryz.sizeOf4
  v4 := Tryz.zeroValue4
  t9 := Tryz.underlying9
  a9 := Tryz.isAgg9
  z9 := Tryz.sizeOf9
  v9 := Tryz.zeroValue9
  t20 := Tryz.underlying20
  a20 := Tryz.isAgg20
  z20 := Tryz.sizeOf20
  v20 := Tryz.zeroValue20
  t31 := Tryz.underlying50
  a31 := Tryz.isAgg50
  z31 := Tryz.sizeOf50
  v31 := Tryz.zeroValue50
  t37 := Tryz.underlying30
  a37 := Tryz.isAgg30
  z37 := Tryz.sizeOf30
  v37 := Tryz.zeroValue30
  t70 := Tryz.underlying99
  a70 := Tryz.isAgg99
  z70 := Tryz.sizeOf99
  v70 := Tryz.zeroValue99
  t72 := Tryz.underlying101
  a72 := Tryz.isAgg101
  z72 := Tryz.sizeOf101
  v72 := Tryz.zeroValue101
  t75 := Tryz.underlying88
  a75 := Tryz.isAgg88
  z75 := Tryz.sizeOf88
  v75 := Tryz.zeroValue88
  t76 := Tryz.underlying103
  a76 := Tryz.isAgg103
  z76 := Tryz.sizeOf103
  v76 := Tryz.zeroValue103
  t127 := Tryz.underlying127
  a127 := Tryz.isAgg127
  z127 := Tryz.sizeOf127
  v127 := Tryz.zeroValue127
  t164 := Tryz.underlying147
  a164 := Tryz.isAgg147
  z164 := Tryz.sizeOf147
  v164 := Tryz.zeroValue147 }
theorem Tryz.Builder_Extra_156 : Builder.Extra Tryz.prog Tryz.lays156_ren := {
  sizeBuilder := by kernel_rfl
  liesBuilder := by kernel_rfl
  t5 := Tryz.underlying5
  a5 := Tryz.isAgg5
  z5 := Tryz.sizeOf5
  v5 := Tryz.zeroValue5
  infoByte := by kernel_rfl
  cellsByte := by kernel_rfl
  sizeByte := by kernel_rfl
  neB5 := by decide }
open Go.RowKit in
/-- strings.Join: "Join concatenates the elements of its first argument to create a single string. The separator string sep is placed between elements in the resulting string.": HOWEVER MANY ELEMENTS. Below the heap's end the world is as it was. (LAID: no walk: one application.) -/
theorem Tryz.strings_Join (bk o c : Nat) (xs : List ByteArray) (sep : ByteArray) (w : World) (hcells : ∀ (j : Nat) x, xs[j]? = some x → w.cell? ⟨bk, o + j, none⟩ = some (.string x)) (hbk : bk < w.heap.size) (hN : xs.length ≤ 140737488355328) (hcap : xs.length ≤ c) (hlen : (Lib.join (xs.map (·.data.toList)) sep.data.toList).length ≤ 140737488355328) :
    Calls Tryz.prog 58 #[.slice (some ⟨bk, o, none⟩) xs.length c, .string sep] w fun e w' => e = .returned (.string ⟨(Lib.join (xs.map (·.data.toList)) sep.data.toList).toArray⟩) ∧ Below w.heap.size w w' := Any.strings_Join Tryz.lays156 Tryz.Builder_Extra_156 bk o c xs sep w hcells hbk hN hcap hlen
def Tryz.lays128_ren : Go.Shelf.Ren := ⟨fun | 128 => 88 | n => n, fun | 51 => 116 | 3 => 3 | 4 => 4 | 46 => 84 | 5 => 5 | 9 => 9 | n => n, fun | n => n⟩
def Tryz.lays125_ren : Go.Shelf.Ren := ⟨fun | 125 => 60 | 128 => 88 | 129 => 89 | n => n, fun | 46 => 84 | 3 => 3 | 51 => 116 | 53 => 76 | 4 => 4 | 5 => 5 | 9 => 9 | n => n, fun | n => n⟩
def Tryz.lays195_ren : Go.Shelf.Ren := ⟨fun | 195 => 96 | n => n, fun | 9 => 9 | 3 => 3 | 0 => 0 | 4 => 4 | n => n, fun | n => n⟩
def Tryz.lays129_ren : Go.Shelf.Ren := ⟨fun | 129 => 89 | n => n, fun | 53 => 76 | 3 => 3 | 4 => 4 | 46 => 84 | 5 => 5 | 9 => 9 | n => n, fun | n => n⟩
def Tryz.lays317_ren : Go.Shelf.Ren := ⟨fun | 317 => 131 | n => n, fun | 3 => 3 | 46 => 84 | n => n, fun | n => n⟩
def Tryz.lays318_ren : Go.Shelf.Ren := ⟨fun | 318 => 132 | n => n, fun | 3 => 3 | 4 => 4 | n => n, fun | n => n⟩
def Tryz.lays283_ren : Go.Shelf.Ren := ⟨fun | 283 => 119 | n => n, fun | 3 => 3 | 9 => 9 | 4 => 4 | n => n, fun | n => n⟩
def Tryz.laysM284_ren : Go.Shelf.Ren := ⟨fun | 284 => 120 | 129 => 89 | 317 => 131 | 318 => 132 | n => n, fun | 53 => 76 | 3 => 3 | 212 => 163 | 0 => 0 | 4 => 4 | 46 => 84 | 5 => 5 | 9 => 9 | n => n, fun | 17 => 5 | n => n⟩
def Tryz.lays285_ren : Go.Shelf.Ren := ⟨fun | 285 => 121 | n => n, fun | 37 => 30 | 53 => 76 | 3 => 3 | 4 => 4 | 51 => 116 | 9 => 9 | 5 => 5 | 0 => 0 | n => n, fun | n => n⟩
def Tryz.laysM246_ren : Go.Shelf.Ren := ⟨fun | 246 => 102 | 283 => 119 | 284 => 120 | 285 => 121 | 286 => 122 | 129 => 89 | 317 => 131 | 318 => 132 | 319 => 133 | 320 => 134 | 337 => 136 | 338 => 137 | n => n, fun | 2 => 2 | 3 => 3 | 9 => 9 | 4 => 4 | 171 => 143 | 0 => 0 | 53 => 76 | 37 => 30 | 5 => 5 | 173 => 145 | 212 => 163 | 51 => 116 | 20 => 20 | 213 => 164 | 46 => 84 | 232 => 169 | 233 => 170 | n => n, fun | 17 => 5 | 18 => 6 | 19 => 7 | n => n⟩
def Tryz.lays246_ren : Go.Shelf.Ren := ⟨fun | 246 => 102 | 283 => 119 | 284 => 120 | 285 => 121 | 286 => 122 | 129 => 89 | 317 => 131 | 318 => 132 | 319 => 133 | 320 => 134 | 337 => 136 | 338 => 137 | n => n, fun | 2 => 2 | 3 => 3 | 9 => 9 | 4 => 4 | 171 => 143 | 0 => 0 | 53 => 76 | 37 => 30 | 5 => 5 | 173 => 145 | 212 => 163 | 51 => 116 | 20 => 20 | 213 => 164 | 46 => 84 | 232 => 169 | 233 => 170 | n => n, fun | 17 => 5 | 18 => 6 | 19 => 7 | n => n⟩
def Tryz.laysM243_ren : Go.Shelf.Ren := ⟨fun | 243 => 135 | 246 => 102 | 283 => 119 | 284 => 120 | 285 => 121 | 286 => 122 | 129 => 89 | 317 => 131 | 318 => 132 | 319 => 133 | 320 => 134 | 337 => 136 | 338 => 137 | n => n, fun | 3 => 3 | 9 => 9 | 2 => 2 | 4 => 4 | 171 => 143 | 0 => 0 | 53 => 76 | 37 => 30 | 5 => 5 | 173 => 145 | 212 => 163 | 51 => 116 | 20 => 20 | 213 => 164 | 46 => 84 | 232 => 169 | 233 => 170 | n => n, fun | 17 => 5 | 18 => 6 | 19 => 7 | n => n⟩
def Tryz.lays243_ren : Go.Shelf.Ren := ⟨fun | 243 => 135 | 246 => 102 | 283 => 119 | 284 => 120 | 285 => 121 | 286 => 122 | 129 => 89 | 317 => 131 | 318 => 132 | 319 => 133 | 320 => 134 | 337 => 136 | 338 => 137 | n => n, fun | 3 => 3 | 9 => 9 | 2 => 2 | 4 => 4 | 171 => 143 | 0 => 0 | 53 => 76 | 37 => 30 | 5 => 5 | 173 => 145 | 212 => 163 | 51 => 116 | 20 => 20 | 213 => 164 | 46 => 84 | 232 => 169 | 233 => 170 | n => n, fun | 17 => 5 | 18 => 6 | 19 => 7 | n => n⟩
def Tryz.laysM171_ren : Go.Shelf.Ren := ⟨fun | 171 => 130 | 243 => 135 | 246 => 102 | 283 => 119 | 284 => 120 | 285 => 121 | 286 => 122 | 129 => 89 | 317 => 131 | 318 => 132 | 319 => 133 | 320 => 134 | 337 => 136 | 338 => 137 | n => n, fun | 3 => 3 | 9 => 9 | 2 => 2 | 4 => 4 | 171 => 143 | 0 => 0 | 53 => 76 | 37 => 30 | 5 => 5 | 173 => 145 | 212 => 163 | 51 => 116 | 20 => 20 | 213 => 164 | 46 => 84 | 232 => 169 | 233 => 170 | n => n, fun | 17 => 5 | 18 => 6 | 19 => 7 | n => n⟩
def Tryz.lays171_ren : Go.Shelf.Ren := ⟨fun | 171 => 130 | 243 => 135 | 246 => 102 | 283 => 119 | 284 => 120 | 285 => 121 | 286 => 122 | 129 => 89 | 317 => 131 | 318 => 132 | 319 => 133 | 320 => 134 | 337 => 136 | 338 => 137 | n => n, fun | 3 => 3 | 9 => 9 | 2 => 2 | 4 => 4 | 171 => 143 | 0 => 0 | 53 => 76 | 37 => 30 | 5 => 5 | 173 => 145 | 212 => 163 | 51 => 116 | 20 => 20 | 213 => 164 | 46 => 84 | 232 => 169 | 233 => 170 | n => n, fun | 17 => 5 | 18 => 6 | 19 => 7 | n => n⟩
def Tryz.laysM173_ren : Go.Shelf.Ren := ⟨fun | 173 => 75 | 246 => 102 | 283 => 119 | 284 => 120 | 285 => 121 | 286 => 122 | 129 => 89 | 317 => 131 | 318 => 132 | 319 => 133 | 320 => 134 | 337 => 136 | 338 => 137 | n => n, fun | 2 => 2 | 3 => 3 | 9 => 9 | 4 => 4 | 171 => 143 | 0 => 0 | 53 => 76 | 37 => 30 | 5 => 5 | 173 => 145 | 212 => 163 | 51 => 116 | 20 => 20 | 213 => 164 | 46 => 84 | 232 => 169 | 233 => 170 | n => n, fun | 17 => 5 | 18 => 6 | 19 => 7 | n => n⟩
theorem Tryz.laysM173 : Go.Proofs.LaysM.n173 Tryz.prog Tryz.laysM173_ren := {
  mixed := by kernel_rfl
  f129 := Tryz.func89.trans (congrArg some (by kernel_rfl))
  f173 := Tryz.func75.trans (congrArg some (by kernel_rfl))
  f246 := Tryz.func102.trans (congrArg some (by kernel_rfl))
  f283 := Tryz.func119.trans (congrArg some (by kernel_rfl))
  f284 := Tryz.func120.trans (congrArg some (by kernel_rfl))
  f285 := Tryz.func121.trans (congrArg some (by kernel_rfl))
  f286 := Tryz.func122.trans (congrArg some (by kernel_rfl))
  f317 := Tryz.func131.trans (congrArg some (by kernel_rfl))
  f318 := Tryz.func132.trans (congrArg some (by kernel_rfl))
  f319 := Tryz.func133.trans (congrArg some (by kernel_rfl))
  f320 := Tryz.func134.trans (congrArg some (by kernel_rfl))
  f337 := Tryz.func136.trans (congrArg some (by kernel_rfl))
  f338 := Tryz.func137.trans (congrArg some (by kernel_rfl))
  t0 := Tryz.underlying0
  a0 := Tryz.isAgg0
  z0 := Tryz.sizeOf0
  v0 := Tryz.zeroValue0
  t2 := Tryz.underlying2
  a2 := Tryz.isAgg2
  z2 := Tryz.sizeOf2
  v2 := Tryz.zeroValue2
  t3 := Tryz.underlying3
  a3 := Tryz.isAgg3
  z3 := Tryz.sizeOf3
  v3 := Tryz.zeroValue3
  t4 := Tryz.underlying4
  a4 := Tryz.isAgg4
  z4 := Tryz.sizeOf4
  v4 := Tryz.zeroValue4
  t5 := Tryz.underlying5
  a5 := Tryz.isAgg5
  z5 := Tryz.sizeOf5
  v5 := Tryz.zeroValue5
  t9 := Tryz.underlying9
  a9 := Tryz.isAgg9
  z9 := Tryz.sizeOf9
  v9 := Tryz.zeroValue9
  t20 := Tryz.underlying20
  a20 := Tryz.isAgg20
  z20 := Tryz.sizeOf20
  v20 := Tryz.zeroValue20
  t37 := Tryz.underlying30
  a37 := Tryz.isAgg30
  z37 := Tryz.sizeOf30
  v37 := Tryz.zeroValue30
  t46 := Tryz.underlying84
  a46 := Tryz.isAgg84
  z46 := Tryz.sizeOf84
  v46 := Tryz.zeroValue84
  t51 := Tryz.underlying116
  a51 := Tryz.isAgg116
  z51 := Tryz.sizeOf116
  v51 := Tryz.zeroValue116
  t53 := Tryz.underlying76
  a53 := Tryz.isAgg76
  z53 := Tryz.sizeOf76
  v53 := Tryz.zeroValue76
  t171 := Tryz.underlying143
  a171 := Tryz.isAgg143
  z171 := Tryz.sizeOf143
  v171 := Tryz.zeroValue143
  t173 := Tryz.underlying145
  a173 := Tryz.isAgg145
  z173 := Tryz.sizeOf145
  v173 := Tryz.zeroValue145
  t212 := Tryz.underlying163
  a212 := Tryz.isAgg163
  z212 := Tryz.sizeOf163
  v212 := Tryz.zeroValue163
  t213 := Tryz.underlying164
  a213 := Tryz.isAgg164
  z213 := Tryz.sizeOf164
  t232 := Tryz.underlying169
  a232 := Tryz.isAgg169
  z232 := Tryz.sizeOf169
  v232 := Tryz.zeroValue169
  t233 := Tryz.underlying170
  a233 := Tryz.isAgg170
  z233 := Tryz.sizeOf170
  v233 := Tryz.zeroValue170
  g17 := by kernel_rfl
  g18 := by kernel_rfl
  g19 := by kernel_rfl
  i0 := by kernel_rfl
  i2 := by kernel_rfl
  i3 := by kernel_rfl
  i4 := by kernel_rfl
  i5 := by kernel_rfl
  i9 := by kernel_rfl
  i20 := by kernel_rfl
  i37 := by kernel_rfl
  i46 := by kernel_rfl
  i51 := by kernel_rfl
  i53 := by kernel_rfl
  i171 := by kernel_rfl
  i173 := by kernel_rfl
  i212 := by kernel_rfl
  i232 := by kernel_rfl
  i233 := by kernel_rfl
  m17 := by kernel_rfl
  m18 := by kernel_rfl
  m19 := by kernel_rfl }
open Go.RowKit Go.Sort Go.Lib in
/-- strconv.FormatInt: "FormatInt returns the string representation of i in the given base": AT BASE 10: i's decimal numeral, for every int64. (LAID: no walk: one application.) -/
theorem Tryz.strconv_FormatInt_10 (n : Int) (h0 : -9223372036854775808 ≤ n) (h1 : n ≤ 9223372036854775807) (w : World) (htab : Lib.TabIs Tryz.prog w "internal/strconv.uint64pow10" .u64 Lib.pow10Tab) :
    Calls Tryz.prog 75 #[.int .i64 n, .int .i64 10] w fun e w' => e = .returned (.string ⟨(Lib.itoa n).toArray⟩) ∧ ∃ k os, w' = grow (w.drewN k) os := Any.strconv_FormatInt_10 Tryz.laysM173 n h0 h1 w htab
def Tryz.lays173_ren : Go.Shelf.Ren := ⟨fun | 173 => 75 | 246 => 102 | 283 => 119 | 284 => 120 | 285 => 121 | 286 => 122 | 129 => 89 | 317 => 131 | 318 => 132 | 319 => 133 | 320 => 134 | 337 => 136 | 338 => 137 | n => n, fun | 2 => 2 | 3 => 3 | 9 => 9 | 4 => 4 | 171 => 143 | 0 => 0 | 53 => 76 | 37 => 30 | 5 => 5 | 173 => 145 | 212 => 163 | 51 => 116 | 20 => 20 | 213 => 164 | 46 => 84 | 232 => 169 | 233 => 170 | n => n, fun | 17 => 5 | 18 => 6 | 19 => 7 | n => n⟩
def Tryz.lays247_ren : Go.Shelf.Ren := ⟨fun | 247 => 94 | 287 => 113 | 321 => 126 | 322 => 127 | n => n, fun | 9 => 9 | 3 => 3 | 2 => 2 | 75 => 88 | 4 => 4 | 167 => 136 | 5 => 5 | 53 => 76 | 175 => 137 | 46 => 84 | 37 => 30 | 0 => 0 | 21 => 21 | 80 => 105 | n => n, fun | n => n⟩
def Tryz.laysM316_ren : Go.Shelf.Ren := ⟨fun | 316 => 128 | n => n, fun | 9 => 9 | 3 => 3 | 4 => 4 | 37 => 30 | 0 => 0 | 127 => 127 | 5 => 5 | n => n, fun | n => n⟩
def Tryz.laysM279_ren : Go.Shelf.Ren := ⟨fun | 279 => 114 | 316 => 128 | n => n, fun | 9 => 9 | 168 => 139 | 75 => 88 | 210 => 156 | 3 => 3 | 4 => 4 | 37 => 30 | 0 => 0 | 127 => 127 | 80 => 105 | 5 => 5 | n => n, fun | 15 => 1 | n => n⟩
def Tryz.laysC245_ren : Go.Shelf.Ren := ⟨fun | 245 => 95 | 279 => 114 | 280 => 115 | 281 => 116 | 282 => 117 | 316 => 128 | 171 => 130 | 205 => 129 | 243 => 135 | 246 => 102 | 283 => 119 | 284 => 120 | 285 => 121 | 286 => 122 | 129 => 89 | 317 => 131 | 318 => 132 | 319 => 133 | 320 => 134 | 337 => 136 | 338 => 137 | n => n, fun | 9 => 9 | 3 => 3 | 75 => 88 | 167 => 136 | 4 => 4 | 168 => 139 | 210 => 156 | 37 => 30 | 0 => 0 | 127 => 127 | 145 => 168 | 143 => 166 | 2 => 2 | 171 => 143 | 53 => 76 | 5 => 5 | 173 => 145 | 212 => 163 | 51 => 116 | 20 => 20 | 213 => 164 | 46 => 84 | 232 => 169 | 233 => 170 | 80 => 105 | n => n, fun | 15 => 1 | 16 => 2 | 17 => 5 | 18 => 6 | 19 => 7 | n => n⟩
def Tryz.lays321_ren : Go.Shelf.Ren := ⟨fun | 321 => 126 | n => n, fun | 5 => 5 | n => n, fun | n => n⟩
def Tryz.lays287_ren : Go.Shelf.Ren := ⟨fun | 287 => 113 | 321 => 126 | 322 => 127 | n => n, fun | 9 => 9 | 3 => 3 | 53 => 76 | 75 => 88 | 4 => 4 | 167 => 136 | 5 => 5 | 46 => 84 | 37 => 30 | 0 => 0 | 21 => 21 | 80 => 105 | n => n, fun | n => n⟩
def Tryz.laysC247_ren : Go.Shelf.Ren := ⟨fun | 247 => 94 | 287 => 113 | 321 => 126 | 322 => 127 | n => n, fun | 9 => 9 | 3 => 3 | 2 => 2 | 75 => 88 | 4 => 4 | 167 => 136 | 5 => 5 | 53 => 76 | 175 => 137 | 46 => 84 | 37 => 30 | 0 => 0 | 21 => 21 | 80 => 105 | n => n, fun | n => n⟩
def Tryz.laysM280_ren : Go.Shelf.Ren := ⟨fun | 280 => 115 | 316 => 128 | n => n, fun | 9 => 9 | 168 => 139 | 75 => 88 | 210 => 156 | 3 => 3 | 4 => 4 | 37 => 30 | 0 => 0 | 127 => 127 | 80 => 105 | 5 => 5 | n => n, fun | 16 => 2 | n => n⟩
def Tryz.laysC174_ren : Go.Shelf.Ren := ⟨fun | 174 => 63 | 247 => 94 | 245 => 95 | 287 => 113 | 279 => 114 | 280 => 115 | 281 => 116 | 282 => 117 | 321 => 126 | 322 => 127 | 316 => 128 | 171 => 130 | 205 => 129 | 243 => 135 | 246 => 102 | 283 => 119 | 284 => 120 | 285 => 121 | 286 => 122 | 129 => 89 | 317 => 131 | 318 => 132 | 319 => 133 | 320 => 134 | 337 => 136 | 338 => 137 | n => n, fun | 9 => 9 | 3 => 3 | 2 => 2 | 75 => 88 | 85 => 89 | 4 => 4 | 167 => 136 | 5 => 5 | 53 => 76 | 175 => 137 | 46 => 84 | 168 => 139 | 37 => 30 | 0 => 0 | 210 => 156 | 21 => 21 | 127 => 127 | 145 => 168 | 143 => 166 | 171 => 143 | 173 => 145 | 212 => 163 | 51 => 116 | 20 => 20 | 213 => 164 | 232 => 169 | 233 => 170 | 80 => 105 | n => n, fun | 15 => 1 | 16 => 2 | 17 => 5 | 18 => 6 | 19 => 7 | n => n⟩
theorem Tryz.laysC174 : Go.Proofs.LaysC.n174 Tryz.prog Tryz.laysC174_ren := {
  mixed := by kernel_rfl
  f129 := Tryz.func89.trans (congrArg some (by kernel_rfl))
  f171 := Tryz.func130.trans (congrArg some (by kernel_rfl))
  f174 := Tryz.func63.trans (congrArg some (by kernel_rfl))
  f205 := Tryz.func129.trans (congrArg some (by kernel_rfl))
  f243 := Tryz.func135.trans (congrArg some (by kernel_rfl))
  f245 := Tryz.func95.trans (congrArg some (by kernel_rfl))
  f246 := Tryz.func102.trans (congrArg some (by kernel_rfl))
  f247 := Tryz.func94.trans (congrArg some (by kernel_rfl))
  f279 := Tryz.func114.trans (congrArg some (by kernel_rfl))
  f280 := Tryz.func115.trans (congrArg some (by kernel_rfl))
  f281 := Tryz.func116.trans (congrArg some (by kernel_rfl))
  f282 := Tryz.func117.trans (congrArg some (by kernel_rfl))
  f283 := Tryz.func119.trans (congrArg some (by kernel_rfl))
  f284 := Tryz.func120.trans (congrArg some (by kernel_rfl))
  f285 := Tryz.func121.trans (congrArg some (by kernel_rfl))
  f286 := Tryz.func122.trans (congrArg some (by kernel_rfl))
  f287 := Tryz.func113.trans (congrArg some (by kernel_rfl))
  f316 := Tryz.func128.trans (congrArg some (by kernel_rfl))
  f317 := Tryz.func131.trans (congrArg some (by kernel_rfl))
  f318 := Tryz.func132.trans (congrArg some (by kernel_rfl))
  f319 := Tryz.func133.trans (congrArg some (by kernel_rfl))
  f320 := Tryz.func134.trans (congrArg some (by kernel_rfl))
  f321 := Tryz.func126.trans (congrArg some (by kernel_rfl))
  f322 := Tryz.func127.trans (congrArg some (by kernel_rfl))
  f337 := Tryz.func136.trans (congrArg some (by kernel_rfl))
  f338 := Tryz.func137.trans (congrArg some (by kernel_rfl))
  t0 := Tryz.underlying0
  a0 := Tryz.isAgg0
  z0 := Tryz.sizeOf0
  v0 := Tryz.zeroValue0
  t2 := Tryz.underlying2
  a2 := Tryz.isAgg2
  z2 := Tryz.sizeOf2
  v2 := Tryz.zeroValue2
  t3 := Tryz.underlying3
  a3 := Tryz.isAgg3
  z3 := Tryz.sizeOf3
  v3 := Tryz.zeroValue3
  t4 := Tryz.underlying4
  a4 := Tryz.isAgg4
  z4 := Tryz.sizeOf4
  v4 := Tryz.zeroValue4
  t5 := Tryz.underlying5
  a5 := Tryz.isAgg5
  z5 := Tryz.sizeOf5
  v5 := Tryz.zeroValue5
  t9 := Tryz.underlying9
  a9 := Tryz.isAgg9
  z9 := Tryz.sizeOf9
  v9 := Tryz.zeroValue9
  t20 := Tryz.underlying20
  a20 := Tryz.isAgg20
  z20 := Tryz.sizeOf20
  v20 := Tryz.zeroValue20
  t21 := Tryz.underlying21
  a21 := Tryz.isAgg21
  z21 := Tryz.sizeOf21
  v21 := Tryz.zeroValue21
  t37 := Tryz.underlying30
  a37 := Tryz.isAgg30
  z37 := Tryz.sizeOf30
  v37 := Tryz.zeroValue30
  t46 := Tryz.underlying84
  a46 := Tryz.isAgg84
  z46 := Tryz.sizeOf84
  v46 := Tryz.zeroValue84
  t51 := Tryz.underlying116
  a51 := Tryz.isAgg116
  z51 := Tryz.sizeOf116
  v51 := Tryz.zeroValue116
  t53 := Tryz.underlying76
  a53 := Tryz.isAgg76
  z53 := Tryz.sizeOf76
  v53 := Tryz.zeroValue76
  t75 := Tryz.underlying88
  a75 := Tryz.isAgg88
  z75 := Tryz.sizeOf88
  v75 := Tryz.zeroValue88
  t85 := Tryz.underlying89
  a85 := Tryz.isAgg89
  z85 := Tryz.sizeOf89
  v85 := Tryz.zeroValue89
  t127 := Tryz.underlying127
  a127 := Tryz.isAgg127
  z127 := Tryz.sizeOf127
  v127 := Tryz.zeroValue127
  t143 := Tryz.underlying166
  a143 := Tryz.isAgg166
  z143 := Tryz.sizeOf166
  v143 := Tryz.zeroValue166
  t145 := Tryz.underlying168
  a145 := Tryz.isAgg168
  z145 := Tryz.sizeOf168
  v145 := Tryz.zeroValue168
  t167 := Tryz.underlying136
  a167 := Tryz.isAgg136
  z167 := Tryz.sizeOf136
  v167 := Tryz.zeroValue136
  t168 := Tryz.underlying139
  a168 := Tryz.isAgg139
  z168 := Tryz.sizeOf139
  v168 := Tryz.zeroValue139
  t171 := Tryz.underlying143
  a171 := Tryz.isAgg143
  z171 := Tryz.sizeOf143
  v171 := Tryz.zeroValue143
  t173 := Tryz.underlying145
  a173 := Tryz.isAgg145
  z173 := Tryz.sizeOf145
  v173 := Tryz.zeroValue145
  t175 := Tryz.underlying137
  a175 := Tryz.isAgg137
  z175 := Tryz.sizeOf137
  v175 := Tryz.zeroValue137
  t210 := Tryz.underlying156
  a210 := Tryz.isAgg156
  z210 := Tryz.sizeOf156
  v210 := Tryz.zeroValue156
  t212 := Tryz.underlying163
  a212 := Tryz.isAgg163
  z212 := Tryz.sizeOf163
  v212 := Tryz.zeroValue163
  t213 := Tryz.underlying164
  a213 := Tryz.isAgg164
  z213 := Tryz.sizeOf164
  t232 := Tryz.underlying169
  a232 := Tryz.isAgg169
  z232 := Tryz.sizeOf169
  v232 := Tryz.zeroValue169
  t233 := Tryz.underlying170
  a233 := Tryz.isAgg170
  z233 := Tryz.sizeOf170
  v233 := Tryz.zeroValue170
  g15 := by kernel_rfl
  g16 := by kernel_rfl
  g17 := by kernel_rfl
  g18 := by kernel_rfl
  g19 := by kernel_rfl
  t80 := Tryz.underlying105
  a80 := Tryz.isAgg105
  z80 := Tryz.sizeOf105
  v80 := Tryz.zeroValue105
  i0 := by kernel_rfl
  i2 := by kernel_rfl
  i3 := by kernel_rfl
  i4 := by kernel_rfl
  i5 := by kernel_rfl
  i9 := by kernel_rfl
  i20 := by kernel_rfl
  i21 := by kernel_rfl
  i37 := by kernel_rfl
  i46 := by kernel_rfl
  i51 := by kernel_rfl
  i53 := by kernel_rfl
  i75 := by kernel_rfl
  i80 := by kernel_rfl
  i85 := by kernel_rfl
  i127 := by kernel_rfl
  i143 := by kernel_rfl
  i145 := by kernel_rfl
  i167 := by kernel_rfl
  i168 := by kernel_rfl
  i171 := by kernel_rfl
  i173 := by kernel_rfl
  i175 := by kernel_rfl
  i210 := by kernel_rfl
  i212 := by kernel_rfl
  i232 := by kernel_rfl
  i233 := by kernel_rfl
  m15 := by kernel_rfl
  m16 := by kernel_rfl
  m17 := by kernel_rfl
  m18 := by kernel_rfl
  m19 := by kernel_rfl
  c0 := by kernel_rfl
  c2 := by kernel_rfl
  c3 := by kernel_rfl
  c4 := by kernel_rfl
  c5 := by kernel_rfl
  c9 := by kernel_rfl
  c20 := by kernel_rfl
  c21 := by kernel_rfl
  c37 := by kernel_rfl
  c46 := by kernel_rfl
  c51 := by kernel_rfl
  c53 := by kernel_rfl
  c75 := by kernel_rfl
  c80 := by kernel_rfl
  c85 := by kernel_rfl
  c127 := by kernel_rfl
  c143 := by kernel_rfl
  c145 := by kernel_rfl
  c167 := by kernel_rfl
  c168 := by kernel_rfl
  c171 := by kernel_rfl
  c173 := by kernel_rfl
  c175 := by kernel_rfl
  c210 := by kernel_rfl
  c212 := by kernel_rfl
  c213 := by kernel_rfl
  c232 := by kernel_rfl
  c233 := by kernel_rfl }
open Go.RowKit in
/-- strconv.ParseInt(s, 10, 64), AT EVERY STRING THAT SPELLS AN int64 ('Lib.parseIntB 64 s.data.toList = .ok v'): v, AND NO ERROR. (LAID: no walk: one application.) -/
theorem Tryz.strconv_ParseInt_10_at64_ok (s : ByteArray) (hmax : s.size ≤ 9223372036854775806) (v : Int) (h : Lib.parseIntB 64 s.data.toList = .ok v) (w : World) :
    Calls Tryz.prog 63 #[.string s, .int .i64 10, .int .i64 64] w fun e w' => e = .returned (.tuple #[.int .i64 v, .nilIface]) ∧ (w' = w ∨ ∃ t, w' = Lib.bytesWorld w 5 t) := Any.strconv_ParseInt_10_at64_ok Tryz.laysC174 s hmax v h w
open Go.RowKit in
theorem Tryz.strconv_ParseInt_10_at64_syntax_var (s : ByteArray) (hlim : s.size ≤ 281474976710656) (h : Lib.parseIntB 64 s.data.toList = .«syntax») (tp : TypeId) (p : Value) (w : World) (hvar : w.var? Tryz.prog "strconv.ErrSyntax" = some #[.iface tp p]) :
    Calls Tryz.prog 63 #[.string s, .int .i64 10, .int .i64 64] w fun e w' => ∃ N, e = .returned (.tuple #[.int .i64 (0), .iface 139 (.pointer (some ⟨N, 0, none⟩))]) ∧ w.heap.size ≤ N ∧ w'.heap[N]? = some (.cells #[.string ⟨#[80, 97, 114, 115, 101, 73, 110, 116]⟩, .string s, .iface tp p] 156 (0, 0)) ∧ Below w.heap.size w w' := Any.strconv_ParseInt_10_at64_syntax_var Tryz.laysC174 s hlim h tp p w hvar
open Go.RowKit in
theorem Tryz.strconv_ParseInt_10_at64_range_var (s : ByteArray) (hlim : s.size ≤ 281474976710656) (h : Lib.parseIntB 64 s.data.toList = .range) (tp : TypeId) (p : Value) (w : World) (hvar : w.var? Tryz.prog "strconv.ErrRange" = some #[.iface tp p]) :
    Calls Tryz.prog 63 #[.string s, .int .i64 10, .int .i64 64] w fun e w' => ∃ N, e = .returned (.tuple #[.int .i64 (Lib.intSat 64 s.data.toList), .iface 139 (.pointer (some ⟨N, 0, none⟩))]) ∧ w.heap.size ≤ N ∧ w'.heap[N]? = some (.cells #[.string ⟨#[80, 97, 114, 115, 101, 73, 110, 116]⟩, .string s, .iface tp p] 156 (0, 0)) ∧ Below w.heap.size w w' := Any.strconv_ParseInt_10_at64_range_var Tryz.laysC174 s hlim h tp p w hvar
def Tryz.lays217_ren : Go.Shelf.Ren := ⟨fun | 217 => 90 | 266 => 111 | n => n, fun | 9 => 9 | 5 => 5 | 3 => 3 | n => n, fun | n => n⟩
def Tryz.lays224_ren : Go.Shelf.Ren := ⟨fun | 224 => 92 | n => n, fun | 3 => 3 | n => n, fun | n => n⟩
def Tryz.lays314_ren : Go.Shelf.Ren := ⟨fun | 314 => 112 | n => n, fun | 9 => 9 | 51 => 116 | 3 => 3 | 4 => 4 | 5 => 5 | 46 => 84 | n => n, fun | n => n⟩
def Tryz.lays267_ren : Go.Shelf.Ren := ⟨fun | 267 => 93 | 314 => 112 | n => n, fun | 9 => 9 | 3 => 3 | 146 => 134 | 51 => 116 | 4 => 4 | 5 => 5 | 46 => 84 | n => n, fun | n => n⟩
def Tryz.lays219_ren : Go.Shelf.Ren := ⟨fun | 219 => 62 | 217 => 90 | 225 => 91 | 224 => 92 | 267 => 93 | 266 => 111 | 314 => 112 | n => n, fun | 9 => 9 | 3 => 3 | 4 => 4 | 5 => 5 | 46 => 84 | 146 => 134 | 51 => 116 | n => n, fun | 1 => 0 | n => n⟩
def Tryz.lays143_ren : Go.Shelf.Ren := ⟨fun | 143 => 66 | 219 => 62 | 217 => 90 | 225 => 91 | 224 => 92 | 267 => 93 | 266 => 111 | 314 => 112 | n => n, fun | 9 => 9 | 3 => 3 | 4 => 4 | 5 => 5 | 46 => 84 | 146 => 134 | 51 => 116 | n => n, fun | 1 => 0 | n => n⟩
def Tryz.lays220_ren : Go.Shelf.Ren := ⟨fun | 220 => 43 | 219 => 62 | 217 => 90 | 225 => 91 | 224 => 92 | 267 => 93 | 266 => 111 | 314 => 112 | n => n, fun | 9 => 9 | 4 => 4 | 3 => 3 | 5 => 5 | 46 => 84 | 146 => 134 | 51 => 116 | n => n, fun | 1 => 0 | n => n⟩
def Tryz.lays145_ren : Go.Shelf.Ren := ⟨fun | 145 => 24 | 220 => 43 | 219 => 62 | 217 => 90 | 225 => 91 | 224 => 92 | 267 => 93 | 266 => 111 | 314 => 112 | n => n, fun | 9 => 9 | 4 => 4 | 59 => 48 | 3 => 3 | 5 => 5 | 46 => 84 | 146 => 134 | 51 => 116 | n => n, fun | 1 => 0 | n => n⟩
theorem Tryz.lays145 : Go.Proofs.Lays.n145 Tryz.prog Tryz.lays145_ren := {
  mixed := by kernel_rfl
  f145 := Tryz.func24.trans (congrArg some (by kernel_rfl))
  f217 := Tryz.func90.trans (congrArg some (by kernel_rfl))
  f219 := Tryz.func62.trans (congrArg some (by kernel_rfl))
  f220 := Tryz.func43.trans (congrArg some (by kernel_rfl))
  f224 := Tryz.func92.trans (congrArg some (by kernel_rfl))
  f225 := Tryz.func91.trans (congrArg some (by kernel_rfl))
  f266 := Tryz.func111.trans (congrArg some (by kernel_rfl))
  f267 := Tryz.func93.trans (congrArg some (by kernel_rfl))
  f314 := Tryz.func112.trans (congrArg some (by kernel_rfl))
  t3 := Tryz.underlying3
  a3 := Tryz.isAgg3
  z3 := Tryz.sizeOf3
  v3 := Tryz.zeroValue3
  t4 := Tryz.underlying4
  a4 := Tryz.isAgg4
  z4 := Tryz.sizeOf4
  v4 := Tryz.zeroValue4
  t5 := Tryz.underlying5
  a5 := Tryz.isAgg5
  z5 := Tryz.sizeOf5
  v5 := Tryz.zeroValue5
  t9 := Tryz.underlying9
  a9 := Tryz.isAgg9
  z9 := Tryz.sizeOf9
  v9 := Tryz.zeroValue9
  t46 := Tryz.underlying84
  a46 := Tryz.isAgg84
  z46 := Tryz.sizeOf84
  v46 := Tryz.zeroValue84
  t51 := Tryz.underlying116
  a51 := Tryz.isAgg116
  z51 := Tryz.sizeOf116
  v51 := Tryz.zeroValue116
  t59 := Tryz.underlying48
  a59 := Tryz.isAgg48
  z59 := Tryz.sizeOf48
  v59 := Tryz.zeroValue48
  t146 := Tryz.underlying134
  a146 := Tryz.isAgg134
  z146 := Tryz.sizeOf134
  v146 := Tryz.zeroValue134
  g1 := by kernel_rfl }
open Go.RowKit Go.Lib in
/-- strings.Cut: "Cut slices s around the first instance of sep, returning the text before and after sep. The found result reports whether sep appears in s. If sep does not appear in s, cut returns s, "", false.": IT RETURNS 'Lib.cut s sep'; the world is as it was but for the count of draws. (LAID: no walk: one application.) -/
theorem Tryz.strings_Cut (s sep : ByteArray) (m : Int) (w : World) (hs : s.size < 4294967281) (hm : w.cell? ⟨0, 0, none⟩ = some (.int .i64 m)) :
    Calls Tryz.prog 24 #[.string s, .string sep] w fun e w' => e = .returned (.tuple #[.string ⟨(Lib.cut s.data.toList sep.data.toList).1.toArray⟩, .string ⟨(Lib.cut s.data.toList sep.data.toList).2.1.toArray⟩, .bool (Lib.cut s.data.toList sep.data.toList).2.2]) ∧ ∃ n, w' = w.drewN n := Any.strings_Cut Tryz.lays145 s sep m w hs hm
def Tryz.lays138_ren : Go.Shelf.Ren := ⟨fun | 138 => 65 | 195 => 96 | 218 => 98 | 143 => 66 | 219 => 62 | 217 => 90 | 225 => 91 | 224 => 92 | 267 => 93 | 266 => 111 | 314 => 112 | n => n, fun | 9 => 9 | 3 => 3 | 4 => 4 | 5 => 5 | 0 => 0 | 46 => 84 | 146 => 134 | 51 => 116 | n => n, fun | 1 => 0 | n => n⟩
def Tryz.laysM219_ren : Go.Shelf.Ren := ⟨fun | 219 => 62 | 217 => 90 | 225 => 91 | 224 => 92 | 267 => 93 | 266 => 111 | 314 => 112 | n => n, fun | 9 => 9 | 3 => 3 | 4 => 4 | 5 => 5 | 46 => 84 | 146 => 134 | 51 => 116 | n => n, fun | 1 => 0 | n => n⟩
def Tryz.laysM143_ren : Go.Shelf.Ren := ⟨fun | 143 => 66 | 219 => 62 | 217 => 90 | 225 => 91 | 224 => 92 | 267 => 93 | 266 => 111 | 314 => 112 | n => n, fun | 9 => 9 | 3 => 3 | 4 => 4 | 5 => 5 | 46 => 84 | 146 => 134 | 51 => 116 | n => n, fun | 1 => 0 | n => n⟩
def Tryz.laysM220_ren : Go.Shelf.Ren := ⟨fun | 220 => 43 | 219 => 62 | 217 => 90 | 225 => 91 | 224 => 92 | 267 => 93 | 266 => 111 | 314 => 112 | n => n, fun | 9 => 9 | 4 => 4 | 3 => 3 | 5 => 5 | 46 => 84 | 146 => 134 | 51 => 116 | n => n, fun | 1 => 0 | n => n⟩
def Tryz.laysM145_ren : Go.Shelf.Ren := ⟨fun | 145 => 24 | 220 => 43 | 219 => 62 | 217 => 90 | 225 => 91 | 224 => 92 | 267 => 93 | 266 => 111 | 314 => 112 | n => n, fun | 9 => 9 | 4 => 4 | 59 => 48 | 3 => 3 | 5 => 5 | 46 => 84 | 146 => 134 | 51 => 116 | n => n, fun | 1 => 0 | n => n⟩
theorem Tryz.laysM145 : Go.Proofs.LaysM.n145 Tryz.prog Tryz.laysM145_ren := {
  mixed := by kernel_rfl
  f145 := Tryz.func24.trans (congrArg some (by kernel_rfl))
  f217 := Tryz.func90.trans (congrArg some (by kernel_rfl))
  f219 := Tryz.func62.trans (congrArg some (by kernel_rfl))
  f220 := Tryz.func43.trans (congrArg some (by kernel_rfl))
  f224 := Tryz.func92.trans (congrArg some (by kernel_rfl))
  f225 := Tryz.func91.trans (congrArg some (by kernel_rfl))
  f266 := Tryz.func111.trans (congrArg some (by kernel_rfl))
  f267 := Tryz.func93.trans (congrArg some (by kernel_rfl))
  f314 := Tryz.func112.trans (congrArg some (by kernel_rfl))
  t3 := Tryz.underlying3
  a3 := Tryz.isAgg3
  z3 := Tryz.sizeOf3
  v3 := Tryz.zeroValue3
  t4 := Tryz.underlying4
  a4 := Tryz.isAgg4
  z4 := Tryz.sizeOf4
  v4 := Tryz.zeroValue4
  t5 := Tryz.underlying5
  a5 := Tryz.isAgg5
  z5 := Tryz.sizeOf5
  v5 := Tryz.zeroValue5
  t9 := Tryz.underlying9
  a9 := Tryz.isAgg9
  z9 := Tryz.sizeOf9
  v9 := Tryz.zeroValue9
  t46 := Tryz.underlying84
  a46 := Tryz.isAgg84
  z46 := Tryz.sizeOf84
  v46 := Tryz.zeroValue84
  t51 := Tryz.underlying116
  a51 := Tryz.isAgg116
  z51 := Tryz.sizeOf116
  v51 := Tryz.zeroValue116
  t59 := Tryz.underlying48
  a59 := Tryz.isAgg48
  z59 := Tryz.sizeOf48
  v59 := Tryz.zeroValue48
  t146 := Tryz.underlying134
  a146 := Tryz.isAgg134
  z146 := Tryz.sizeOf134
  v146 := Tryz.zeroValue134
  g1 := by kernel_rfl
  i3 := by kernel_rfl
  i4 := by kernel_rfl
  i5 := by kernel_rfl
  i9 := by kernel_rfl
  i46 := by kernel_rfl
  i51 := by kernel_rfl
  i59 := by kernel_rfl
  i146 := by kernel_rfl
  m1 := by kernel_rfl
  s1_3 := fun w h => Go.Proofs.cell_of_shapedOpen_int (zero := #[.int .i64 0]) (t := 3) h (of_decide_eq_true (by kernel_rfl)) (by kernel_rfl) rfl (by kernel_rfl) (by kernel_rfl) Tryz.underlying3 }
def Tryz.laysM138_ren : Go.Shelf.Ren := ⟨fun | 138 => 65 | 195 => 96 | 218 => 98 | 143 => 66 | 219 => 62 | 217 => 90 | 225 => 91 | 224 => 92 | 267 => 93 | 266 => 111 | 314 => 112 | n => n, fun | 9 => 9 | 3 => 3 | 4 => 4 | 5 => 5 | 0 => 0 | 46 => 84 | 146 => 134 | 51 => 116 | n => n, fun | 1 => 0 | n => n⟩
def Tryz.lays221_ren : Go.Shelf.Ren := ⟨fun | 221 => 45 | 268 => 64 | 138 => 65 | 143 => 66 | 195 => 96 | 197 => 97 | 218 => 98 | 219 => 62 | 260 => 118 | 217 => 90 | 225 => 91 | 224 => 92 | 267 => 93 | 266 => 111 | 314 => 112 | n => n, fun | 9 => 9 | 3 => 3 | 31 => 50 | 4 => 4 | 0 => 0 | 105 => 122 | 21 => 21 | 5 => 5 | 46 => 84 | 119 => 158 | 139 => 161 | 138 => 160 | 146 => 134 | 51 => 116 | n => n, fun | 1 => 0 | 3 => 3 | 4 => 4 | n => n⟩
def Tryz.lays146_ren : Go.Shelf.Ren := ⟨fun | 146 => 26 | 221 => 45 | 268 => 64 | 138 => 65 | 143 => 66 | 195 => 96 | 197 => 97 | 218 => 98 | 219 => 62 | 260 => 118 | 217 => 90 | 225 => 91 | 224 => 92 | 267 => 93 | 266 => 111 | 314 => 112 | n => n, fun | 9 => 9 | 31 => 50 | 3 => 3 | 4 => 4 | 0 => 0 | 105 => 122 | 21 => 21 | 5 => 5 | 46 => 84 | 119 => 158 | 139 => 161 | 138 => 160 | 146 => 134 | 51 => 116 | n => n, fun | 1 => 0 | 3 => 3 | 4 => 4 | n => n⟩
theorem Tryz.lays146 : Go.Proofs.Lays.n146 Tryz.prog Tryz.lays146_ren := {
  mixed := by kernel_rfl
  f138 := Tryz.func65.trans (congrArg some (by kernel_rfl))
  f143 := Tryz.func66.trans (congrArg some (by kernel_rfl))
  f146 := Tryz.func26.trans (congrArg some (by kernel_rfl))
  f195 := Tryz.func96.trans (congrArg some (by kernel_rfl))
  f197 := Tryz.func97.trans (congrArg some (by kernel_rfl))
  f217 := Tryz.func90.trans (congrArg some (by kernel_rfl))
  f218 := Tryz.func98.trans (congrArg some (by kernel_rfl))
  f219 := Tryz.func62.trans (congrArg some (by kernel_rfl))
  f221 := Tryz.func45.trans (congrArg some (by kernel_rfl))
  f224 := Tryz.func92.trans (congrArg some (by kernel_rfl))
  f225 := Tryz.func91.trans (congrArg some (by kernel_rfl))
  f260 := Tryz.func118.trans (congrArg some (by kernel_rfl))
  f266 := Tryz.func111.trans (congrArg some (by kernel_rfl))
  f267 := Tryz.func93.trans (congrArg some (by kernel_rfl))
  f268 := Tryz.func64.trans (congrArg some (by kernel_rfl))
  f314 := Tryz.func112.trans (congrArg some (by kernel_rfl))
  t0 := Tryz.underlying0
  a0 := Tryz.isAgg0
  z0 := Tryz.sizeOf0
  v0 := Tryz.zeroValue0
  t3 := Tryz.underlying3
  a3 := Tryz.isAgg3
  z3 := Tryz.sizeOf3
  v3 := Tryz.zeroValue3
  t4 := Tryz.underlying4
  a4 := Tryz.isAgg4
  z4 := Tryz.sizeOf4
  v4 := Tryz.zeroValue4
  t5 := Tryz.underlying5
  a5 := Tryz.isAgg5
  z5 := Tryz.sizeOf5
  v5 := Tryz.zeroValue5
  t9 := Tryz.underlying9
  a9 := Tryz.isAgg9
  z9 := Tryz.sizeOf9
  v9 := Tryz.zeroValue9
  t21 := Tryz.underlying21
  a21 := Tryz.isAgg21
  z21 := Tryz.sizeOf21
  v21 := Tryz.zeroValue21
  t31 := Tryz.underlying50
  a31 := Tryz.isAgg50
  z31 := Tryz.sizeOf50
  v31 := Tryz.zeroValue50
  t46 := Tryz.underlying84
  a46 := Tryz.isAgg84
  z46 := Tryz.sizeOf84
  v46 := Tryz.zeroValue84
  t51 := Tryz.underlying116
  a51 := Tryz.isAgg116
  z51 := Tryz.sizeOf116
  v51 := Tryz.zeroValue116
  t105 := Tryz.underlying122
  a105 := Tryz.isAgg122
  z105 := Tryz.sizeOf122
  v105 := Tryz.zeroValue122
  t119 := Tryz.underlying158
  a119 := Tryz.isAgg158
  z119 := Tryz.sizeOf158
  t138 := Tryz.underlying160
  a138 := Tryz.isAgg160
  z138 := Tryz.sizeOf160
  v138 := Tryz.zeroValue160
  t139 := Tryz.underlying161
  a139 := Tryz.isAgg161
  z139 := Tryz.sizeOf161
  v139 := Tryz.zeroValue161
  t146 := Tryz.underlying134
  a146 := Tryz.isAgg134
  z146 := Tryz.sizeOf134
  v146 := Tryz.zeroValue134
  g1 := by kernel_rfl
  g3 := by kernel_rfl
  g4 := by kernel_rfl }
open Go.RowKit Go.Lib in
/-- strings.Split. (LAID: no walk: one application.) -/
theorem Tryz.strings_Split (s sep : ByteArray) (m : Int) (w : World) (hs : s.size < 4294967281) (hm : w.cell? ⟨0, 0, none⟩ = some (.int .i64 m)) (h1 : 1 ≤ sep.size) :
    Calls Tryz.prog 26 #[.string s, .string sep] w fun e w' =>
      e = .returned (.slice (some ⟨w.heap.size, 0, none⟩) (Lib.countB s sep + 1) (Lib.countB s sep + 1)) ∧ w' = w.alloc (.cells ((Lib.splitB sep 0 (Lib.countB s sep) s).map Value.string).toArray 9) := Any.strings_Split Tryz.lays146 (by kernel_rfl) s sep m w hs hm h1
def Tryz.laysM146_ren : Go.Shelf.Ren := ⟨fun | 146 => 26 | 221 => 45 | 268 => 64 | 138 => 65 | 143 => 66 | 195 => 96 | 197 => 97 | 218 => 98 | 219 => 62 | 260 => 118 | 217 => 90 | 225 => 91 | 224 => 92 | 267 => 93 | 266 => 111 | 314 => 112 | n => n, fun | 9 => 9 | 31 => 50 | 3 => 3 | 4 => 4 | 0 => 0 | 105 => 122 | 21 => 21 | 5 => 5 | 46 => 84 | 119 => 158 | 139 => 161 | 138 => 160 | 146 => 134 | 51 => 116 | n => n, fun | 1 => 0 | 3 => 3 | 4 => 4 | n => n⟩
def Tryz.lays197_ren : Go.Shelf.Ren := ⟨fun | 197 => 97 | 260 => 118 | n => n, fun | 9 => 9 | 21 => 21 | 3 => 3 | 4 => 4 | 5 => 5 | 105 => 122 | 119 => 158 | 0 => 0 | 46 => 84 | 139 => 161 | 138 => 160 | n => n, fun | 3 => 3 | 4 => 4 | n => n⟩
def Tryz.lays268_ren : Go.Shelf.Ren := ⟨fun | 268 => 64 | 195 => 96 | 197 => 97 | 260 => 118 | n => n, fun | 9 => 9 | 3 => 3 | 31 => 50 | 4 => 4 | 105 => 122 | 21 => 21 | 0 => 0 | 5 => 5 | 119 => 158 | 46 => 84 | 139 => 161 | 138 => 160 | n => n, fun | 3 => 3 | 4 => 4 | n => n⟩
def Tryz.lays260_ren : Go.Shelf.Ren := ⟨fun | 260 => 118 | n => n, fun | 9 => 9 | 21 => 21 | 3 => 3 | 4 => 4 | 5 => 5 | 119 => 158 | 0 => 0 | 46 => 84 | 139 => 161 | 138 => 160 | n => n, fun | 3 => 3 | 4 => 4 | n => n⟩
def Tryz.laysSlM5_f36_ren : Go.Shelf.Ren := ⟨fun | 5 => 36 | 8 => 60 | 7 => 59 | 19 => 88 | 20 => 89 | 10 => 79 | 11 => 80 | 12 => 81 | 13 => 82 | 14 => 83 | 15 => 84 | 16 => 85 | 17 => 86 | 18 => 87 | 30 => 105 | 31 => 106 | 32 => 107 | 33 => 108 | 34 => 109 | 35 => 110 | 40 => 125 | n => n, fun | 23 => 35 | 25 => 2 | 3 => 3 | 32 => 84 | 22 => 35 | 0 => 0 | 44 => 116 | 46 => 76 | 4 => 4 | 36 => 108 | 35 => 107 | 41 => 113 | 5 => 5 | 9 => 9 | 53 => 128 | 57 => 132 | 63 => 150 | 64 => 151 | n => n, fun | n => n⟩
theorem Tryz.laysSlM5_f36 : Go.Proofs.SlLaysM.n5 Tryz.prog Tryz.laysSlM5_f36_ren := {
  mixed := by kernel_rfl
  f5 := ⟨Tryz.f36.name, by decide, Tryz.func36.trans (congrArg some (by kernel_rfl))⟩
  f7 := ⟨Tryz.f59.name, by decide, Tryz.func59.trans (congrArg some (by kernel_rfl))⟩
  f8 := Tryz.func60.trans (congrArg some (by kernel_rfl))
  f10 := ⟨Tryz.f79.name, by decide, Tryz.func79.trans (congrArg some (by kernel_rfl))⟩
  f11 := ⟨Tryz.f80.name, by decide, Tryz.func80.trans (congrArg some (by kernel_rfl))⟩
  f12 := ⟨Tryz.f81.name, by decide, Tryz.func81.trans (congrArg some (by kernel_rfl))⟩
  f13 := ⟨Tryz.f82.name, by decide, Tryz.func82.trans (congrArg some (by kernel_rfl))⟩
  f14 := ⟨Tryz.f83.name, by decide, Tryz.func83.trans (congrArg some (by kernel_rfl))⟩
  f15 := ⟨Tryz.f84.name, by decide, Tryz.func84.trans (congrArg some (by kernel_rfl))⟩
  f16 := ⟨Tryz.f85.name, by decide, Tryz.func85.trans (congrArg some (by kernel_rfl))⟩
  f17 := ⟨Tryz.f86.name, by decide, Tryz.func86.trans (congrArg some (by kernel_rfl))⟩
  f18 := ⟨Tryz.f87.name, by decide, Tryz.func87.trans (congrArg some (by kernel_rfl))⟩
  f19 := Tryz.func88.trans (congrArg some (by kernel_rfl))
  f20 := Tryz.func89.trans (congrArg some (by kernel_rfl))
  f30 := ⟨Tryz.f105.name, by decide, Tryz.func105.trans (congrArg some (by kernel_rfl))⟩
  f31 := Tryz.func106.trans (congrArg some (by kernel_rfl))
  f32 := Tryz.func107.trans (congrArg some (by kernel_rfl))
  f33 := ⟨Tryz.f108.name, by decide, Tryz.func108.trans (congrArg some (by kernel_rfl))⟩
  f34 := ⟨Tryz.f109.name, by decide, Tryz.func109.trans (congrArg some (by kernel_rfl))⟩
  f35 := ⟨Tryz.f110.name, by decide, Tryz.func110.trans (congrArg some (by kernel_rfl))⟩
  f40 := ⟨Tryz.f125.name, by decide, Tryz.func125.trans (congrArg some (by kernel_rfl))⟩
  t0 := Tryz.underlying0
  a0 := Tryz.isAgg0
  z0 := Tryz.sizeOf0
  v0 := Tryz.zeroValue0
  t3 := Tryz.underlying3
  a3 := Tryz.isAgg3
  z3 := Tryz.sizeOf3
  v3 := Tryz.zeroValue3
  t4 := Tryz.underlying4
  a4 := Tryz.isAgg4
  z4 := Tryz.sizeOf4
  v4 := Tryz.zeroValue4
  t5 := Tryz.underlying5
  a5 := Tryz.isAgg5
  z5 := Tryz.sizeOf5
  v5 := Tryz.zeroValue5
  t9 := Tryz.underlying9
  a9 := Tryz.isAgg9
  z9 := Tryz.sizeOf9
  v9 := Tryz.zeroValue9
  t22 := Tryz.underlying35
  a22 := Tryz.isAgg35
  z22 := Tryz.sizeOf35
  v22 := Tryz.zeroValue35
  t23 := Tryz.underlying35
  a23 := Tryz.isAgg35
  z23 := Tryz.sizeOf35
  v23 := Tryz.zeroValue35
  t25 := Tryz.underlying2
  a25 := Tryz.isAgg2
  z25 := Tryz.sizeOf2
  v25 := Tryz.zeroValue2
  t32 := Tryz.underlying84
  a32 := Tryz.isAgg84
  z32 := Tryz.sizeOf84
  v32 := Tryz.zeroValue84
  t35 := Tryz.underlying107
  a35 := Tryz.isAgg107
  z35 := Tryz.sizeOf107
  v35 := Tryz.zeroValue107
  t36 := Tryz.underlying108
  a36 := Tryz.isAgg108
  z36 := Tryz.sizeOf108
  v36 := Tryz.zeroValue108
  t41 := Tryz.underlying113
  a41 := Tryz.isAgg113
  z41 := Tryz.sizeOf113
  v41 := Tryz.zeroValue113
  t44 := Tryz.underlying116
  a44 := Tryz.isAgg116
  z44 := Tryz.sizeOf116
  v44 := Tryz.zeroValue116
  t46 := Tryz.underlying76
  a46 := Tryz.isAgg76
  z46 := Tryz.sizeOf76
  v46 := Tryz.zeroValue76
  t53 := Tryz.underlying128
  a53 := Tryz.isAgg128
  z53 := Tryz.sizeOf128
  v53 := Tryz.zeroValue128
  t57 := Tryz.underlying132
  a57 := Tryz.isAgg132
  z57 := Tryz.sizeOf132
  v57 := Tryz.zeroValue132
  t63 := Tryz.underlying150
  a63 := Tryz.isAgg150
  z63 := Tryz.sizeOf150
  v63 := Tryz.zeroValue150
  t64 := Tryz.underlying151
  a64 := Tryz.isAgg151
  z64 := Tryz.sizeOf151
  v64 := Tryz.zeroValue151 }
open Go.Sort Go.RowKit in
theorem Tryz.slices_Sort_int (blk off cap : Nat) (zs : List Int) (w : World) (hH : Holds (Value.int .i64) w blk off zs.toArray) (hblk : blk < w.heap.size) (hsz : zs.length < 4611686018427387904) :
    Calls Tryz.prog 36 #[.slice (some ⟨blk, off, none⟩) zs.length cap] w fun e w' =>
      e = .returned (.tuple #[]) ∧ ∃ n os, w' = grow (putRow (Value.int .i64) (Sort.ahead w n) blk off (zs.mergeSort fun x y => decide (x ≤ y)).toArray) os := AnyM.slices_Sort_int Tryz.laysSlM5_f36 blk off cap zs w hH hblk hsz
open Go.RowKit Go.Sort in
/-- .. and plain. (LAID AT THE INSTANCE 'slices.Sort[[]int64,int64]': no walk: one application.) -/
theorem Tryz.slices_Sort_int_none (p : Option Addr) (cap : Nat) (w : World) :
    Calls Tryz.prog 36 #[.slice p 0 cap] w fun e w' => e = .returned (.tuple #[]) ∧ w' = w := AnyM.slices_Sort_int_none Tryz.laysSlM5_f36 p cap w
end Go.Proofs

/- slices.Sorted over a slice's values: the numbers in rising order, in memory of the call's own. -/
namespace Go.Proofs.YtibaiaenfeppcaaGreatDoor.Sv
open Go Go.Sort
open Go.RowKit Go.Proofs.YtibaiaenfeppcaaGreatDoorW.PrintWords
/-- Numbers in rising order. -/
def srt (zs : List Int) : List Int := zs.mergeSort fun x y => decide (x ≤ y)
theorem srt_len (zs : List Int) : (srt zs).length = zs.length := by simp [srt]
/-- slices.Sort on a list of the call's own. -/
theorem sort_own {base : Nat} (v : Value) (zs : List Int) (hlen : zs.length ≤ 1000000) (w1 : World) (h : w1.ownsRow base 2 1 v zs.length (zs.map (Value.int .i64))) :
    Calls Tryz.prog 36 #[v] w1 fun e w' => e = .returned (.tuple #[]) ∧ w'.ownsRow base 2 1 v zs.length ((srt zs).map (Value.int .i64)) ∧ ∀ w0 : World, RowKit.Below base w0 w1 → base ≤ w1.heap.size → RowKit.Below base w0 w' := by
  rcases h.2 with ⟨rfl, hz⟩ | ⟨gb, cap, cur, rfl, hbase, hgb, r1, r2, r3, r4⟩
  · have hzs : zs = [] := List.eq_nil_of_length_eq_zero hz
    subst hzs
    refine (Tryz.slices_Sort_int_none none 0 w1).mono ?_
    rintro e w' ⟨rfl, rfl⟩
    exact ⟨rfl, by simpa [srt] using h, fun _ hb _ => hb⟩
  · have hH : Holds (Value.int .i64) w1 gb 0 zs.toArray := holds_of_blockI hgb (by simpa using r4)
    have hgl : gb < w1.heap.size := (Array.getElem?_eq_some_iff.1 hgb).1
    refine (Tryz.slices_Sort_int gb 0 cap zs w1 hH hgl (by omega)).mono ?_
    rintro e w' ⟨rfl, n, os, rfl⟩
    exact ⟨rfl, ownsRow_sortedI (ss := zs) (ts := srt zs) (srt_len zs) hbase hgb r1 r2 r3, fun w0 hb hs => hb.grown (grownBy_sortedI _) hs (fun j hj => by cases hj; exact hbase)⟩
set_option maxHeartbeats 1000000 in
theorem sorted_any (Bs : Nat) (sv : Value) (zs : List Int) (hlen : zs.length ≤ 1000000) (w : World) (hBs : Bs < w.heap.size) (hc : w.cell? ⟨Bs, 0, none⟩ = some sv) (hI : Ints w.heap.size w sv zs) :
    Calls Tryz.prog 48 #[.func (.func 68) #[] #[.pointer (some ⟨Bs, 0, none⟩)]] w fun e w' => ∃ v, e = .returned v ∧ w'.ownsRow w.heap.size 2 1 v zs.length ((srt zs).map (Value.int .i64)) ∧ Below w.heap.size w w' := by
  have cC := Aside0.mk (collect_any Bs sv zs hlen w hBs hc hI)
  have HL := Aside0.mk hlen
  clear hlen hBs hc hI
  go_enter Tryz.func48, Tryz.ntmps48
  go_wp2_with (first
    | (go_at_call 67; refine cC.out.mono ?_; rintro e w1 ⟨v, rfl, hrow, hb⟩; have HR := Aside0.mk hrow; have HB := Aside0.mk hb; clear hrow hb)
    | (go_at_call 36; refine (sort_own v zs HL.out w1 HR.out).mono ?_; rintro e w2 ⟨rfl, hrow, hb⟩; have HR2 := Aside0.mk hrow; have HB2 := Aside0.mk (hb _ HB.out HB.out.size); clear hrow hb))
  go_ret
  exact ⟨v, rfl, HR2.out, HB2.out⟩
end Go.Proofs.YtibaiaenfeppcaaGreatDoor.Sv

namespace Go.Proofs.YtibaiaenfeppcaaGreatDoor.Ha
open Go.RowKit Go.Proofs.YtibaiaenfeppcaaGreatDoorW.PrintWords Go.Proofs.YtibaiaenfeppcaaGreatDoorW.PrintLast Go.Proofs.YtibaiaenfeppcaaGreatDoorW.PrintMore

theorem ret_bool {a b : Bool} (h : a = b) : Ending.returned (.bool a) = .returned (.bool b) := by rw [h]
theorem ret_int {k : IntKind} {a b : Int} (h : a = b) : Ending.returned (.int k a) = .returned (.int k b) := by rw [h]

def inB (lo hi n : Int) : Bool := decide (lo ≤ n) && decide (n ≤ hi)

theorem within_any (n lo hi : Int) (w : World) :
    Calls Tryz.prog 47 #[.int .i64 n, .int .i64 lo, .int .i64 hi] w fun e w' => e = .returned (.bool (inB lo hi n)) ∧ w' = w := by
  by_cases h : lo ≤ n
  · go_enter Tryz.func47, Tryz.ntmps47
    go_wp2
    go_ret
    exact ⟨ret_bool (by simp [inB, h]), rfl⟩
  · have h' : decide (lo ≤ n) = false := by simpa using h
    go_enter Tryz.func47, Tryz.ntmps47
    go_wp2
    go_ret
    exact ⟨ret_bool (by simp [inB]; omega), rfl⟩

theorem lit1_any (n lo hi : Int) (b1 b2 : Nat) (w : World) (h1 : w.cell? ⟨b1, 0, none⟩ = some (.int .i64 lo)) (h2 : w.cell? ⟨b2, 0, none⟩ = some (.int .i64 hi)) :
    Calls Tryz.prog 71 #[.int .i64 n, .pointer (some ⟨b1, 0, none⟩), .pointer (some ⟨b2, 0, none⟩)] w fun e w' => e = .returned (.bool (!inB lo hi n)) ∧ w' = w := by
  go_enter Tryz.func71, Tryz.ntmps71
  go_wp2_with (go_at_call 47; refine (within_any _ _ _ _).mono ?_; rintro e w' ⟨rfl, rfl⟩)
  go_ret
  exact ⟨rfl, rfl⟩

def idxOf (p : Int → Bool) : List Int → Int → Int
  | [], _ => -1
  | x :: xs, k => if p x then k else idxOf p xs (k + 1)

theorem idx_any (lo hi : Int) (b1 b2 : Nat) (A : Option Addr) (c : Nat) (l : List Int) (w : World) (h1 : w.cell? ⟨b1, 0, none⟩ = some (.int .i64 lo)) (h2 : w.cell? ⟨b2, 0, none⟩ = some (.int .i64 hi))
    (hr : Kd.C (Kd.int .i64) w A l.length l) :
    Calls Tryz.prog 101 #[.slice A l.length c, .func (.func 71) #[] #[.pointer (some ⟨b1, 0, none⟩), .pointer (some ⟨b2, 0, none⟩)]] w fun e w' => e = .returned (.int .i64 (idxOf (fun n => !inB lo hi n) l 0)) ∧ w' = w := by
  have hlen : l.length ≤ 9223372036854775807 := hr.2.1
  go_enter Tryz.func101, Tryz.ntmps101
  go_wp2
  go_loop [8, 5] (fun i _ => ∃ k : Nat, k ≤ l.length ∧ i = .int .i64 k ∧ idxOf (fun n => !inB lo hi n) l 0 = idxOf (fun n => !inB lo hi n) (l.drop k) k) (fun i _ => l.length - (intOf i).toNat)
  case atStart => exact ⟨0, by omega, rfl, by simp⟩
  case round =>
    obtain ⟨k, hk, rfl, hi⟩ := hrel
    have HI := Lib.hid hi
    clear hi
    by_cases hlt : k < l.length
    · obtain ⟨ad, rfl, hc⟩ := Kd.at_int hr (k : Int) (by omega) (by omega)
      have hc' : w.cell? (ad.add k) = some (.int .i64 (rd l k)) := by simpa using hc
      have hd : l.drop k = rd l k :: l.drop (k + 1) := by rw [List.drop_eq_getElem_cons hlt]; simp [rd, hlt]
      have HD := Lib.hid hd
      clear hd
      by_cases hin : inB lo hi (rd l k) = true
      · go_wp2_with (go_at_call 71; refine (lit1_any _ _ _ _ _ _ h1 h2).mono ?_; rintro e w' ⟨rfl, rfl⟩)
        go_round
        case rel => exact ⟨k + 1, by omega, by go_num, by rw [HI.out, HD.out]; simp [idxOf, hin]⟩
        case measure => simp [intOf]; omega
      · have hin' : inB lo hi (rd l k) = false := by simpa using hin
        clear hin
        go_wp2_with (go_at_call 71; refine (lit1_any _ _ _ _ _ _ h1 h2).mono ?_; rintro e w' ⟨rfl, rfl⟩)
        go_ret
        exact ⟨ret_int (by rw [HI.out, HD.out]; simp [idxOf, hin']), rfl⟩
    · go_wp2
      go_ret
      have : k = l.length := by omega
      subst this
      exact ⟨ret_int (by rw [HI.out]; simp [idxOf]), rfl⟩

theorem idxOf_neg (p : Int → Bool) (l : List Int) (k : Int) (hk : 0 ≤ k) : decide (idxOf p l k ≥ 0) = l.any p := by
  induction l generalizing k with
  | nil => simp [idxOf]
  | cons x xs ih =>
    by_cases h : p x = true
    · simp [idxOf, h, hk]
    · simp only [idxOf, h]; simp [ih (k + 1) (by omega), h]

theorem contains_any (lo hi : Int) (b1 b2 : Nat) (A : Option Addr) (c : Nat) (l : List Int) (w : World) (h1 : w.cell? ⟨b1, 0, none⟩ = some (.int .i64 lo)) (h2 : w.cell? ⟨b2, 0, none⟩ = some (.int .i64 hi))
    (hr : Kd.C (Kd.int .i64) w A l.length l) :
    Calls Tryz.prog 70 #[.slice A l.length c, .func (.func 71) #[] #[.pointer (some ⟨b1, 0, none⟩), .pointer (some ⟨b2, 0, none⟩)]] w fun e w' => e = .returned (.bool (l.any fun n => !inB lo hi n)) ∧ w' = w := by
  have HR := Lib.hid (idxOf_neg (fun n => !inB lo hi n) l 0 (by omega))
  go_enter Tryz.func70, Tryz.ntmps70
  go_wp2_with (go_at_call 101; refine (idx_any _ _ _ _ _ _ _ _ h1 h2 hr).mono ?_; rintro e w' ⟨rfl, rfl⟩)
  go_ret
  exact ⟨ret_bool HR.out, rfl⟩

def areIn (l : List Int) (lo hi : Int) : Bool := l.all fun n => inB lo hi n

theorem areIn_any (l : List Int) (lo hi : Int) : (!l.any fun n => !inB lo hi n) = areIn l lo hi := by
  simp [areIn, List.any_eq_not_all_not]

theorem areWithin_any (A : Option Addr) (c : Nat) (l : List Int) (lo hi : Int) (w : World) (hr : Kd.C (Kd.int .i64) w A l.length l) :
    Calls Tryz.prog 51 #[.slice A l.length c, .int .i64 lo, .int .i64 hi] w fun e w' => e = .returned (.bool (areIn l lo hi)) ∧ Below w.heap.size w w' := by
  have HX := Lib.hid (areIn_any l lo hi)
  have hC := fun W hW h1 h2 => contains_any lo hi w.heap.size (w.heap.size + 1) A c l W h1 h2 hW
  go_enter Tryz.func51, Tryz.ntmps51
  go_wp2_with (go_at_call 70; refine (hC _ (Kd.C_alloc (Kd.C_alloc hr _) _) (by simp) (by simp)).mono ?_; rintro e w' ⟨rfl, rfl⟩)
  go_ret
  exact ⟨ret_bool HX.out, below_alloc (below_alloc (Below.refl _ _) _) _⟩
end Go.Proofs.YtibaiaenfeppcaaGreatDoor.Ha

/- The lots of a yard: all stacks one behind the other. -/
namespace Go.Proofs.YtibaiaenfeppcaaGreatDoor.Yv
open Go Go.RowKit Go.Proofs.YtibaiaenfeppcaaGreatDoorW.PrintWords Go.Proofs.YtibaiaenfeppcaaGreatDoor.Sv Go.Proofs.YtibaiaenfeppcaaGreatDoor.Gr Go.Proofs.YtibaiaenfeppcaaGreatDoor.Ha
set_option maxRecDepth 100000 in
theorem lots_any (h : Int) (A : Option Addr) (c : Nat) (xs : List (List Int)) (hn : xs.length ≤ 1000000) (hl : xs.flatten.length ≤ 1000000) (w : World) (hr : Kd.C (Kd.slice 2 (Kd.int .i64)) w A xs.length xs) :
    Calls Tryz.prog 50 #[.agg #[.int .i64 h, .slice A xs.length c]] w fun e w' => ∃ v, e = .returned v ∧ Kd.R (Kd.int .i64) 2 w' w.heap.size (fun _ => True) v xs.flatten ∧ RowKit.Below w.heap.size w w' := by
  have HR := Aside0.mk hr
  have hu := Tryz.underlying24
  clear hr
  go_enter Tryz.func50, Tryz.ntmps50
  go_wp2_with (go_at_call 69; refine (concat_any A c xs hn hl _ (Kd.C_below HR.out (below_alloc (RowKit.Below.refl _ _) (.cells #[.int .i64 h, .slice A xs.length c] 24)))).mono ?_; rintro e w1 ⟨v, rfl, hR, hb⟩; have HV := Aside0.mk (Kd.R_lower hR (below_size (below_alloc (RowKit.Below.refl w.heap.size w) (.cells #[.int .i64 h, .slice A xs.length c] 24)))); have HB := Aside0.mk (below_step (below_alloc (RowKit.Below.refl w.heap.size w) (.cells #[.int .i64 h, .slice A xs.length c] 24)) hb); clear hR hb)
  go_ret
  exact ⟨v, rfl, HV.out, HB.out⟩
end Go.Proofs.YtibaiaenfeppcaaGreatDoor.Yv

/- The program's ValidYard. -/
namespace Go.Proofs.YtibaiaenfeppcaaGreatDoor.Yv
set_option linter.unusedSimpArgs false
set_option linter.unusedVariables false
open Go Go.RowKit Go.Proofs.YtibaiaenfeppcaaGreatDoorW.PrintWords Go.Proofs.YtibaiaenfeppcaaGreatDoorW.PrintLast Go.Proofs.YtibaiaenfeppcaaGreatDoor.Sv Go.Proofs.YtibaiaenfeppcaaGreatDoor.Gr Go.Proofs.YtibaiaenfeppcaaGreatDoor.Ha
theorem ints_of_own {w : World} {base : Nat} {e : TypeId} {v : Value} {zs : List Int} (h : w.ownsRow base e 1 v zs.length (zs.map (Value.int .i64))) : Ints w.heap.size w v zs := by
  rcases h.2 with ⟨rfl, hz⟩ | ⟨g, cap, cur, rfl, hb, hg, _⟩
  · exact .inl ⟨rfl, List.eq_nil_of_length_eq_zero hz⟩
  · refine .inr ⟨g, 0, cap, rfl, (Array.getElem?_eq_some_iff.1 hg).1, fun j hj => ?_⟩
    have := h.cells (g := g) rfl j (.int .i64 (zs[j]?.getD 0)) (by simp [hj])
    rw [show (⟨g, 0, none⟩ : Addr).add j = ⟨g, 0 + j, none⟩ by unfold Addr.add; split <;> simp_all] at this
    exact this
theorem values_any (a : Option Addr) (len cap : Nat) (w : World) :
    Calls Tryz.prog 49 #[.slice a len cap] w fun e w' => e = .returned (.func (.func 68) #[] #[.pointer (some ⟨w.heap.size, 0, none⟩)]) ∧ w' = w.alloc (.cells #[.slice a len cap] 35) :=
  (callsIn_wide (n := 3)).1 (values_in Fence.wide 3 trivial rfl a len cap w)
/-- slices.Sorted(slices.Values(l)) behind the iterator's making. -/
theorem sorted_of (v : Value) (zs : List Int) (hlen : zs.length ≤ 1000000) (w : World) {base : Nat} (h : w.ownsRow base 2 1 v zs.length (zs.map (Value.int .i64))) :
    Calls Tryz.prog 48 #[.func (.func 68) #[] #[.pointer (some ⟨w.heap.size, 0, none⟩)]] (w.alloc (.cells #[v] 35)) fun e w' => ∃ A c, e = .returned (.slice A (srt zs).length c) ∧ (srt zs).length ≤ c ∧ Kd.C (Kd.int .i64) w' A (srt zs).length (srt zs) ∧ RowKit.Below w.heap.size w w' := by
  have hI := ints_of_own (h.alloc (.cells #[v] 35))
  have hb := blk_new w (.cells #[v] 35)
  refine (sorted_any w.heap.size v zs hlen _ (by simp) ((blk_cell hb 0).trans rfl) hI).mono ?_
  rintro e w' ⟨u, rfl, ho, hB⟩
  rw [← srt_len zs] at ho
  obtain ⟨A, c, rfl, hc, hC⟩ := Kd.R_reads (Kd.R_of_own (enc := Value.int .i64) ho (fun _ _ => trivial))
  exact ⟨A, c, rfl, hc, hC, below_step (below_alloc (RowKit.Below.refl _ _) _) hB⟩
end Go.Proofs.YtibaiaenfeppcaaGreatDoor.Yv

/- The program's ValidYard, walked. -/
namespace Go.Proofs.YtibaiaenfeppcaaGreatDoor.Yv
set_option linter.unusedSimpArgs false
set_option linter.unusedVariables false
open Go Go.RowKit Go.Proofs.YtibaiaenfeppcaaGreatDoorW.PrintWords Go.Proofs.YtibaiaenfeppcaaGreatDoorW.PrintLast Go.Proofs.YtibaiaenfeppcaaGreatDoor.Sv Go.Proofs.YtibaiaenfeppcaaGreatDoor.Gr Go.Proofs.YtibaiaenfeppcaaGreatDoor.Ha
theorem meas (n j : Nat) (x : Int) (h : j < n) (hx : x = ((j + 1 : Nat) : Int)) : n - x.toNat < n - ((j : Nat) : Int).toNat := by
  subst hx; simp only [Int.toNat_natCast]; omega
theorem flat_le (xs : List (List Int)) (h : ∀ i : Nat, i < xs.length → (rdl xs (i : Int)).length ≤ 4) : xs.flatten.length ≤ 4 * xs.length := by
  have key : ∀ j, j ≤ xs.length → (cat xs j).length ≤ 4 * j := by
    intro j
    induction j with
    | zero => intro _; simp [cat]
    | succ j ih =>
      intro hj
      rw [cat_succ xs j (by omega), List.length_append]
      have := ih (by omega); have := h j (by omega); omega
  have := key xs.length (Nat.le_refl _)
  rwa [cat_all] at this
/-- No two neighbours of the first j are alike. -/
def apart (l : List Int) (j : Nat) : Prop := ∀ i : Nat, 0 < i → i < j → rd l ((i : Int) - 1) ≠ rd l (i : Int)
set_option maxRecDepth 100000 in
set_option maxHeartbeats 4000000 in
theorem impl_yard (h : Int) (A : Option Addr) (c : Nat) (xs : List (List Int)) (w : World) (hr : Kd.C (Kd.slice 2 (Kd.int .i64)) w A xs.length xs) (res : Bool)
    (hno : res = true ↔ (inB 1 4 h = true ∧ inB 1 4 (xs.length : Int) = true ∧ (∀ i : Nat, i < xs.length → ((rdl xs (i : Int)).length : Int) ≤ h) ∧ apart (srt xs.flatten) (srt xs.flatten).length ∧ ((srt xs.flatten).length : Int) ≤ 7 ∧ areIn (srt xs.flatten) 0 99 = true)) :
    Calls Tryz.prog 28 #[.agg #[.int .i64 h, .slice A xs.length c]] w fun e w' => e = .returned (.bool res) ∧ RowKit.Below w.heap.size w w' := by
  have HR := Aside0.mk hr
  have HNO := Aside0.mk hno
  have hu := Tryz.underlying24
  have HB0 := Aside0.mk (below_alloc (RowKit.Below.refl w.heap.size w) (.cells #[.int .i64 h, .slice A xs.length c] 24))
  have BK := Aside0.mk (blk_new w (.cells #[.int .i64 h, .slice A xs.length c] 24))
  clear hr hno
  by_cases h1 : inB 1 4 h = true
  case neg =>
    have hres : res = false := by cases res with
      | false => rfl
      | true => exact absurd (HNO.out.1 rfl).1 h1
    have h1' : inB 1 4 h = false := by simpa using h1
    go_enter Tryz.func28, Tryz.ntmps28
    go_wp2_with (go_at_call 47; refine (within_any _ _ _ _).mono ?_; rintro e w1 ⟨rfl, rfl⟩)
    go_ret
    exact ⟨hres ▸ rfl, HB0.out⟩
  case pos =>
  by_cases h2 : inB 1 4 (xs.length : Int) = true
  case neg =>
    have hres : res = false := by cases res with
      | false => rfl
      | true => exact absurd (HNO.out.1 rfl).2.1 h2
    have h2' : inB 1 4 (xs.length : Int) = false := by simpa using h2
    go_enter Tryz.func28, Tryz.ntmps28
    go_wp2_with (go_at_call 47; refine (within_any _ _ _ _).mono ?_; rintro e w1 ⟨rfl, rfl⟩)
    go_ret
    exact ⟨hres ▸ rfl, HB0.out⟩
  case pos =>
  have hxs : xs.length ≤ 4 := by
    unfold inB at h2; rw [Bool.and_eq_true, decide_eq_true_eq, decide_eq_true_eq] at h2; omega
  have hh4 : h ≤ 4 := by
    unfold inB at h1; rw [Bool.and_eq_true, decide_eq_true_eq, decide_eq_true_eq] at h1; omega
  go_enter Tryz.func28, Tryz.ntmps28
  go_wp2_with (go_at_call 47; refine (within_any _ _ _ _).mono ?_; rintro e w1 ⟨rfl, rfl⟩)
  go_loopw [21] (fun v21 wz => ∃ j : Nat, j ≤ xs.length ∧ v21 = .int .i64 (j : Int) ∧ Aside0 (∀ i : Nat, i < j → ((rdl xs (i : Int)).length : Int) ≤ h) ∧ wz = w.alloc (.cells #[.int .i64 h, .slice A xs.length c] 24)) (fun v _ => xs.length - (intOf v).toNat)
  case atStart => exact ⟨0, by omega, rfl, ⟨fun i hi => absurd hi (by omega)⟩, rfl⟩
  case round =>
    obtain ⟨j, hj, rfl, hgd, hwr⟩ := hrel
    subst hwr
    by_cases hlt : j < xs.length
    · have c0 : decide ((j : Int) < (xs.length : Int)) = true := decide_eq_true (by omega)
      have p1 : 0 ≤ (j : Int) := by omega
      have q1 : (j : Int) < (xs.length : Int) := by omega
      obtain ⟨ad, A0, c0', rfl, hx, _, _⟩ := at_rows HR.out (j : Int) p1 q1
      simp only [Int.toNat_natCast] at hx
      replace hx := pw_cell_below HB0.out hx
      obtain ⟨m, hm⟩ : ∃ m, m = (rdl xs (j : Int)).length := ⟨_, rfl⟩
      rw [← hm] at hx
      have HM := Aside0.mk hm
      replace p1 := eq_true p1
      replace q1 := eq_true q1
      have HJ := Aside0.mk hlt
      by_cases hle : (m : Int) ≤ h
      · have c1 : decide (h < (m : Int)) = false := decide_eq_false (by omega)
        have HLE := Aside0.mk hle
        clear hm hlt hle
        go_wp2
        go_roundw
        case rel => exact ⟨j + 1, by have := HJ.out; omega, by first | (congr 1; done) | (congr 1; unfold wrap64; omega), ⟨fun i hi => by
          rcases Nat.lt_or_ge i j with hl | hl
          · exact hgd.out i hl
          · obtain rfl : i = j := by omega
            rw [← HM.out]; exact HLE.out⟩, by first | rfl | trivial⟩
        case measure => have := HJ.out; simp only [intOf]; omega
      · have c1 : decide (h < (m : Int)) = true := decide_eq_true (by omega)
        have hres : res = false := by cases res with
          | false => rfl
          | true => exact absurd ((HNO.out.1 rfl).2.2.1 j hlt) (by rw [← hm]; exact hle)
        clear hm hlt hle
        go_wp2
        go_ret
        exact ⟨hres ▸ rfl, HB0.out⟩
    · have c0 : decide ((j : Int) < (xs.length : Int)) = false := decide_eq_false (by omega)
      obtain rfl : j = xs.length := by omega
      have hfl : xs.flatten.length ≤ 1000000 := by have := flat_le xs (fun i hi => by have := hgd.out i hi; omega); omega
      have hcl := hgd.out
      obtain ⟨zs, hzs⟩ : ∃ z, z = xs.flatten := ⟨_, rfl⟩
      have HZ := Aside0.mk hzs
      have hzl : zs.length ≤ 1000000 := by rw [hzs]; exact hfl
      obtain ⟨ss, hss⟩ : ∃ z, z = srt zs := ⟨_, rfl⟩
      have HSS := Aside0.mk hss
      have hsl : ss.length ≤ 1000000 := by rw [hss, srt_len]; exact hzl
      clear hlt hj hzs hss
      have hc0 : (w.alloc (.cells #[.int .i64 h, .slice A xs.length c] 24)).cell? ⟨w.heap.size, 0, none⟩ = some (.int .i64 h) := (blk_cell BK.out 0).trans rfl
      have hc1 : (w.alloc (.cells #[.int .i64 h, .slice A xs.length c] 24)).cell? ⟨w.heap.size, 1, none⟩ = some (.slice A xs.length c) := (blk_cell BK.out 1).trans rfl
      go_wp2_with (first
        | (go_at_call 50; refine (lots_any h A c xs (by omega) hfl _ (Kd.C_below HR.out HB0.out)).mono ?_; rintro e w1 ⟨v, rfl, hR, hb⟩; rw [← HZ.out] at hR; have HO := Aside0.mk (Kd.own_of_R hR); have HB1 := Aside0.mk (below_step HB0.out hb); obtain ⟨A1, c1, rfl⟩ := Kd.R_slice hR; clear hR hb)
        | (go_at_call 49; refine (values_any _ _ _ _).mono ?_; rintro e w2 ⟨rfl, rfl⟩)
        | (go_at_call 48; refine (sorted_of _ zs hzl w1 HO.out).mono ?_; rintro e w3 ⟨A2, c2, he, hc2, hC2, hb⟩; rw [← HSS.out] at he hc2 hC2; subst he; have HC2c := Aside0.mk hc2; have HC2 := Aside0.mk hC2; have HB3 := Aside0.mk (below_step HB1.out hb); clear hc2 hC2 hb))
      go_loopw [37] (fun v37 wz => ∃ j : Nat, j ≤ ss.length ∧ v37 = .int .i64 (j : Int) ∧ Aside0 (apart ss j) ∧ Aside0 (RowKit.Below w3.heap.size w3 wz)) (fun v _ => ss.length - (intOf v).toNat)
      case atStart => exact ⟨0, by omega, rfl, ⟨fun i _ hi => absurd hi (by omega)⟩, ⟨RowKit.Below.refl _ _⟩⟩
      case round =>
        obtain ⟨j, hj, rfl, hap, rb⟩ := hrel
        have HCr := Aside0.mk (Kd.C_below HC2.out rb.out)
        have HBr := Aside0.mk (below_step HB3.out rb.out)
        by_cases hlt : j < ss.length
        · have c0 : decide ((j : Int) < (ss.length : Int)) = true := decide_eq_true (by omega)
          by_cases hj0 : j = 0
          · subst hj0
            have HJ := Aside0.mk hlt
            have c0' : decide ((0 : Int) < (ss.length : Int)) = true := decide_eq_true (by omega)
            have c0n : decide (0 < ss.length) = true := decide_eq_true (by omega)
            have c0p : (0 < ss.length) = True := eq_true (by omega)
            clear hlt hj
            go_wp2
            go_quiet (fail)
            go_wp2
            go_roundw
            case rel => exact ⟨1, by have := HJ.out; omega, by first | rfl | (congr 1; done) | (congr 1; unfold wrap64; omega), ⟨fun i hi hl => absurd hi (by omega)⟩, ⟨pw_below_drewN rb.out _⟩⟩
            case measure => exact meas ss.length 0 _ HJ.out (by first | rfl | decide)
          · have c1 : decide ((0 : Int) < (j : Int)) = true := decide_eq_true (by omega)
            have c1n : decide (0 < j) = true := decide_eq_true (by omega)
            have hpos : (0 < j) = True := eq_true (by omega)
            obtain ⟨y, hy⟩ : ∃ y, wrap64 ((j : Int) - 1) = y := ⟨_, rfl⟩
            have hyv : y = (j : Int) - 1 := by rw [← hy]; unfold wrap64; omega
            have HY := Aside0.mk hyv
            have hyw : IntKind.i64.wrap ((j : Int) - 1) = y := by rw [i64_w]; exact hy
            have p1 : 0 ≤ (j : Int) := by omega
            have q1 : (j : Int) < (ss.length : Int) := by omega
            have p2 : 0 ≤ y := by omega
            have q2 : y < (ss.length : Int) := by omega
            obtain ⟨a2, rfl, hx1⟩ := Kd.at_int HCr.out (j : Int) p1 q1
            obtain ⟨_, ea, hx2⟩ := Kd.at_int HCr.out y p2 q2
            cases ea
            simp only [Int.toNat_natCast] at hx1
            have HX := Aside0.mk (And.intro hx1 hx2)
            have HJ := Aside0.mk (And.intro hlt hj0)
            have HW := Aside0.mk (show wrap64 ((j : Int) + 1) = ((j + 1 : Nat) : Int) by unfold wrap64; omega)
            replace p1 := eq_true p1
            replace q1 := eq_true q1
            replace p2 := eq_true p2
            replace q2 := eq_true q2
            clear hyv hx1 hx2 hlt hj0 hj
            go_wp2
            obtain ⟨hx1, hx2⟩ := HX.out
            go_quiet (fail)
            clear hx1 hx2
            by_cases heq : rd ss y = rd ss (j : Int)
            · have c5 : (rd ss y == rd ss (j : Int)) = true := beq_iff_eq.mpr heq
              have hres : res = false := by cases res with
                | false => rfl
                | true =>
                  have ha := (HNO.out.1 rfl).2.2.2.1
                  rw [← HZ.out, ← HSS.out] at ha
                  exact absurd (by rw [← HY.out]; exact heq) (ha j (by have := HJ.out; omega) HJ.out.1)
              clear heq
              go_wp2
              go_ret
              exact ⟨hres ▸ rfl, pw_below_drewN HBr.out _⟩
            · have c5 : (rd ss y == rd ss (j : Int)) = false := beq_eq_false_iff_ne.mpr heq
              have HNE := Aside0.mk heq
              clear heq
              have hlt := HJ.out.1
              go_wp2
              go_roundw
              case rel => exact ⟨j + 1, by have := HJ.out; omega, by have h2 := HW.out; first | (congr 1; done) | (congr 1; omega), ⟨fun i hi hl => by
                rcases Nat.lt_or_ge i j with hlj | hlj
                · exact hap.out i hi hlj
                · obtain rfl : i = j := by omega
                  rw [← HY.out]; exact HNE.out⟩, ⟨pw_below_drewN rb.out _⟩⟩
              case measure => have h3 := HJ.out.1; simp only [intOf]; omega
        · have c0 : decide ((j : Int) < (ss.length : Int)) = false := decide_eq_false (by omega)
          obtain rfl : j = ss.length := by omega
          clear hlt hj
          by_cases h7 : (ss.length : Int) ≤ 7
          · have c7 : decide ((ss.length : Int) ≤ 7) = true := decide_eq_true h7
            have hres : areIn ss 0 99 = res := by
              have h8 := HNO.out
              rw [← HZ.out, ← HSS.out] at h8
              cases hA : areIn ss 0 99 with
              | true => exact (h8.2 ⟨h1, h2, hcl, hap.out, h7, hA⟩).symm
              | false => cases res with
                | false => rfl
                | true => exact absurd (h8.1 rfl).2.2.2.2.2 (by rw [hA]; decide)
            clear h7
            go_wp2_with (go_at_call 51; refine (areWithin_any A2 c2 ss 0 99 _ HCr.out).mono ?_; rintro e w5 ⟨rfl, hb5⟩; have HB5 := Aside0.mk (below_step HBr.out hb5); clear hb5)
            go_ret
            exact ⟨hres ▸ rfl, HB5.out⟩
          · have c7 : decide ((ss.length : Int) ≤ 7) = false := decide_eq_false h7
            have hres : res = false := by cases res with
              | false => rfl
              | true =>
                have h8 := (HNO.out.1 rfl).2.2.2.2.1
                rw [← HZ.out, ← HSS.out] at h8
                exact absurd h8 h7
            clear h7
            go_wp2
            go_ret
            exact ⟨hres ▸ rfl, HBr.out⟩
end Go.Proofs.YtibaiaenfeppcaaGreatDoor.Yv

/- impl.ValidYard, plainly; slices.Sort at a list that is written, slices.Min, the lots of a yard: in the printer's words. -/
namespace Go.Proofs.YtibaiaenfeppcaaGreatDoor.Yv
open Go Go.RowKit Go.Proofs.YtibaiaenfeppcaaGreatDoorW.PrintWords Go.Proofs.YtibaiaenfeppcaaGreatDoorW.PrintLast Go.Proofs.YtibaiaenfeppcaaGreatDoorW.PrintMore Go.Proofs.YtibaiaenfeppcaaGreatDoor.Sv Go.Proofs.YtibaiaenfeppcaaGreatDoor.Gr Go.Proofs.YtibaiaenfeppcaaGreatDoor.Ha
/-- Few lots, each once, none too great, in stacks that are not too high. -/
def valid (h : Int) (xs : List (List Int)) : Bool :=
  inB 1 4 h && (inB 1 4 (xs.length : Int) && (xs.all (fun s => decide ((s.length : Int) ≤ h)) && (decide xs.flatten.Nodup && (decide ((xs.flatten.length : Int) ≤ 7) && areIn xs.flatten 0 99))))
theorem srt_perm (l : List Int) : (srt l).Perm l := List.mergeSort_perm _ _
theorem srt_sorted (l : List Int) : (srt l).Pairwise (fun a b => a ≤ b) := by
  have h := List.pairwise_mergeSort (le := fun x y : Int => decide (x ≤ y)) (by intro a b c; simp; omega) (by intro a b; simp; omega) l
  exact h.imp (by intro a b; simp)
theorem apart_nodup (l : List Int) (hs : l.Pairwise (fun a b => a ≤ b)) : apart l l.length ↔ l.Nodup := by
  constructor
  · intro h
    have key : ∀ i j : Nat, i < j → ∀ (hj : j < l.length) (hi : i < l.length), l[i] < l[j] := by
      intro i j hij
      induction j with
      | zero => omega
      | succ j ih =>
        intro hj hi
        have h1 : l[j] ≤ l[j + 1] := List.pairwise_iff_getElem.1 hs j (j + 1) (by omega) hj (by omega)
        have h2 := h (j + 1) (by omega) hj
        have e1 : rd l (((j + 1 : Nat) : Int) - 1) = l[j] := by
          unfold rd; rw [show (((j + 1 : Nat) : Int) - 1).toNat = j by omega, List.getD_eq_getElem?_getD, List.getElem?_eq_getElem (by omega)]; rfl
        have e2 : rd l ((j + 1 : Nat) : Int) = l[j + 1] := by
          unfold rd; rw [Int.toNat_natCast, List.getD_eq_getElem?_getD, List.getElem?_eq_getElem hj]; rfl
        rw [e1, e2] at h2
        rcases Nat.lt_or_ge i j with hl | hl
        · have := ih hl (by omega) hi; omega
        · obtain rfl : i = j := by omega
          omega
    rw [List.nodup_iff_pairwise_ne, List.pairwise_iff_getElem]
    intro i j hi hj hij
    have := key i j hij hj hi
    omega
  · intro h i hi hl
    rw [List.nodup_iff_pairwise_ne, List.pairwise_iff_getElem] at h
    have := h (i - 1) i (by omega) hl (by omega)
    unfold rd
    rw [show ((i : Int) - 1).toNat = i - 1 by omega, Int.toNat_natCast, List.getD_eq_getElem?_getD, List.getElem?_eq_getElem (by omega), List.getD_eq_getElem?_getD, List.getElem?_eq_getElem hl]
    exact this
theorem all_rows (xs : List (List Int)) (h : Int) : xs.all (fun s => decide ((s.length : Int) ≤ h)) = true ↔ ∀ i : Nat, i < xs.length → ((rdl xs (i : Int)).length : Int) ≤ h := by
  rw [List.all_eq_true]
  constructor
  · intro hh i hi
    have := hh xs[i] (List.getElem_mem hi)
    have e : rdl xs (i : Int) = xs[i] := by simp [rdl, hi]
    rw [e]; simpa using this
  · intro hh s hs
    obtain ⟨i, hi, rfl⟩ := List.getElem_of_mem hs
    have := hh i hi
    have e : rdl xs (i : Int) = xs[i] := by simp [rdl, hi]
    rw [e] at this; simpa using this
theorem areIn_srt (l : List Int) (a b : Int) : areIn (srt l) a b = areIn l a b := by
  rw [Bool.eq_iff_iff]
  unfold areIn
  rw [List.all_eq_true, List.all_eq_true]
  exact ⟨fun h x hx => h x ((srt_perm l).mem_iff.2 hx), fun h x hx => h x ((srt_perm l).mem_iff.1 hx)⟩
theorem valid_iff (h : Int) (xs : List (List Int)) : valid h xs = true ↔ (inB 1 4 h = true ∧ inB 1 4 (xs.length : Int) = true ∧ (∀ i : Nat, i < xs.length → ((rdl xs (i : Int)).length : Int) ≤ h) ∧ apart (srt xs.flatten) (srt xs.flatten).length ∧ ((srt xs.flatten).length : Int) ≤ 7 ∧ areIn (srt xs.flatten) 0 99 = true) := by
  rw [apart_nodup _ (srt_sorted _), (srt_perm xs.flatten).nodup_iff, srt_len, areIn_srt, ← all_rows]
  unfold valid
  simp only [Bool.and_eq_true, decide_eq_true_eq]
theorem validYard_calls (a0_0 : Int) (A0_1 : Option Addr) (c0_1 : Nat) (l0_1 : List (List Int)) (w : World) (hr0_1 : Kd.C (Kd.slice 2 (Kd.int .i64)) w A0_1 l0_1.length l0_1) :
    Calls Tryz.prog 28 #[.agg #[.int .i64 a0_0, .slice A0_1 l0_1.length c0_1]] w fun e w' => e = .returned (.bool (valid a0_0 l0_1)) ∧ RowKit.Below w.heap.size w w' :=
  impl_yard a0_0 A0_1 c0_1 l0_1 w hr0_1 _ (valid_iff a0_0 l0_1)
end Go.Proofs.YtibaiaenfeppcaaGreatDoor.Yv

/- slices.Min at []int64. -/
namespace Go.Proofs.YtibaiaenfeppcaaGreatDoor.Yv
open Go Go.RowKit Go.Proofs.YtibaiaenfeppcaaGreatDoorW.PrintWords Go.Proofs.YtibaiaenfeppcaaGreatDoorW.PrintLast Go.Proofs.YtibaiaenfeppcaaGreatDoorW.PrintMore Go.Proofs.YtibaiaenfeppcaaGreatDoor.Sv Go.Proofs.YtibaiaenfeppcaaGreatDoor.Gr Go.Proofs.YtibaiaenfeppcaaGreatDoor.Ha
/-- The least of some numbers. -/
def minOf : List Int → Int
  | [] => 0
  | x :: xs => xs.foldl (fun m y => if y < m then y else m) x
end Go.Proofs.YtibaiaenfeppcaaGreatDoor.Yv

/- What the package-level variables hold, as the calls need it; strconv.FormatInt and Decimal over it. -/
namespace Go.Proofs.YtibaiaenfeppcaaGreatDoor.Tb
open Go.RowKit Go.Proofs.YtibaiaenfeppcaaGreatDoorW.PrintWords Go.Proofs.YtibaiaenfeppcaaGreatDoorW.PrintLast Go.Proofs.YtibaiaenfeppcaaGreatDoorW.PrintMore

theorem var_below {P : Program} {n : String} {x : Array Value} {w w' : World} (h : w.var? P n = some x) (hb : Below w.heap.size w w') : w'.var? P n = some x := by
  unfold World.var? at h ⊢
  cases hg : P.globalNamed n with
  | none => rw [hg] at h; simp at h
  | some g =>
    rw [hg] at h
    simp only [Option.bind_some] at h ⊢
    have hlt : g < w.heap.size := by
      rcases Nat.lt_or_ge g w.heap.size with h' | h'
      · exact h'
      · rw [Array.getElem?_eq_none h'] at h; cases h
    rw [hb.block g hlt]
    exact h

/-- The table of powers holds the powers, and the library's bound is a number. -/
def TB (w : World) : Prop := Lib.TabIs Tryz.prog w "internal/strconv.uint64pow10" .u64 Lib.pow10Tab ∧ ∃ m, w.cell? ⟨0, 0, none⟩ = some (.int .i64 m)
theorem TB.below {w w' : World} (h : TB w) (hb : Below w.heap.size w w') : TB w' := by
  obtain ⟨h1, m, h2⟩ := h
  refine ⟨var_below h1 hb, m, ?_⟩
  rw [hb.cell (World.block_lt_of_cell? w _ h2)]; exact h2
/-- And the two errors of the library stand. -/
def TC (w : World) : Prop := TB w ∧ (∃ tp p, w.var? Tryz.prog "strconv.ErrSyntax" = some #[.iface tp p]) ∧ ∃ tp p, w.var? Tryz.prog "strconv.ErrRange" = some #[.iface tp p]
theorem TC.below {w w' : World} (h : TC w) (hb : Below w.heap.size w w') : TC w' := by
  obtain ⟨h0, ⟨t1, p1, h1⟩, t2, p2, h2⟩ := h
  exact ⟨h0.below hb, ⟨t1, p1, var_below h1 hb⟩, t2, p2, var_below h2 hb⟩
theorem TC.tb {w : World} (h : TC w) : TB w := h.1

theorem grow_below (w : World) (k : Nat) (os : Array Obj) : Below w.heap.size w (Sort.grow (w.drewN k) os) := by
  refine (pw_below_drewN (Below.refl _ _) k).trans ?_
  refine ⟨rfl, rfl, rfl, by simp [Sort.grow], fun j hj => ?_⟩
  simp only [Sort.grow]
  rw [Array.getElem?_append_left (by simpa using hj)]

theorem decimal_any (n : Int) (h0 : -9223372036854775808 ≤ n) (h1 : n ≤ 9223372036854775807) (w : World) (hT : TB w) :
    Calls Tryz.prog 57 #[.int .i64 n] w fun e w' => e = .returned (.string ⟨(Lib.itoa n).toArray⟩) ∧ Below w.heap.size w w' := by
  have h := Tryz.strconv_FormatInt_10 n h0 h1 w hT.1
  go_enter Tryz.func57, Tryz.ntmps57
  go_wp2_with (go_at_call 75; refine h.mono ?_; rintro e w' ⟨rfl, hw⟩)
  go_ret
  obtain ⟨k, os, rfl⟩ := hw
  exact ⟨rfl, grow_below _ _ _⟩
end Go.Proofs.YtibaiaenfeppcaaGreatDoor.Tb

/- strings.Join over a row of strings that is read. -/
namespace Go.Proofs.YtibaiaenfeppcaaGreatDoor.Jn
open Go.RowKit Go.Proofs.YtibaiaenfeppcaaGreatDoorW.PrintWords Go.Proofs.YtibaiaenfeppcaaGreatDoorW.PrintLast Go.Proofs.YtibaiaenfeppcaaGreatDoorW.PrintMore

end Go.Proofs.YtibaiaenfeppcaaGreatDoor.Jn

/- strings.Split and strings.Cut at one byte; readIn. -/
namespace Go.Proofs.YtibaiaenfeppcaaGreatDoor.Sp
open Go.RowKit Go.Proofs.YtibaiaenfeppcaaGreatDoorW.PrintWords Go.Proofs.YtibaiaenfeppcaaGreatDoorW.PrintLast Go.Proofs.YtibaiaenfeppcaaGreatDoorW.PrintMore Go.Proofs.YtibaiaenfeppcaaGreatDoor.Ha

def tx (l : List UInt8) : ByteArray := ⟨l.toArray⟩
/-- The parts of a text between bytes c. -/
def split1 (c : UInt8) : List UInt8 → List (List UInt8)
  | [] => [[]]
  | b :: l => if b = c then [] :: split1 c l else match split1 c l with
    | [] => [[b]]
    | w :: ws => (b :: w) :: ws
/-- What stands ahead of the first byte c and behind it. -/
def cut1 (c : UInt8) : List UInt8 → List UInt8 × List UInt8 × Bool
  | [] => ([], [], false)
  | b :: l => if b = c then ([], l, true) else (b :: (cut1 c l).1, (cut1 c l).2.1, (cut1 c l).2.2)

theorem index_none (c : UInt8) (l : List UInt8) (h : c ∉ l) : Lib.index l [c] = -1 := by
  induction l with
  | nil => rfl
  | cons b l ih =>
    have h1 : c ≠ b := fun e => h (by simp [e])
    have h2 : c ∉ l := fun e => h (by simp [e])
    simp [Lib.index, ih h2, h1]
theorem index_some (c : UInt8) (p q : List UInt8) (h : c ∉ p) : Lib.index (p ++ c :: q) [c] = p.length := by
  induction p with
  | nil => simp [Lib.index]
  | cons b p ih =>
    have h1 : c ≠ b := fun e => h (by simp [e])
    have h2 : c ∉ p := fun e => h (by simp [e])
    have := ih h2
    simp only [List.cons_append, Lib.index, this, List.length_cons]
    simp [h1]
theorem first_at (c : UInt8) (l : List UInt8) (h : c ∈ l) : ∃ p q, l = p ++ c :: q ∧ c ∉ p := by
  induction l with
  | nil => simp at h
  | cons b l ih =>
    by_cases e : b = c
    · exact ⟨[], l, by simp [e], by simp⟩
    · obtain ⟨p, q, rfl, hp⟩ := ih (by rcases List.mem_cons.1 h with h | h; exact absurd h.symm e; exact h)
      exact ⟨b :: p, q, by simp, by simp [hp, Ne.symm e]⟩
theorem cut1_none (c : UInt8) (l : List UInt8) (h : c ∉ l) : cut1 c l = (l, [], false) := by
  induction l with
  | nil => rfl
  | cons b l ih =>
    have h1 : b ≠ c := fun e => h (by simp [e])
    have h2 : c ∉ l := fun e => h (by simp [e])
    simp [cut1, ih h2, h1]
theorem cut1_some (c : UInt8) (p q : List UInt8) (h : c ∉ p) : cut1 c (p ++ c :: q) = (p, q, true) := by
  induction p with
  | nil => simp [cut1]
  | cons b p ih =>
    have h1 : b ≠ c := fun e => h (by simp [e])
    have h2 : c ∉ p := fun e => h (by simp [e])
    simp [cut1, ih h2, h1]
theorem cut_eq (c : UInt8) (l : List UInt8) : Lib.cut l [c] = cut1 c l := by
  by_cases h : c ∈ l
  · obtain ⟨p, q, rfl, hp⟩ := first_at c l h
    rw [cut1_some c p q hp, Lib.cut, index_some c p q hp, if_pos (by omega)]
    simp
  · rw [cut1_none c l h, Lib.cut, index_none c l h, if_neg (by omega)]
theorem split1_none (c : UInt8) (l : List UInt8) (h : c ∉ l) : split1 c l = [l] := by
  induction l with
  | nil => rfl
  | cons b l ih =>
    have h1 : b ≠ c := fun e => h (by simp [e])
    have h2 : c ∉ l := fun e => h (by simp [e])
    simp [split1, ih h2, h1]
theorem split1_some (c : UInt8) (p q : List UInt8) (h : c ∉ p) : split1 c (p ++ c :: q) = p :: split1 c q := by
  induction p with
  | nil => simp [split1]
  | cons b p ih =>
    have h1 : b ≠ c := fun e => h (by simp [e])
    have h2 : c ∉ p := fun e => h (by simp [e])
    simp [split1, ih h2, h1]
theorem splitK_eq (c : UInt8) : ∀ (k : Nat) (l : List UInt8), l.count c = k → Lib.splitK [c] 0 k l = split1 c l := by
  intro k
  induction k with
  | zero =>
    intro l hk
    rw [split1_none c l (List.count_eq_zero.1 hk)]; rfl
  | succ k ih =>
    intro l hk
    have hm : c ∈ l := List.count_pos_iff.1 (by omega)
    obtain ⟨p, q, rfl, hp⟩ := first_at c l hm
    have hq : q.count c = k := by
      rw [List.count_append, List.count_eq_zero.2 hp, List.count_cons_self] at hk; omega
    rw [split1_some c p q hp, ← ih q hq]
    have e : Lib.splitK [c] 0 (k + 1) (p ++ c :: q) = if Lib.index (p ++ c :: q) [c] == -1 then [p ++ c :: q] else (p ++ c :: q).take ((Lib.index (p ++ c :: q) [c]).toNat + 0) :: Lib.splitK [c] 0 k ((p ++ c :: q).drop ((Lib.index (p ++ c :: q) [c]).toNat + 1)) := rfl
    rw [e, index_some c p q hp, if_neg (by simp)]
    simp

theorem split_data (c : UInt8) (s : ByteArray) : (Lib.splitB (tx [c]) 0 (Lib.countB s (tx [c])) s) = (split1 c s.data.toList).map tx := by
  have h := Lib.splitB_data (tx [c]) 0 (Lib.countB s (tx [c])) s
  have hc : Lib.countB s (tx [c]) = s.data.toList.count c := Lib.count_one c s.data.toList
  rw [show (tx [c]).data.toList = [c] from rfl, hc, splitK_eq c _ _ rfl] at h
  rw [hc, ← h, List.map_map]
  conv => lhs; rw [← List.map_id (Lib.splitB (tx [c]) 0 (s.data.toList.count c) s)]
  congr 1

theorem split_any (s : ByteArray) (c : UInt8) (w : World) (hT : Tb.TB w) (hs : s.size < 4294967281) :
    Calls Tryz.prog 26 #[.string s, .string (tx [c])] w fun e w' => ∃ v : Value, e = .returned v ∧ Kd.R Kd.string 9 w' w.heap.size (fun _ => True) v ((split1 c s.data.toList).map tx) ∧ Below w.heap.size w w' := by
  obtain ⟨m, hm⟩ := hT.2
  refine (Tryz.strings_Split s (tx [c]) m w hs hm (by simp [tx, ByteArray.size])).mono ?_
  rintro e w' ⟨rfl, rfl⟩
  have hl : (Lib.splitB (tx [c]) 0 (Lib.countB s (tx [c])) s).length = Lib.countB s (tx [c]) + 1 := Lib.splitB_all _ (by simp [tx, ByteArray.size]) 0 _ s rfl
  have hle := Lib.countB_le (tx [c]) (by simp [tx, ByteArray.size]) _ s (Nat.le_refl _)
  rw [split_data] at hl ⊢
  refine ⟨_, rfl, Kd.R_of_own ⟨by simp [encs], .inr ⟨w.heap.size, Lib.countB s (tx [c]) + 1, _, ?_, Nat.le_refl _, blk_new _ _, ?_, ?_, ?_, ?_⟩⟩ (fun _ _ => trivial), below_alloc (Below.refl _ _) _⟩
  · rw [hl]
  · rw [hl]; exact Nat.le_refl _
  · unfold maxLen; omega
  · rw [List.size_toArray, List.length_map, hl]; omega
  · rw [List.take_of_length_le (by simp)]; simp [encs]

theorem cut_any (s : ByteArray) (c : UInt8) (w : World) (hT : Tb.TB w) (hs : s.size < 4294967281) :
    Calls Tryz.prog 24 #[.string s, .string (tx [c])] w fun e w' => e = .returned (.tuple #[.string (tx (cut1 c s.data.toList).1), .string (tx (cut1 c s.data.toList).2.1), .bool (cut1 c s.data.toList).2.2]) ∧ Below w.heap.size w w' := by
  obtain ⟨m, hm⟩ := hT.2
  refine (Tryz.strings_Cut s (tx [c]) m w hs hm).mono ?_
  rintro e w' ⟨rfl, n, rfl⟩
  rw [show (tx [c]).data.toList = [c] from rfl, cut_eq]
  exact ⟨rfl, pw_below_drewN (Below.refl _ _) _⟩

/-- The number in a range whose decimal is a text. -/
def readL (l : List UInt8) (lo hi : Int) : Int × Bool := match Lib.parseIntB 64 l with
  | .ok v => if Lib.itoa v = l ∧ lo ≤ v ∧ v ≤ hi then (v, true) else (0, false)
  | _ => (0, false)
end Go.Proofs.YtibaiaenfeppcaaGreatDoor.Sp

-- made by a patched copy of print.sh: this session's own
namespace Go.Proofs.YtibaiaenfeppcaaGreatDoor.Q
open Go.RowKit Go.Proofs.YtibaiaenfeppcaaGreatDoorW.PrintWords Go.Proofs.YtibaiaenfeppcaaGreatDoorW.PrintLast Go.Proofs.YtibaiaenfeppcaaGreatDoorW.PrintMore
attribute [local go_sem] max2_int min2_int max_two min_two max_three min_three max_four min_four   -- for this text's walks alone
set_option linter.unusedVariables false
set_option linter.unusedSimpArgs false

/-! ### laws_markInt64S: function 53 -/
def laws_markInt64S.l0 : Nat → List Int → Int → Int → Option (Int × List Int)
  | 0, _, _, _ => none
  | k + 1, x0, x1, x5 => if x5 < (x0.length : Int) then (if 0 ≤ x5 then (laws_markInt64S.l0 k (x0.set (x5 : Int).toNat x1) (wrap64 (x1 + 1)) (wrap64 (x5 + 1))) else (none)) else (some (x1, x0))
def laws_markInt64S.f (k : Nat) (l0 : List Int) (a1 : Int) : Option (Int × List Int) := laws_markInt64S.l0 k l0 a1 0
set_option maxHeartbeats 8000000 in
set_option maxRecDepth 100000 in
theorem laws_markInt64S.calls (k : Nat) (P0_ : Nat → Prop) (u9000_ : Value) (l0 : List Int) (a1 : Int) (r1 : Int) (r2 : List Int) (w0 w : World) (hB : Below w0.heap.size w0 w) (ho0 : Kd.R (Kd.int .i64) 2 w w0.heap.size P0_ u9000_ l0) (h : laws_markInt64S.f k l0 a1 = some (r1, r2)) :
    Calls Tryz.prog 53 #[u9000_, .int .i64 a1] w fun e w' => e = .returned (.int .i64 r1) ∧ Kd.R (Kd.int .i64) 2 w' w0.heap.size (fun k_ => (P0_ k_ ∨ w.heap.size ≤ k_)) u9000_ r2 ∧ Below w0.heap.size w0 w' ∧ Kept w w' (fun k_ => P0_ k_) := by
  have HO0 := Aside0.mk (show Kd.R (Kd.int .i64) 2 w w0.heap.size (fun k_ => (P0_ k_ ∨ w.heap.size ≤ k_)) u9000_ l0 from Kd.R_mono ho0 (fun k_ hk => (.inl hk)))
  have HK := Aside0.mk (Kept.refl w (fun k_ => P0_ k_))
  have HW0 := Aside0.mk hB.size
  have HB := Aside0.mk hB
  clear hB
  have H : (laws_markInt64S.l0 k l0 a1 0) = some (r1, r2) := h
  clear h
  have H' := Aside0.mk H
  clear H
  go_enter Tryz.func53, Tryz.ntmps53
  go_wp2
  go_loopg [1, 5] k (fun kq v1 v5 w' => ∃ (x0_1 : List Int) (x1_1 : Int) (x5_1 : Int), v1 = .int .i64 x1_1 ∧ v5 = .int .i64 x5_1 ∧ Aside0 (laws_markInt64S.l0 kq x0_1 x1_1 x5_1 = some (r1, r2)) ∧ Aside0 (kq ≤ k) ∧ Aside0 (Kd.R (Kd.int .i64) 2 w' w0.heap.size (fun k_ => (P0_ k_ ∨ w.heap.size ≤ k_)) u9000_ x0_1) ∧ Aside0 (Kept w w' (fun k_ => P0_ k_)) ∧ Aside0 (Below w0.heap.size w0 w'))
  case atStart => exact ⟨(l0), (a1), (0), (by first | rfl | (simp; done) | (simp [*]; done)), (by first | rfl | (simp; done) | (simp [*]; done)), H', ⟨Nat.le_refl _⟩, ⟨by (with_reducible repeat (first | apply Kd.R_alloc | apply Kd.R_drewN | apply Kd.R_drew)); exact HO0.out⟩, ⟨by repeat (first | (with_reducible first | exact HK.out | apply Kept.alloc | apply Kept.drewN | apply Kept.drew) | exact HK.out)⟩, ⟨by repeat (first | (with_reducible first | exact HB.out | apply below_alloc | apply pw_below_drewN | apply below_drew1) | exact HB.out)⟩⟩
  case round =>
    clear H'
    try clear p2
    obtain ⟨x0_1, x1_1, x5_1, rfl, rfl, HA, HK1, HO_0, HK, HB⟩ := hrel
    cases gk with
    | zero => exact absurd HA.out (by simp [laws_markInt64S.l0])
    | succ k1 =>
      have H := HA.out
      clear HA
      simp only [laws_markInt64S.l0] at H
      by_cases c3 : x5_1 < (x0_1.length : Int)
      · rw [if_pos c3] at H
        have c3b0 : decide (x5_1 < (x0_1.length : Int)) = true := decide_eq_true c3
        clear c3
        by_cases c4 : 0 ≤ x5_1
        · rw [if_pos c4] at H
          have c4b0 : decide (0 ≤ x5_1) = true := decide_eq_true c4
          clear c4
          obtain ⟨y362, hy362⟩ : ∃ y_ : List Int, y_ = (x0_1.set (x5_1 : Int).toNat x1_1) := ⟨_, rfl⟩
          replace H : (laws_markInt64S.l0 k1 y362 (wrap64 (x1_1 + 1)) (wrap64 (x5_1 + 1))) = some (r1, r2) := by first | (rw [hy362]; with_reducible exact H) | (have H2_ := (Option.bind_some _ _).symm.trans H; rw [hy362]; with_reducible exact H2_) | (have H2_ := (Option.bind_some _ _).symm.trans H; with_reducible exact H2_) | with_reducible exact H | (rw [hy362]; exact H) | exact H
          have Ny362 := Aside0.mk hy362
          clear hy362
          have H' := Aside0.mk H
          clear H
          obtain ⟨Ao6, co6, eo6⟩ := Kd.R_slice HO_0.out
          subst eo6
          have p5 : 0 ≤ (x5_1 : Int) := of_decide_eq_true (by first | (with_reducible assumption) | assumption)
          have q5 : (x5_1 : Int) < ((x0_1.length : Int) : Int) := of_decide_eq_true (by first | (with_reducible assumption) | assumption)
          obtain ⟨go5, co5, eo5, gb5, gl5, cl5, HG5⟩ := Kd.R_form HO_0.out (by omega)
          (first | cases eo5 | (injection eo5 with ea_ en_ ec_; (first | subst ea_ | (injection ea_ with ea_; subst ea_)); subst ec_; clear en_))
          have GB5 := Aside0.mk gb5
          have GG5 := Aside0.mk HG5
          clear gb5 gl5 HG5
          have HMgo5 := Aside0.mk (show (P0_ go5 ∨ w.heap.size ≤ go5) from (HO_0.out.1 _ rfl))
          obtain ⟨hx5_0, hf5_0⟩ := Kd.R_celln 0 HO_0.out (x5_1 : Int) p5 q5
          replace p5 := eq_true p5
          replace q5 := eq_true q5
          have HP7 := Kd.R_putg HO_0.out (x5_1 : Int) x1_1
          go_wp2_with (first | ((with_reducible refine gate_store (t := 2) (p := 15) rfl ?_); refine store_event (t := 2) (p := 15) (v := ?vo_w8) (w1 := (wr.setCell ⟨go5, (x5_1 : Int).toNat, none⟩ (.int .i64 x1_1))) ?hg ?ho ?hn ?hr ?_; (case ho => rfl); (case hg => rfl); (case hn => rfl); (case hr => first | (go_simp; done) | (go_simp; rfl)); intro w8 hw; have hg : wr.grownBy w8 (some go5) := (by rw [hw]; exact HP7.2); have hp_ : Kd.R (Kd.int .i64) 2 w8 w0.heap.size (fun k_ => (P0_ k_ ∨ w.heap.size ≤ k_)) (.slice (some ⟨go5, 0, none⟩) x0_1.length co6) y362 := (by rw [hw, Ny362.out]; exact HP7.1); clear HP7; have n0_ := Aside0.mk (hp_); have n1_ := Aside0.mk ((by rw [hw]; exact below_set (HB.out) GB5.out : Below w0.heap.size w0 w8)); have n2_ := Aside0.mk (Kept.of_grown (S := (fun k_ => P0_ k_)) hg (by repeat (first | (with_reducible first | exact HK.out | apply Kept.alloc | apply Kept.drewN | apply Kept.drew) | exact HK.out)) (fun k_ e_ => (HO_0.out.1 k_ e_))); clear HO_0; clear HB; clear HK; have HO_0 := n0_; have HB := n1_; have HK := n2_; clear n0_ n1_ n2_; clear hg hw hp_))
          go_roundg k1
          case measure => have := HK1.out; omega
          case rel => exact ⟨(y362), (wrap64 (x1_1 + 1)), (wrap64 (x5_1 + 1)), (by first | rfl | (simp; done) | (simp [*]; done)), (by first | rfl | (simp; done) | (simp [*]; done)), H', ⟨by have := HK1.out; omega⟩, ⟨by (with_reducible repeat (first | apply Kd.R_alloc | apply Kd.R_drewN | apply Kd.R_drew)); exact HO_0.out⟩, ⟨by repeat (first | (with_reducible first | exact HK.out | apply Kept.alloc | apply Kept.drewN | apply Kept.drew) | exact HK.out)⟩, ⟨by repeat (first | (with_reducible first | exact HB.out | apply below_alloc | apply pw_below_drewN | apply below_drew1) | exact HB.out)⟩⟩
        · rw [if_neg c4] at H
          exact absurd H (by simp)
      · rw [if_neg c3] at H
        have c3b0 : decide (x5_1 < (x0_1.length : Int)) = false := decide_eq_false c3
        clear c3
        simp only [Option.some.injEq, Prod.mk.injEq] at H
        obtain ⟨rfl, rfl⟩ := H
        obtain ⟨Ao9, co9, eo9⟩ := Kd.R_slice HO_0.out
        subst eo9
        go_wp2
        go_ret
        exact ⟨by first | rfl | (simp [errW_none, errW_some] <;> rfl) | (simp [*, errW_none, errW_some] <;> rfl), by (with_reducible repeat (first | apply Kd.R_alloc | apply Kd.R_drewN | apply Kd.R_drew)); exact HO_0.out, by repeat (first | (with_reducible first | exact HB.out | apply below_alloc | apply pw_below_drewN | apply below_drew1) | exact HB.out), by repeat (first | (with_reducible first | exact HK.out | apply Kept.alloc | apply Kept.drewN | apply Kept.drew) | exact HK.out)⟩

end Go.Proofs.YtibaiaenfeppcaaGreatDoor.Q

-- made by a patched copy of print.sh: this session's own
namespace Go.Proofs.YtibaiaenfeppcaaGreatDoor.Q
open Go.RowKit Go.Proofs.YtibaiaenfeppcaaGreatDoorW.PrintWords Go.Proofs.YtibaiaenfeppcaaGreatDoorW.PrintLast Go.Proofs.YtibaiaenfeppcaaGreatDoorW.PrintMore
attribute [local go_sem] max2_int min2_int max_two min_two max_three min_three max_four min_four   -- for this text's walks alone
set_option linter.unusedVariables false
set_option linter.unusedSimpArgs false

/-! ### laws_heldInt64S: function 54 -/
def laws_heldInt64S.l0 : Nat → List Int → Int → Int → Option (Int)
  | 0, _, _, _ => none
  | k + 1, x0, x1, x5 => if x5 < (x0.length : Int) then (if 0 ≤ x5 then (if (rd x0 x5) = x1 then (laws_heldInt64S.l0 k x0 (wrap64 (x1 + 1)) (wrap64 (x5 + 1))) else (some (-1))) else (none)) else (some x1)
def laws_heldInt64S.f (k : Nat) (l0 : List Int) (a1 : Int) : Option (Int) := laws_heldInt64S.l0 k l0 a1 0
set_option maxHeartbeats 8000000 in
set_option maxRecDepth 100000 in
theorem laws_heldInt64S.calls (k : Nat) (A0 : Option Addr) (c0 : Nat) (l0 : List Int) (a1 : Int) (r : Int) (w : World) (hr0 : Kd.C (Kd.int .i64) w A0 l0.length l0) (hc0 : l0.length ≤ c0) (h : laws_heldInt64S.f k l0 a1 = some r) :
    Calls Tryz.prog 54 #[.slice A0 l0.length c0, .int .i64 a1] w fun e w' => e = .returned (.int .i64 r) ∧ Drawn0 w w' := by
  have HR0 := Aside0.mk hr0
  have HC0 := Aside0.mk hc0
  clear hr0 hc0
  have H : (laws_heldInt64S.l0 k l0 a1 0) = some r := h
  clear h
  have H' := Aside0.mk H
  clear H
  go_enter Tryz.func54, Tryz.ntmps54
  go_wp2
  go_loopg [1, 5] k (fun kq v1 v5 w' => ∃ (x1_1 : Int) (x5_1 : Int), v1 = .int .i64 x1_1 ∧ v5 = .int .i64 x5_1 ∧ Aside0 (laws_heldInt64S.l0 kq l0 x1_1 x5_1 = some r) ∧ Aside0 (kq ≤ k) ∧ Drawn0 w w')
  case atStart => exact ⟨(a1), (0), (by first | rfl | (simp; done) | (simp [*]; done)), (by first | rfl | (simp; done) | (simp [*]; done)), H', ⟨Nat.le_refl _⟩, by repeat (first | exact Drawn0.refl _ | apply Drawn0.step)⟩
  case round =>
    clear H'
    try clear p2
    obtain ⟨x1_1, x5_1, rfl, rfl, HA, HK1, ⟨m1, rfl⟩⟩ := hrel
    cases gk with
    | zero => exact absurd HA.out (by simp [laws_heldInt64S.l0])
    | succ k1 =>
      have H := HA.out
      clear HA
      simp only [laws_heldInt64S.l0] at H
      by_cases c3 : x5_1 < (l0.length : Int)
      · rw [if_pos c3] at H
        have c3b0 : decide (x5_1 < (l0.length : Int)) = true := decide_eq_true c3
        clear c3
        by_cases c4 : 0 ≤ x5_1
        · rw [if_pos c4] at H
          have c4b0 : decide (0 ≤ x5_1) = true := decide_eq_true c4
          clear c4
          by_cases c5 : (rd l0 x5_1) = x1_1
          · rw [if_pos c5] at H
            have c5b0 : ((rd l0 x5_1) == x1_1) = true := beq_iff_eq.mpr c5
            have c5b1 : ((rd l0 x5_1) != x1_1) = false := bne_eq_false_iff_eq.mpr c5
            clear c5
            have H' := Aside0.mk H
            clear H
            have p365 : 0 ≤ (x5_1 : Int) := of_decide_eq_true (by first | (with_reducible assumption) | assumption)
            have q365 : x5_1 < (l0.length : Int) := of_decide_eq_true (by first | (with_reducible assumption) | assumption)
            obtain ⟨ad365, e365, hx365_0⟩ := Kd.at_int HR0.out x5_1 p365 q365
            cases e365
            replace p365 := eq_true p365
            replace q365 := eq_true q365
            go_wp2
            go_roundg k1
            case measure => have := HK1.out; omega
            case rel => exact ⟨(wrap64 (x1_1 + 1)), (wrap64 (x5_1 + 1)), (by first | rfl | (simp; done) | (simp [*]; done)), (by first | rfl | (simp; done) | (simp [*]; done)), H', ⟨by have := HK1.out; omega⟩, by repeat (first | exact Drawn0.refl _ | apply Drawn0.step)⟩
          · rw [if_neg c5] at H
            have c5b0 : ((rd l0 x5_1) == x1_1) = false := beq_eq_false_iff_ne.mpr c5
            have c5b1 : ((rd l0 x5_1) != x1_1) = true := bne_iff_ne.mpr c5
            obtain rfl := Option.some.inj H
            have p365 : 0 ≤ (x5_1 : Int) := of_decide_eq_true (by first | (with_reducible assumption) | assumption)
            have q365 : x5_1 < (l0.length : Int) := of_decide_eq_true (by first | (with_reducible assumption) | assumption)
            obtain ⟨ad365, e365, hx365_0⟩ := Kd.at_int HR0.out x5_1 p365 q365
            cases e365
            replace p365 := eq_true p365
            replace q365 := eq_true q365
            go_wp2
            go_ret
            exact ⟨by first | rfl | (simp; done) | (simp [*]; done), by repeat (first | exact Drawn0.refl _ | apply Drawn0.step)⟩
        · rw [if_neg c4] at H
          exact absurd H (by simp)
      · rw [if_neg c3] at H
        have c3b0 : decide (x5_1 < (l0.length : Int)) = false := decide_eq_false c3
        clear c3
        obtain rfl := Option.some.inj H
        go_wp2
        go_ret
        exact ⟨by first | rfl | (simp; done) | (simp [*]; done), by repeat (first | exact Drawn0.refl _ | apply Drawn0.step)⟩

end Go.Proofs.YtibaiaenfeppcaaGreatDoor.Q

-- made by a patched copy of print.sh: this session's own
namespace Go.Proofs.YtibaiaenfeppcaaGreatDoor.Q
open Go.RowKit Go.Proofs.YtibaiaenfeppcaaGreatDoorW.PrintWords Go.Proofs.YtibaiaenfeppcaaGreatDoorW.PrintLast Go.Proofs.YtibaiaenfeppcaaGreatDoorW.PrintMore
attribute [local go_sem] max2_int min2_int max_two min_two max_three min_three max_four min_four   -- for this text's walks alone
set_option linter.unusedVariables false
set_option linter.unusedSimpArgs false

/-! ### laws_heldInt64SS: function 31 -/
def laws_heldInt64SS.l0 : Nat → List (List Int) → Int → Int → Option (Int)
  | 0, _, _, _ => none
  | k + 1, x0, x1, x5 => if x5 < (x0.length : Int) then (if 0 ≤ x5 then ((laws_heldInt64S.f k (rd_L2 x0 x5) x1).bind fun t367 => (if t367 < 0 then (some (-1)) else (laws_heldInt64SS.l0 k x0 t367 (wrap64 (x5 + 1))))) else (none)) else (some x1)
def laws_heldInt64SS.f (k : Nat) (l0 : List (List Int)) (a1 : Int) : Option (Int) := laws_heldInt64SS.l0 k l0 a1 0
set_option maxHeartbeats 8000000 in
set_option maxRecDepth 100000 in
theorem laws_heldInt64SS.calls (k : Nat) (A0 : Option Addr) (c0 : Nat) (l0 : List (List Int)) (a1 : Int) (r : Int) (w : World) (hr0 : Kd.C (Kd.slice 2 (Kd.int .i64)) w A0 l0.length l0) (hc0 : l0.length ≤ c0) (h : laws_heldInt64SS.f k l0 a1 = some r) :
    Calls Tryz.prog 31 #[.slice A0 l0.length c0, .int .i64 a1] w fun e w' => e = .returned (.int .i64 r) ∧ Drawn0 w w' := by
  have HR0 := Aside0.mk hr0
  have HC0 := Aside0.mk hc0
  clear hr0 hc0
  have H : (laws_heldInt64SS.l0 k l0 a1 0) = some r := h
  clear h
  have H' := Aside0.mk H
  clear H
  go_enter Tryz.func31, Tryz.ntmps31
  go_wp2
  go_loopg [1, 5] k (fun kq v1 v5 w' => ∃ (x1_1 : Int) (x5_1 : Int), v1 = .int .i64 x1_1 ∧ v5 = .int .i64 x5_1 ∧ Aside0 (laws_heldInt64SS.l0 kq l0 x1_1 x5_1 = some r) ∧ Aside0 (kq ≤ k) ∧ Drawn0 w w')
  case atStart => exact ⟨(a1), (0), (by first | rfl | (simp; done) | (simp [*]; done)), (by first | rfl | (simp; done) | (simp [*]; done)), H', ⟨Nat.le_refl _⟩, by repeat (first | exact Drawn0.refl _ | apply Drawn0.step)⟩
  case round =>
    clear H'
    try clear p2
    obtain ⟨x1_1, x5_1, rfl, rfl, HA, HK1, ⟨m1, rfl⟩⟩ := hrel
    cases gk with
    | zero => exact absurd HA.out (by simp [laws_heldInt64SS.l0])
    | succ k1 =>
      have H := HA.out
      clear HA
      simp only [laws_heldInt64SS.l0] at H
      by_cases c3 : x5_1 < (l0.length : Int)
      · rw [if_pos c3] at H
        have c3b0 : decide (x5_1 < (l0.length : Int)) = true := decide_eq_true c3
        clear c3
        by_cases c4 : 0 ≤ x5_1
        · rw [if_pos c4] at H
          have c4b0 : decide (0 ≤ x5_1) = true := decide_eq_true c4
          clear c4
          replace H := Option.bind_eq_some_iff.mp H
          obtain ⟨t367, A50, H⟩ := H
          replace H : (if t367 < 0 then (some (-1)) else (laws_heldInt64SS.l0 k1 l0 t367 (wrap64 (x5_1 + 1)))) = some r := H
          have A5 := Aside0.mk A50
          clear A50
          by_cases c6 : t367 < 0
          · rw [if_pos c6] at H
            have c6b0 : decide (t367 < 0) = true := decide_eq_true c6
            clear c6
            obtain rfl := Option.some.inj H
            have p366 : 0 ≤ (x5_1 : Int) := of_decide_eq_true (by first | (with_reducible assumption) | assumption)
            have q366 : x5_1 < (l0.length : Int) := of_decide_eq_true (by first | (with_reducible assumption) | assumption)
            obtain ⟨ad366, A366_0, c366_0, e366, hx366_0, hl366_0, hi366_0⟩ := at_L2 HR0.out x5_1 p366 q366
            cases e366
            have HR366_0 := Aside0.mk hi366_0
            have HC366_0 := Aside0.mk hl366_0
            clear hi366_0 hl366_0
            replace p366 := eq_true p366
            replace q366 := eq_true q366
            go_wp2_with (first | ((with_reducible refine gate_callee (f := 54) rfl ?_); refine goesL_ (some 17) rfl rfl Tryz.func54 (by kernel_rfl) rfl #[.slice A366_0 (rd_L2 l0 x5_1).length c366_0, .int .i64 x1_1] rfl (by (try simp only [List.map_toArray, List.map_cons, List.map_nil]); first | done | rfl | (simp only [List.length_drop, List.length_take]; rfl)) ?_; (with_reducible refine (laws_heldInt64S.calls k1 _ _ (rd_L2 l0 x5_1) x1_1 t367 _ ?side1 ?side2 A5.out).mono ?_); (case side1 => repeat (first | exact HR366_0.out | (with_reducible refine Kd.C_alloc ?_ _) | (with_reducible refine Kd.C_drewN ?_ _) | (with_reducible refine Kd.C_drew ?_))); (case side2 => exact HC366_0.out); rintro e w' ⟨rfl, ⟨nd, rfl⟩⟩; refine ⟨_, rfl, ?_⟩))
            go_ret
            exact ⟨by first | rfl | (simp; done) | (simp [*]; done), by repeat (first | exact Drawn0.refl _ | apply Drawn0.step)⟩
          · rw [if_neg c6] at H
            have c6b0 : decide (t367 < 0) = false := decide_eq_false c6
            clear c6
            have H' := Aside0.mk H
            clear H
            have p366 : 0 ≤ (x5_1 : Int) := of_decide_eq_true (by first | (with_reducible assumption) | assumption)
            have q366 : x5_1 < (l0.length : Int) := of_decide_eq_true (by first | (with_reducible assumption) | assumption)
            obtain ⟨ad366, A366_0, c366_0, e366, hx366_0, hl366_0, hi366_0⟩ := at_L2 HR0.out x5_1 p366 q366
            cases e366
            have HR366_0 := Aside0.mk hi366_0
            have HC366_0 := Aside0.mk hl366_0
            clear hi366_0 hl366_0
            replace p366 := eq_true p366
            replace q366 := eq_true q366
            go_wp2_with (first | ((with_reducible refine gate_callee (f := 54) rfl ?_); refine goesL_ (some 17) rfl rfl Tryz.func54 (by kernel_rfl) rfl #[.slice A366_0 (rd_L2 l0 x5_1).length c366_0, .int .i64 x1_1] rfl (by (try simp only [List.map_toArray, List.map_cons, List.map_nil]); first | done | rfl | (simp only [List.length_drop, List.length_take]; rfl)) ?_; (with_reducible refine (laws_heldInt64S.calls k1 _ _ (rd_L2 l0 x5_1) x1_1 t367 _ ?side1 ?side2 A5.out).mono ?_); (case side1 => repeat (first | exact HR366_0.out | (with_reducible refine Kd.C_alloc ?_ _) | (with_reducible refine Kd.C_drewN ?_ _) | (with_reducible refine Kd.C_drew ?_))); (case side2 => exact HC366_0.out); rintro e w' ⟨rfl, ⟨nd, rfl⟩⟩; refine ⟨_, rfl, ?_⟩))
            go_roundg k1
            case measure => have := HK1.out; omega
            case rel => exact ⟨(t367), (wrap64 (x5_1 + 1)), (by first | rfl | (simp; done) | (simp [*]; done)), (by first | rfl | (simp; done) | (simp [*]; done)), H', ⟨by have := HK1.out; omega⟩, by repeat (first | exact Drawn0.refl _ | apply Drawn0.step)⟩
        · rw [if_neg c4] at H
          exact absurd H (by simp)
      · rw [if_neg c3] at H
        have c3b0 : decide (x5_1 < (l0.length : Int)) = false := decide_eq_false c3
        clear c3
        obtain rfl := Option.some.inj H
        go_wp2
        go_ret
        exact ⟨by first | rfl | (simp; done) | (simp [*]; done), by repeat (first | exact Drawn0.refl _ | apply Drawn0.step)⟩

end Go.Proofs.YtibaiaenfeppcaaGreatDoor.Q

-- made by a patched copy of print.sh: this session's own
namespace Go.Proofs.YtibaiaenfeppcaaGreatDoor.Q
open Go.RowKit Go.Proofs.YtibaiaenfeppcaaGreatDoorW.PrintWords Go.Proofs.YtibaiaenfeppcaaGreatDoorW.PrintLast Go.Proofs.YtibaiaenfeppcaaGreatDoorW.PrintMore
attribute [local go_sem] max2_int min2_int max_two min_two max_three min_three max_four min_four   -- for this text's walks alone
set_option linter.unusedVariables false
set_option linter.unusedSimpArgs false

/-! ### laws_heldYard: function 9 -/
def laws_heldYard.f (k : Nat) (a0_0 : Int) (l0_1 : List (List Int)) (a1 : Int) : Option (Int) := (laws_heldInt64SS.f k l0_1 a1).bind fun t369 => (if t369 < 0 then (some (-1)) else (some t369))
set_option maxHeartbeats 8000000 in
set_option maxRecDepth 100000 in
theorem laws_heldYard.calls (k : Nat) (a0_0 : Int) (A0_1 : Option Addr) (c0_1 : Nat) (l0_1 : List (List Int)) (a1 : Int) (r : Int) (w : World) (hr0_1 : Kd.C (Kd.slice 2 (Kd.int .i64)) w A0_1 l0_1.length l0_1) (hc0_1 : l0_1.length ≤ c0_1) (h : laws_heldYard.f k a0_0 l0_1 a1 = some r) :
    Calls Tryz.prog 9 #[.agg #[.int .i64 a0_0, .slice A0_1 l0_1.length c0_1], .int .i64 a1] w fun e w' => e = .returned (.int .i64 r) ∧ Below w.heap.size w w' := by
  have hu24 := Tryz.underlying24
  have HR0_1 := Aside0.mk hr0_1
  have HC0_1 := Aside0.mk hc0_1
  clear hr0_1 hc0_1
  have HB := Aside0.mk (Below.refl w.heap.size w)
  have H : ((laws_heldInt64SS.f k l0_1 a1).bind fun t369 => (if t369 < 0 then (some (-1)) else (some t369))) = some r := h
  clear h
  replace H := Option.bind_eq_some_iff.mp H
  obtain ⟨t369, A30, H⟩ := H
  replace H : (if t369 < 0 then (some (-1)) else (some t369)) = some r := H
  have A3 := Aside0.mk A30
  clear A30
  by_cases c4 : t369 < 0
  · rw [if_pos c4] at H
    have c4b0 : decide (t369 < 0) = true := decide_eq_true c4
    clear c4
    obtain rfl := Option.some.inj H
    go_enter Tryz.func9, Tryz.ntmps9
    go_wp2_with (first | ((with_reducible refine gate_dst (N := 2) rfl ?_); refine box_event ?hg (N := 2) ?hd (cs := #[.int .i64 a0_0, .slice A0_1 l0_1.length c0_1]) (t := 24) ?hr ?_; (case hd => rfl); (case hg => rfl); (case hr => first | (go_simp; done) | (go_simp; rfl)); intro gb368 hg w5 hbox hb; have n0_ := Aside0.mk (below_step (by repeat (first | (with_reducible first | exact HB.out | apply below_alloc | apply pw_below_drewN | apply below_drew1) | exact HB.out)) hb); have n1_ := Aside0.mk (hbox); have n2_ := Aside0.mk ((by rw [hg]; exact (below_size (by repeat (first | (with_reducible first | exact HB.out | apply below_alloc | apply pw_below_drewN | apply below_drew1) | exact HB.out))) : w.heap.size ≤ gb368)); have n3_ := Aside0.mk ((by rw [hg]; exact (below_size (by repeat (first | (with_reducible first | exact HB.out | apply below_alloc | apply pw_below_drewN | apply below_drew1) | exact HB.out))) : w.heap.size ≤ gb368)); clear HB; have HB := n0_; have BK368 := n1_; have GW368 := n2_; have GE368 := n3_; clear n0_ n1_ n2_ n3_; clear hb hbox hg; have hcz6_0 : w5.cell? ⟨gb368, 0, none⟩ = some (.int .i64 a0_0) := (blk_cell BK368.out 0).trans rfl; have hcz6_1 : w5.cell? ⟨gb368, 1, none⟩ = some (.slice A0_1 l0_1.length c0_1) := (blk_cell BK368.out 1).trans rfl; have hfz6_0 := blk_frozen BK368.out 0; have hfz6_1 := blk_frozen BK368.out 1) | ((with_reducible refine gate_callee (f := 31) rfl ?_); refine goesL_ (some 8) rfl rfl Tryz.func31 (by kernel_rfl) rfl #[.slice A0_1 l0_1.length c0_1, .int .i64 a1] rfl (by (try simp only [List.map_toArray, List.map_cons, List.map_nil]); first | done | rfl | (simp only [List.length_drop, List.length_take]; rfl)) ?_; (with_reducible refine (laws_heldInt64SS.calls k _ _ l0_1 a1 t369 _ ?side1 ?side2 A3.out).mono ?_); (case side1 => repeat (first | exact (Kd.C_below HR0_1.out HB.out) | (with_reducible refine Kd.C_alloc ?_ _) | (with_reducible refine Kd.C_drewN ?_ _) | (with_reducible refine Kd.C_drew ?_))); (case side2 => exact HC0_1.out); rintro e w' ⟨rfl, ⟨nd, rfl⟩⟩; refine ⟨_, rfl, ?_⟩))
    go_ret
    exact ⟨by first | rfl | (simp [errW_none, errW_some] <;> rfl) | (simp [*, errW_none, errW_some] <;> rfl), by repeat (first | (with_reducible first | exact HB.out | apply below_alloc | apply pw_below_drewN | apply below_drew1 | refine below_set ?_ GE368.out) | exact HB.out)⟩
  · rw [if_neg c4] at H
    have c4b0 : decide (t369 < 0) = false := decide_eq_false c4
    clear c4
    obtain rfl := Option.some.inj H
    go_enter Tryz.func9, Tryz.ntmps9
    go_wp2_with (first | ((with_reducible refine gate_dst (N := 2) rfl ?_); refine box_event ?hg (N := 2) ?hd (cs := #[.int .i64 a0_0, .slice A0_1 l0_1.length c0_1]) (t := 24) ?hr ?_; (case hd => rfl); (case hg => rfl); (case hr => first | (go_simp; done) | (go_simp; rfl)); intro gb368 hg w7 hbox hb; have n0_ := Aside0.mk (below_step (by repeat (first | (with_reducible first | exact HB.out | apply below_alloc | apply pw_below_drewN | apply below_drew1) | exact HB.out)) hb); have n1_ := Aside0.mk (hbox); have n2_ := Aside0.mk ((by rw [hg]; exact (below_size (by repeat (first | (with_reducible first | exact HB.out | apply below_alloc | apply pw_below_drewN | apply below_drew1) | exact HB.out))) : w.heap.size ≤ gb368)); have n3_ := Aside0.mk ((by rw [hg]; exact (below_size (by repeat (first | (with_reducible first | exact HB.out | apply below_alloc | apply pw_below_drewN | apply below_drew1) | exact HB.out))) : w.heap.size ≤ gb368)); clear HB; have HB := n0_; have BK368 := n1_; have GW368 := n2_; have GE368 := n3_; clear n0_ n1_ n2_ n3_; clear hb hbox hg; have hcz8_0 : w7.cell? ⟨gb368, 0, none⟩ = some (.int .i64 a0_0) := (blk_cell BK368.out 0).trans rfl; have hcz8_1 : w7.cell? ⟨gb368, 1, none⟩ = some (.slice A0_1 l0_1.length c0_1) := (blk_cell BK368.out 1).trans rfl; have hfz8_0 := blk_frozen BK368.out 0; have hfz8_1 := blk_frozen BK368.out 1) | ((with_reducible refine gate_callee (f := 31) rfl ?_); refine goesL_ (some 8) rfl rfl Tryz.func31 (by kernel_rfl) rfl #[.slice A0_1 l0_1.length c0_1, .int .i64 a1] rfl (by (try simp only [List.map_toArray, List.map_cons, List.map_nil]); first | done | rfl | (simp only [List.length_drop, List.length_take]; rfl)) ?_; (with_reducible refine (laws_heldInt64SS.calls k _ _ l0_1 a1 t369 _ ?side1 ?side2 A3.out).mono ?_); (case side1 => repeat (first | exact (Kd.C_below HR0_1.out HB.out) | (with_reducible refine Kd.C_alloc ?_ _) | (with_reducible refine Kd.C_drewN ?_ _) | (with_reducible refine Kd.C_drew ?_))); (case side2 => exact HC0_1.out); rintro e w' ⟨rfl, ⟨nd, rfl⟩⟩; refine ⟨_, rfl, ?_⟩))
    go_ret
    exact ⟨by first | rfl | (simp [errW_none, errW_some] <;> rfl) | (simp [*, errW_none, errW_some] <;> rfl), by repeat (first | (with_reducible first | exact HB.out | apply below_alloc | apply pw_below_drewN | apply below_drew1 | refine below_set ?_ GE368.out) | exact HB.out)⟩

end Go.Proofs.YtibaiaenfeppcaaGreatDoor.Q

-- made by a patched copy of print.sh: this session's own
namespace Go.Proofs.YtibaiaenfeppcaaGreatDoor.Q
open Go.RowKit Go.Proofs.YtibaiaenfeppcaaGreatDoorW.PrintWords Go.Proofs.YtibaiaenfeppcaaGreatDoorW.PrintLast Go.Proofs.YtibaiaenfeppcaaGreatDoorW.PrintMore
attribute [local go_sem] max2_int min2_int max_two min_two max_three min_three max_four min_four   -- for this text's walks alone
set_option linter.unusedVariables false
set_option linter.unusedSimpArgs false

/-! ### laws_eqInt64S: function 52 -/
def laws_eqInt64S.l0 : Nat → List Int → List Int → Int → Option (Bool)
  | 0, _, _, _ => none
  | k + 1, x0, x1, x5 => if x5 < (x0.length : Int) then (if 0 ≤ x5 then (if x5 < (x1.length : Int) then (if (rd x0 x5) = (rd x1 x5) then (laws_eqInt64S.l0 k x0 x1 (wrap64 (x5 + 1))) else (some false)) else (none)) else (none)) else (some true)
def laws_eqInt64S.f (k : Nat) (l0 : List Int) (l1 : List Int) : Option (Bool) := if (l0.length : Int) = (l1.length : Int) then (laws_eqInt64S.l0 k l0 l1 0) else (some false)
set_option maxHeartbeats 8000000 in
set_option maxRecDepth 100000 in
theorem laws_eqInt64S.calls (k : Nat) (A0 : Option Addr) (c0 : Nat) (l0 : List Int) (A1 : Option Addr) (c1 : Nat) (l1 : List Int) (r : Bool) (w : World) (hr0 : Kd.C (Kd.int .i64) w A0 l0.length l0) (hc0 : l0.length ≤ c0) (hr1 : Kd.C (Kd.int .i64) w A1 l1.length l1) (hc1 : l1.length ≤ c1) (h : laws_eqInt64S.f k l0 l1 = some r) :
    Calls Tryz.prog 52 #[.slice A0 l0.length c0, .slice A1 l1.length c1] w fun e w' => e = .returned (.bool r) ∧ Drawn0 w w' := by
  have HR0 := Aside0.mk hr0
  have HC0 := Aside0.mk hc0
  clear hr0 hc0
  have HR1 := Aside0.mk hr1
  have HC1 := Aside0.mk hc1
  clear hr1 hc1
  have H : (if (l0.length : Int) = (l1.length : Int) then (laws_eqInt64S.l0 k l0 l1 0) else (some false)) = some r := h
  clear h
  by_cases c3 : (l0.length : Int) = (l1.length : Int)
  · rw [if_pos c3] at H
    have c3b0 : ((l0.length : Int) == (l1.length : Int)) = true := beq_iff_eq.mpr c3
    have c3b1 : ((l0.length : Int) != (l1.length : Int)) = false := bne_eq_false_iff_eq.mpr c3
    have c3b2 : (l0.length == l1.length) = true := by first | simpa using c3 | (simp at c3 ⊢; omega)
    clear c3
    have H' := Aside0.mk H
    clear H
    go_enter Tryz.func52, Tryz.ntmps52
    go_wp2
    repeat (go_quiet (fail); try go_wp2)
    go_loopg [5] k (fun kq v5 w' => ∃ (x5_1 : Int), v5 = .int .i64 x5_1 ∧ Aside0 (laws_eqInt64S.l0 kq l0 l1 x5_1 = some r) ∧ Aside0 (kq ≤ k) ∧ Drawn0 w w')
    case atStart => exact ⟨(0), (by first | rfl | (simp; done) | (simp [*]; done)), H', ⟨Nat.le_refl _⟩, by repeat (first | exact Drawn0.refl _ | apply Drawn0.step)⟩
    case round =>
      clear H'
      try clear c1
      try clear p2
      try clear c3
      try clear c3b0
      try clear c3b1
      try clear c3b2
      obtain ⟨x5_1, rfl, HA, HK1, ⟨m1, rfl⟩⟩ := hrel
      cases gk with
      | zero => exact absurd HA.out (by simp [laws_eqInt64S.l0])
      | succ k1 =>
        have H := HA.out
        clear HA
        simp only [laws_eqInt64S.l0] at H
        by_cases c4 : x5_1 < (l0.length : Int)
        · rw [if_pos c4] at H
          have c4b0 : decide (x5_1 < (l0.length : Int)) = true := decide_eq_true c4
          clear c4
          by_cases c5 : 0 ≤ x5_1
          · rw [if_pos c5] at H
            have c5b0 : decide (0 ≤ x5_1) = true := decide_eq_true c5
            clear c5
            by_cases c6 : x5_1 < (l1.length : Int)
            · rw [if_pos c6] at H
              have c6b0 : decide (x5_1 < (l1.length : Int)) = true := decide_eq_true c6
              clear c6
              by_cases c7 : (rd l0 x5_1) = (rd l1 x5_1)
              · rw [if_pos c7] at H
                have c7b0 : ((rd l0 x5_1) == (rd l1 x5_1)) = true := beq_iff_eq.mpr c7
                have c7b1 : ((rd l0 x5_1) != (rd l1 x5_1)) = false := bne_eq_false_iff_eq.mpr c7
                clear c7
                have H' := Aside0.mk H
                clear H
                have p354 : 0 ≤ (x5_1 : Int) := of_decide_eq_true (by first | (with_reducible assumption) | assumption)
                have q354 : x5_1 < (l0.length : Int) := of_decide_eq_true (by first | (with_reducible assumption) | assumption)
                obtain ⟨ad354, e354, hx354_0⟩ := Kd.at_int HR0.out x5_1 p354 q354
                cases e354
                replace p354 := eq_true p354
                replace q354 := eq_true q354
                have p355 : 0 ≤ (x5_1 : Int) := of_decide_eq_true (by first | (with_reducible assumption) | assumption)
                have q355 : x5_1 < (l1.length : Int) := of_decide_eq_true (by first | (with_reducible assumption) | assumption)
                obtain ⟨ad355, e355, hx355_0⟩ := Kd.at_int HR1.out x5_1 p355 q355
                cases e355
                replace p355 := eq_true p355
                replace q355 := eq_true q355
                go_wp2
                repeat (go_quiet (fail); try go_wp2)
                go_roundg k1
                case measure => have := HK1.out; omega
                case rel => exact ⟨(wrap64 (x5_1 + 1)), (by first | rfl | (simp; done) | (simp [*]; done)), H', ⟨by have := HK1.out; omega⟩, by repeat (first | exact Drawn0.refl _ | apply Drawn0.step)⟩
              · rw [if_neg c7] at H
                have c7b0 : ((rd l0 x5_1) == (rd l1 x5_1)) = false := beq_eq_false_iff_ne.mpr c7
                have c7b1 : ((rd l0 x5_1) != (rd l1 x5_1)) = true := bne_iff_ne.mpr c7
                obtain rfl := Option.some.inj H
                have p354 : 0 ≤ (x5_1 : Int) := of_decide_eq_true (by first | (with_reducible assumption) | assumption)
                have q354 : x5_1 < (l0.length : Int) := of_decide_eq_true (by first | (with_reducible assumption) | assumption)
                obtain ⟨ad354, e354, hx354_0⟩ := Kd.at_int HR0.out x5_1 p354 q354
                cases e354
                replace p354 := eq_true p354
                replace q354 := eq_true q354
                have p355 : 0 ≤ (x5_1 : Int) := of_decide_eq_true (by first | (with_reducible assumption) | assumption)
                have q355 : x5_1 < (l1.length : Int) := of_decide_eq_true (by first | (with_reducible assumption) | assumption)
                obtain ⟨ad355, e355, hx355_0⟩ := Kd.at_int HR1.out x5_1 p355 q355
                cases e355
                replace p355 := eq_true p355
                replace q355 := eq_true q355
                go_wp2
                repeat (go_quiet (fail); try go_wp2)
                go_ret
                exact ⟨by first | rfl | (simp; done) | (simp [*]; done), by repeat (first | exact Drawn0.refl _ | apply Drawn0.step)⟩
            · rw [if_neg c6] at H
              exact absurd H (by simp)
          · rw [if_neg c5] at H
            exact absurd H (by simp)
        · rw [if_neg c4] at H
          have c4b0 : decide (x5_1 < (l0.length : Int)) = false := decide_eq_false c4
          clear c4
          obtain rfl := Option.some.inj H
          go_wp2
          repeat (go_quiet (fail); try go_wp2)
          go_ret
          exact ⟨by first | rfl | (simp; done) | (simp [*]; done), by repeat (first | exact Drawn0.refl _ | apply Drawn0.step)⟩
  · rw [if_neg c3] at H
    have c3b0 : ((l0.length : Int) == (l1.length : Int)) = false := beq_eq_false_iff_ne.mpr c3
    have c3b1 : ((l0.length : Int) != (l1.length : Int)) = true := bne_iff_ne.mpr c3
    have c3b2 : (l0.length == l1.length) = false := by first | simpa using c3 | (simp at c3 ⊢; omega)
    obtain rfl := Option.some.inj H
    go_enter Tryz.func52, Tryz.ntmps52
    go_wp2
    repeat (go_quiet (fail); try go_wp2)
    go_ret
    exact ⟨by first | rfl | (simp; done) | (simp [*]; done), by repeat (first | exact Drawn0.refl _ | apply Drawn0.step)⟩

end Go.Proofs.YtibaiaenfeppcaaGreatDoor.Q

-- made by a patched copy of print.sh: this session's own
namespace Go.Proofs.YtibaiaenfeppcaaGreatDoor.Q
open Go.RowKit Go.Proofs.YtibaiaenfeppcaaGreatDoorW.PrintWords Go.Proofs.YtibaiaenfeppcaaGreatDoorW.PrintLast Go.Proofs.YtibaiaenfeppcaaGreatDoorW.PrintMore
attribute [local go_sem] max2_int min2_int max_two min_two max_three min_three max_four min_four   -- for this text's walks alone
set_option linter.unusedVariables false
set_option linter.unusedSimpArgs false

/-! ### laws_eqInt64SS: function 29 -/
def laws_eqInt64SS.l0 : Nat → List (List Int) → List (List Int) → Int → Option (Bool)
  | 0, _, _, _ => none
  | k + 1, x0, x1, x5 => if x5 < (x0.length : Int) then (if 0 ≤ x5 then (if x5 < (x1.length : Int) then ((laws_eqInt64S.f k (rd_L2 x0 x5) (rd_L2 x1 x5)).bind fun t358 => (if t358 = true then (laws_eqInt64SS.l0 k x0 x1 (wrap64 (x5 + 1))) else (some false))) else (none)) else (none)) else (some true)
def laws_eqInt64SS.f (k : Nat) (l0 : List (List Int)) (l1 : List (List Int)) : Option (Bool) := if (l0.length : Int) = (l1.length : Int) then (laws_eqInt64SS.l0 k l0 l1 0) else (some false)
set_option maxHeartbeats 8000000 in
set_option maxRecDepth 100000 in
theorem laws_eqInt64SS.calls (k : Nat) (A0 : Option Addr) (c0 : Nat) (l0 : List (List Int)) (A1 : Option Addr) (c1 : Nat) (l1 : List (List Int)) (r : Bool) (w : World) (hr0 : Kd.C (Kd.slice 2 (Kd.int .i64)) w A0 l0.length l0) (hc0 : l0.length ≤ c0) (hr1 : Kd.C (Kd.slice 2 (Kd.int .i64)) w A1 l1.length l1) (hc1 : l1.length ≤ c1) (h : laws_eqInt64SS.f k l0 l1 = some r) :
    Calls Tryz.prog 29 #[.slice A0 l0.length c0, .slice A1 l1.length c1] w fun e w' => e = .returned (.bool r) ∧ Drawn0 w w' := by
  have HR0 := Aside0.mk hr0
  have HC0 := Aside0.mk hc0
  clear hr0 hc0
  have HR1 := Aside0.mk hr1
  have HC1 := Aside0.mk hc1
  clear hr1 hc1
  have H : (if (l0.length : Int) = (l1.length : Int) then (laws_eqInt64SS.l0 k l0 l1 0) else (some false)) = some r := h
  clear h
  by_cases c3 : (l0.length : Int) = (l1.length : Int)
  · rw [if_pos c3] at H
    have c3b0 : ((l0.length : Int) == (l1.length : Int)) = true := beq_iff_eq.mpr c3
    have c3b1 : ((l0.length : Int) != (l1.length : Int)) = false := bne_eq_false_iff_eq.mpr c3
    have c3b2 : (l0.length == l1.length) = true := by first | simpa using c3 | (simp at c3 ⊢; omega)
    clear c3
    have H' := Aside0.mk H
    clear H
    go_enter Tryz.func29, Tryz.ntmps29
    go_wp2
    repeat (go_quiet (fail); try go_wp2)
    go_loopg [5] k (fun kq v5 w' => ∃ (x5_1 : Int), v5 = .int .i64 x5_1 ∧ Aside0 (laws_eqInt64SS.l0 kq l0 l1 x5_1 = some r) ∧ Aside0 (kq ≤ k) ∧ Drawn0 w w')
    case atStart => exact ⟨(0), (by first | rfl | (simp; done) | (simp [*]; done)), H', ⟨Nat.le_refl _⟩, by repeat (first | exact Drawn0.refl _ | apply Drawn0.step)⟩
    case round =>
      clear H'
      try clear c1
      try clear c2
      try clear p2
      try clear c3
      try clear c3b0
      try clear c3b1
      try clear c3b2
      obtain ⟨x5_1, rfl, HA, HK1, ⟨m1, rfl⟩⟩ := hrel
      cases gk with
      | zero => exact absurd HA.out (by simp [laws_eqInt64SS.l0])
      | succ k1 =>
        have H := HA.out
        clear HA
        simp only [laws_eqInt64SS.l0] at H
        by_cases c4 : x5_1 < (l0.length : Int)
        · rw [if_pos c4] at H
          have c4b0 : decide (x5_1 < (l0.length : Int)) = true := decide_eq_true c4
          clear c4
          by_cases c5 : 0 ≤ x5_1
          · rw [if_pos c5] at H
            have c5b0 : decide (0 ≤ x5_1) = true := decide_eq_true c5
            clear c5
            by_cases c6 : x5_1 < (l1.length : Int)
            · rw [if_pos c6] at H
              have c6b0 : decide (x5_1 < (l1.length : Int)) = true := decide_eq_true c6
              clear c6
              replace H := Option.bind_eq_some_iff.mp H
              obtain ⟨t358, A70, H⟩ := H
              replace H : (if t358 = true then (laws_eqInt64SS.l0 k1 l0 l1 (wrap64 (x5_1 + 1))) else (some false)) = some r := H
              have A7 := Aside0.mk A70
              clear A70
              by_cases c8 : t358 = true
              · subst c8
                have H1 : (laws_eqInt64SS.l0 k1 l0 l1 (wrap64 (x5_1 + 1))) = some r := by rw [if_pos rfl] at H; exact H
                clear H
                have H := H1
                clear H1
                have H' := Aside0.mk H
                clear H
                have p356 : 0 ≤ (x5_1 : Int) := of_decide_eq_true (by first | (with_reducible assumption) | assumption)
                have q356 : x5_1 < (l0.length : Int) := of_decide_eq_true (by first | (with_reducible assumption) | assumption)
                obtain ⟨ad356, A356_0, c356_0, e356, hx356_0, hl356_0, hi356_0⟩ := at_L2 HR0.out x5_1 p356 q356
                cases e356
                have HR356_0 := Aside0.mk hi356_0
                have HC356_0 := Aside0.mk hl356_0
                clear hi356_0 hl356_0
                replace p356 := eq_true p356
                replace q356 := eq_true q356
                have p357 : 0 ≤ (x5_1 : Int) := of_decide_eq_true (by first | (with_reducible assumption) | assumption)
                have q357 : x5_1 < (l1.length : Int) := of_decide_eq_true (by first | (with_reducible assumption) | assumption)
                obtain ⟨ad357, A357_0, c357_0, e357, hx357_0, hl357_0, hi357_0⟩ := at_L2 HR1.out x5_1 p357 q357
                cases e357
                have HR357_0 := Aside0.mk hi357_0
                have HC357_0 := Aside0.mk hl357_0
                clear hi357_0 hl357_0
                replace p357 := eq_true p357
                replace q357 := eq_true q357
                go_wp2_with (first | (go_at_call 52; (with_reducible refine (laws_eqInt64S.calls k1 _ _ (rd_L2 l0 x5_1) _ _ (rd_L2 l1 x5_1) true _ ?side1 ?side2 ?side3 ?side4 A7.out).mono ?_); (case side1 => repeat (first | exact HR356_0.out | (with_reducible refine Kd.C_alloc ?_ _) | (with_reducible refine Kd.C_drewN ?_ _) | (with_reducible refine Kd.C_drew ?_))); (case side2 => exact HC356_0.out); (case side3 => repeat (first | exact HR357_0.out | (with_reducible refine Kd.C_alloc ?_ _) | (with_reducible refine Kd.C_drewN ?_ _) | (with_reducible refine Kd.C_drew ?_))); (case side4 => exact HC357_0.out); rintro e w' ⟨rfl, ⟨nd, rfl⟩⟩; (try first | exact ⟨rfl, _, World.drewN_drewN _ _ _⟩ | exact ⟨rfl, _, Eq.trans (World.drewN_drewN _ _ _) (congrArg (World.drewN _) (Nat.add_assoc _ _ _))⟩)))
                repeat (go_quiet (first | (go_at_call 52; (with_reducible refine (laws_eqInt64S.calls k1 _ _ (rd_L2 l0 x5_1) _ _ (rd_L2 l1 x5_1) true _ ?side1 ?side2 ?side3 ?side4 A7.out).mono ?_); (case side1 => repeat (first | exact HR356_0.out | (with_reducible refine Kd.C_alloc ?_ _) | (with_reducible refine Kd.C_drewN ?_ _) | (with_reducible refine Kd.C_drew ?_))); (case side2 => exact HC356_0.out); (case side3 => repeat (first | exact HR357_0.out | (with_reducible refine Kd.C_alloc ?_ _) | (with_reducible refine Kd.C_drewN ?_ _) | (with_reducible refine Kd.C_drew ?_))); (case side4 => exact HC357_0.out); rintro e w' ⟨rfl, ⟨nd, rfl⟩⟩; (try first | exact ⟨rfl, _, World.drewN_drewN _ _ _⟩ | exact ⟨rfl, _, Eq.trans (World.drewN_drewN _ _ _) (congrArg (World.drewN _) (Nat.add_assoc _ _ _))⟩))); try go_wp2_with (first | (go_at_call 52; (with_reducible refine (laws_eqInt64S.calls k1 _ _ (rd_L2 l0 x5_1) _ _ (rd_L2 l1 x5_1) true _ ?side1 ?side2 ?side3 ?side4 A7.out).mono ?_); (case side1 => repeat (first | exact HR356_0.out | (with_reducible refine Kd.C_alloc ?_ _) | (with_reducible refine Kd.C_drewN ?_ _) | (with_reducible refine Kd.C_drew ?_))); (case side2 => exact HC356_0.out); (case side3 => repeat (first | exact HR357_0.out | (with_reducible refine Kd.C_alloc ?_ _) | (with_reducible refine Kd.C_drewN ?_ _) | (with_reducible refine Kd.C_drew ?_))); (case side4 => exact HC357_0.out); rintro e w' ⟨rfl, ⟨nd, rfl⟩⟩; (try first | exact ⟨rfl, _, World.drewN_drewN _ _ _⟩ | exact ⟨rfl, _, Eq.trans (World.drewN_drewN _ _ _) (congrArg (World.drewN _) (Nat.add_assoc _ _ _))⟩))))
                go_roundg k1
                case measure => have := HK1.out; omega
                case rel => exact ⟨(wrap64 (x5_1 + 1)), (by first | rfl | (simp; done) | (simp [*]; done)), H', ⟨by have := HK1.out; omega⟩, by repeat (first | exact Drawn0.refl _ | apply Drawn0.step)⟩
              · replace c8 := Bool.eq_false_iff.mpr c8
                subst c8
                have H1 : (some false) = some r := by rw [if_neg (show ¬ (false = true) by decide)] at H; exact H
                clear H
                have H := H1
                clear H1
                obtain rfl := Option.some.inj H
                have p356 : 0 ≤ (x5_1 : Int) := of_decide_eq_true (by first | (with_reducible assumption) | assumption)
                have q356 : x5_1 < (l0.length : Int) := of_decide_eq_true (by first | (with_reducible assumption) | assumption)
                obtain ⟨ad356, A356_0, c356_0, e356, hx356_0, hl356_0, hi356_0⟩ := at_L2 HR0.out x5_1 p356 q356
                cases e356
                have HR356_0 := Aside0.mk hi356_0
                have HC356_0 := Aside0.mk hl356_0
                clear hi356_0 hl356_0
                replace p356 := eq_true p356
                replace q356 := eq_true q356
                have p357 : 0 ≤ (x5_1 : Int) := of_decide_eq_true (by first | (with_reducible assumption) | assumption)
                have q357 : x5_1 < (l1.length : Int) := of_decide_eq_true (by first | (with_reducible assumption) | assumption)
                obtain ⟨ad357, A357_0, c357_0, e357, hx357_0, hl357_0, hi357_0⟩ := at_L2 HR1.out x5_1 p357 q357
                cases e357
                have HR357_0 := Aside0.mk hi357_0
                have HC357_0 := Aside0.mk hl357_0
                clear hi357_0 hl357_0
                replace p357 := eq_true p357
                replace q357 := eq_true q357
                go_wp2_with (first | (go_at_call 52; (with_reducible refine (laws_eqInt64S.calls k1 _ _ (rd_L2 l0 x5_1) _ _ (rd_L2 l1 x5_1) false _ ?side1 ?side2 ?side3 ?side4 A7.out).mono ?_); (case side1 => repeat (first | exact HR356_0.out | (with_reducible refine Kd.C_alloc ?_ _) | (with_reducible refine Kd.C_drewN ?_ _) | (with_reducible refine Kd.C_drew ?_))); (case side2 => exact HC356_0.out); (case side3 => repeat (first | exact HR357_0.out | (with_reducible refine Kd.C_alloc ?_ _) | (with_reducible refine Kd.C_drewN ?_ _) | (with_reducible refine Kd.C_drew ?_))); (case side4 => exact HC357_0.out); rintro e w' ⟨rfl, ⟨nd, rfl⟩⟩; (try first | exact ⟨rfl, _, World.drewN_drewN _ _ _⟩ | exact ⟨rfl, _, Eq.trans (World.drewN_drewN _ _ _) (congrArg (World.drewN _) (Nat.add_assoc _ _ _))⟩)))
                repeat (go_quiet (first | (go_at_call 52; (with_reducible refine (laws_eqInt64S.calls k1 _ _ (rd_L2 l0 x5_1) _ _ (rd_L2 l1 x5_1) false _ ?side1 ?side2 ?side3 ?side4 A7.out).mono ?_); (case side1 => repeat (first | exact HR356_0.out | (with_reducible refine Kd.C_alloc ?_ _) | (with_reducible refine Kd.C_drewN ?_ _) | (with_reducible refine Kd.C_drew ?_))); (case side2 => exact HC356_0.out); (case side3 => repeat (first | exact HR357_0.out | (with_reducible refine Kd.C_alloc ?_ _) | (with_reducible refine Kd.C_drewN ?_ _) | (with_reducible refine Kd.C_drew ?_))); (case side4 => exact HC357_0.out); rintro e w' ⟨rfl, ⟨nd, rfl⟩⟩; (try first | exact ⟨rfl, _, World.drewN_drewN _ _ _⟩ | exact ⟨rfl, _, Eq.trans (World.drewN_drewN _ _ _) (congrArg (World.drewN _) (Nat.add_assoc _ _ _))⟩))); try go_wp2_with (first | (go_at_call 52; (with_reducible refine (laws_eqInt64S.calls k1 _ _ (rd_L2 l0 x5_1) _ _ (rd_L2 l1 x5_1) false _ ?side1 ?side2 ?side3 ?side4 A7.out).mono ?_); (case side1 => repeat (first | exact HR356_0.out | (with_reducible refine Kd.C_alloc ?_ _) | (with_reducible refine Kd.C_drewN ?_ _) | (with_reducible refine Kd.C_drew ?_))); (case side2 => exact HC356_0.out); (case side3 => repeat (first | exact HR357_0.out | (with_reducible refine Kd.C_alloc ?_ _) | (with_reducible refine Kd.C_drewN ?_ _) | (with_reducible refine Kd.C_drew ?_))); (case side4 => exact HC357_0.out); rintro e w' ⟨rfl, ⟨nd, rfl⟩⟩; (try first | exact ⟨rfl, _, World.drewN_drewN _ _ _⟩ | exact ⟨rfl, _, Eq.trans (World.drewN_drewN _ _ _) (congrArg (World.drewN _) (Nat.add_assoc _ _ _))⟩))))
                go_ret
                exact ⟨by first | rfl | (simp; done) | (simp [*]; done), by repeat (first | exact Drawn0.refl _ | apply Drawn0.step)⟩
            · rw [if_neg c6] at H
              exact absurd H (by simp)
          · rw [if_neg c5] at H
            exact absurd H (by simp)
        · rw [if_neg c4] at H
          have c4b0 : decide (x5_1 < (l0.length : Int)) = false := decide_eq_false c4
          clear c4
          obtain rfl := Option.some.inj H
          go_wp2
          repeat (go_quiet (fail); try go_wp2)
          go_ret
          exact ⟨by first | rfl | (simp; done) | (simp [*]; done), by repeat (first | exact Drawn0.refl _ | apply Drawn0.step)⟩
  · rw [if_neg c3] at H
    have c3b0 : ((l0.length : Int) == (l1.length : Int)) = false := beq_eq_false_iff_ne.mpr c3
    have c3b1 : ((l0.length : Int) != (l1.length : Int)) = true := bne_iff_ne.mpr c3
    have c3b2 : (l0.length == l1.length) = false := by first | simpa using c3 | (simp at c3 ⊢; omega)
    obtain rfl := Option.some.inj H
    go_enter Tryz.func29, Tryz.ntmps29
    go_wp2
    repeat (go_quiet (fail); try go_wp2)
    go_ret
    exact ⟨by first | rfl | (simp; done) | (simp [*]; done), by repeat (first | exact Drawn0.refl _ | apply Drawn0.step)⟩

end Go.Proofs.YtibaiaenfeppcaaGreatDoor.Q

-- made by a patched copy of print.sh: this session's own
namespace Go.Proofs.YtibaiaenfeppcaaGreatDoor.Q
open Go.RowKit Go.Proofs.YtibaiaenfeppcaaGreatDoorW.PrintWords Go.Proofs.YtibaiaenfeppcaaGreatDoorW.PrintLast Go.Proofs.YtibaiaenfeppcaaGreatDoorW.PrintMore
attribute [local go_sem] max2_int min2_int max_two min_two max_three min_three max_four min_four   -- for this text's walks alone
set_option linter.unusedVariables false
set_option linter.unusedSimpArgs false

/-! ### laws_eqYard: function 7 -/
def laws_eqYard.f (k : Nat) (a0_0 : Int) (l0_1 : List (List Int)) (a1_0 : Int) (l1_1 : List (List Int)) : Option (Bool) := if a0_0 = a1_0 then ((laws_eqInt64SS.f k l0_1 l1_1).bind fun t361 => (if t361 = true then (some true) else (some false))) else (some false)
set_option maxHeartbeats 8000000 in
set_option maxRecDepth 100000 in
theorem laws_eqYard.calls (k : Nat) (a0_0 : Int) (A0_1 : Option Addr) (c0_1 : Nat) (l0_1 : List (List Int)) (a1_0 : Int) (A1_1 : Option Addr) (c1_1 : Nat) (l1_1 : List (List Int)) (r : Bool) (w : World) (hr0_1 : Kd.C (Kd.slice 2 (Kd.int .i64)) w A0_1 l0_1.length l0_1) (hc0_1 : l0_1.length ≤ c0_1) (hr1_1 : Kd.C (Kd.slice 2 (Kd.int .i64)) w A1_1 l1_1.length l1_1) (hc1_1 : l1_1.length ≤ c1_1) (h : laws_eqYard.f k a0_0 l0_1 a1_0 l1_1 = some r) :
    Calls Tryz.prog 7 #[.agg #[.int .i64 a0_0, .slice A0_1 l0_1.length c0_1], .agg #[.int .i64 a1_0, .slice A1_1 l1_1.length c1_1]] w fun e w' => e = .returned (.bool r) ∧ Below w.heap.size w w' := by
  have hu24 := Tryz.underlying24
  have HR0_1 := Aside0.mk hr0_1
  have HC0_1 := Aside0.mk hc0_1
  clear hr0_1 hc0_1
  have HR1_1 := Aside0.mk hr1_1
  have HC1_1 := Aside0.mk hc1_1
  clear hr1_1 hc1_1
  have HB := Aside0.mk (Below.refl w.heap.size w)
  have H : (if a0_0 = a1_0 then ((laws_eqInt64SS.f k l0_1 l1_1).bind fun t361 => (if t361 = true then (some true) else (some false))) else (some false)) = some r := h
  clear h
  by_cases c3 : a0_0 = a1_0
  · rw [if_pos c3] at H
    have c3b0 : (a0_0 == a1_0) = true := beq_iff_eq.mpr c3
    have c3b1 : (a0_0 != a1_0) = false := bne_eq_false_iff_eq.mpr c3
    clear c3
    replace H := Option.bind_eq_some_iff.mp H
    obtain ⟨t361, A40, H⟩ := H
    replace H : (if t361 = true then (some true) else (some false)) = some r := H
    have A4 := Aside0.mk A40
    clear A40
    by_cases c5 : t361 = true
    · subst c5
      have H1 : (some true) = some r := by rw [if_pos rfl] at H; exact H
      clear H
      have H := H1
      clear H1
      obtain rfl := Option.some.inj H
      go_enter Tryz.func7, Tryz.ntmps7
      go_wp2_with (first | ((with_reducible refine gate_dst (N := 2) rfl ?_); refine box_event ?hg (N := 2) ?hd (cs := #[.int .i64 a0_0, .slice A0_1 l0_1.length c0_1]) (t := 24) ?hr ?_; (case hd => rfl); (case hg => rfl); (case hr => first | (go_simp; done) | (go_simp; rfl)); intro gb359 hg w6 hbox hb; have n0_ := Aside0.mk (below_step (by repeat (first | (with_reducible first | exact HB.out | apply below_alloc | apply pw_below_drewN | apply below_drew1) | exact HB.out)) hb); have n1_ := Aside0.mk (hbox); have n2_ := Aside0.mk ((by rw [hg]; exact (below_size (by repeat (first | (with_reducible first | exact HB.out | apply below_alloc | apply pw_below_drewN | apply below_drew1) | exact HB.out))) : w.heap.size ≤ gb359)); have n3_ := Aside0.mk ((by rw [hg]; exact (below_size (by repeat (first | (with_reducible first | exact HB.out | apply below_alloc | apply pw_below_drewN | apply below_drew1) | exact HB.out))) : w.heap.size ≤ gb359)); clear HB; have HB := n0_; have BK359 := n1_; have GW359 := n2_; have GE359 := n3_; clear n0_ n1_ n2_ n3_; clear hb hbox hg) | ((with_reducible refine gate_dst (N := 3) rfl ?_); refine box_event ?hg (N := 3) ?hd (cs := #[.int .i64 a1_0, .slice A1_1 l1_1.length c1_1]) (t := 24) ?hr ?_; (case hd => rfl); (case hg => rfl); (case hr => first | (go_simp; done) | (go_simp; rfl)); intro gb360 hg w7 hbox hb; have n0_ := Aside0.mk (blk_below (g := gb359) (o := .cells #[.int .i64 a0_0, .slice A0_1 l0_1.length c0_1] 24 (0, 0)) (by (with_reducible repeat (first | refine blk_drewN ?_ _ | refine blk_drew ?_ | refine blk_alloc ?_ _)); exact BK359.out) hb); have n1_ := Aside0.mk (below_step (by repeat (first | (with_reducible first | exact HB.out | apply below_alloc | apply pw_below_drewN | apply below_drew1 | refine below_set ?_ GE359.out) | exact HB.out)) hb); have n2_ := Aside0.mk (hbox); have n3_ := Aside0.mk ((by rw [hg]; exact (below_size (by repeat (first | (with_reducible first | exact HB.out | apply below_alloc | apply pw_below_drewN | apply below_drew1 | refine below_set ?_ GE359.out) | exact HB.out))) : w.heap.size ≤ gb360)); have n4_ := Aside0.mk ((by rw [hg]; exact (below_size (by repeat (first | (with_reducible first | exact HB.out | apply below_alloc | apply pw_below_drewN | apply below_drew1 | refine below_set ?_ GE359.out) | exact HB.out))) : w.heap.size ≤ gb360)); have n5_ := Aside0.mk ((by rw [hg]; exact Nat.ne_of_lt (blk_lt (g := gb359) (o := .cells #[.int .i64 a0_0, .slice A0_1 l0_1.length c0_1] 24 (0, 0)) (by (with_reducible repeat (first | refine blk_drewN ?_ _ | refine blk_drew ?_ | refine blk_alloc ?_ _)); exact BK359.out)) : gb359 ≠ gb360)); have n6_ := Aside0.mk ((by rw [hg]; exact Nat.ne_of_gt (blk_lt (g := gb359) (o := .cells #[.int .i64 a0_0, .slice A0_1 l0_1.length c0_1] 24 (0, 0)) (by (with_reducible repeat (first | refine blk_drewN ?_ _ | refine blk_drew ?_ | refine blk_alloc ?_ _)); exact BK359.out)) : gb360 ≠ gb359)); clear BK359; clear HB; have BK359 := n0_; have HB := n1_; have BK360 := n2_; have GW360 := n3_; have GE360 := n4_; have NB359_360 := n5_; have NB360_359 := n6_; clear n0_ n1_ n2_ n3_ n4_ n5_ n6_; clear hb hbox hg; have hnb8 := NB359_360.out; have hnc8 := NB360_359.out; have hcz9_0 : w7.cell? ⟨gb359, 0, none⟩ = some (.int .i64 a0_0) := (blk_cell BK359.out 0).trans rfl; have hcz9_1 : w7.cell? ⟨gb359, 1, none⟩ = some (.slice A0_1 l0_1.length c0_1) := (blk_cell BK359.out 1).trans rfl; have hfz9_0 := blk_frozen BK359.out 0; have hfz9_1 := blk_frozen BK359.out 1; have hcz10_0 : w7.cell? ⟨gb360, 0, none⟩ = some (.int .i64 a1_0) := (blk_cell BK360.out 0).trans rfl; have hcz10_1 : w7.cell? ⟨gb360, 1, none⟩ = some (.slice A1_1 l1_1.length c1_1) := (blk_cell BK360.out 1).trans rfl; have hfz10_0 := blk_frozen BK360.out 0; have hfz10_1 := blk_frozen BK360.out 1) | ((with_reducible refine gate_callee (f := 29) rfl ?_); refine goesL_ (some 14) rfl rfl Tryz.func29 (by kernel_rfl) rfl #[.slice A0_1 l0_1.length c0_1, .slice A1_1 l1_1.length c1_1] rfl (by (try simp only [List.map_toArray, List.map_cons, List.map_nil]); first | done | rfl | (simp only [List.length_drop, List.length_take]; rfl)) ?_; (with_reducible refine (laws_eqInt64SS.calls k _ _ l0_1 _ _ l1_1 true _ ?side1 ?side2 ?side3 ?side4 A4.out).mono ?_); (case side1 => repeat (first | exact (Kd.C_below HR0_1.out HB.out) | (with_reducible refine Kd.C_alloc ?_ _) | (with_reducible refine Kd.C_drewN ?_ _) | (with_reducible refine Kd.C_drew ?_))); (case side2 => exact HC0_1.out); (case side3 => repeat (first | exact (Kd.C_below HR1_1.out HB.out) | (with_reducible refine Kd.C_alloc ?_ _) | (with_reducible refine Kd.C_drewN ?_ _) | (with_reducible refine Kd.C_drew ?_))); (case side4 => exact HC1_1.out); rintro e w' ⟨rfl, ⟨nd, rfl⟩⟩; refine ⟨_, rfl, ?_⟩))
      go_ret
      exact ⟨by first | rfl | (simp [errW_none, errW_some] <;> rfl) | (simp [*, errW_none, errW_some] <;> rfl), by repeat (first | (with_reducible first | exact HB.out | apply below_alloc | apply pw_below_drewN | apply below_drew1 | refine below_set ?_ GE359.out | refine below_set ?_ GE360.out) | exact HB.out)⟩
    · replace c5 := Bool.eq_false_iff.mpr c5
      subst c5
      have H1 : (some false) = some r := by rw [if_neg (show ¬ (false = true) by decide)] at H; exact H
      clear H
      have H := H1
      clear H1
      obtain rfl := Option.some.inj H
      go_enter Tryz.func7, Tryz.ntmps7
      go_wp2_with (first | ((with_reducible refine gate_dst (N := 2) rfl ?_); refine box_event ?hg (N := 2) ?hd (cs := #[.int .i64 a0_0, .slice A0_1 l0_1.length c0_1]) (t := 24) ?hr ?_; (case hd => rfl); (case hg => rfl); (case hr => first | (go_simp; done) | (go_simp; rfl)); intro gb359 hg w11 hbox hb; have n0_ := Aside0.mk (below_step (by repeat (first | (with_reducible first | exact HB.out | apply below_alloc | apply pw_below_drewN | apply below_drew1) | exact HB.out)) hb); have n1_ := Aside0.mk (hbox); have n2_ := Aside0.mk ((by rw [hg]; exact (below_size (by repeat (first | (with_reducible first | exact HB.out | apply below_alloc | apply pw_below_drewN | apply below_drew1) | exact HB.out))) : w.heap.size ≤ gb359)); have n3_ := Aside0.mk ((by rw [hg]; exact (below_size (by repeat (first | (with_reducible first | exact HB.out | apply below_alloc | apply pw_below_drewN | apply below_drew1) | exact HB.out))) : w.heap.size ≤ gb359)); clear HB; have HB := n0_; have BK359 := n1_; have GW359 := n2_; have GE359 := n3_; clear n0_ n1_ n2_ n3_; clear hb hbox hg) | ((with_reducible refine gate_dst (N := 3) rfl ?_); refine box_event ?hg (N := 3) ?hd (cs := #[.int .i64 a1_0, .slice A1_1 l1_1.length c1_1]) (t := 24) ?hr ?_; (case hd => rfl); (case hg => rfl); (case hr => first | (go_simp; done) | (go_simp; rfl)); intro gb360 hg w12 hbox hb; have n0_ := Aside0.mk (blk_below (g := gb359) (o := .cells #[.int .i64 a0_0, .slice A0_1 l0_1.length c0_1] 24 (0, 0)) (by (with_reducible repeat (first | refine blk_drewN ?_ _ | refine blk_drew ?_ | refine blk_alloc ?_ _)); exact BK359.out) hb); have n1_ := Aside0.mk (below_step (by repeat (first | (with_reducible first | exact HB.out | apply below_alloc | apply pw_below_drewN | apply below_drew1 | refine below_set ?_ GE359.out) | exact HB.out)) hb); have n2_ := Aside0.mk (hbox); have n3_ := Aside0.mk ((by rw [hg]; exact (below_size (by repeat (first | (with_reducible first | exact HB.out | apply below_alloc | apply pw_below_drewN | apply below_drew1 | refine below_set ?_ GE359.out) | exact HB.out))) : w.heap.size ≤ gb360)); have n4_ := Aside0.mk ((by rw [hg]; exact (below_size (by repeat (first | (with_reducible first | exact HB.out | apply below_alloc | apply pw_below_drewN | apply below_drew1 | refine below_set ?_ GE359.out) | exact HB.out))) : w.heap.size ≤ gb360)); have n5_ := Aside0.mk ((by rw [hg]; exact Nat.ne_of_lt (blk_lt (g := gb359) (o := .cells #[.int .i64 a0_0, .slice A0_1 l0_1.length c0_1] 24 (0, 0)) (by (with_reducible repeat (first | refine blk_drewN ?_ _ | refine blk_drew ?_ | refine blk_alloc ?_ _)); exact BK359.out)) : gb359 ≠ gb360)); have n6_ := Aside0.mk ((by rw [hg]; exact Nat.ne_of_gt (blk_lt (g := gb359) (o := .cells #[.int .i64 a0_0, .slice A0_1 l0_1.length c0_1] 24 (0, 0)) (by (with_reducible repeat (first | refine blk_drewN ?_ _ | refine blk_drew ?_ | refine blk_alloc ?_ _)); exact BK359.out)) : gb360 ≠ gb359)); clear BK359; clear HB; have BK359 := n0_; have HB := n1_; have BK360 := n2_; have GW360 := n3_; have GE360 := n4_; have NB359_360 := n5_; have NB360_359 := n6_; clear n0_ n1_ n2_ n3_ n4_ n5_ n6_; clear hb hbox hg; have hnb13 := NB359_360.out; have hnc13 := NB360_359.out; have hcz14_0 : w12.cell? ⟨gb359, 0, none⟩ = some (.int .i64 a0_0) := (blk_cell BK359.out 0).trans rfl; have hcz14_1 : w12.cell? ⟨gb359, 1, none⟩ = some (.slice A0_1 l0_1.length c0_1) := (blk_cell BK359.out 1).trans rfl; have hfz14_0 := blk_frozen BK359.out 0; have hfz14_1 := blk_frozen BK359.out 1; have hcz15_0 : w12.cell? ⟨gb360, 0, none⟩ = some (.int .i64 a1_0) := (blk_cell BK360.out 0).trans rfl; have hcz15_1 : w12.cell? ⟨gb360, 1, none⟩ = some (.slice A1_1 l1_1.length c1_1) := (blk_cell BK360.out 1).trans rfl; have hfz15_0 := blk_frozen BK360.out 0; have hfz15_1 := blk_frozen BK360.out 1) | ((with_reducible refine gate_callee (f := 29) rfl ?_); refine goesL_ (some 14) rfl rfl Tryz.func29 (by kernel_rfl) rfl #[.slice A0_1 l0_1.length c0_1, .slice A1_1 l1_1.length c1_1] rfl (by (try simp only [List.map_toArray, List.map_cons, List.map_nil]); first | done | rfl | (simp only [List.length_drop, List.length_take]; rfl)) ?_; (with_reducible refine (laws_eqInt64SS.calls k _ _ l0_1 _ _ l1_1 false _ ?side1 ?side2 ?side3 ?side4 A4.out).mono ?_); (case side1 => repeat (first | exact (Kd.C_below HR0_1.out HB.out) | (with_reducible refine Kd.C_alloc ?_ _) | (with_reducible refine Kd.C_drewN ?_ _) | (with_reducible refine Kd.C_drew ?_))); (case side2 => exact HC0_1.out); (case side3 => repeat (first | exact (Kd.C_below HR1_1.out HB.out) | (with_reducible refine Kd.C_alloc ?_ _) | (with_reducible refine Kd.C_drewN ?_ _) | (with_reducible refine Kd.C_drew ?_))); (case side4 => exact HC1_1.out); rintro e w' ⟨rfl, ⟨nd, rfl⟩⟩; refine ⟨_, rfl, ?_⟩))
      go_ret
      exact ⟨by first | rfl | (simp [errW_none, errW_some] <;> rfl) | (simp [*, errW_none, errW_some] <;> rfl), by repeat (first | (with_reducible first | exact HB.out | apply below_alloc | apply pw_below_drewN | apply below_drew1 | refine below_set ?_ GE359.out | refine below_set ?_ GE360.out) | exact HB.out)⟩
  · rw [if_neg c3] at H
    have c3b0 : (a0_0 == a1_0) = false := beq_eq_false_iff_ne.mpr c3
    have c3b1 : (a0_0 != a1_0) = true := bne_iff_ne.mpr c3
    obtain rfl := Option.some.inj H
    go_enter Tryz.func7, Tryz.ntmps7
    go_wp2_with (first | ((with_reducible refine gate_dst (N := 2) rfl ?_); refine box_event ?hg (N := 2) ?hd (cs := #[.int .i64 a0_0, .slice A0_1 l0_1.length c0_1]) (t := 24) ?hr ?_; (case hd => rfl); (case hg => rfl); (case hr => first | (go_simp; done) | (go_simp; rfl)); intro gb359 hg w16 hbox hb; have n0_ := Aside0.mk (below_step (by repeat (first | (with_reducible first | exact HB.out | apply below_alloc | apply pw_below_drewN | apply below_drew1) | exact HB.out)) hb); have n1_ := Aside0.mk (hbox); have n2_ := Aside0.mk ((by rw [hg]; exact (below_size (by repeat (first | (with_reducible first | exact HB.out | apply below_alloc | apply pw_below_drewN | apply below_drew1) | exact HB.out))) : w.heap.size ≤ gb359)); have n3_ := Aside0.mk ((by rw [hg]; exact (below_size (by repeat (first | (with_reducible first | exact HB.out | apply below_alloc | apply pw_below_drewN | apply below_drew1) | exact HB.out))) : w.heap.size ≤ gb359)); clear HB; have HB := n0_; have BK359 := n1_; have GW359 := n2_; have GE359 := n3_; clear n0_ n1_ n2_ n3_; clear hb hbox hg) | ((with_reducible refine gate_dst (N := 3) rfl ?_); refine box_event ?hg (N := 3) ?hd (cs := #[.int .i64 a1_0, .slice A1_1 l1_1.length c1_1]) (t := 24) ?hr ?_; (case hd => rfl); (case hg => rfl); (case hr => first | (go_simp; done) | (go_simp; rfl)); intro gb360 hg w17 hbox hb; have n0_ := Aside0.mk (blk_below (g := gb359) (o := .cells #[.int .i64 a0_0, .slice A0_1 l0_1.length c0_1] 24 (0, 0)) (by (with_reducible repeat (first | refine blk_drewN ?_ _ | refine blk_drew ?_ | refine blk_alloc ?_ _)); exact BK359.out) hb); have n1_ := Aside0.mk (below_step (by repeat (first | (with_reducible first | exact HB.out | apply below_alloc | apply pw_below_drewN | apply below_drew1 | refine below_set ?_ GE359.out) | exact HB.out)) hb); have n2_ := Aside0.mk (hbox); have n3_ := Aside0.mk ((by rw [hg]; exact (below_size (by repeat (first | (with_reducible first | exact HB.out | apply below_alloc | apply pw_below_drewN | apply below_drew1 | refine below_set ?_ GE359.out) | exact HB.out))) : w.heap.size ≤ gb360)); have n4_ := Aside0.mk ((by rw [hg]; exact (below_size (by repeat (first | (with_reducible first | exact HB.out | apply below_alloc | apply pw_below_drewN | apply below_drew1 | refine below_set ?_ GE359.out) | exact HB.out))) : w.heap.size ≤ gb360)); have n5_ := Aside0.mk ((by rw [hg]; exact Nat.ne_of_lt (blk_lt (g := gb359) (o := .cells #[.int .i64 a0_0, .slice A0_1 l0_1.length c0_1] 24 (0, 0)) (by (with_reducible repeat (first | refine blk_drewN ?_ _ | refine blk_drew ?_ | refine blk_alloc ?_ _)); exact BK359.out)) : gb359 ≠ gb360)); have n6_ := Aside0.mk ((by rw [hg]; exact Nat.ne_of_gt (blk_lt (g := gb359) (o := .cells #[.int .i64 a0_0, .slice A0_1 l0_1.length c0_1] 24 (0, 0)) (by (with_reducible repeat (first | refine blk_drewN ?_ _ | refine blk_drew ?_ | refine blk_alloc ?_ _)); exact BK359.out)) : gb360 ≠ gb359)); clear BK359; clear HB; have BK359 := n0_; have HB := n1_; have BK360 := n2_; have GW360 := n3_; have GE360 := n4_; have NB359_360 := n5_; have NB360_359 := n6_; clear n0_ n1_ n2_ n3_ n4_ n5_ n6_; clear hb hbox hg; have hnb18 := NB359_360.out; have hnc18 := NB360_359.out; have hcz19_0 : w17.cell? ⟨gb359, 0, none⟩ = some (.int .i64 a0_0) := (blk_cell BK359.out 0).trans rfl; have hcz19_1 : w17.cell? ⟨gb359, 1, none⟩ = some (.slice A0_1 l0_1.length c0_1) := (blk_cell BK359.out 1).trans rfl; have hfz19_0 := blk_frozen BK359.out 0; have hfz19_1 := blk_frozen BK359.out 1; have hcz20_0 : w17.cell? ⟨gb360, 0, none⟩ = some (.int .i64 a1_0) := (blk_cell BK360.out 0).trans rfl; have hcz20_1 : w17.cell? ⟨gb360, 1, none⟩ = some (.slice A1_1 l1_1.length c1_1) := (blk_cell BK360.out 1).trans rfl; have hfz20_0 := blk_frozen BK360.out 0; have hfz20_1 := blk_frozen BK360.out 1))
    go_ret
    exact ⟨by first | rfl | (simp [errW_none, errW_some] <;> rfl) | (simp [*, errW_none, errW_some] <;> rfl), by repeat (first | (with_reducible first | exact HB.out | apply below_alloc | apply pw_below_drewN | apply below_drew1 | refine below_set ?_ GE359.out | refine below_set ?_ GE360.out) | exact HB.out)⟩

end Go.Proofs.YtibaiaenfeppcaaGreatDoor.Q

-- made by a patched copy of print.sh: this session's own
namespace Go.Proofs.YtibaiaenfeppcaaGreatDoor.Q
open Go.RowKit Go.Proofs.YtibaiaenfeppcaaGreatDoorW.PrintWords Go.Proofs.YtibaiaenfeppcaaGreatDoorW.PrintLast Go.Proofs.YtibaiaenfeppcaaGreatDoorW.PrintMore
attribute [local go_sem] max2_int min2_int max_two min_two max_three min_three max_four min_four   -- for this text's walks alone
set_option linter.unusedVariables false
set_option linter.unusedSimpArgs false

/-! ### spec_l00In: function 39 -/
def spec_l00In.f (a0 : Int) (a1 : Int) (a2 : Int) : Option (Bool) := if a0 ≥ a1 then (some (decide (a0 ≤ a2))) else (some false)
set_option maxHeartbeats 8000000 in
set_option maxRecDepth 100000 in
theorem spec_l00In.calls (a0 : Int) (a1 : Int) (a2 : Int) (r : Bool) (w : World) (h : spec_l00In.f a0 a1 a2 = some r) :
    Calls Tryz.prog 39 #[.int .i64 a0, .int .i64 a1, .int .i64 a2] w fun e w' => e = .returned (.bool r) ∧ Drawn0 w w' := by
  have H : (if a0 ≥ a1 then (some (decide (a0 ≤ a2))) else (some false)) = some r := h
  clear h
  by_cases c4 : a0 ≥ a1
  · rw [if_pos c4] at H
    have c4b0 : decide (a1 ≤ a0) = true := decide_eq_true c4
    clear c4
    obtain rfl := Option.some.inj H
    go_enter Tryz.func39, Tryz.ntmps39
    go_wp2
    go_ret
    exact ⟨by first | rfl | (simp; done) | (simp [*]; done), by repeat (first | exact Drawn0.refl _ | apply Drawn0.step)⟩
  · rw [if_neg c4] at H
    have c4b0 : decide (a1 ≤ a0) = false := decide_eq_false c4
    clear c4
    obtain rfl := Option.some.inj H
    go_enter Tryz.func39, Tryz.ntmps39
    go_wp2
    go_ret
    exact ⟨by first | rfl | (simp; done) | (simp [*]; done), by repeat (first | exact Drawn0.refl _ | apply Drawn0.step)⟩

end Go.Proofs.YtibaiaenfeppcaaGreatDoor.Q

-- made by a patched copy of print.sh: this session's own
namespace Go.Proofs.YtibaiaenfeppcaaGreatDoor.Q
open Go.RowKit Go.Proofs.YtibaiaenfeppcaaGreatDoorW.PrintWords Go.Proofs.YtibaiaenfeppcaaGreatDoorW.PrintLast Go.Proofs.YtibaiaenfeppcaaGreatDoorW.PrintMore
attribute [local go_sem] max2_int min2_int max_two min_two max_three min_three max_four min_four   -- for this text's walks alone
set_option linter.unusedVariables false
set_option linter.unusedSimpArgs false

/-! ### spec_l00Has: function 41 -/
def spec_l00Has.l0 : Nat → List Int → Int → Int → Option (Bool)
  | 0, _, _, _ => none
  | k + 1, x0, x1, x5 => if x5 < (x0.length : Int) then (if 0 ≤ x5 then (if (rd x0 x5) = x1 then (some true) else (spec_l00Has.l0 k x0 x1 (wrap64 (x5 + 1)))) else (none)) else (some false)
def spec_l00Has.f (k : Nat) (l0 : List Int) (a1 : Int) : Option (Bool) := spec_l00Has.l0 k l0 a1 0
set_option maxHeartbeats 8000000 in
set_option maxRecDepth 100000 in
theorem spec_l00Has.calls (k : Nat) (A0 : Option Addr) (c0 : Nat) (l0 : List Int) (a1 : Int) (r : Bool) (w : World) (hr0 : Kd.C (Kd.int .i64) w A0 l0.length l0) (hc0 : l0.length ≤ c0) (h : spec_l00Has.f k l0 a1 = some r) :
    Calls Tryz.prog 41 #[.slice A0 l0.length c0, .int .i64 a1] w fun e w' => e = .returned (.bool r) ∧ Drawn0 w w' := by
  have HR0 := Aside0.mk hr0
  have HC0 := Aside0.mk hc0
  clear hr0 hc0
  have H : (spec_l00Has.l0 k l0 a1 0) = some r := h
  clear h
  have H' := Aside0.mk H
  clear H
  go_enter Tryz.func41, Tryz.ntmps41
  go_wp2
  go_loopg [5] k (fun kq v5 w' => ∃ (x5_1 : Int), v5 = .int .i64 x5_1 ∧ Aside0 (spec_l00Has.l0 kq l0 a1 x5_1 = some r) ∧ Aside0 (kq ≤ k) ∧ Drawn0 w w')
  case atStart => exact ⟨(0), (by first | rfl | (simp; done) | (simp [*]; done)), H', ⟨Nat.le_refl _⟩, by repeat (first | exact Drawn0.refl _ | apply Drawn0.step)⟩
  case round =>
    clear H'
    try clear p2
    obtain ⟨x5_1, rfl, HA, HK1, ⟨m1, rfl⟩⟩ := hrel
    cases gk with
    | zero => exact absurd HA.out (by simp [spec_l00Has.l0])
    | succ k1 =>
      have H := HA.out
      clear HA
      simp only [spec_l00Has.l0] at H
      by_cases c3 : x5_1 < (l0.length : Int)
      · rw [if_pos c3] at H
        have c3b0 : decide (x5_1 < (l0.length : Int)) = true := decide_eq_true c3
        clear c3
        by_cases c4 : 0 ≤ x5_1
        · rw [if_pos c4] at H
          have c4b0 : decide (0 ≤ x5_1) = true := decide_eq_true c4
          clear c4
          by_cases c5 : (rd l0 x5_1) = a1
          · rw [if_pos c5] at H
            have c5b0 : ((rd l0 x5_1) == a1) = true := beq_iff_eq.mpr c5
            have c5b1 : ((rd l0 x5_1) != a1) = false := bne_eq_false_iff_eq.mpr c5
            clear c5
            obtain rfl := Option.some.inj H
            have p120 : 0 ≤ (x5_1 : Int) := of_decide_eq_true (by first | (with_reducible assumption) | assumption)
            have q120 : x5_1 < (l0.length : Int) := of_decide_eq_true (by first | (with_reducible assumption) | assumption)
            obtain ⟨ad120, e120, hx120_0⟩ := Kd.at_int HR0.out x5_1 p120 q120
            cases e120
            replace p120 := eq_true p120
            replace q120 := eq_true q120
            go_wp2
            go_ret
            exact ⟨by first | rfl | (simp; done) | (simp [*]; done), by repeat (first | exact Drawn0.refl _ | apply Drawn0.step)⟩
          · rw [if_neg c5] at H
            have c5b0 : ((rd l0 x5_1) == a1) = false := beq_eq_false_iff_ne.mpr c5
            have c5b1 : ((rd l0 x5_1) != a1) = true := bne_iff_ne.mpr c5
            have H' := Aside0.mk H
            clear H
            have p120 : 0 ≤ (x5_1 : Int) := of_decide_eq_true (by first | (with_reducible assumption) | assumption)
            have q120 : x5_1 < (l0.length : Int) := of_decide_eq_true (by first | (with_reducible assumption) | assumption)
            obtain ⟨ad120, e120, hx120_0⟩ := Kd.at_int HR0.out x5_1 p120 q120
            cases e120
            replace p120 := eq_true p120
            replace q120 := eq_true q120
            go_wp2
            go_roundg k1
            case measure => have := HK1.out; omega
            case rel => exact ⟨(wrap64 (x5_1 + 1)), (by first | rfl | (simp; done) | (simp [*]; done)), H', ⟨by have := HK1.out; omega⟩, by repeat (first | exact Drawn0.refl _ | apply Drawn0.step)⟩
        · rw [if_neg c4] at H
          exact absurd H (by simp)
      · rw [if_neg c3] at H
        have c3b0 : decide (x5_1 < (l0.length : Int)) = false := decide_eq_false c3
        clear c3
        obtain rfl := Option.some.inj H
        go_wp2
        go_ret
        exact ⟨by first | rfl | (simp; done) | (simp [*]; done), by repeat (first | exact Drawn0.refl _ | apply Drawn0.step)⟩

end Go.Proofs.YtibaiaenfeppcaaGreatDoor.Q

-- made by a patched copy of print.sh: this session's own
namespace Go.Proofs.YtibaiaenfeppcaaGreatDoor.Q
open Go.RowKit Go.Proofs.YtibaiaenfeppcaaGreatDoorW.PrintWords Go.Proofs.YtibaiaenfeppcaaGreatDoorW.PrintLast Go.Proofs.YtibaiaenfeppcaaGreatDoorW.PrintMore
attribute [local go_sem] max2_int min2_int max_two min_two max_three min_three max_four min_four   -- for this text's walks alone
set_option linter.unusedVariables false
set_option linter.unusedSimpArgs false

/-- A state of type 24 at block g of W; what its slices lead to came in by w0. -/
def IsS24 (w0 W : World) (g : Nat) (f0 : Int) (f1 : List (List Int)) : Prop := ∃ A1 c1, W.heap[g]? = some (.cells #[.int .i64 f0, .slice A1 f1.length c1] 24 (0, 0)) ∧ w0.heap.size ≤ g ∧ Kd.C (Kd.slice 2 (Kd.int .i64)) w0 A1 f1.length f1
theorem IsS24.grown {w0 W : World} {g : Nat} {f0 : Int} {f1 : List (List Int)} {W1 : World} {row : Option Nat} (h : IsS24 w0 W g f0 f1) (hw : W.grownBy W1 row) (hne : some g ≠ row) : IsS24 w0 W1 g f0 f1 := by
  obtain ⟨A1, c1, hb, hg, hr1⟩ := h
  exact ⟨A1, c1, blk_grown hb hw hne, hg, hr1⟩
theorem IsS24.kept {w0 W : World} {g : Nat} {f0 : Int} {f1 : List (List Int)} {W1 : World} {S : Nat → Prop} (h : IsS24 w0 W g f0 f1) (hk : Kept W W1 S) (hne : ¬ S g) : IsS24 w0 W1 g f0 f1 := by
  obtain ⟨A1, c1, hb, hg, hr1⟩ := h
  exact ⟨A1, c1, blk_kept hb hk hne, hg, hr1⟩
theorem IsS24.below {w0 W : World} {g : Nat} {f0 : Int} {f1 : List (List Int)} {W1 : World} (h : IsS24 w0 W g f0 f1) (hw : Below W.heap.size W W1) : IsS24 w0 W1 g f0 f1 := h.grown (grown_of_below hw none) (by simp)
theorem IsS24.alloc {w0 W : World} {g : Nat} {f0 : Int} {f1 : List (List Int)} (h : IsS24 w0 W g f0 f1) (o : Obj) : IsS24 w0 (W.alloc o) g f0 f1 := h.below (below_alloc (Below.refl _ _) o)
theorem IsS24.drewN {w0 W : World} {g : Nat} {f0 : Int} {f1 : List (List Int)} (h : IsS24 w0 W g f0 f1) (m : Nat) : IsS24 w0 (W.drewN m) g f0 f1 := h
theorem IsS24.drew {w0 W : World} {g : Nat} {f0 : Int} {f1 : List (List Int)} (h : IsS24 w0 W g f0 f1) : IsS24 w0 W.drew g f0 f1 := h
theorem IsS24.at_ {w0 W : World} {g : Nat} {f0 : Int} {f1 : List (List Int)} {w' : World} {m : Nat} (hq : W.drewN m = w') (h : IsS24 w0 W g f0 f1) : IsS24 w0 w' g f0 f1 := by subst hq; exact IsS24.drewN h m
theorem IsS24.apart {w0 W : World} {g : Nat} {f0 : Int} {f1 : List (List Int)} {α : Type} {d : Kd α} {e : Nat} {base : Nat} {ok : Nat → Prop} {v : Value} {xs : List α} (h : IsS24 w0 W g f0 f1) (ho : d.R e W base ok v xs) (ht : ∀ q, q ∈ e :: d.E → q ≠ 24) : d.R e W base (fun k => ok k ∧ k ≠ g) v xs := by
  obtain ⟨A1, c1, hb, hg, hr1⟩ := h
  exact Kd.R_types ho hb ht
theorem IsS24.own_ne {w0 W : World} {g : Nat} {f0 : Int} {f1 : List (List Int)} {α : Type} {d : Kd α} {e : Nat} {base : Nat} {ok : Nat → Prop} {v : Value} {xs : List α} (h : IsS24 w0 W g f0 f1) (ho : d.R e W base ok v xs) (ht : e ≠ 24) : some g ≠ v.ownBlock := by
  obtain ⟨A1, c1, hb, hg, hr1⟩ := h
  exact Kd.R_ne ho hb ht
theorem IsS24.ge {w0 W : World} {g : Nat} {f0 : Int} {f1 : List (List Int)} (h : IsS24 w0 W g f0 f1) : w0.heap.size ≤ g := by
  obtain ⟨A1, c1, hb, hg, hr1⟩ := h
  exact hg
theorem cellS24_0 {W : World} {g : Nat} {A1 : Option Addr} {c1 : Nat} {f0 : Int} {f1 : List (List Int)} (h : W.heap[g]? = some (.cells #[.int .i64 f0, .slice A1 f1.length c1] 24 (0, 0))) : W.cell? ⟨g, 0, none⟩ = some (.int .i64 f0) := (blk_cell h 0).trans rfl
theorem IsS24.set_0 {w0 W : World} {g : Nat} {f0 : Int} {f1 : List (List Int)} (h : IsS24 w0 W g f0 f1) (x : Int) : IsS24 w0 (W.setCell ⟨g, 0, none⟩ (.int .i64 x)) g x f1 := by
  obtain ⟨A1, c1, hb, hg, hr1⟩ := h
  exact ⟨A1, c1, by simpa using blk_set hb 0 (.int .i64 x), hg, hr1⟩
theorem cellS24_1 {W : World} {g : Nat} {A1 : Option Addr} {c1 : Nat} {f0 : Int} {f1 : List (List Int)} (h : W.heap[g]? = some (.cells #[.int .i64 f0, .slice A1 f1.length c1] 24 (0, 0))) : W.cell? ⟨g, 1, none⟩ = some (.slice A1 f1.length c1) := (blk_cell h 1).trans rfl
theorem IsS24.new (w0 W : World) (A1 : Option Addr) (c1 : Nat) (f0 : Int) (f1 : List (List Int)) (hB : Below w0.heap.size w0 W) (hr1 : Kd.C (Kd.slice 2 (Kd.int .i64)) w0 A1 f1.length f1) : IsS24 w0 (W.alloc (.cells #[.int .i64 f0, .slice A1 f1.length c1] 24)) W.heap.size f0 f1 := ⟨A1, c1, by simpa using heap_alloc_new W _, hB.size, hr1⟩

/-! ### spec_l09Yard: function 22 -/
mutual
def spec_l09Yard.j0 : Nat → Bool → Int → List (List Int) → Option (Bool × Int)
  | 0, _, _, _ => none
  | k + 1, x28, x1000, x1001 => if x28 = true then (some (false, x1000)) else (spec_l09Yard.l0 k (([] : List Int)) 0 x1000 x1001)
def spec_l09Yard.l0 : Nat → List Int → Int → Int → List (List Int) → Option (Bool × Int)
  | 0, _, _, _, _ => none
  | k + 1, x3, x4, x1000, x1001 => if x4 < (x1001.length : Int) then (if 0 ≤ x4 then (if ((rd_L2 x1001 x4).length : Int) > x1000 then (some (false, x1000)) else (spec_l09Yard.l1 k x3 x4 0 x1000 x1001)) else (none)) else (some (decide ((x3.length : Int) ≤ 7), x1000))
def spec_l09Yard.l1 : Nat → List Int → Int → Int → Int → List (List Int) → Option (Bool × Int)
  | 0, _, _, _, _, _ => none
  | k + 1, x3, x4, x5, x1000, x1001 => if 0 ≤ x4 then (if x4 < (x1001.length : Int) then (if x5 < ((rd_L2 x1001 x4).length : Int) then (if 0 ≤ x5 then ((spec_l00In.f (rd (rd_L2 x1001 x4) x5) 0 99).bind fun t129 => (if t129 = true then ((spec_l00Has.f k x3 (rd (rd_L2 x1001 x4) x5)).bind fun t130 => (if t130 = true then (some (false, x1000)) else (if x3.length < 17592186044416 then (spec_l09Yard.l1 k (x3 ++ [rd (rd_L2 x1001 x4) x5]) x4 (wrap64 (x5 + 1)) x1000 x1001) else (none)))) else (some (false, x1000)))) else (none)) else (spec_l09Yard.l0 k x3 (wrap64 (x4 + 1)) x1000 x1001)) else (none)) else (none)
end
def spec_l09Yard.f (k : Nat) (s0_0 : Int) (s0_1 : List (List Int)) : Option (Bool × Int) := (spec_l00In.f s0_0 1 4).bind fun t121 => (if t121 = true then (if (s0_1.length : Int) < 1 then (spec_l09Yard.j0 k true s0_0 s0_1) else (spec_l09Yard.j0 k (decide ((s0_1.length : Int) > 4)) s0_0 s0_1)) else (spec_l09Yard.j0 k true s0_0 s0_1))
end Go.Proofs.YtibaiaenfeppcaaGreatDoor.Q

-- mended

/- Plain: equality of yards and the reference's valid yards. -/
namespace Go.Proofs.YtibaiaenfeppcaaGreatDoor.PuY
open Go.RowKit Go.Proofs.YtibaiaenfeppcaaGreatDoorW.PrintWords Go.Proofs.YtibaiaenfeppcaaGreatDoor.Q
theorem wrap_id {x : Int} (h1 : -9223372036854775808 ≤ x) (h2 : x ≤ 9223372036854775807) : wrap64 x = x := by unfold wrap64; omega
theorem wrap_succ (i : Nat) (h : i < 9000000000000000000) : wrap64 ((i : Int) + 1) = ((i + 1 : Nat) : Int) := by unfold wrap64; omega
theorem rd_at (l : List Int) (i : Nat) (h : i < l.length) : rd l (i : Int) = l[i] := by simp [rd, h]
theorem rdL_at (l : List (List Int)) (i : Nat) (h : i < l.length) : rd_L2 l (i : Int) = l[i] := by simp [rd_L2, h]
/-! sizes -/
/-- Few rows, none long, few numbers in all. -/
def Small (xs : List (List Int)) : Prop := xs.length ≤ 1048576 ∧ xs.flatten.length ≤ 1048576 ∧ ∀ r ∈ xs, r.length ≤ 1048576
/-! equality -/
theorem eqS_loop (l : List Int) (hl : l.length ≤ 1048576) : ∀ (d k i : Nat), i + d = l.length → d < k → laws_eqInt64S.l0 k l l (i : Int) = some true := by
  intro d
  induction d with
  | zero =>
    intro k i hi hk
    obtain ⟨k, rfl⟩ : ∃ m, k = m + 1 := ⟨k - 1, by omega⟩
    simp only [laws_eqInt64S.l0]
    rw [if_neg (by omega)]
  | succ d ih =>
    intro k i hi hk
    obtain ⟨k, rfl⟩ : ∃ m, k = m + 1 := ⟨k - 1, by omega⟩
    simp only [laws_eqInt64S.l0, if_true]
    rw [if_pos (by omega), if_pos (by omega), if_pos (by omega), wrap_id (by omega) (by omega), show (i : Int) + 1 = ((i + 1 : Nat) : Int) by omega]
    exact ih k (i + 1) (by omega) (by omega)
theorem eqS_eq (l : List Int) (hl : l.length ≤ 1048576) (k : Nat) (hk : 1048576 < k) : laws_eqInt64S.f k l l = some true := by
  simp only [laws_eqInt64S.f, if_true]
  exact eqS_loop l hl l.length k 0 (by omega) (by omega)
theorem eqSS_loop (l : List (List Int)) (hl : l.length ≤ 1048576) (hr : ∀ r ∈ l, r.length ≤ 1048576) : ∀ (d k i : Nat), i + d = l.length → d + 1048577 < k → laws_eqInt64SS.l0 k l l (i : Int) = some true := by
  intro d
  induction d with
  | zero =>
    intro k i hi hk
    obtain ⟨k, rfl⟩ : ∃ m, k = m + 1 := ⟨k - 1, by omega⟩
    simp only [laws_eqInt64SS.l0]
    rw [if_neg (by omega)]
  | succ d ih =>
    intro k i hi hk
    obtain ⟨k, rfl⟩ : ∃ m, k = m + 1 := ⟨k - 1, by omega⟩
    have hlt : i < l.length := by omega
    simp only [laws_eqInt64SS.l0]
    rw [if_pos (by omega), if_pos (by omega), if_pos (by omega), rdL_at l i hlt, eqS_eq _ (hr _ (List.getElem_mem hlt)) k (by omega)]
    simp only [Option.bind_some, if_true]
    rw [wrap_id (by omega) (by omega), show (i : Int) + 1 = ((i + 1 : Nat) : Int) by omega]
    exact ih k (i + 1) (by omega) (by omega)
theorem eqSS_eq (l : List (List Int)) (hs : Small l) (k : Nat) (hk : 3000000 ≤ k) : laws_eqInt64SS.f k l l = some true := by
  obtain ⟨hl, _, hr⟩ := hs
  simp only [laws_eqInt64SS.f, if_true]
  exact eqSS_loop l hl hr l.length k 0 (by omega) (by omega)
theorem eqYard_eq (h : Int) (l : List (List Int)) (hs : Small l) (k : Nat) (hk : 3000000 ≤ k) : laws_eqYard.f k h l h l = some true := by
  simp [laws_eqYard.f, eqSS_eq l hs k hk]
/-! the reference's valid yards -/
theorem in_eq (n a b : Int) : spec_l00In.f n a b = some (Ha.inB a b n) := by
  unfold spec_l00In.f Ha.inB
  by_cases h : n ≥ a
  · rw [if_pos h]; simp; omega
  · rw [if_neg h]; simp; omega
theorem has_loop (l : List Int) (x : Int) (hl : l.length ≤ 1000000) : ∀ (d k i : Nat), i + d = l.length → d < k → spec_l00Has.l0 k l x (i : Int) = some ((l.drop i).contains x) := by
  intro d
  induction d with
  | zero =>
    intro k i hi hk
    obtain ⟨k, rfl⟩ : ∃ m, k = m + 1 := ⟨k - 1, by omega⟩
    simp only [spec_l00Has.l0]
    rw [if_neg (by omega), List.drop_eq_nil_of_le (by omega)]; rfl
  | succ d ih =>
    intro k i hi hk
    obtain ⟨k, rfl⟩ : ∃ m, k = m + 1 := ⟨k - 1, by omega⟩
    have hlt : i < l.length := by omega
    simp only [spec_l00Has.l0]
    rw [if_pos (by omega), if_pos (by omega), rd_at l i hlt, List.drop_eq_getElem_cons hlt]
    by_cases e : l[i] = x
    · rw [if_pos e]; simp [e]
    · rw [if_neg e, wrap_id (by omega) (by omega), show (i : Int) + 1 = ((i + 1 : Nat) : Int) by omega, ih k (i + 1) (by omega) (by omega), List.contains_cons]
      have : (x == l[i]) = false := beq_eq_false_iff_ne.2 (fun h => e h.symm)
      rw [this, Bool.false_or]
theorem has_eq (l : List Int) (x : Int) (hl : l.length ≤ 1000000) (k : Nat) (hk : l.length < k) : spec_l00Has.f k l x = some (l.contains x) := by
  have := has_loop l x hl l.length k 0 (by omega) hk
  simpa [spec_l00Has.f] using this
/-- What is left of a yard is good, the lots seen being these. -/
def goodB (h : Int) (lots : List Int) (rest : List (List Int)) : Bool :=
  rest.all (fun s => decide ((s.length : Int) ≤ h)) && (Ha.areIn rest.flatten 0 99 && (decide (rest.flatten.Nodup ∧ ∀ x ∈ rest.flatten, x ∉ lots) && decide (((lots ++ rest.flatten).length : Int) ≤ 7)))
theorem good_cons (h : Int) (lots r : List Int) (rest : List (List Int)) : goodB h lots (r :: rest) = (decide ((r.length : Int) ≤ h) && (Ha.areIn r 0 99 && (decide (r.Nodup ∧ ∀ x ∈ r, x ∉ lots) && goodB h (lots ++ r) rest))) := by
  rw [Bool.eq_iff_iff]
  simp only [goodB, Bool.and_eq_true, decide_eq_true_eq, List.all_cons, List.flatten_cons, Ha.areIn, List.all_append, List.nodup_append, List.mem_append, List.length_append]
  constructor
  · rintro ⟨⟨a, b⟩, ⟨c, d⟩, ⟨⟨e, f, g⟩, i⟩, j⟩
    exact ⟨a, c, ⟨e, fun x hx => i x (.inl hx)⟩, b, d, ⟨f, fun x hx hy => by
      rcases hy with hy | hy
      · exact i x (.inr hx) hy
      · exact g x hy x hx rfl⟩, by omega⟩
  · rintro ⟨a, c, ⟨e, i⟩, b, d, ⟨f, g⟩, j⟩
    exact ⟨⟨a, b⟩, ⟨c, d⟩, ⟨⟨e, f, fun x hx y hy he => g y hy (.inr (he ▸ hx))⟩, fun x hx => by
      rcases hx with hx | hx
      · exact i x hx
      · exact fun hl => g x hx (.inl hl)⟩, by omega⟩
theorem row_loop (h : Int) (xs : List (List Int)) (i : Nat) (hi : i < xs.length) (K0 : Nat) (lots : List Int) (hll : lots.length ≤ 100000) (hrl : xs[i].length ≤ 4)
    (hnext : ∀ k, K0 ≤ k → spec_l09Yard.l0 k (lots ++ xs[i]) (((i + 1 : Nat) : Int)) h xs = some (goodB h (lots ++ xs[i]) (xs.drop (i + 1)), h)) (hK : 200000 ≤ K0) (hxl : xs.length ≤ 4) :
    ∀ (d k j : Nat), j + d = xs[i].length → K0 + d + 1 ≤ k → Ha.areIn (xs[i].take j) 0 99 = true → (xs[i].take j).Nodup ∧ (∀ x ∈ xs[i].take j, x ∉ lots) →
      spec_l09Yard.l1 k (lots ++ xs[i].take j) (i : Int) (j : Int) h xs = some (Ha.areIn xs[i] 0 99 && (decide (xs[i].Nodup ∧ ∀ x ∈ xs[i], x ∉ lots) && goodB h (lots ++ xs[i]) (xs.drop (i + 1))), h) := by
  intro d
  induction d with
  | zero =>
    intro k j hj hk ha hn
    obtain ⟨k, rfl⟩ : ∃ m, k = m + 1 := ⟨k - 1, by omega⟩
    obtain rfl : j = xs[i].length := by omega
    rw [List.take_length] at ha hn ⊢
    simp only [spec_l09Yard.l1]
    rw [if_pos (by omega), if_pos (by omega), rdL_at xs i hi, if_neg (by omega), wrap_succ i (by omega), hnext k (by omega), ha, decide_eq_true hn]
    rfl
  | succ d ih =>
    intro k j hj hk ha hn
    obtain ⟨k, rfl⟩ : ∃ m, k = m + 1 := ⟨k - 1, by omega⟩
    have hlt : j < xs[i].length := by omega
    simp only [spec_l09Yard.l1]
    rw [if_pos (by omega), if_pos (by omega), rdL_at xs i hi, if_pos (by omega), if_pos (by omega), rd_at _ j hlt, in_eq]
    simp only [Option.bind_some]
    obtain ⟨x, hx⟩ : ∃ x, x = xs[i][j] := ⟨_, rfl⟩
    have htk : xs[i].take (j + 1) = xs[i].take j ++ [x] := by rw [List.take_succ_eq_append_getElem hlt, hx]
    have hmem : x ∈ xs[i] := by rw [hx]; exact List.getElem_mem hlt
    rw [← hx]
    by_cases c1 : Ha.inB 0 99 x = true
    · rw [if_pos c1, has_eq _ x (by rw [List.length_append]; have := List.length_take_le j xs[i]; omega) k (by rw [List.length_append]; have := List.length_take_le j xs[i]; omega)]
      simp only [Option.bind_some]
      by_cases c2 : (lots ++ xs[i].take j).contains x = true
      · rw [if_pos c2]
        have : decide (xs[i].Nodup ∧ ∀ x ∈ xs[i], x ∉ lots) = false := by
          apply decide_eq_false
          rintro ⟨n1, n2⟩
          rw [List.contains_iff_mem, List.mem_append] at c2
          rcases c2 with c2 | c2
          · exact n2 x hmem c2
          · have n3 : (xs[i].take (j + 1)).Nodup := n1.sublist (List.take_sublist _ _)
            rw [htk, List.nodup_append] at n3
            exact n3.2.2 x c2 x (by simp) rfl
        rw [this]; simp
      · rw [if_neg c2, if_pos (by rw [List.length_append]; have := List.length_take_le j xs[i]; omega), List.append_assoc, ← htk, wrap_succ j (by omega)]
        have c2' : x ∉ lots ∧ x ∉ xs[i].take j := by
          rw [List.contains_iff_mem, List.mem_append] at c2
          exact ⟨fun h => c2 (.inl h), fun h => c2 (.inr h)⟩
        refine ih k (j + 1) (by omega) (by omega) ?_ ?_
        · rw [htk]; unfold Ha.areIn at ha ⊢; rw [List.all_append, ha]; simp [c1]
        · rw [htk]
          refine ⟨List.nodup_append.2 ⟨hn.1, by simp, fun a ha' b hb he => ?_⟩, fun y hy => ?_⟩
          · rw [List.mem_singleton] at hb
            subst hb; subst he
            exact c2'.2 ha'
          · rcases List.mem_append.1 hy with hy | hy
            · exact hn.2 y hy
            · rw [List.mem_singleton] at hy; subst hy; exact c2'.1
    · rw [if_neg c1]
      have : Ha.areIn xs[i] 0 99 = false := by
        unfold Ha.areIn
        rw [Bool.eq_false_iff]
        intro hh
        exact c1 (List.all_eq_true.1 hh x hmem)
      rw [this]; simp
theorem yard_loop (h : Int) (h4 : h ≤ 4) (xs : List (List Int)) (hxl : xs.length ≤ 4) : ∀ (d i k : Nat) (lots : List Int), i + d = xs.length → 200000 + 10 * d < k → lots.length ≤ 4 * i →
    spec_l09Yard.l0 k lots (i : Int) h xs = some (goodB h lots (xs.drop i), h) := by
  intro d
  induction d with
  | zero =>
    intro i k lots hi hk hll
    obtain ⟨k, rfl⟩ : ∃ m, k = m + 1 := ⟨k - 1, by omega⟩
    simp only [spec_l09Yard.l0]
    rw [if_neg (by omega), List.drop_eq_nil_of_le (by omega)]
    simp [goodB, Ha.areIn]
  | succ d ih =>
    intro i k lots hi hk hll
    obtain ⟨k, rfl⟩ : ∃ m, k = m + 1 := ⟨k - 1, by omega⟩
    have hlt : i < xs.length := by omega
    simp only [spec_l09Yard.l0]
    rw [if_pos (by omega), if_pos (by omega), rdL_at xs i hlt, List.drop_eq_getElem_cons hlt, good_cons]
    by_cases c : (xs[i].length : Int) > h
    · rw [if_pos c, decide_eq_false (by omega)]; rfl
    · rw [if_neg c, decide_eq_true (by omega), Bool.true_and]
      have := row_loop h xs i hlt (200000 + 10 * d + 1) lots (by omega) (by omega) (fun k hk => by
        have := ih (i + 1) k (lots ++ xs[i]) (by omega) (by omega) (by rw [List.length_append]; omega)
        exact this) (by omega) hxl xs[i].length k 0 (by omega) (by omega) (by simp [Ha.areIn]) (by simp)
      rw [List.take_zero, List.append_nil] at this
      exact this
theorem specYard_eq (h : Int) (xs : List (List Int)) (hl : xs.length ≤ 1048576) (k : Nat) (hk : 300000 ≤ k) : spec_l09Yard.f k h xs = some (Yv.valid h xs, h) := by
  have hv : Yv.valid h xs = (Ha.inB 1 4 h && (Ha.inB 1 4 (xs.length : Int) && goodB h [] xs)) := by
    have e : decide (xs.flatten.Nodup ∧ ∀ x ∈ xs.flatten, x ∉ ([] : List Int)) = decide xs.flatten.Nodup := by simp
    unfold Yv.valid goodB
    rw [e, List.nil_append]
    cases Ha.inB 1 4 h <;> cases Ha.inB 1 4 (xs.length : Int) <;> cases xs.all (fun s => decide ((s.length : Int) ≤ h)) <;> cases decide xs.flatten.Nodup <;> cases decide ((xs.flatten.length : Int) ≤ 7) <;> cases Ha.areIn xs.flatten 0 99 <;> rfl
  rw [hv]
  simp only [spec_l09Yard.f, in_eq, Option.bind_some]
  obtain ⟨k, rfl⟩ : ∃ m, k = m + 1 := ⟨k - 1, by omega⟩
  by_cases c0 : Ha.inB 1 4 h = true
  · have h4 : h ≤ 4 := by
      unfold Ha.inB at c0; rw [Bool.and_eq_true, decide_eq_true_eq, decide_eq_true_eq] at c0; omega
    rw [if_pos c0, c0, Bool.true_and]
    by_cases c1 : (xs.length : Int) < 1
    · rw [if_pos c1]
      have : Ha.inB 1 4 (xs.length : Int) = false := by unfold Ha.inB; simp; omega
      simp [spec_l09Yard.j0, this]
    · rw [if_neg c1]
      by_cases c2 : (xs.length : Int) > 4
      · have : Ha.inB 1 4 (xs.length : Int) = false := by unfold Ha.inB; simp; omega
        simp [spec_l09Yard.j0, this, c2]
      · have t : Ha.inB 1 4 (xs.length : Int) = true := by unfold Ha.inB; simp; omega
        rw [decide_eq_false c2, t]
        simp only [spec_l09Yard.j0]
        have := yard_loop h h4 xs (by omega) xs.length 0 k [] (by omega) (by omega) (by simp)
        rw [List.drop_zero] at this
        simp only [Bool.false_eq_true, if_false, Bool.true_and]
        exact this
  · rw [if_neg c0]
    have : Ha.inB 1 4 h = false := by simpa using c0
    simp [spec_l09Yard.j0, this]
end Go.Proofs.YtibaiaenfeppcaaGreatDoor.PuY

/- Words of the yard's laws: what was made between two block numbers lives on while others are made or marked; marking a yard. -/
namespace Go.Proofs.YtibaiaenfeppcaaGreatDoor.Lw
set_option linter.unusedVariables false
open Go Go.RowKit Go.Proofs.YtibaiaenfeppcaaGreatDoorW.PrintWords Go.Proofs.YtibaiaenfeppcaaGreatDoorW.PrintLast Go.Proofs.YtibaiaenfeppcaaGreatDoorW.PrintMore Go.Proofs.YtibaiaenfeppcaaGreatDoor.Q Go.Proofs.YtibaiaenfeppcaaGreatDoor.PuY
abbrev dR : Kd (List Int) := Kd.slice 2 (Kd.int .i64)
/-- A list of rows that was made between two block numbers. -/
structure YS (lo hi : Nat) (w : World) (v : Value) (xs : List (List Int)) : Prop where
  s : Kd.S dR 35 w lo (fun k => lo ≤ k ∧ k < hi) v xs
  le : hi ≤ w.heap.size
/-- A list of numbers that was made between two block numbers. -/
structure ZS (lo hi : Nat) (w : World) (v : Value) (xs : List Int) : Prop where
  r : Kd.R (Kd.int .i64) 2 w lo (fun k => lo ≤ k ∧ k < hi) v xs
  le : hi ≤ w.heap.size
theorem YS.make {w w' : World} {v : Value} {xs : List (List Int)} (h : Kd.S dR 35 w' w.heap.size (fun _ => True) v xs) : YS w.heap.size w'.heap.size w' v xs := ⟨Kd.S_mono (Kd.S_bound h) (fun _ hk => ⟨hk.2.1, hk.2.2.1⟩), Nat.le_refl _⟩
theorem ZS.make {w w' : World} {v : Value} {xs : List Int} (h : Kd.R (Kd.int .i64) 2 w' w.heap.size (fun _ => True) v xs) : ZS w.heap.size w'.heap.size w' v xs := ⟨Kd.R_mono (Kd.R_bound h) (fun _ hk => ⟨hk.2.1, hk.2.2.1⟩), Nat.le_refl _⟩
theorem YS.below {lo hi : Nat} {w w' : World} {v : Value} {xs : List (List Int)} (h : YS lo hi w v xs) (hb : Below w.heap.size w w') : YS lo hi w' v xs := ⟨Kd.S_below h.s hb, Nat.le_trans h.le hb.size⟩
theorem ZS.below {lo hi : Nat} {w w' : World} {v : Value} {xs : List Int} (h : ZS lo hi w v xs) (hb : Below w.heap.size w w') : ZS lo hi w' v xs := ⟨Kd.R_below h.r hb, Nat.le_trans h.le hb.size⟩
theorem YS.kept {lo hi : Nat} {w w' : World} {v : Value} {xs : List (List Int)} {T : Nat → Prop} (h : YS lo hi w v xs) (hk : Kept w w' T) (hT : ∀ k, lo ≤ k → k < hi → ¬ T k) : YS lo hi w' v xs :=
  ⟨Kd.S_kept (S := T) h.s hk (fun k hk => hT k hk.1 hk.2), Nat.le_trans h.le hk.1⟩
theorem ZS.kept {lo hi : Nat} {w w' : World} {v : Value} {xs : List Int} {T : Nat → Prop} (h : ZS lo hi w v xs) (hk : Kept w w' T) (hT : ∀ k, lo ≤ k → k < hi → ¬ T k) : ZS lo hi w' v xs :=
  ⟨Kd.R_kept (S := T) h.r hk (fun k hk => hT k hk.1 hk.2), Nat.le_trans h.le hk.1⟩
theorem YS.reads {lo hi : Nat} {w : World} {v : Value} {xs : List (List Int)} (h : YS lo hi w v xs) : ∃ A c, v = .slice A xs.length c ∧ xs.length ≤ c ∧ Kd.C dR w A xs.length xs := Kd.S_reads h.s
theorem ZS.reads {lo hi : Nat} {w : World} {v : Value} {xs : List Int} (h : ZS lo hi w v xs) : ∃ A c, v = .slice A xs.length c ∧ xs.length ≤ c ∧ Kd.C (Kd.int .i64) w A xs.length xs := Kd.R_reads h.r
theorem YS.c {lo hi : Nat} {w : World} {A : Option Addr} {c n : Nat} {xs : List (List Int)} (h : YS lo hi w (.slice A n c) xs) : Kd.C dR w A xs.length xs := (Kd.S_reads' h.s).2.2
theorem ZS.c {lo hi : Nat} {w : World} {A : Option Addr} {c n : Nat} {xs : List Int} (h : ZS lo hi w (.slice A n c) xs) : Kd.C (Kd.int .i64) w A xs.length xs := (Kd.R_reads' h.r).2.2
/-! marking -/
def upTo (a : Int) (n : Nat) : List Int := (List.range n).map fun (i : Nat) => a + (i : Int)
theorem upTo_len (a : Int) (n : Nat) : (upTo a n).length = n := by simp [upTo]
theorem mark_loop (l : List Int) (hl : l.length ≤ 1048576) (a : Int) (ha : 0 ≤ a) (hb : a ≤ 100000000) : ∀ (d k i : Nat) (x : List Int), x.length = l.length → i + d = l.length → d < k → (∀ j, j < i → x[j]? = some (a + (j : Int))) → laws_markInt64S.l0 k x (a + (i : Int)) (i : Int) = some (a + (l.length : Int), upTo a l.length) := by
  intro d
  induction d with
  | zero =>
    intro k i x hx hi hk hj
    obtain ⟨k, rfl⟩ : ∃ m, k = m + 1 := ⟨k - 1, by omega⟩
    simp only [laws_markInt64S.l0]
    rw [if_neg (by omega)]
    obtain rfl : i = l.length := by omega
    have e : x = upTo a l.length := by
      apply List.ext_getElem?
      intro j
      by_cases h : j < l.length
      · rw [hj j h]; simp [upTo, h]
      · rw [List.getElem?_eq_none (by omega), List.getElem?_eq_none (by rw [upTo_len]; omega)]
    rw [e]
  | succ d ih =>
    intro k i x hx hi hk hj
    obtain ⟨k, rfl⟩ : ∃ m, k = m + 1 := ⟨k - 1, by omega⟩
    simp only [laws_markInt64S.l0]
    rw [if_pos (by omega), if_pos (by omega), wrap_id (x := (i : Int) + 1) (by omega) (by omega), wrap_id (x := a + (i : Int) + 1) (by omega) (by omega), Int.toNat_natCast, show (i : Int) + 1 = ((i + 1 : Nat) : Int) by omega, show a + (i : Int) + 1 = a + ((i + 1 : Nat) : Int) by omega]
    refine ih k (i + 1) _ (by simp [hx]) (by omega) (by omega) ?_
    intro j hlt
    by_cases h : j = i
    · subst h
      rw [List.getElem?_set_self (by omega)]
    · rw [List.getElem?_set_ne (by omega)]; exact hj j (by omega)
theorem mark_eq (l : List Int) (hl : l.length ≤ 1048576) (a : Int) (ha : 0 ≤ a) (hb : a ≤ 100000000) (k : Nat) (hk : 1048576 < k) : laws_markInt64S.f k l a = some (a + (l.length : Int), upTo a l.length) := by
  have := mark_loop l hl a ha hb l.length k 0 l rfl (by omega) (by omega) (by intro j hj; omega)
  simpa [laws_markInt64S.f] using this
theorem held_loop (a : Int) (n : Nat) (hn : n ≤ 1048576) (ha : 0 ≤ a) (hb : a ≤ 100000000) : ∀ (d k i : Nat), i + d = n → d < k → laws_heldInt64S.l0 k (upTo a n) (a + (i : Int)) (i : Int) = some (a + (n : Int)) := by
  intro d
  induction d with
  | zero =>
    intro k i hi hk
    obtain ⟨k, rfl⟩ : ∃ m, k = m + 1 := ⟨k - 1, by omega⟩
    simp only [laws_heldInt64S.l0]
    rw [upTo_len, if_neg (by omega)]
    obtain rfl : i = n := by omega
    rfl
  | succ d ih =>
    intro k i hi hk
    obtain ⟨k, rfl⟩ : ∃ m, k = m + 1 := ⟨k - 1, by omega⟩
    have e : rd (upTo a n) (i : Int) = a + (i : Int) := by
      rw [rd_at _ i (by rw [upTo_len]; omega)]; simp [upTo]
    simp only [laws_heldInt64S.l0]
    rw [upTo_len, if_pos (by omega), if_pos (by omega), e, if_pos rfl, wrap_id (x := (i : Int) + 1) (by omega) (by omega), wrap_id (x := a + (i : Int) + 1) (by omega) (by omega), show (i : Int) + 1 = ((i + 1 : Nat) : Int) by omega, show a + (i : Int) + 1 = a + ((i + 1 : Nat) : Int) by omega]
    exact ih k (i + 1) (by omega) (by omega)
theorem held_eq (a : Int) (n : Nat) (hn : n ≤ 1048576) (ha : 0 ≤ a) (hb : a ≤ 100000000) (k : Nat) (hk : 1048576 < k) : laws_heldInt64S.f k (upTo a n) a = some (a + (n : Int)) := by
  have := held_loop a n hn ha hb n k 0 (by omega) (by omega)
  simpa [laws_heldInt64S.f] using this
/-- The rows' numbers, one row behind the other. -/
def markL : List (List Int) → Int → List (List Int)
  | [], _ => []
  | r :: rs, a => upTo a r.length :: markL rs (a + (r.length : Int))
theorem markL_len (l : List (List Int)) (a : Int) : (markL l a).length = l.length := by
  induction l generalizing a with
  | nil => rfl
  | cons r rs ih => simp [markL, ih]
theorem markL_snoc (l : List (List Int)) (r : List Int) (a : Int) : markL (l ++ [r]) a = markL l a ++ [upTo (a + (l.flatten.length : Int)) r.length] := by
  induction l generalizing a with
  | nil => simp [markL]
  | cons s l ih => simp [markL, ih, Int.add_assoc]
theorem flat_take_le (l : List (List Int)) (i : Nat) : (l.take i).flatten.length ≤ l.flatten.length := by
  have : l.flatten = (l.take i).flatten ++ (l.drop i).flatten := by rw [← List.flatten_append, List.take_append_drop]
  rw [this, List.length_append]; omega
theorem heldSS_loop (a : Int) (ha : 0 ≤ a) : ∀ (l done : List (List Int)) (k : Nat) (c : Int), 0 ≤ c → c + (l.flatten.length : Int) ≤ 100000000 → (∀ r ∈ l, r.length ≤ 1048576) → (done ++ l).length ≤ 1048576 → 1048577 + l.length < k →
    laws_heldInt64SS.l0 k (done ++ markL l c) c (done.length : Int) = some (c + (l.flatten.length : Int)) := by
  intro l
  induction l with
  | nil =>
    intro done k c h0 h1 hr hl hk
    obtain ⟨k, rfl⟩ : ∃ m, k = m + 1 := ⟨k - 1, by omega⟩
    simp only [laws_heldInt64SS.l0, markL, List.append_nil]
    rw [if_neg (by omega)]; simp
  | cons r l ih =>
    intro done k c h0 h1 hr hl hk
    obtain ⟨k, rfl⟩ : ∃ m, k = m + 1 := ⟨k - 1, by omega⟩
    simp only [List.length_append, List.length_cons] at hl hk
    rw [List.flatten_cons, List.length_append] at h1
    have hr0 := hr r (by simp)
    have e : rd_L2 (done ++ markL (r :: l) c) (done.length : Int) = upTo c r.length := by
      rw [rdL_at _ _ (by rw [List.length_append, markL_len]; simp)]; simp [markL]
    simp only [laws_heldInt64SS.l0]
    rw [if_pos (by rw [List.length_append, markL_len]; simp; omega), if_pos (by omega), e, held_eq c r.length hr0 h0 (by omega) k (by omega)]
    simp only [Option.bind_some]
    rw [if_neg (by omega), wrap_id (x := (done.length : Int) + 1) (by omega) (by omega)]
    have := ih (done ++ [upTo c r.length]) k (c + (r.length : Int)) (by omega) (by omega) (fun s hs => hr s (by simp [hs])) (by simp; omega) (by omega)
    simp only [List.length_append, List.length_cons, List.length_nil, Nat.zero_add, List.append_assoc, List.cons_append, List.nil_append] at this
    rw [show (done.length : Int) + 1 = ((done.length + 1 : Nat) : Int) by omega]
    simp only [markL, List.flatten_cons, List.length_append]
    rw [this]; congr 1; omega
theorem heldSS_eq (l : List (List Int)) (hs : Small l) (k : Nat) (hk : 3000000 ≤ k) : laws_heldInt64SS.f k (markL l 1) 1 = some (1 + (l.flatten.length : Int)) := by
  obtain ⟨h1, h2, h3⟩ := hs
  have := heldSS_loop 1 (by decide) l [] k 1 (by decide) (by omega) h3 (by simpa using h1) (by omega)
  simpa [laws_heldInt64SS.f] using this
theorem heldYard_eq (h : Int) (l : List (List Int)) (hs : Small l) (k : Nat) (hk : 3000000 ≤ k) : laws_heldYard.f k h (markL l 1) 1 = some (1 + (l.flatten.length : Int)) := by
  simp only [laws_heldYard.f, heldSS_eq l hs k hk, Option.bind_some]
  rw [if_neg (by omega)]
/-- The first rows have their numbers. -/
def markTo (l : List (List Int)) (j : Nat) : List (List Int) := markL (l.take j) 1 ++ l.drop j
theorem markTo_len (l : List (List Int)) (j : Nat) : (markTo l j).length = l.length := by
  simp only [markTo, List.length_append, markL_len, List.length_take, List.length_drop]; omega
theorem markTo_get (l : List (List Int)) (j : Nat) (h : j < l.length) : (markTo l j).getD j [] = l[j] := by
  have : (markL (l.take j) 1).length = j := by rw [markL_len, List.length_take]; omega
  rw [markTo, List.getD_eq_getElem?_getD, List.getElem?_append_right (by omega), this, Nat.sub_self, List.getElem?_drop, Nat.add_zero, List.getElem?_eq_getElem h]; rfl
theorem markTo_succ (l : List (List Int)) (j : Nat) (h : j < l.length) : (markTo l j).set j (upTo (1 + ((l.take j).flatten.length : Int)) l[j].length) = markTo l (j + 1) := by
  have e : (markL (l.take j) 1).length = j := by rw [markL_len, List.length_take]; omega
  unfold markTo
  rw [List.take_succ_eq_append_getElem h, markL_snoc, List.set_append_right _ _ (by omega), e, Nat.sub_self, List.drop_eq_getElem_cons h]
  simp only [List.set_cons_zero, List.append_assoc, List.cons_append, List.nil_append]
theorem flat_succ (l : List (List Int)) (j : Nat) (h : j < l.length) : (l.take (j + 1)).flatten.length = (l.take j).flatten.length + l[j].length := by
  rw [List.take_succ_eq_append_getElem h, List.flatten_append, List.length_append]; simp
set_option maxRecDepth 100000 in
set_option maxHeartbeats 2000000 in
theorem markSS_any (P : Nat → Prop) (v : Value) (l : List (List Int)) (hs : Small l) (w0 w : World) (hB : Below w0.heap.size w0 w) (ho : Kd.S dR 35 w w0.heap.size P v l) :
    Calls Tryz.prog 30 #[v, .int .i64 1] w fun e w' => e = .returned (.int .i64 (1 + (l.flatten.length : Int))) ∧ Kd.S dR 35 w' w0.heap.size (fun k => P k ∨ w.heap.size ≤ k) v (markL l 1) ∧ Below w0.heap.size w0 w' ∧ Kept w w' P := by
  obtain ⟨hs1, hs2, hs3⟩ := hs
  have HB := Aside0.mk hB
  have HS3 := Aside0.mk hs3
  obtain ⟨n, hn⟩ : ∃ n, n = l.length := ⟨_, rfl⟩
  have HN := Aside0.mk hn
  have hn1 : n ≤ 1048576 := by omega
  obtain ⟨A, c, hv⟩ := Kd.S_slice ho
  rw [← hn] at hv
  subst hv
  have HO := Aside0.mk (show Kd.S dR 35 w w0.heap.size (fun k => P k ∨ w.heap.size ≤ k) (.slice A n c) (markTo l 0) by
    have := Kd.S_mono (ok' := fun k => P k ∨ w.heap.size ≤ k) ho (fun k hk => .inl hk)
    simpa [markTo, markL] using this)
  clear ho hB hs3 hn hs1
  go_enter Tryz.func30, Tryz.ntmps30
  go_wp2
  go_loopw [1, 5] (fun v1 v5 wz => ∃ j : Nat, j ≤ n ∧ v5 = .int .i64 (j : Int) ∧ v1 = .int .i64 (1 + ((l.take j).flatten.length : Int)) ∧ Aside0 (Kd.S dR 35 wz w0.heap.size (fun k => P k ∨ w.heap.size ≤ k) (.slice A n c) (markTo l j)) ∧ Aside0 (Below w0.heap.size w0 wz) ∧ Aside0 (Kept w wz P)) (fun _ v _ => n - (intOf v).toNat)
  case atStart => exact ⟨0, by omega, rfl, by simp, HO, HB, ⟨Kept.refl _ _⟩⟩
  case round =>
    obtain ⟨j, hj, rfl, rfl, ho, hb, hk⟩ := hrel
    obtain ⟨m, hm⟩ : ∃ m, m = (l.take j).flatten.length := ⟨_, rfl⟩
    have hm1 := flat_take_le l j
    rw [← hm] at hm1 ⊢
    by_cases hlt : j < n
    · have hjl : j < l.length := by rw [← HN.out]; exact hlt
      have c0 : decide ((j : Int) < (n : Int)) = true := decide_eq_true (by omega)
      have p1 : 0 ≤ (j : Int) := by omega
      have q1 : (j : Int) < (n : Int) := by omega
      obtain ⟨g, rfl⟩ : ∃ g, A = some ⟨g, 0, none⟩ := by
        have hl : (markTo l j).length = n := by rw [markTo_len, HN.out]
        obtain ⟨g, cap, he, _⟩ := Kd.S_form ho.out (by omega)
        injection he with he _ _
        exact ⟨g, he⟩
      obtain ⟨oki, ce, hcl, hM, hcc, hoki, hH⟩ := Kd.S_lend ho.out [] (j : Int) p1 q1
      rw [Int.toNat_natCast, markTo_get l j hjl] at hM
      obtain ⟨u, rfl, hR⟩ := hM
      have hx : wr.cell? ⟨g, j, none⟩ = some u := by
        have := hcc 0 u rfl
        rw [Int.toNat_natCast] at this
        simpa [dR, Kd.slice] using this
      have hx' : wr.cell? ((⟨g, 0, none⟩ : Addr).add j) = some u := by rw [add_plain]; exact hx
      obtain ⟨r, hr⟩ : ∃ r, r = l[j] := ⟨_, rfl⟩
      rw [← hr] at hR
      have hrl : r.length ≤ 1048576 := HS3.out r (by rw [hr]; exact List.getElem_mem hjl)
      have hfs := flat_succ l j hjl
      rw [← hr, ← hm] at hfs
      have hft := flat_take_le l (j + 1)
      have hmk := markTo_succ l j hjl
      rw [← hr, ← hm] at hmk
      have HR := Aside0.mk hR
      have HH := Aside0.mk hH
      have HOK := Aside0.mk hoki
      have HF := Aside0.mk hfs
      have HMK := Aside0.mk hmk
      have HW := Aside0.mk (show wrap64 ((j : Int) + 1) = ((j + 1 : Nat) : Int) by unfold wrap64; omega)
      have HME := Aside0.mk (mark_eq r hrl (1 + (m : Int)) (by omega) (by omega) 2000000 (by decide))
      have HJ := Aside0.mk hlt
      obtain ⟨Ar, cr, rfl⟩ := Kd.R_slice hR
      replace p1 := eq_true p1
      replace q1 := eq_true q1
      clear hfs hmk hR hH hoki hcl hcc hr hm hft
      go_wp2_with (go_at_call 53; refine (laws_markInt64S.calls 2000000 oki (.slice Ar r.length cr) r (1 + (m : Int)) (1 + (m : Int) + (r.length : Int)) (upTo (1 + (m : Int)) r.length) w0 _ hb.out HR.out HME.out).mono ?_; rintro e w1 ⟨rfl, hR1, hb1, hk1⟩; have HR1 := Aside0.mk hR1; have HB1 := Aside0.mk hb1; have HK1 := Aside0.mk hk1; clear hR1 hb1 hk1 hx hx')
      go_roundw
      case rel =>
        refine ⟨j + 1, by have := HJ.out; omega, by have h2 := HW.out; first | (congr 1; done) | (congr 1; omega), by have := HF.out; congr 1; omega, ⟨?_⟩, HB1, ⟨?_⟩⟩
        · rw [← HMK.out]
          have hH2 := Kd.H_widen HH.out
          have hH3 := Kd.H_kept (S := oki) hH2 HK1.out (fun k hk1 hn h3 => hn (.inl h3))
          have := Kd.H_back hH3 (x' := upTo (1 + (m : Int)) r.length) ⟨_, rfl, HR1.out⟩ (fun k hk' => hk'.elim .inl (fun h => .inr ⟨.inr (Nat.le_trans hk.out.1 h), h⟩))
          rw [Int.toNat_natCast] at this; exact this
        · exact (hk.out.then_ HK1.out (fun k hk1 => by
            rcases (HOK.out k hk1).1 with h | h
            · exact .inl h
            · exact .inr h))
      case measure => have := HJ.out; have h2 := HW.out; simp only [intOf]; omega
    · have c0 : decide ((j : Int) < (n : Int)) = false := decide_eq_false (by omega)
      obtain rfl : j = n := by omega
      have HM := Aside0.mk hm
      clear hlt hj hm
      go_wp2
      go_ret
      have e1 : l.take j = l := by rw [HN.out, List.take_length]
      have e2 : markTo l j = markL l 1 := by unfold markTo; rw [e1, HN.out, List.drop_length, List.append_nil]
      refine ⟨Ha.ret_int (by rw [HM.out, e1]), by rw [← e2]; exact ho.out, hb.out, hk.out⟩
/-- Marking a yard. -/
theorem markYard_any (h : Int) (P : Nat → Prop) (v : Value) (l : List (List Int)) (hs : Small l) (w0 w : World) (hB : Below w0.heap.size w0 w) (ho : Kd.S dR 35 w w0.heap.size P v l) :
    Calls Tryz.prog 8 #[.agg #[.int .i64 h, v], .int .i64 1] w fun e w' => e = .returned (.int .i64 (1 + (l.flatten.length : Int))) ∧ Kd.S dR 35 w' w0.heap.size (fun k => P k ∨ w.heap.size ≤ k) v (markL l 1) ∧ Below w0.heap.size w0 w' ∧ Kept w w' P := by
  obtain ⟨A, c, rfl⟩ := Kd.S_slice ho
  obtain ⟨n, hn⟩ : ∃ n, n = l.length := ⟨_, rfl⟩
  rw [← hn] at ho ⊢
  obtain ⟨q, hq⟩ : ∃ q, q = l.flatten.length := ⟨_, rfl⟩
  rw [← hq]
  have HQ := Aside0.mk hq
  have hu := Tryz.underlying24
  have HB := Aside0.mk hB
  have HO := Aside0.mk ho
  have HS := Aside0.mk hs
  clear hB ho hs hn hq
  go_enter Tryz.func8, Tryz.ntmps8
  go_wp2_with (go_at_call 30; refine (markSS_any P _ l HS.out w0 _ (HB.out.trans (below_alloc (Below.refl _ _) (.cells #[.int .i64 h, .slice A n c] 24) |>.mono HB.out.size)) (Kd.S_alloc HO.out _)).mono ?_; rintro e w1 ⟨he, h1, h2, h3⟩; rw [← HQ.out] at he; subst he; have H1 := Aside0.mk h1; have H2 := Aside0.mk h2; have H3 := Aside0.mk h3; clear h1 h2 h3)
  go_ret
  refine ⟨rfl, Kd.S_mono H1.out (fun k hk => hk.elim .inl (fun h => .inr (Nat.le_trans (by simp) h))), H2.out, (Kept.alloc (Kept.refl w P) _).then_ H3.out (fun k hk => .inl hk)⟩
end Go.Proofs.YtibaiaenfeppcaaGreatDoor.Lw

/- The law on ReadYard, walked where both sides hand back the same yard. -/
namespace Go.Proofs.YtibaiaenfeppcaaGreatDoor.RyW
open Go Go.RowKit Go.Proofs.YtibaiaenfeppcaaGreatDoorW.PrintWords Go.Proofs.YtibaiaenfeppcaaGreatDoorW.PrintLast Go.Proofs.YtibaiaenfeppcaaGreatDoorW.PrintMore Go.Proofs.YtibaiaenfeppcaaGreatDoor.Q Go.Proofs.YtibaiaenfeppcaaGreatDoor.PuY Go.Proofs.YtibaiaenfeppcaaGreatDoor.Lw
set_option linter.unusedVariables false
set_option linter.unusedSimpArgs false
/-- What was marked is held. -/
theorem heldYard_any (h : Int) {A : Option Addr} {c n : Nat} {W : World} (xs : List (List Int)) (hs : Small xs) (hn : n = xs.length) (hM : Kd.C dR W A (markL xs 1).length (markL xs 1)) (hc : n ≤ c) :
    Calls Tryz.prog 9 #[.agg #[.int .i64 h, .slice A n c], .int .i64 1] W fun e w' => e = .returned (.int .i64 (1 + (xs.flatten.length : Int))) ∧ Below W.heap.size W w' := by
  have := laws_heldYard.calls 4000000 h A c (markL xs 1) 1 _ W hM (by rw [markL_len]; omega) (heldYard_eq h xs hs 4000000 (by decide))
  rw [markL_len, ← hn] at this
  exact this
/-- What a reading of a yard hands back. -/
def Hands (f : FuncId) (a0 : ByteArray) (h : Int) (ys : List (List Int)) (res : Bool) (w : World) : Prop :=
  Calls Tryz.prog f #[.string a0] w fun e w' => ∃ v, e = .returned (.tuple #[.agg #[.int .i64 h, v], .bool res]) ∧ Kd.S dR 35 w' w.heap.size (fun _ => True) v ys ∧ Below w.heap.size w w'
set_option maxRecDepth 100000 in
set_option maxHeartbeats 2000000 in
theorem walk (a0 : ByteArray) (h : Int) (ys : List (List Int)) (res : Bool) (w : World) (hT : Tb.TC w) (h1 : Hands 5 a0 h ys res w) (h2 : ∀ W, Tb.TC W → Hands 6 a0 h ys res W) (hsm : Small ys) (hs : ¬ (a0.size : Int) > 1048576) :
    Calls Tryz.prog 3 #[.string a0] w fun e w' => e = .returned (.bool true) ∧ Below w.heap.size w w' := by
  have hu := Tryz.underlying24
  have HT := Aside0.mk hT
  have H1 := Aside0.mk h1
  have H2 := Aside0.mk h2
  have HSM := Aside0.mk hsm
  have H3 := Aside0.mk (eqYard_eq h ys hsm 4000000 (by decide))
  obtain ⟨q, hq⟩ : ∃ q, q = ys.flatten.length := ⟨_, rfl⟩
  have HQ := Aside0.mk hq
  have hb0 : (res != res) = false := bne_self_eq_false res
  have c2b0 : decide (1048576 < (a0.size : Int)) = false := decide_eq_false hs
  have c2b1 : decide (1048576 < a0.size) = false := decide_eq_false (by omega)
  have c4 : decide (1 + (q : Int) < 0) = false := decide_eq_false (by omega)
  have c5 : ((1 + (q : Int)) != (1 + (q : Int))) = false := bne_self_eq_false _
  clear hs hT h1 h2 hsm hq
  have F1 : True := trivial
  have F2 : True := trivial
  have F3 : True := trivial
  go_enter Tryz.func3, Tryz.ntmps3
  go_wp2_with (first
    | (go_at_call 5; refine (H1.out).mono ?_; rintro e w1 ⟨v, rfl, hR, hb⟩; obtain ⟨A, cA, rfl, hcA, hC⟩ := Kd.S_reads (d := dR) hR; have HC := Aside0.mk hC; have HcA := Aside0.mk hcA; have HB := Aside0.mk hb; clear hb hR hC hcA)
    | (go_at_call 6; clear F1; refine (H2.out _ (Tb.TC.below HT.out (below_alloc HB.out (.cells #[.int .i64 h, .slice A ys.length cA] 24)))).mono ?_; rintro e w2 ⟨v, rfl, hR, hb⟩; have HR5 := Aside0.mk (Kd.S_alloc (Kd.S_elderB hR w2.heap.size (Nat.le_refl _)) (.cells #[.int .i64 h, v] 24)); obtain ⟨B, cB, rfl, hcB, hCB⟩ := Kd.S_reads (d := dR) hR; have HCB := Aside0.mk hCB; have HcB := Aside0.mk hcB; have HB1 := Aside0.mk hb; have b3 := blk_below (blk_new w1 (.cells #[.int .i64 h, .slice A ys.length cA] 24)) hb; have B3 := Aside0.mk b3; have hl3 : w1.heap.size < w2.heap.size := blk_lt b3; have hc30 : w2.cell? ⟨w1.heap.size, 0, none⟩ = some (.int .i64 h) := (blk_cell b3 0).trans rfl; have hc31 : w2.cell? ⟨w1.heap.size, 1, none⟩ = some (.slice A ys.length cA) := (blk_cell b3 1).trans rfl; clear hb hR hCB hcB b3)
    | (go_at_call 7; clear F2; refine (laws_eqYard.calls 4000000 h B cB ys h A cA ys true _ (Kd.C_below HCB.out (below_alloc (Below.refl _ _) (.cells #[.int .i64 h, .slice B ys.length cB] 24))) HcB.out (Kd.C_below HC.out (below_alloc (below_step (below_alloc (Below.refl _ _) (.cells #[.int .i64 h, .slice A ys.length cA] 24)) HB1.out) (.cells #[.int .i64 h, .slice B ys.length cB] 24))) HcA.out H3.out).mono ?_; rintro e w3 ⟨rfl, hb⟩; have HR3 := Aside0.mk (Kd.S_below HR5.out hb); have HB3 := Aside0.mk (below_step (below_alloc HB1.out (.cells #[.int .i64 h, .slice B ys.length cB] 24)) hb); have b5 := blk_below (blk_new w2 (.cells #[.int .i64 h, .slice B ys.length cB] 24)) hb; have B5 := Aside0.mk b5; have hc50 : w3.cell? ⟨w2.heap.size, 0, none⟩ = some (.int .i64 h) := (blk_cell b5 0).trans rfl; have hc51 : w3.cell? ⟨w2.heap.size, 1, none⟩ = some (.slice B ys.length cB) := (blk_cell b5 1).trans rfl; clear hb b5 hc30 hc31 hl3)
    | (go_at_call 8; refine (markYard_any h _ _ ys HSM.out (w1.alloc (.cells #[.int .i64 h, .slice A ys.length cA] 24)) _ HB3.out HR3.out).mono ?_; rintro e w4 ⟨he, hR4, hb, hk⟩; rw [← HQ.out] at he; subst he; obtain ⟨B', cB', eB, hcB', hCM⟩ := Kd.S_reads (d := dR) hR4; obtain ⟨rfl, rfl⟩ : B = B' ∧ cB = cB' := by injection eB with x1 x2 x3; exact ⟨x1, x3⟩
       rw [markL_len] at hcB'; have HCM := Aside0.mk hCM; have HcM := Aside0.mk hcB'; have HB4 := Aside0.mk hb; clear hc50 hc51; have b5 := blk_kept B5.out hk (fun h => h.2 rfl); have B54 := Aside0.mk b5; have hc50 : w4.cell? ⟨w2.heap.size, 0, none⟩ = some (.int .i64 h) := (blk_cell b5 0).trans rfl; have hc51 : w4.cell? ⟨w2.heap.size, 1, none⟩ = some (.slice B ys.length cB) := (blk_cell b5 1).trans rfl; clear hb hk hR4 eB hcB' hCM b5)
    | (go_at_call 9; clear F3; refine (heldYard_any h ys HSM.out rfl HCM.out HcM.out).mono ?_; rintro e w5 ⟨he, hb⟩; rw [← HQ.out] at he; subst he; have HB5 := Aside0.mk (below_step HB4.out hb); have HCM5 := Aside0.mk (Kd.C_below HCM.out hb); have B55 := Aside0.mk (blk_below B54.out hb); clear hb hc50 hc51)
    | (go_at_call 6; refine (H2.out _ (Tb.TC.below HT.out (below_step (below_alloc HB.out (.cells #[.int .i64 h, .slice A ys.length cA] 24)) HB5.out))).mono ?_; rintro e w6 ⟨v, rfl, hR, hb⟩; obtain ⟨D, cD, rfl, hcD, hCD⟩ := Kd.S_reads (d := dR) hR
       have HCD := Aside0.mk hCD; have HcD := Aside0.mk hcD; have HB6 := Aside0.mk (below_step HB5.out hb); have HCM6 := Aside0.mk (Kd.C_below HCM5.out hb); have B56 := Aside0.mk (blk_below B55.out hb); have b3 := blk_below (blk_new w1 (.cells #[.int .i64 h, .slice A ys.length cA] 24)) (below_step HB5.out hb); have hl3 : w1.heap.size < w6.heap.size := blk_lt b3; have hc30 : w6.cell? ⟨w1.heap.size, 0, none⟩ = some (.int .i64 h) := (blk_cell b3 0).trans rfl; have hc31 : w6.cell? ⟨w1.heap.size, 1, none⟩ = some (.slice A ys.length cA) := (blk_cell b3 1).trans rfl; clear hb hR hCD hcD b3)
    | (go_at_call 7; refine (laws_eqYard.calls 4000000 h D cD ys h A cA ys true _ (Kd.C_below HCD.out (below_alloc (Below.refl _ _) (.cells #[.int .i64 h, .slice D ys.length cD] 24))) HcD.out (Kd.C_below HC.out (below_alloc (below_step (below_alloc (Below.refl _ _) (.cells #[.int .i64 h, .slice A ys.length cA] 24)) HB6.out) (.cells #[.int .i64 h, .slice D ys.length cD] 24))) HcA.out H3.out).mono ?_; rintro e w7 ⟨rfl, hb⟩; have HB7 := Aside0.mk (below_step (below_alloc HB6.out (.cells #[.int .i64 h, .slice D ys.length cD] 24)) hb); have HCM7 := Aside0.mk (Kd.C_below HCM6.out (below_step (below_alloc (Below.refl _ _) (.cells #[.int .i64 h, .slice D ys.length cD] 24)) hb)); have b5 := blk_below B56.out (below_step (below_alloc (Below.refl _ _) (.cells #[.int .i64 h, .slice D ys.length cD] 24)) hb); have hc50 : w7.cell? ⟨w2.heap.size, 0, none⟩ = some (.int .i64 h) := (blk_cell b5 0).trans rfl; have hc51 : w7.cell? ⟨w2.heap.size, 1, none⟩ = some (.slice B ys.length cB) := (blk_cell b5 1).trans rfl; clear hb b5)
    | (go_at_call 9; refine (heldYard_any h ys HSM.out rfl HCM7.out HcM.out).mono ?_; rintro e w8 ⟨he, hb⟩; rw [← HQ.out] at he; subst he; have HB8 := Aside0.mk (below_step HB7.out hb); clear hb))
  go_ret
  exact ⟨rfl, below_step (below_alloc HB.out (.cells #[.int .i64 h, .slice A ys.length cA] 24)) HB8.out⟩
set_option maxRecDepth 100000 in
theorem calls_big (a0 : ByteArray) (hs : (a0.size : Int) > 1048576) (w : World) : Calls Tryz.prog 3 #[.string a0] w fun e w' => e = .returned (.bool true) ∧ Below w.heap.size w w' := by
  have c2b0 : decide (1048576 < (a0.size : Int)) = true := decide_eq_true hs
  have c2b1 : decide (1048576 < a0.size) = true := decide_eq_true (by omega)
  clear hs
  go_enter Tryz.func3, Tryz.ntmps3
  go_wp2
  go_ret
  exact ⟨rfl, Below.refl _ _⟩
end Go.Proofs.YtibaiaenfeppcaaGreatDoor.RyW

-- made by a patched copy of print.sh: this session's own
namespace Go.Proofs.YtibaiaenfeppcaaGreatDoor.Q
open Go.RowKit Go.Proofs.YtibaiaenfeppcaaGreatDoorW.PrintWords Go.Proofs.YtibaiaenfeppcaaGreatDoorW.PrintLast Go.Proofs.YtibaiaenfeppcaaGreatDoorW.PrintMore
attribute [local go_sem] max2_int min2_int max_two min_two max_three min_three max_four min_four   -- for this text's walks alone
set_option linter.unusedVariables false
set_option linter.unusedSimpArgs false

/-! ### strings_Cut: function 24 -/
def strings_Cut.f (a0 : ByteArray) (a1 : ByteArray) : Option (ByteArray × ByteArray × Bool) := match a1.data.toList with
  | [c] => if a0.size < 4294967281 then some (Sp.tx (Sp.cut1 c a0.data.toList).1, Sp.tx (Sp.cut1 c a0.data.toList).2.1, (Sp.cut1 c a0.data.toList).2.2) else none
  | _ => none
theorem strings_Cut.calls (a0 : ByteArray) (a1 : ByteArray) (r1 : ByteArray) (r2 : ByteArray) (r3 : Bool) (w : World) (hT : Tb.TB w) (h : strings_Cut.f a0 a1 = some (r1, r2, r3)) :
    Calls Tryz.prog 24 #[.string a0, .string a1] w fun e w' => e = .returned (.tuple #[.string r1, .string r2, .bool r3]) ∧ Below w.heap.size w w' := by
  unfold strings_Cut.f at h
  split at h
  · rename_i c hc
    split at h
    · rename_i hs
      have h2 := Option.some.inj h
      obtain rfl : a1 = Sp.tx [c] := by
        apply ByteArray.ext
        rw [← Array.toList_inj, hc]; rfl
      cases h2
      exact Sp.cut_any a0 c w hT hs
    · cases h
  · cases h

end Go.Proofs.YtibaiaenfeppcaaGreatDoor.Q

/- readIn: the number in a range whose decimal is a text. -/
namespace Go.Proofs.YtibaiaenfeppcaaGreatDoor.Ri
open Go.RowKit Go.Proofs.YtibaiaenfeppcaaGreatDoorW.PrintWords Go.Proofs.YtibaiaenfeppcaaGreatDoorW.PrintLast Go.Proofs.YtibaiaenfeppcaaGreatDoorW.PrintMore Go.Proofs.YtibaiaenfeppcaaGreatDoor.Ha Go.Proofs.YtibaiaenfeppcaaGreatDoor.Sp

theorem parse_ok (s : ByteArray) (hs : s.size ≤ 281474976710656) (v : Int) (h : Lib.parseIntB 64 s.data.toList = .ok v) (w : World) :
    Calls Tryz.prog 63 #[.string s, .int .i64 10, .int .i64 64] w fun e w' => e = .returned (.tuple #[.int .i64 v, .nilIface]) ∧ Below w.heap.size w w' := by
  refine (Any.strconv_ParseInt_10_at64_ok Tryz.laysC174 s (by omega) v h w).mono ?_
  rintro e w' ⟨rfl, rfl | ⟨t, rfl⟩⟩
  · exact ⟨rfl, Below.refl _ _⟩
  · exact ⟨rfl, Lib.bytesWorld_below _ _ _⟩
theorem parse_no (s : ByteArray) (hs : s.size ≤ 281474976710656) (h : ∀ v, Lib.parseIntB 64 s.data.toList ≠ .ok v) (w : World) (hT : Tb.TC w) :
    Calls Tryz.prog 63 #[.string s, .int .i64 10, .int .i64 64] w fun e w' => (∃ n a, e = .returned (.tuple #[.int .i64 n, .iface 139 (.pointer (some a))])) ∧ Below w.heap.size w w' := by
  obtain ⟨_, ⟨t1, p1, h1⟩, t2, p2, h2⟩ := hT
  cases hp : Lib.parseIntB 64 s.data.toList with
  | ok v => exact absurd hp (h v)
  | _ =>
    first
    | exact (Any.strconv_ParseInt_10_at64_range_var Tryz.laysC174 s hs hp t2 p2 w h2).mono fun e w' ⟨N, he, _, _, hb⟩ => ⟨⟨_, _, he⟩, hb⟩
    | exact (Any.strconv_ParseInt_10_at64_syntax_var Tryz.laysC174 s hs hp t1 p1 w h1).mono fun e w' ⟨N, he, _, _, hb⟩ => ⟨⟨_, _, he⟩, hb⟩

def readR (l : List UInt8) (lo hi : Int) : Ending := .returned (.tuple #[.int .i64 (readL l lo hi).1, .bool (readL l lo hi).2])
section
variable {s : ByteArray} {lo hi v : Int}
theorem r_yes (hp : Hid (Lib.parseIntB 64 s.data.toList = .ok v)) (h1 : Lib.itoa v = s.toList) (h2 : (!inB lo hi v) = false) : Ending.returned (.tuple #[.int .i64 v, .bool true]) = readR s.data.toList lo hi := by
  rw [ByteArray.toList_eq] at h1
  have hb : lo ≤ v ∧ v ≤ hi := by simpa [inB] using h2
  simp [readR, readL, hp.out, h1, hb]
theorem r_no2 (hp : Hid (Lib.parseIntB 64 s.data.toList = .ok v)) (h2 : (!inB lo hi v) = true) : Ending.returned (.tuple #[.int .i64 0, .bool false]) = readR s.data.toList lo hi := by
  have hb : ¬ (lo ≤ v ∧ v ≤ hi) := by have h3 := h2; simp [inB] at h3; omega
  simp [readR, readL, hp.out, hb]
theorem r_no1 (hp : Hid (Lib.parseIntB 64 s.data.toList = .ok v)) (h1 : ¬ Lib.itoa v = s.toList) : Ending.returned (.tuple #[.int .i64 0, .bool false]) = readR s.data.toList lo hi := by
  rw [ByteArray.toList_eq] at h1
  simp [readR, readL, hp.out, h1]
end
theorem readIn_no (s : ByteArray) (lo hi : Int) (hs : s.size ≤ 281474976710656) (h : ∀ v, Lib.parseIntB 64 s.data.toList ≠ .ok v) (w : World) (hT : Tb.TC w) :
    Calls Tryz.prog 44 #[.string s, .int .i64 lo, .int .i64 hi] w fun e w' => e = readR s.data.toList lo hi ∧ Below w.heap.size w w' := by
  have HE := Lib.hid (show Ending.returned (.tuple #[.int .i64 0, .bool false]) = readR s.data.toList lo hi by unfold readR readL; cases hp : Lib.parseIntB 64 s.data.toList with | ok v => exact absurd hp (h v) | _ => rfl)
  go_enter Tryz.func44, Tryz.ntmps44
  go_wp2_with (go_at_call 63; refine (parse_no _ hs h _ hT).mono ?_; rintro e w1 ⟨⟨n, a, rfl⟩, hb1⟩)
  go_ret2
  exact ⟨HE.out, hb1⟩

theorem readIn_ok (s : ByteArray) (lo hi : Int) (hs : s.size ≤ 281474976710656) (v : Int) (h : Lib.parseIntB 64 s.data.toList = .ok v) (w : World) (hT : Tb.TB w) :
    Calls Tryz.prog 44 #[.string s, .int .i64 lo, .int .i64 hi] w fun e w' => e = readR s.data.toList lo hi ∧ Below w.heap.size w w' := by
  have hv := Lib.parseIntB_bounds h
  have hv1 : -9223372036854775808 ≤ v := by have := hv.1; simpa using this
  have hv2 : v ≤ 9223372036854775807 := by have := hv.2; simp at this; omega
  have HT := Aside0.mk hT
  have HP := Lib.hid h
  clear hv h hT
  go_enter Tryz.func44, Tryz.ntmps44
  go_wp2_with (first
    | (go_at_call 63; refine (parse_ok _ hs v HP.out _).mono ?_; rintro e w1 ⟨rfl, hb1⟩)
    | (go_at_call 57; refine (Tb.decimal_any _ hv1 hv2 _ (Tb.TB.below HT.out hb1)).mono ?_; rintro e w2 ⟨rfl, hb2⟩)
    | (go_at_call 47; refine (within_any _ _ _ _).mono ?_; rintro e w' ⟨rfl, rfl⟩))
  all_goals go_ret2
  all_goals exact ⟨by first | exact r_yes HP ‹_› ‹_› | exact r_no1 HP ‹_› | exact r_no2 HP ‹_›, by first | exact below_step hb1 hb2 | exact hb1⟩

theorem readIn_any (s : ByteArray) (lo hi : Int) (hs : s.size ≤ 281474976710656) (w : World) (hT : Tb.TC w) :
    Calls Tryz.prog 44 #[.string s, .int .i64 lo, .int .i64 hi] w fun e w' => e = readR s.data.toList lo hi ∧ Below w.heap.size w w' := by
  by_cases h : ∃ v, Lib.parseIntB 64 s.data.toList = .ok v
  · obtain ⟨v, h⟩ := h
    exact readIn_ok s lo hi hs v h w hT.tb
  · exact readIn_no s lo hi hs (fun v hv => h ⟨v, hv⟩) w hT
end Go.Proofs.YtibaiaenfeppcaaGreatDoor.Ri

-- made by a patched copy of print.sh: this session's own
namespace Go.Proofs.YtibaiaenfeppcaaGreatDoor.Q
open Go.RowKit Go.Proofs.YtibaiaenfeppcaaGreatDoorW.PrintWords Go.Proofs.YtibaiaenfeppcaaGreatDoorW.PrintLast Go.Proofs.YtibaiaenfeppcaaGreatDoorW.PrintMore
attribute [local go_sem] max2_int min2_int max_two min_two max_three min_three max_four min_four   -- for this text's walks alone
set_option linter.unusedVariables false
set_option linter.unusedSimpArgs false

/-! ### impl_readIn: function 44 -/
def impl_readIn.f (a0 : ByteArray) (a1 : Int) (a2 : Int) : Option (Int × Bool) := if a0.size ≤ 281474976710656 then some (Sp.readL a0.data.toList a1 a2) else none
theorem impl_readIn.calls (a0 : ByteArray) (a1 : Int) (a2 : Int) (r1 : Int) (r2 : Bool) (w : World) (hT : Tb.TC w) (h : impl_readIn.f a0 a1 a2 = some (r1, r2)) :
    Calls Tryz.prog 44 #[.string a0, .int .i64 a1, .int .i64 a2] w fun e w' => e = .returned (.tuple #[.int .i64 r1, .bool r2]) ∧ Below w.heap.size w w' := by
  unfold impl_readIn.f at h
  split at h
  · rename_i hs
    have h2 := Option.some.inj h
    have := Ri.readIn_any a0 a1 a2 hs w hT
    unfold Ri.readR at this
    rw [h2] at this
    exact this
  · cases h

end Go.Proofs.YtibaiaenfeppcaaGreatDoor.Q

-- made by a patched copy of print.sh: this session's own
namespace Go.Proofs.YtibaiaenfeppcaaGreatDoor.Q
open Go.RowKit Go.Proofs.YtibaiaenfeppcaaGreatDoorW.PrintWords Go.Proofs.YtibaiaenfeppcaaGreatDoorW.PrintLast Go.Proofs.YtibaiaenfeppcaaGreatDoorW.PrintMore
attribute [local go_sem] max2_int min2_int max_two min_two max_three min_three max_four min_four   -- for this text's walks alone
set_option linter.unusedVariables false
set_option linter.unusedSimpArgs false

/-! ### impl_ReadDecimal: function 25 -/
def impl_ReadDecimal.f (a0 : ByteArray) : Option (Int × Bool) := (impl_readIn.f a0 (-1000000000) 1000000000).bind fun bt194 => (some (bt194.1, bt194.2))
set_option maxHeartbeats 8000000 in
set_option maxRecDepth 100000 in
theorem impl_ReadDecimal.calls (a0 : ByteArray) (r1 : Int) (r2 : Bool) (w : World) (hT : Tb.TC w) (h : impl_ReadDecimal.f a0 = some (r1, r2)) :
    Calls Tryz.prog 25 #[.string a0] w fun e w' => e = .returned (.tuple #[.int .i64 r1, .bool r2]) ∧ Below w.heap.size w w' := by
  have HT := Aside0.mk hT
  clear hT
  have HB := Aside0.mk (Below.refl w.heap.size w)
  have H : ((impl_readIn.f a0 (-1000000000) 1000000000).bind fun bt194 => (some (bt194.1, bt194.2))) = some (r1, r2) := h
  clear h
  replace H := Option.bind_eq_some_iff.mp H
  obtain ⟨⟨t194, t195⟩, A20, H⟩ := H
  replace H : (some (t194, t195)) = some (r1, r2) := H
  have A2 := Aside0.mk A20
  clear A20
  simp only [Option.some.injEq, Prod.mk.injEq] at H
  obtain ⟨rfl, rfl⟩ := H
  go_enter Tryz.func25, Tryz.ntmps25
  go_wp2_with (first | ((with_reducible refine gate_callee (f := 44) rfl ?_); refine goesL_ (some 5) rfl rfl Tryz.func44 (by kernel_rfl) rfl #[.string a0, .int .i64 (-1000000000), .int .i64 1000000000] rfl (by (try simp only [List.map_toArray, List.map_cons, List.map_nil]); first | done | rfl | (simp only [List.length_drop, List.length_take]; rfl)) ?_; (with_reducible refine (impl_readIn.calls a0 (-1000000000) 1000000000 t194 t195 _ ?side1 A2.out).mono ?_); (case side1 => first | exact HT.out | exact Tb.TC.below HT.out (by repeat (first | (with_reducible first | exact HB.out | apply below_alloc | apply pw_below_drewN | apply below_drew1) | exact HB.out))); rintro e w3 ⟨rfl, hb⟩; refine ⟨_, rfl, ?_⟩; have n0_ := Aside0.mk (below_step (by repeat (first | (with_reducible first | exact HB.out | apply below_alloc | apply pw_below_drewN | apply below_drew1) | exact HB.out)) hb); clear HB; have HB := n0_; clear n0_; (try clear hb); (try clear hb2); (try clear hk); (try clear hi)))
  go_ret2
  exact ⟨by first | rfl | (simp [errW_none, errW_some] <;> rfl) | (simp [*, errW_none, errW_some] <;> rfl), by repeat (first | (with_reducible first | exact HB.out | apply below_alloc | apply pw_below_drewN | apply below_drew1) | exact HB.out)⟩

end Go.Proofs.YtibaiaenfeppcaaGreatDoor.Q

-- made by a patched copy of print.sh: this session's own
namespace Go.Proofs.YtibaiaenfeppcaaGreatDoor.Q
open Go.RowKit Go.Proofs.YtibaiaenfeppcaaGreatDoorW.PrintWords Go.Proofs.YtibaiaenfeppcaaGreatDoorW.PrintLast Go.Proofs.YtibaiaenfeppcaaGreatDoorW.PrintMore
attribute [local go_sem] max2_int min2_int max_two min_two max_three min_three max_four min_four   -- for this text's walks alone
set_option linter.unusedVariables false
set_option linter.unusedSimpArgs false

/-! ### strings_Split: function 26 -/
def strings_Split.f (a0 : ByteArray) (a1 : ByteArray) : Option (List (ByteArray)) := match a1.data.toList with
  | [c] => if a0.size < 4294967281 then some ((Sp.split1 c a0.data.toList).map Sp.tx) else none
  | _ => none
theorem strings_Split.calls (a0 : ByteArray) (a1 : ByteArray) (r : List (ByteArray)) (w : World) (hT : Tb.TB w) (h : strings_Split.f a0 a1 = some r) :
    Calls Tryz.prog 26 #[.string a0, .string a1] w fun e w' => ∃ v0_ : Value, e = .returned (v0_) ∧ Kd.R Kd.string 9 w' w.heap.size (fun _ => True) v0_ r ∧ Below w.heap.size w w' := by
  unfold strings_Split.f at h
  split at h
  · rename_i c hc
    split at h
    · rename_i hs
      obtain rfl := Option.some.inj h
      obtain rfl : a1 = Sp.tx [c] := by
        apply ByteArray.ext
        rw [← Array.toList_inj, hc]; rfl
      exact Sp.split_any a0 c w hT hs
    · cases h
  · cases h

end Go.Proofs.YtibaiaenfeppcaaGreatDoor.Q

-- made by a patched copy of print.sh: this session's own
namespace Go.Proofs.YtibaiaenfeppcaaGreatDoor.Q
open Go.RowKit Go.Proofs.YtibaiaenfeppcaaGreatDoorW.PrintWords Go.Proofs.YtibaiaenfeppcaaGreatDoorW.PrintLast Go.Proofs.YtibaiaenfeppcaaGreatDoorW.PrintMore
attribute [local go_sem] max2_int min2_int max_two min_two max_three min_three max_four min_four   -- for this text's walks alone
set_option linter.unusedVariables false
set_option linter.unusedSimpArgs false

/-! ### impl_readAll: function 46 -/
def impl_readAll.l0 : Nat → Int → Int → List Int → List ByteArray → Int → Int → Option (List Int × Bool)
  | 0, _, _, _, _, _, _ => none
  | k + 1, x2, x3, x10, x18, x19, x20 => if x20 < x19 then (if 0 ≤ x20 then (if x20 < (x18.length : Int) then ((impl_readIn.f (rdOf ByteArray.empty x18 x20) x2 x3).bind fun bt203 => (if bt203.2 = true then (if x10.length < 17592186044416 then (impl_readAll.l0 k x2 x3 (x10 ++ [bt203.1]) x18 x19 (wrap64 (x20 + 1))) else (none)) else (some (([] : List Int), false)))) else (none)) else (none)) else (some (x10, true))
def impl_readAll.f (k : Nat) (a0 : ByteArray) (a1 : ByteArray) (a2 : Int) (a3 : Int) : Option (List Int × Bool) := (strings_Split.f a0 a1).bind fun t199 => (impl_readAll.l0 k a2 a3 (([] : List Int)) t199 (t199.length : Int) 0)
set_option maxHeartbeats 8000000 in
set_option maxRecDepth 100000 in
theorem impl_readAll.calls (k : Nat) (a0 : ByteArray) (a1 : ByteArray) (a2 : Int) (a3 : Int) (r1 : List Int) (r2 : Bool) (w : World) (hT : Tb.TC w) (h : impl_readAll.f k a0 a1 a2 a3 = some (r1, r2)) :
    Calls Tryz.prog 46 #[.string a0, .string a1, .int .i64 a2, .int .i64 a3] w fun e w' => ∃ v0_ : Value, e = .returned (.tuple #[v0_, .bool r2]) ∧ Kd.R (Kd.int .i64) 2 w' w.heap.size (fun _ => True) v0_ r1 ∧ Below w.heap.size w w' := by
  have HT := Aside0.mk hT
  clear hT
  have HB := Aside0.mk (Below.refl w.heap.size w)
  have H : ((strings_Split.f a0 a1).bind fun t199 => (impl_readAll.l0 k a2 a3 (([] : List Int)) t199 (t199.length : Int) 0)) = some (r1, r2) := h
  clear h
  obtain ⟨y196, hy196⟩ : ∃ y_ : List Int, y_ = (([] : List Int)) := ⟨_, rfl⟩
  replace H : ((strings_Split.f a0 a1).bind fun t199 => (impl_readAll.l0 k a2 a3 y196 t199 (t199.length : Int) 0)) = some (r1, r2) := by first | (rw [hy196]; with_reducible exact H) | (have H2_ := (Option.bind_some _ _).symm.trans H; rw [hy196]; with_reducible exact H2_) | (have H2_ := (Option.bind_some _ _).symm.trans H; with_reducible exact H2_) | with_reducible exact H | (rw [hy196]; exact H) | exact H
  have Ny196 := Aside0.mk hy196
  clear hy196
  replace H := Option.bind_eq_some_iff.mp H
  obtain ⟨t199, A50, H⟩ := H
  replace H : (impl_readAll.l0 k a2 a3 y196 t199 (t199.length : Int) 0) = some (r1, r2) := H
  have A5 := Aside0.mk A50
  clear A50
  have H' := Aside0.mk H
  clear H
  go_enter Tryz.func46, Tryz.ntmps46
  go_wp2_with (first | ((with_reducible refine gate_dst (N := 15) rfl ?_); refine Kd.R_lit (Kd.int .i64) _ 2 ?hg (N := 15) ?hd (xs := ([] : List Int)) (inner := []) (ok := fun _ => True) (okp := fun _ => True) ?hr ?hp (fun _ hk => hk) trivial (Below.refl _ _) (Nat.le_refl _) (by simp) ?_; (case hd => rfl); (case hg => rfl); (case hr => first | (go_simp; done) | (go_simp; rfl)); (case hp => exact (Reps.none _ _)); intro v197 w6 ho7 hb hg_ hnew_; clear hg_ hnew_; (first | rw [← Ny196.out] at ho7 | (simp only [Int.reduceToNat] at ho7; rw [← Ny196.out] at ho7)); have n0_ := Aside0.mk (Kd.R_lower ho7 (below_size (by repeat (first | (with_reducible first | exact HB.out | apply below_alloc | apply pw_below_drewN | apply below_drew1) | exact HB.out)))); have n1_ := Aside0.mk (below_step (by repeat (first | (with_reducible first | exact HB.out | apply below_alloc | apply pw_below_drewN | apply below_drew1) | exact HB.out)) hb); clear HB; have HO198 := n0_; have HB := n1_; clear n0_ n1_; clear hb ho7) | ((with_reducible refine gate_callee (f := 26) rfl ?_); refine goesL_ (some 18) rfl rfl Tryz.func26 (by kernel_rfl) rfl #[.string a0, .string a1] rfl (by (try simp only [List.map_toArray, List.map_cons, List.map_nil]); first | done | rfl | (simp only [List.length_drop, List.length_take]; rfl)) ?_; (with_reducible refine (strings_Split.calls a0 a1 t199 _ ?side1 A5.out).mono ?_); (case side1 => first | exact Tb.TC.tb (HT.out) | exact Tb.TC.tb (Tb.TC.below HT.out (by repeat (first | (with_reducible first | exact HB.out | apply below_alloc | apply pw_below_drewN | apply below_drew1) | exact HB.out)))); rintro e w8 ⟨v200, rfl, ho0, hb⟩; refine ⟨_, rfl, ?_⟩; have n0_ := Aside0.mk (Kd.R_below (by (with_reducible repeat (first | apply Kd.R_alloc | apply Kd.R_drewN | apply Kd.R_drew)); exact HO198.out) hb); have n1_ := Aside0.mk (Kd.R_lower ho0 (below_size (by repeat (first | (with_reducible first | exact HB.out | apply below_alloc | apply pw_below_drewN | apply below_drew1) | exact HB.out)))); have n2_ := Aside0.mk (below_step (by repeat (first | (with_reducible first | exact HB.out | apply below_alloc | apply pw_below_drewN | apply below_drew1) | exact HB.out)) hb); clear HO198; clear HB; have HO198 := n0_; have HO201 := n1_; have HB := n2_; clear n0_ n1_ n2_; (try clear hb); (try clear hb2); (try clear hk); (try clear hi); (try clear ho0); obtain ⟨Ao9, co9, eo9⟩ := Kd.R_slice HO201.out; subst eo9))
  go_loopg [10, 20] k (fun kq v10 v20 w' => ∃ (x10_1 : List Int) (x20_1 : Int), v20 = .int .i64 x20_1 ∧ Aside0 (impl_readAll.l0 kq a2 a3 x10_1 t199 (t199.length : Int) x20_1 = some (r1, r2)) ∧ Aside0 (kq ≤ k) ∧ Aside0 (Kd.R (Kd.int .i64) 2 w' w.heap.size (fun _ => True) v10 x10_1) ∧ Aside0 (Kd.R Kd.string 9 w' w.heap.size (fun _ => True) (.slice Ao9 t199.length co9) t199) ∧ Aside0 (Below w.heap.size w w'))
  case atStart => exact ⟨(y196), (0), (by first | rfl | (simp; done) | (simp [*]; done)), H', ⟨Nat.le_refl _⟩, ⟨by (with_reducible repeat (first | apply Kd.R_alloc | apply Kd.R_drewN | apply Kd.R_drew)); exact HO198.out⟩, ⟨by (with_reducible repeat (first | apply Kd.R_alloc | apply Kd.R_drewN | apply Kd.R_drew)); exact HO201.out⟩, ⟨by repeat (first | (with_reducible first | exact HB.out | apply below_alloc | apply pw_below_drewN | apply below_drew1) | exact HB.out)⟩⟩
  case round =>
    clear H'
    try clear c2
    try clear p2
    try clear c4
    obtain ⟨x10_1, x20_1, rfl, HA, HK1, HO_10, HO_18, HB⟩ := hrel
    cases gk with
    | zero => exact absurd HA.out (by simp [impl_readAll.l0])
    | succ k1 =>
      have H := HA.out
      clear HA
      simp only [impl_readAll.l0] at H
      by_cases c10 : x20_1 < (t199.length : Int)
      · rw [if_pos c10] at H
        have c10b0 : decide (x20_1 < (t199.length : Int)) = true := decide_eq_true c10
        clear c10
        by_cases c11 : 0 ≤ x20_1
        · rw [if_pos c11] at H
          have c11b0 : decide (0 ≤ x20_1) = true := decide_eq_true c11
          clear c11
          by_cases c12 : x20_1 < (t199.length : Int)
          · rw [if_pos c12] at H
            have c12b0 : decide (x20_1 < (t199.length : Int)) = true := decide_eq_true c12
            clear c12
            replace H := Option.bind_eq_some_iff.mp H
            obtain ⟨⟨t203, t204⟩, A130, H⟩ := H
            replace H : (if t204 = true then (if x10_1.length < 17592186044416 then (impl_readAll.l0 k1 a2 a3 (x10_1 ++ [t203]) t199 (t199.length : Int) (wrap64 (x20_1 + 1))) else (none)) else (some (([] : List Int), false))) = some (r1, r2) := H
            have A13 := Aside0.mk A130
            clear A130
            by_cases c14 : t204 = true
            · subst c14
              have H1 : (if x10_1.length < 17592186044416 then (impl_readAll.l0 k1 a2 a3 (x10_1 ++ [t203]) t199 (t199.length : Int) (wrap64 (x20_1 + 1))) else (none)) = some (r1, r2) := by rw [if_pos rfl] at H; exact H
              clear H
              have H := H1
              clear H1
              by_cases c15 : x10_1.length < 17592186044416
              · rw [if_pos c15] at H
                have LMc15 := Aside0.mk c15
                clear c15
                obtain ⟨y205, hy205⟩ : ∃ y_ : List Int, y_ = (x10_1 ++ [t203]) := ⟨_, rfl⟩
                replace H : (impl_readAll.l0 k1 a2 a3 y205 t199 (t199.length : Int) (wrap64 (x20_1 + 1))) = some (r1, r2) := by first | (rw [hy205]; with_reducible exact H) | (have H2_ := (Option.bind_some _ _).symm.trans H; rw [hy205]; with_reducible exact H2_) | (have H2_ := (Option.bind_some _ _).symm.trans H; with_reducible exact H2_) | with_reducible exact H | (rw [hy205]; exact H) | exact H
                have Ny205 := Aside0.mk hy205
                clear hy205
                have H' := Aside0.mk H
                clear H
                have p202 : 0 ≤ (x20_1 : Int) := of_decide_eq_true (by first | (with_reducible assumption) | assumption)
                have q202 : x20_1 < (t199.length : Int) := of_decide_eq_true (by first | (with_reducible assumption) | assumption)
                obtain ⟨ad202, e202, hx202_0⟩ := Kd.at_string (Kd.R_reads' HO_18.out).2.2 x20_1 p202 q202
                cases e202
                replace p202 := eq_true p202
                replace q202 := eq_true q202
                go_wp2_with (first | ((with_reducible refine gate_callee (f := 44) rfl ?_); refine goesL_ (some 28) rfl rfl Tryz.func44 (by kernel_rfl) rfl #[.string (rdOf ByteArray.empty t199 x20_1), .int .i64 a2, .int .i64 a3] rfl (by (try simp only [List.map_toArray, List.map_cons, List.map_nil]); first | done | rfl | (simp only [List.length_drop, List.length_take]; rfl)) ?_; (with_reducible refine (impl_readIn.calls (rdOf ByteArray.empty t199 x20_1) a2 a3 t203 true _ ?side1 A13.out).mono ?_); (case side1 => first | exact HT.out | exact Tb.TC.below HT.out (by repeat (first | (with_reducible first | exact HB.out | apply below_alloc | apply pw_below_drewN | apply below_drew1) | exact HB.out))); rintro e w16 ⟨rfl, hb⟩; refine ⟨_, rfl, ?_⟩; have n0_ := Aside0.mk (Kd.R_below (by (with_reducible repeat (first | apply Kd.R_alloc | apply Kd.R_drewN | apply Kd.R_drew)); exact HO_10.out) hb); have n1_ := Aside0.mk (Kd.R_below (by (with_reducible repeat (first | apply Kd.R_alloc | apply Kd.R_drewN | apply Kd.R_drew)); exact HO_18.out) hb); have n2_ := Aside0.mk (below_step (by repeat (first | (with_reducible first | exact HB.out | apply below_alloc | apply pw_below_drewN | apply below_drew1) | exact HB.out)) hb); clear HO_10; clear HO_18; clear HB; have HO_10 := n0_; have HO_18 := n1_; have HB := n2_; clear n0_ n1_ n2_; (try clear hb); (try clear hb2); (try clear hk); (try clear hi)) | ((with_reducible refine gate_builtin (b := .append) (xs := #[.tmp 33, .tmp 35]) rfl ?_); at_builtin; refine Kd.R_append (Kd.int .i64) (w0 := w) w.heap.size rfl (.tmp 33) (.tmp 35) 35 2 (.int .i64 0) 8 rfl Tryz.underlying35 info2 rfl (by decide) (by omega) u10 x10_1 t203 [.int .i64 t203] (fun _ => True) (fun _ => False) rfl rfl ?aP (fun _ hk => hk.elim) ?aF ?aO ?aB ?aS ?aL ?_; (case aP => exact rfl); (case aB => exact (by repeat (first | (with_reducible first | exact HB.out | apply below_alloc | apply pw_below_drewN | apply below_drew1) | exact HB.out))); (case aF => exact (fun _ _ => trivial)); (case aO => exact (by (with_reducible repeat (first | apply Kd.R_alloc | apply Kd.R_drewN | apply Kd.R_drew)); exact HO_10.out)); (case aS => exact (below_size (by repeat (first | (with_reducible first | exact HB.out | apply below_alloc | apply pw_below_drewN | apply below_drew1) | exact HB.out)))); (case aL => have := LMc15.out; omega); intro v206 w17 ho hb hg hat; rw [← Ny205.out] at ho; have n0_ := Aside0.mk (Kd.R_over' (by (with_reducible repeat (first | apply Kd.R_alloc | apply Kd.R_drewN | apply Kd.R_drew)); exact HO_18.out) (Kd.R_typed (by (with_reducible repeat (first | apply Kd.R_alloc | apply Kd.R_drewN | apply Kd.R_drew)); exact HO_10.out)) (by decide) hg); have n1_ := Aside0.mk (hb); have n2_ := Aside0.mk (ho); clear HO_18; clear HB; clear HO_10; have HO_18 := n0_; have HB := n1_; have HO207 := n2_; clear n0_ n1_ n2_; clear ho hb hg hat))
                go_roundg k1
                case measure => have := HK1.out; omega
                case rel => exact ⟨(y205), (wrap64 (x20_1 + 1)), (by first | rfl | (simp; done) | (simp [*]; done)), H', ⟨by have := HK1.out; omega⟩, ⟨by (with_reducible repeat (first | apply Kd.R_alloc | apply Kd.R_drewN | apply Kd.R_drew)); exact HO207.out⟩, ⟨by (with_reducible repeat (first | apply Kd.R_alloc | apply Kd.R_drewN | apply Kd.R_drew)); exact HO_18.out⟩, ⟨by repeat (first | (with_reducible first | exact HB.out | apply below_alloc | apply pw_below_drewN | apply below_drew1) | exact HB.out)⟩⟩
              · rw [if_neg c15] at H
                exact absurd H (by simp)
            · replace c14 := Bool.eq_false_iff.mpr c14
              subst c14
              have H1 : (some (([] : List Int), false)) = some (r1, r2) := by rw [if_neg (show ¬ (false = true) by decide)] at H; exact H
              clear H
              have H := H1
              clear H1
              simp only [Option.some.injEq, Prod.mk.injEq] at H
              obtain ⟨rfl, rfl⟩ := H
              have p202 : 0 ≤ (x20_1 : Int) := of_decide_eq_true (by first | (with_reducible assumption) | assumption)
              have q202 : x20_1 < (t199.length : Int) := of_decide_eq_true (by first | (with_reducible assumption) | assumption)
              obtain ⟨ad202, e202, hx202_0⟩ := Kd.at_string (Kd.R_reads' HO_18.out).2.2 x20_1 p202 q202
              cases e202
              replace p202 := eq_true p202
              replace q202 := eq_true q202
              go_wp2_with (first | ((with_reducible refine gate_callee (f := 44) rfl ?_); refine goesL_ (some 28) rfl rfl Tryz.func44 (by kernel_rfl) rfl #[.string (rdOf ByteArray.empty t199 x20_1), .int .i64 a2, .int .i64 a3] rfl (by (try simp only [List.map_toArray, List.map_cons, List.map_nil]); first | done | rfl | (simp only [List.length_drop, List.length_take]; rfl)) ?_; (with_reducible refine (impl_readIn.calls (rdOf ByteArray.empty t199 x20_1) a2 a3 t203 false _ ?side1 A13.out).mono ?_); (case side1 => first | exact HT.out | exact Tb.TC.below HT.out (by repeat (first | (with_reducible first | exact HB.out | apply below_alloc | apply pw_below_drewN | apply below_drew1) | exact HB.out))); rintro e w18 ⟨rfl, hb⟩; refine ⟨_, rfl, ?_⟩; have n0_ := Aside0.mk (Kd.R_below (by (with_reducible repeat (first | apply Kd.R_alloc | apply Kd.R_drewN | apply Kd.R_drew)); exact HO_10.out) hb); have n1_ := Aside0.mk (Kd.R_below (by (with_reducible repeat (first | apply Kd.R_alloc | apply Kd.R_drewN | apply Kd.R_drew)); exact HO_18.out) hb); have n2_ := Aside0.mk (below_step (by repeat (first | (with_reducible first | exact HB.out | apply below_alloc | apply pw_below_drewN | apply below_drew1) | exact HB.out)) hb); clear HO_10; clear HO_18; clear HB; have HO_10 := n0_; have HO_18 := n1_; have HB := n2_; clear n0_ n1_ n2_; (try clear hb); (try clear hb2); (try clear hk); (try clear hi)))
              go_ret2
              exact ⟨_, by first | rfl | (simp [errW_none, errW_some] <;> rfl) | (simp [*, errW_none, errW_some] <;> rfl), by first | exact Kd.R_nil _ _ _ _ _ | exact Kd.N_nil _ _ _ _ _ | exact Kd.V_nil _ _ _ _ _ | exact Kd.Q_nil _ _ _ _ _ | exact Kd.S_nil _ _ _ _ _, by repeat (first | (with_reducible first | exact HB.out | apply below_alloc | apply pw_below_drewN | apply below_drew1) | exact HB.out)⟩
          · rw [if_neg c12] at H
            exact absurd H (by simp)
        · rw [if_neg c11] at H
          exact absurd H (by simp)
      · rw [if_neg c10] at H
        have c10b0 : decide (x20_1 < (t199.length : Int)) = false := decide_eq_false c10
        clear c10
        simp only [Option.some.injEq, Prod.mk.injEq] at H
        obtain ⟨rfl, rfl⟩ := H
        go_wp2
        go_ret2
        exact ⟨_, by first | rfl | (simp [errW_none, errW_some] <;> rfl) | (simp [*, errW_none, errW_some] <;> rfl), by (with_reducible repeat (first | apply Kd.R_alloc | apply Kd.R_drewN | apply Kd.R_drew)); exact HO_10.out, by repeat (first | (with_reducible first | exact HB.out | apply below_alloc | apply pw_below_drewN | apply below_drew1) | exact HB.out)⟩

end Go.Proofs.YtibaiaenfeppcaaGreatDoor.Q

-- made by a patched copy of print.sh: this session's own
namespace Go.Proofs.YtibaiaenfeppcaaGreatDoor.Q
open Go.RowKit Go.Proofs.YtibaiaenfeppcaaGreatDoorW.PrintWords Go.Proofs.YtibaiaenfeppcaaGreatDoorW.PrintLast Go.Proofs.YtibaiaenfeppcaaGreatDoorW.PrintMore
attribute [local go_sem] max2_int min2_int max_two min_two max_three min_three max_four min_four   -- for this text's walks alone
set_option linter.unusedVariables false
set_option linter.unusedSimpArgs false

/-! ### impl_ReadList: function 27 -/
def impl_ReadList.f (k : Nat) (a0 : ByteArray) : Option (List Int × Bool) := if a0.toList = ([45] : List UInt8) then (some ((([] : List Int)), true)) else ((impl_readAll.f k a0 (⟨#[44]⟩ : ByteArray) (-1000000000) 1000000000).bind fun bt211 => (if bt211.2 = true then (if (bt211.1.length : Int) > 64 then (some (([] : List Int), false)) else (some (bt211.1, true))) else (some (([] : List Int), false))))
set_option maxHeartbeats 8000000 in
set_option maxRecDepth 100000 in
theorem impl_ReadList.calls (k : Nat) (a0 : ByteArray) (r1 : List Int) (r2 : Bool) (w : World) (hT : Tb.TC w) (h : impl_ReadList.f k a0 = some (r1, r2)) :
    Calls Tryz.prog 27 #[.string a0] w fun e w' => ∃ v0_ : Value, e = .returned (.tuple #[v0_, .bool r2]) ∧ Kd.R (Kd.int .i64) 2 w' w.heap.size (fun _ => True) v0_ r1 ∧ Below w.heap.size w w' := by
  have HT := Aside0.mk hT
  clear hT
  have HB := Aside0.mk (Below.refl w.heap.size w)
  have H : (if a0.toList = ([45] : List UInt8) then (some ((([] : List Int)), true)) else ((impl_readAll.f k a0 (⟨#[44]⟩ : ByteArray) (-1000000000) 1000000000).bind fun bt211 => (if bt211.2 = true then (if (bt211.1.length : Int) > 64 then (some (([] : List Int), false)) else (some (bt211.1, true))) else (some (([] : List Int), false))))) = some (r1, r2) := h
  clear h
  by_cases c2 : a0.toList = ([45] : List UInt8)
  · rw [if_pos c2] at H
    have c2b0 : (a0.toList == ([45] : List UInt8)) = true := beq_iff_eq.mpr c2
    have c2b1 : (a0.toList != ([45] : List UInt8)) = false := bne_eq_false_iff_eq.mpr c2
    clear c2
    obtain ⟨y208, hy208⟩ : ∃ y_ : List Int, y_ = (([] : List Int)) := ⟨_, rfl⟩
    replace H : (some (y208, true)) = some (r1, r2) := by first | (rw [hy208]; with_reducible exact H) | (have H2_ := (Option.bind_some _ _).symm.trans H; rw [hy208]; with_reducible exact H2_) | (have H2_ := (Option.bind_some _ _).symm.trans H; with_reducible exact H2_) | with_reducible exact H | (rw [hy208]; exact H) | exact H
    have Ny208 := Aside0.mk hy208
    clear hy208
    simp only [Option.some.injEq, Prod.mk.injEq] at H
    obtain ⟨rfl, rfl⟩ := H
    go_enter Tryz.func27, Tryz.ntmps27
    go_wp2_with (first | ((with_reducible refine gate_dst (N := 8) rfl ?_); (try (refine gate_guard (by rfl) ?_; dsimp only)); refine Kd.R_lit (Kd.int .i64) _ 2 ?hg (N := 8) ?hd (xs := ([] : List Int)) (inner := []) (ok := fun _ => True) (okp := fun _ => True) ?hr ?hp (fun _ hk => hk) trivial (Below.refl _ _) (Nat.le_refl _) (by simp) ?_; (case hd => rfl); (case hg => rfl); (case hr => first | (go_simp; done) | (go_simp; rfl)); (case hp => exact (Reps.none _ _)); intro v209 w3 ho4 hb hg_ hnew_; clear hg_ hnew_; (first | rw [← Ny208.out] at ho4 | (simp only [Int.reduceToNat] at ho4; rw [← Ny208.out] at ho4)); have n0_ := Aside0.mk (Kd.R_lower ho4 (below_size (by repeat (first | (with_reducible first | exact HB.out | apply below_alloc | apply pw_below_drewN | apply below_drew1) | exact HB.out)))); have n1_ := Aside0.mk (below_step (by repeat (first | (with_reducible first | exact HB.out | apply below_alloc | apply pw_below_drewN | apply below_drew1) | exact HB.out)) hb); clear HB; have HO210 := n0_; have HB := n1_; clear n0_ n1_; clear hb ho4))
    go_ret2
    exact ⟨_, by first | rfl | (simp [errW_none, errW_some] <;> rfl) | (simp [*, errW_none, errW_some] <;> rfl), by (with_reducible repeat (first | apply Kd.R_alloc | apply Kd.R_drewN | apply Kd.R_drew)); exact HO210.out, by repeat (first | (with_reducible first | exact HB.out | apply below_alloc | apply pw_below_drewN | apply below_drew1) | exact HB.out)⟩
  · rw [if_neg c2] at H
    have c2b0 : (a0.toList == ([45] : List UInt8)) = false := beq_eq_false_iff_ne.mpr c2
    have c2b1 : (a0.toList != ([45] : List UInt8)) = true := bne_iff_ne.mpr c2
    replace H := Option.bind_eq_some_iff.mp H
    obtain ⟨⟨t211, t212⟩, A50, H⟩ := H
    replace H : (if t212 = true then (if (t211.length : Int) > 64 then (some (([] : List Int), false)) else (some (t211, true))) else (some (([] : List Int), false))) = some (r1, r2) := H
    have A5 := Aside0.mk A50
    clear A50
    by_cases c6 : t212 = true
    · subst c6
      have H1 : (if (t211.length : Int) > 64 then (some (([] : List Int), false)) else (some (t211, true))) = some (r1, r2) := by rw [if_pos rfl] at H; exact H
      clear H
      have H := H1
      clear H1
      by_cases c7 : (t211.length : Int) > 64
      · rw [if_pos c7] at H
        have c7b0 : decide (64 < (t211.length : Int)) = true := decide_eq_true c7
        have c7b1 : decide (64 < t211.length) = true := decide_eq_true (by omega)
        clear c7
        simp only [Option.some.injEq, Prod.mk.injEq] at H
        obtain ⟨rfl, rfl⟩ := H
        go_enter Tryz.func27, Tryz.ntmps27
        go_wp2_with (first | ((with_reducible refine gate_callee (f := 46) rfl ?_); refine goesL_ (some 11) rfl rfl Tryz.func46 (by kernel_rfl) rfl #[.string a0, .string (⟨#[44]⟩ : ByteArray), .int .i64 (-1000000000), .int .i64 1000000000] rfl (by (try simp only [List.map_toArray, List.map_cons, List.map_nil]); first | done | rfl | (simp only [List.length_drop, List.length_take]; rfl)) ?_; (with_reducible refine (impl_readAll.calls k a0 (⟨#[44]⟩ : ByteArray) (-1000000000) 1000000000 t211 true _ ?side1 A5.out).mono ?_); (case side1 => first | exact HT.out | exact Tb.TC.below HT.out (by repeat (first | (with_reducible first | exact HB.out | apply below_alloc | apply pw_below_drewN | apply below_drew1) | exact HB.out))); rintro e w8 ⟨v213, rfl, ho0, hb⟩; refine ⟨_, rfl, ?_⟩; have n0_ := Aside0.mk (Kd.R_lower ho0 (below_size (by repeat (first | (with_reducible first | exact HB.out | apply below_alloc | apply pw_below_drewN | apply below_drew1) | exact HB.out)))); have n1_ := Aside0.mk (below_step (by repeat (first | (with_reducible first | exact HB.out | apply below_alloc | apply pw_below_drewN | apply below_drew1) | exact HB.out)) hb); clear HB; have HO214 := n0_; have HB := n1_; clear n0_ n1_; (try clear hb); (try clear hb2); (try clear hk); (try clear hi); (try clear ho0); obtain ⟨Ao9, co9, eo9⟩ := Kd.R_slice HO214.out; subst eo9))
        go_ret2
        exact ⟨_, by first | rfl | (simp [errW_none, errW_some] <;> rfl) | (simp [*, errW_none, errW_some] <;> rfl), by first | exact Kd.R_nil _ _ _ _ _ | exact Kd.N_nil _ _ _ _ _ | exact Kd.V_nil _ _ _ _ _ | exact Kd.Q_nil _ _ _ _ _ | exact Kd.S_nil _ _ _ _ _, by repeat (first | (with_reducible first | exact HB.out | apply below_alloc | apply pw_below_drewN | apply below_drew1) | exact HB.out)⟩
      · rw [if_neg c7] at H
        have c7b0 : decide (64 < (t211.length : Int)) = false := decide_eq_false c7
        have c7b1 : decide (64 < t211.length) = false := decide_eq_false (by omega)
        clear c7
        simp only [Option.some.injEq, Prod.mk.injEq] at H
        obtain ⟨rfl, rfl⟩ := H
        go_enter Tryz.func27, Tryz.ntmps27
        go_wp2_with (first | ((with_reducible refine gate_callee (f := 46) rfl ?_); refine goesL_ (some 11) rfl rfl Tryz.func46 (by kernel_rfl) rfl #[.string a0, .string (⟨#[44]⟩ : ByteArray), .int .i64 (-1000000000), .int .i64 1000000000] rfl (by (try simp only [List.map_toArray, List.map_cons, List.map_nil]); first | done | rfl | (simp only [List.length_drop, List.length_take]; rfl)) ?_; (with_reducible refine (impl_readAll.calls k a0 (⟨#[44]⟩ : ByteArray) (-1000000000) 1000000000 t211 true _ ?side1 A5.out).mono ?_); (case side1 => first | exact HT.out | exact Tb.TC.below HT.out (by repeat (first | (with_reducible first | exact HB.out | apply below_alloc | apply pw_below_drewN | apply below_drew1) | exact HB.out))); rintro e w10 ⟨v213, rfl, ho0, hb⟩; refine ⟨_, rfl, ?_⟩; have n0_ := Aside0.mk (Kd.R_lower ho0 (below_size (by repeat (first | (with_reducible first | exact HB.out | apply below_alloc | apply pw_below_drewN | apply below_drew1) | exact HB.out)))); have n1_ := Aside0.mk (below_step (by repeat (first | (with_reducible first | exact HB.out | apply below_alloc | apply pw_below_drewN | apply below_drew1) | exact HB.out)) hb); clear HB; have HO214 := n0_; have HB := n1_; clear n0_ n1_; (try clear hb); (try clear hb2); (try clear hk); (try clear hi); (try clear ho0); obtain ⟨Ao11, co11, eo11⟩ := Kd.R_slice HO214.out; subst eo11))
        go_ret2
        exact ⟨_, by first | rfl | (simp [errW_none, errW_some] <;> rfl) | (simp [*, errW_none, errW_some] <;> rfl), by (with_reducible repeat (first | apply Kd.R_alloc | apply Kd.R_drewN | apply Kd.R_drew)); exact HO214.out, by repeat (first | (with_reducible first | exact HB.out | apply below_alloc | apply pw_below_drewN | apply below_drew1) | exact HB.out)⟩
    · replace c6 := Bool.eq_false_iff.mpr c6
      subst c6
      have H1 : (some (([] : List Int), false)) = some (r1, r2) := by rw [if_neg (show ¬ (false = true) by decide)] at H; exact H
      clear H
      have H := H1
      clear H1
      simp only [Option.some.injEq, Prod.mk.injEq] at H
      obtain ⟨rfl, rfl⟩ := H
      go_enter Tryz.func27, Tryz.ntmps27
      go_wp2_with (first | ((with_reducible refine gate_callee (f := 46) rfl ?_); refine goesL_ (some 11) rfl rfl Tryz.func46 (by kernel_rfl) rfl #[.string a0, .string (⟨#[44]⟩ : ByteArray), .int .i64 (-1000000000), .int .i64 1000000000] rfl (by (try simp only [List.map_toArray, List.map_cons, List.map_nil]); first | done | rfl | (simp only [List.length_drop, List.length_take]; rfl)) ?_; (with_reducible refine (impl_readAll.calls k a0 (⟨#[44]⟩ : ByteArray) (-1000000000) 1000000000 t211 false _ ?side1 A5.out).mono ?_); (case side1 => first | exact HT.out | exact Tb.TC.below HT.out (by repeat (first | (with_reducible first | exact HB.out | apply below_alloc | apply pw_below_drewN | apply below_drew1) | exact HB.out))); rintro e w12 ⟨v213, rfl, ho0, hb⟩; refine ⟨_, rfl, ?_⟩; have n0_ := Aside0.mk (Kd.R_lower ho0 (below_size (by repeat (first | (with_reducible first | exact HB.out | apply below_alloc | apply pw_below_drewN | apply below_drew1) | exact HB.out)))); have n1_ := Aside0.mk (below_step (by repeat (first | (with_reducible first | exact HB.out | apply below_alloc | apply pw_below_drewN | apply below_drew1) | exact HB.out)) hb); clear HB; have HO214 := n0_; have HB := n1_; clear n0_ n1_; (try clear hb); (try clear hb2); (try clear hk); (try clear hi); (try clear ho0)))
      go_ret2
      exact ⟨_, by first | rfl | (simp [errW_none, errW_some] <;> rfl) | (simp [*, errW_none, errW_some] <;> rfl), by first | exact Kd.R_nil _ _ _ _ _ | exact Kd.N_nil _ _ _ _ _ | exact Kd.V_nil _ _ _ _ _ | exact Kd.Q_nil _ _ _ _ _ | exact Kd.S_nil _ _ _ _ _, by repeat (first | (with_reducible first | exact HB.out | apply below_alloc | apply pw_below_drewN | apply below_drew1) | exact HB.out)⟩

end Go.Proofs.YtibaiaenfeppcaaGreatDoor.Q

-- made by a patched copy of print.sh: this session's own
namespace Go.Proofs.YtibaiaenfeppcaaGreatDoor.Q
open Go.RowKit Go.Proofs.YtibaiaenfeppcaaGreatDoorW.PrintWords Go.Proofs.YtibaiaenfeppcaaGreatDoorW.PrintLast Go.Proofs.YtibaiaenfeppcaaGreatDoorW.PrintMore
attribute [local go_sem] max2_int min2_int max_two min_two max_three min_three max_four min_four   -- for this text's walks alone
set_option linter.unusedVariables false
set_option linter.unusedSimpArgs false

/-! ### impl_ValidYard: function 28 -/
def impl_ValidYard.f (a0_0 : Int) (l0_1 : List (List Int)) : Option (Bool) := some (Yv.valid a0_0 l0_1)
theorem impl_ValidYard.calls (a0_0 : Int) (A0_1 : Option Addr) (c0_1 : Nat) (l0_1 : List (List Int)) (r : Bool) (w : World) (hr0_1 : Kd.C (Kd.slice 2 (Kd.int .i64)) w A0_1 l0_1.length l0_1) (hc0_1 : l0_1.length ≤ c0_1) (h : impl_ValidYard.f a0_0 l0_1 = some r) :
    Calls Tryz.prog 28 #[.agg #[.int .i64 a0_0, .slice A0_1 l0_1.length c0_1]] w fun e w' => e = .returned (.bool r) ∧ Below w.heap.size w w' := by
  obtain rfl := Option.some.inj h
  exact Yv.validYard_calls a0_0 A0_1 c0_1 l0_1 w hr0_1

end Go.Proofs.YtibaiaenfeppcaaGreatDoor.Q

