/- Parts of the proof that the law of this seat holds: Q0, Sv, Gr, Cc, Shelf, Sw, Ha, Yl, Yv, Yw, Yg, Ym, Tb, Jn, Sp, Q103, Q104, Q5, Q105, Q106. -/
import Derived.Test.YtibaiaenfeppcaaGreatDoorProg
import Derived.Below
import Derived.Deep.Draws
import Derived.Deep.AppendLies
import Derived.Maps.AppendAt
import Derived.OwnWalk
import Derived.Laws.BytesArg
import Derived.Laws.MakeOwn
import Derived.Laws.OwnMore
import Derived.Deep.OwnRows
import Derived.Tactics
import Derived.Lib.ConvBytes
import Derived.Laws.Slices
import Derived.WalkKit
import Derived.KernelRfl
import Derived.RowKit3
import Derived.Deep.LoopGhost
import Derived.Deep.QuietTactic
import Derived.BigQuiet
import Derived.WideLaws
import Derived.Deep.DeepCutAuto
import Derived.Deep.CutBlock
import Derived.Deep.RegionHeld3
import Derived.Laws.Rows
import Derived.Lib.AppendStr
import Derived.ArgAppend
import Derived.Laws.IdiomCopy
import Derived.OrdersHeld
import Derived.Laws.BitsLemmas
import Derived.RowKit
import Derived.Test.YtibaiaenfeppcaaGreatDoorGSKw
import Derived.RangeFuncNested
import Derived.RangeFuncBound
import Derived.RangeFuncCalls
import Derived.RangeFuncLeaves
import Derived.RangeFuncFrom
import Derived.RangeFuncBox
import Derived.Shelf.Abstract
import Derived.Shelf.RegionOpen
import Derived.OwnWalkIn
import Derived.TacticsInMore
import Derived.LoopNIn
import Derived.LoopIn
import Derived.Laws.AppendOwn
import Derived.Shelf.Strings.Builder1
import Derived.Shelf.Strings.Builder2
import Derived.Shelf.Strings.OnBuilder
import Derived.Shelf.Small.Bits
import Derived.Shelf.Utf8.RuneCount
import Derived.Shelf.Strconv.Itoa0
import Derived.Shelf.Strconv.Itoa1
import Derived.Shelf.LaysM
import Derived.Shelf.Strconv.Itoa2
import Derived.Shelf.Strconv.Itoa3
import Derived.Shelf.Strconv.Itoa4
import Derived.Shelf.Strconv.ParseIntEmpty
import Derived.Shelf.Strconv.Clone
import Derived.Shelf.Strconv.SyntaxError
import Derived.Shelf.LaysC
import Derived.Shelf.Strconv.ToError
import Derived.Shelf.Strconv.Lower
import Derived.Shelf.Strconv.ParseUint10
import Derived.Shelf.Strconv.ParseUint10Empty
import Derived.Shelf.Strconv.ParseUint10Any
import Derived.Shelf.Strconv.ParseInt10
import Derived.Shelf.Strconv.RangeError
import Derived.Shelf.Strconv.ToErrorRange
import Derived.Shelf.Strconv.ParseUintEmpty
import Derived.Shelf.Strconv.ParseUint10b64
import Derived.Shelf.Strconv.ParseUint10b32
import Derived.Shelf.Strconv.ParseUint10b16
import Derived.Shelf.Strconv.ParseUint10b8
import Derived.Shelf.Strconv.ParseUint10At
import Derived.Shelf.Strconv.ParseInt10At64
import Derived.Shelf.Strconv.ParseInt10At32
import Derived.Shelf.Strconv.ParseInt10At16
import Derived.Shelf.Strconv.ParseInt10At8
import Derived.Shelf.Strconv.ParseInt10All
import Derived.Shelf.Strconv.ParseIntPublic10
import Derived.Shelf.Strconv.ErrVarParseInt
import Derived.Shelf.Strings.Search1
import Derived.Shelf.Strings.Search2
import Derived.Shelf.Strings.Search3
import Derived.Shelf.Strings.Cut
import Derived.Shelf.Strings.Count
import Derived.Shelf.Strings.Shaped
import Derived.Shelf.Strings.Split
import Derived.Shelf.Strings.SplitShaped
import Derived.Shelf.Unicode.Decode
import Derived.Shelf.Strings.RuneCount
import Derived.Shelf.Strings.Explode
import Derived.Shelf.Unicode.DecodeSlow
import Derived.Shelf.Unicode.DecodeAny
import Derived.Ground.SlgmProg
import Derived.Shelf.SortM.Plain
import Derived.Shelf.SortM.SortNone
import Derived.Sort.OwnSortedInts
import Derived.Lib.Hide
import Derived.Outline
import Derived.Deep.RegionHeld
import Derived.Deep.RegionWith
set_option linter.unusedVariables false
set_option linter.unusedSimpArgs false
-- made by a patched copy of print.sh: this session's own
namespace Go.Proofs.YtibaiaenfeppcaaGreatDoor.Q
open Go.RowKit Go.Proofs.YtibaiaenfeppcaaGreatDoorW.PrintWords Go.Proofs.YtibaiaenfeppcaaGreatDoorW.PrintLast Go.Proofs.YtibaiaenfeppcaaGreatDoorW.PrintMore
attribute [local go_sem] max2_int min2_int max_two min_two max_three min_three max_four min_four   -- for this text's walks alone
set_option linter.unusedVariables false
set_option linter.unusedSimpArgs false



def errW : Option Int → Value
  | none => .nilIface
  | some c => .iface 136 (.int .i64 c)
theorem errW_none : errW none = .nilIface := rfl
theorem errW_some (c : Int) : errW (some c) = .iface 136 (.int .i64 c) := rfl

theorem info2 : (Tryz.prog.info? 2).map (fun i => (i.zero, i.size, i.bytes)) = some (some (.int .i64 0), 1, 8) := by kernel_rfl
theorem info9 : (Tryz.prog.info? 9).map (fun i => (i.zero, i.size, i.bytes)) = some (some (.string ⟨#[]⟩), 1, 16) := by kernel_rfl
theorem info35 : (Tryz.prog.info? 35).map (fun i => (i.zero, i.size, i.bytes)) = some (some (.slice none 0 0), 1, 24) := by kernel_rfl
-- the values' own types
def rd_L2 (xs : List (List Int)) (i : Int) : (List Int) := xs.getD i.toNat ([] : List Int)
theorem at_L2 {w : World} {A : Option Addr} {n : Nat} {xs : List (List Int)} (h : Kd.C (Kd.slice 2 (Kd.int .i64)) w A n xs) (i : Int) (h0 : 0 ≤ i) (h1 : i < n) : ∃ ad A0 c0, A = some ad ∧ w.cell? (ad.add i.toNat) = some (.slice A0 (rd_L2 xs i).length c0) ∧ (rd_L2 xs i).length ≤ c0 ∧ (Kd.int .i64).C w A0 (rd_L2 xs i).length (rd_L2 xs i) := by
  obtain ⟨ad, c, e, _, hK, hc0⟩ := Kd.C_get h ([] : List Int) i h0 h1
  have hc : ∀ j u, c[j]? = some u → w.cell? (ad.add (i.toNat * 1 + j)) = some u := hc0
  obtain ⟨A0, c0, rfl, l0, g0⟩ := hK
  exact ⟨ad, A0, c0, e, by have hq := hc 0 _ rfl; rwa [Nat.mul_one, Nat.add_zero] at hq, l0, g0⟩

def rd_L4 (xs : List (List ByteArray)) (i : Int) : (List ByteArray) := xs.getD i.toNat ([] : List ByteArray)
def rd_L5 (xs : List (List (List Int))) (i : Int) : (List (List Int)) := xs.getD i.toNat ([] : List (List Int))
end Go.Proofs.YtibaiaenfeppcaaGreatDoor.Q

/- slices.Values and slices.Sorted at []int64: the iterator over a slice that is read, and what is collected out of it, sorted. -/
namespace Go.Proofs.YtibaiaenfeppcaaGreatDoor.Sv
open Go.RowKit Go.Shelf Go.Proofs
attribute [local go_sem] Oper.semAt_some
/-- The first k of a list. -/
def upto (zs : List Int) (k : Nat) : List Int := (List.range k).map fun j => zs[j]?.getD 0
theorem upto_succ (zs : List Int) (k : Nat) : upto zs (k + 1) = upto zs k ++ [zs[k]?.getD 0] := by simp [upto, List.range_succ]
theorem upto_len (zs : List Int) (k : Nat) : (upto zs k).length = k := by simp [upto]
theorem upto_take (zs : List Int) {k : Nat} (hk : k ≤ zs.length) : upto zs k = zs.take k := by
  apply List.ext_getElem
  · simp [upto, hk]
  · intro i h1 h2
    have : i < zs.length := by simp [upto] at h1; omega
    simp [upto, this]
/-- A slice value that holds numbers in a block below n₀, or nil. -/
def Ints (n₀ : Nat) (W : World) (sv : Value) (zs : List Int) : Prop :=
  (sv = .slice none 0 0 ∧ zs = []) ∨ ∃ b off cap, sv = .slice (some ⟨b, off, none⟩) zs.length cap ∧ b < n₀ ∧ ∀ j, j < zs.length → W.cell? ⟨b, off + j, none⟩ = some (.int .i64 (zs[j]?.getD 0))
theorem Ints.below {n₀ : Nat} {A B : World} (h : Below n₀ A B) {sv : Value} {zs : List Int} : Ints n₀ A sv zs → Ints n₀ B sv zs
  | .inl e => .inl e
  | .inr ⟨b, off, cap, e, hb, hc⟩ => .inr ⟨b, off, cap, e, hb, fun j hj => (h.cell (p := ⟨b, off + j, none⟩) hb).trans (hc j hj)⟩
set_option maxRecDepth 100000 in
set_option maxHeartbeats 2000000 in
theorem iter_in (F : Fence) (n : Nat) (h7 : F.fn 68) (hro : F.round = none) (hn : 1 ≤ n) (l Bs n₀ b off len cap : Nat) (zs : List Int) (hreach : len * 8 ≤ 140737488351232) (hb : b < n₀) (J Jx : List Int → World → Prop)
    (hY : ∀ pre x W, J pre W → pre.length < len → YieldAt F (n - 1) Tryz.prog l #[.int .i64 x] W fun e W' =>
      (e = .returned (.bool true) ∧ J (pre ++ [x]) W' ∧ Below n₀ W W') ∨ (e = .returned (.bool false) ∧ Jx (pre ++ [x]) W'))
    (W : World) (hBs : W.cell? ⟨Bs, 0, none⟩ = some (.slice (some ⟨b, off, none⟩) len cap)) (hc : ∀ j, j < len → W.cell? ⟨b, off + j, none⟩ = some (.int .i64 (zs[j]?.getD 0))) (h0 : J [] W) :
    CallsIn F n Tryz.prog 68 #[.func (.yield l) #[] #[], .pointer (some ⟨Bs, 0, none⟩)] W fun e W' => (∃ v, e = .returned v) ∧
      (J (upto zs len) W' ∨ (∃ k, k ≤ len ∧ Jx (upto zs k) W')) := by
  refine callsIn_of_wp Tryz.func68 rfl h7 ?_ hro
  simp only [Tryz.ntmps68, List.size_toArray, List.length_cons, List.length_nil, Nat.reduceAdd, Nat.reduceSub, Array.replicate_succ, Array.replicate_zero, List.push_toArray, List.append_toArray, List.nil_append, List.cons_append]
  gi_wp2
  gi_loopw [7] (fun i wr => ∃ k : Nat, k ≤ len ∧ i = .int .i64 k ∧ J (upto zs k) wr ∧ Below n₀ W wr)
    (fun i _ => len - (intOf i).toNat)
  case atStart => exact ⟨0, Nat.zero_le _, rfl, h0, Below.refl _ _⟩
  case round =>
    obtain ⟨k, hk, rfl, hJs, hnx⟩ := hrel
    have hcx : k < len → wr.cell? ⟨b, off + k, none⟩ = some (.int .i64 (zs[k]?.getD 0)) := fun h => (hnx.cell (p := ⟨b, off + k, none⟩) hb).trans (hc k h)
    by_cases hlt : k < len
    · obtain ⟨fn, tmps, assign, body, hy, hR⟩ := hY _ (zs[k]?.getD 0) wr hJs (by rw [upto_len]; exact hlt)
      have hcx' := hcx hlt
      gi_wp2
      refine hR.mono ?_
      rintro e W3 (⟨rfl, hJ3, hk3⟩ | ⟨rfl, hJx3⟩)
      · gi_wp2
        go_roundw
        case rel => exact ⟨k + 1, by omega, by simp, by rw [upto_succ]; exact hJ3, hnx.trans hk3⟩
        case measure => simp [intOf]; omega
      · gi_wp2
        refine bodyPost_ret (results_none rfl _ _ _) rfl ?_
        exact ⟨⟨_, rfl⟩, .inr ⟨k + 1, by omega, by rw [upto_succ]; exact hJx3⟩⟩
    · obtain rfl : k = len := by omega
      gi_wp2
      go_end0
      exact ⟨⟨_, rfl⟩, .inl hJs⟩
set_option maxRecDepth 100000 in
set_option maxHeartbeats 1000000 in
theorem iter_nil_in (F : Fence) (n : Nat) (h7 : F.fn 68) (hro : F.round = none) (l Bs : Nat) (J : List Int → World → Prop) (W : World) (hBs : W.cell? ⟨Bs, 0, none⟩ = some (.slice none 0 0)) (h0 : J [] W) :
    CallsIn F n Tryz.prog 68 #[.func (.yield l) #[] #[], .pointer (some ⟨Bs, 0, none⟩)] W fun e W' => (∃ v, e = .returned v) ∧ J [] W' := by
  refine callsIn_of_wp Tryz.func68 rfl h7 ?_ hro
  simp only [Tryz.ntmps68, List.size_toArray, List.length_cons, List.length_nil, Nat.reduceAdd, Nat.reduceSub, Array.replicate_succ, Array.replicate_zero, List.push_toArray, List.append_toArray, List.nil_append, List.cons_append]
  gi_wp2
  gi_loopw [7] (fun i wr => i = .int .i64 0 ∧ J [] wr) (fun _ _ => 0)
  case atStart => exact ⟨rfl, h0⟩
  case round =>
    obtain ⟨rfl, hJs⟩ := hrel
    gi_wp2
    go_end0
    exact ⟨⟨_, rfl⟩, hJs⟩
set_option maxHeartbeats 1000000 in
theorem values_in (F : Fence) (n : Nat) (h5 : F.fn 49) (hro : F.round = none) (a : Option Addr) (len cap : Nat) (w : World) :
    CallsIn F n Tryz.prog 49 #[.slice a len cap] w fun e w' => e = .returned (.func (.func 68) #[] #[.pointer (some ⟨w.heap.size, 0, none⟩)]) ∧ w' = w.alloc (.cells #[.slice a len cap] 35) := by
  refine callsIn_of_wp Tryz.func49 rfl h5 ?_ hro
  simp only [Tryz.ntmps49, List.size_toArray, List.length_cons, List.length_nil, Nat.reduceAdd, Nat.reduceSub, Array.replicate_succ, Array.replicate_zero, List.push_toArray, List.append_toArray, List.nil_append, List.cons_append]
  gi_wp2
  go_ret
  exact ⟨rfl, rfl⟩
set_option maxHeartbeats 1000000 in
theorem iter_stops (F : Fence) (n : Nat) (h7 : F.fn 68) (hro : F.round = none) (hn : 1 ≤ n) (Bs n₀ : Nat) (sv : Value) (zs : List Int) (hreach : zs.length * 8 ≤ 140737488351232) (w : World) (hBs : Bs < w.heap.size) (hn₀ : n₀ ≤ w.heap.size)
    (hc : w.cell? ⟨Bs, 0, none⟩ = some sv) (hI : Ints n₀ w sv zs) :
    SeqStopsK F n Tryz.prog 68 #[.pointer (some ⟨Bs, 0, none⟩)] (fun x : Int => #[Value.int .i64 x]) (Below n₀) (fun ys => ys = zs) (fun pre => pre <+: zs) zs.length w := fun l J Jx W hW _ _ hY h0 => by
  have hc' := (hW.cell (p := ⟨Bs, 0, none⟩) hBs).trans hc
  rcases hI.below (hW.mono hn₀) with ⟨rfl, rfl⟩ | ⟨b, off, cap, rfl, hb, hcs⟩
  · exact (iter_nil_in F n h7 hro l Bs J W hc' h0).mono fun e W' ⟨he, hj⟩ => ⟨he, .inl ⟨_, rfl, hj⟩⟩
  · refine (iter_in F n h7 hro hn l Bs n₀ b off zs.length cap zs hreach hb J Jx hY W hc' hcs h0).mono ?_
    rintro e W' ⟨he, hj | ⟨k, hk, hj⟩⟩
    · exact ⟨he, .inl ⟨_, by rw [upto_take zs (Nat.le_refl _), List.take_length], hj⟩⟩
    · exact ⟨he, .inr ⟨_, by rw [upto_take zs hk]; exact List.take_prefix _ _, hj⟩⟩
theorem infoI : (Tryz.prog.info? 2).map (fun i => (i.zero, i.size, i.bytes)) = some (some (.int .i64 0), 1, 8) := by kernel_rfl
set_option maxRecDepth 100000 in
set_option maxHeartbeats 2000000 in
/-- slices.AppendSeq at no slice: what comes is appended one by one. -/
theorem append_in (F : Fence) (n : Nat) (hA : F.fn 99) (hV : F.fn 68) (hro : F.round = none) (hn : 2 ≤ n) (lb : Array Value) (zs : List Int) (hlen : zs.length ≤ 1000000) (w : World)
    (hseq : SeqStopsK F (n - 1) Tryz.prog 68 lb (fun x : Int => #[Value.int .i64 x]) (Below w.heap.size) (fun ys => ys = zs) (fun pre => pre <+: zs) zs.length w) :
    CallsIn F n Tryz.prog 99 #[.slice none 0 0, .func (.func 68) #[] lb] w fun e w' => ∃ v, e = .returned v ∧ w'.ownsRow w.heap.size 2 1 v zs.length (zs.map (Value.int .i64)) ∧ Below w.heap.size w w' := by
  have h1 : 1 ≤ n := by omega
  have hmax : 1000001 ≤ maxLen := by unfold maxLen; omega
  obtain ⟨i0, hi, hz0, hz1, hz2⟩ := info_parts infoI
  refine callsIn_of_wp_marks Tryz.func99 rfl hA ?_ hro
  simp only [Tryz.ntmps99, List.size_toArray, List.length_cons, List.length_nil, Nat.reduceAdd, Nat.reduceSub, Array.replicate_succ, Array.replicate_zero, List.push_toArray, List.append_toArray, List.nil_append, List.cons_append]
  gi_wp2
  have hB0 : Below w.heap.size w (w.alloc (.cells #[.slice none 0 0] 35)) := (Below.refl _ w).alloc (Nat.le_refl _) _
  refine wpIn_rangeFunc_ownF hro h1 (gf := 68) (lb := lb) rfl hV (enters_of Tryz.func68 (by kernel_rfl) rfl) hseq belowK_t (belowK_b (by simp)) hB0 (fun _ => rfl)
    (fun (pre : List Int) W => (∃ v, Boxed W w.heap.size 35 v ∧ W.ownsRow w.heap.size 2 1 v pre.length (pre.map (Value.int .i64)) ∧ True) ∧ Below w.heap.size w W)
    (fun _ _ _ => False)
    (OwnFrom.and (Own.from (holdsRow_own w.heap.size w.heap.size 35 2 1 (fun (pre : List Int) => pre.length) (fun (pre : List Int) => pre.map (Value.int .i64)) (fun _ _ => True)) _) (ownFrom_below (Nat.le_refl _) (by simp)))
    (fun _ _ _ _ _ hs _ _ => hs)
    ⟨⟨_, Boxed.new w 35 (.slice none 0 0), ⟨rfl, .inl ⟨rfl, rfl⟩⟩, trivial⟩, hB0⟩
    (fun x => { tmps := #[.slice none 0 0, .func (.func 68) #[] lb, .pointer (some ⟨w.heap.size, 0, none⟩), undef, .slice none 0 0, .int .i64 x, .func (.func 68) #[] lb, .int .i64 x, undef, undef, undef, undef, undef], defers := [] }) ?assign ?body ?done ?stop
  case assign =>
    intro l x W K hK
    gi_wp2
    exact hK
  case body =>
    rintro l pre x W ⟨⟨v, hv, hrow, _⟩, hB⟩ hle
    have hc := hv.cell
    gi_wp2_with (gi_at_builtin; refine wpListIn_append_own _ rfl _ _ 35 rfl w.heap.size 2 i0 (.int .i64 0) 1 8 Tryz.underlying35 hi hz0 hz1 hz2 rfl (by decide) _ _ _ rfl (hrow.alloc _) ⟨W.heap.size, 0, none⟩ 1 1 [.int .i64 x] rfl rfl (cell_one_new _ _ _) (by simp [Value.oneCell']) (by omega) (by omega) (by have := hB.size; simp; omega) ?_; intro v' w1 hown' hgrow _; obtain ⟨g', cap', rfl⟩ := ownsRow_succ hown'; obtain ⟨hv1, hv2, hr2, hk2, hb2⟩ := hv.appended (by decide) hrow hB.size (Nat.le_refl _) hown' hgrow; have hc1 := hv1.cell; have hf1 := hv1.frozen)
    exact ⟨hk2, hb2, ⟨_, hv2, by simpa using hr2, trivial⟩, hB.trans hb2⟩
  case done =>
    rintro D ys W hD rfl ⟨⟨v, hv, hrow, _⟩, hB⟩ hK
    have hc := hv.cell
    gi_wp2
    refine ⟨by simp, .inl ⟨_, _, rfl, run_takeDeferred hK, ?_⟩⟩
    exact ⟨_, results_tmp rfl _ _ _, v, rfl, ownsRow_putObj hrow _ hK rfl, hB.trans (belowK_b (w := w) (Nat.le_refl _) W D _ _ (by simp at hD; omega) hK rfl rfl)⟩
  case stop =>
    rintro D c pre W _ _ h _
    exact h.elim
set_option maxHeartbeats 1000000 in
/-- slices.Collect over a slice's values: the same numbers in memory of the call's own. -/
theorem collect_any (Bs : Nat) (sv : Value) (zs : List Int) (hlen : zs.length ≤ 1000000) (w : World) (hBs : Bs < w.heap.size) (hc : w.cell? ⟨Bs, 0, none⟩ = some sv) (hI : Ints w.heap.size w sv zs) :
    Calls Tryz.prog 67 #[.func (.func 68) #[] #[.pointer (some ⟨Bs, 0, none⟩)]] w fun e w' => ∃ v, e = .returned v ∧ w'.ownsRow w.heap.size 2 1 v zs.length (zs.map (Value.int .i64)) ∧ Below w.heap.size w w' := by
  refine (callsIn_wide (n := 6)).1 ?_
  have hs := iter_stops Fence.wide 4 trivial rfl (by omega) Bs w.heap.size sv zs (by omega) w hBs (Nat.le_refl _) hc hI
  have cA := append_in Fence.wide 5 trivial trivial rfl (by omega) #[.pointer (some ⟨Bs, 0, none⟩)] zs hlen w hs
  have hfA : Fence.wide.fn 99 := trivial
  refine callsIn_of_wp Tryz.func67 rfl trivial ?_ rfl
  simp only [Tryz.ntmps67, List.size_toArray, List.length_cons, List.length_nil, Nat.reduceAdd, Nat.reduceSub, Array.replicate_succ, Array.replicate_zero, List.push_toArray, List.append_toArray, List.nil_append, List.cons_append]
  gi_wp2_with (gi_at_call 99; refine cA.mono ?_; rintro e w' ⟨v, rfl, hrow, hb⟩)
  go_ret
  exact ⟨v, rfl, hrow, hb⟩
end Go.Proofs.YtibaiaenfeppcaaGreatDoor.Sv

/- slices.Grow at no slice, and slices.Concat at []int64. -/
namespace Go.Proofs.YtibaiaenfeppcaaGreatDoor.Gr
open Go Go.RowKit Go.Proofs.YtibaiaenfeppcaaGreatDoorW.PrintWords Go.Proofs.YtibaiaenfeppcaaGreatDoor.Sv
set_option linter.unusedSimpArgs false in
/-- append(nil, make([]E, n)...): one append with a number for what is appended. -/
theorem run_append_make {P : Program} (w : World) (t u ty e : TypeId) (i : TypeInfo) (z : Value) (ht : P.underlying t = some (.slice e)) (hu : P.underlying u = some (.int .i64)) (hi : P.info? e = some i) (hz : i.zero = some z)
    (n : Nat) (hs1 : 0 < i.size) (h0 : 0 < n) (h63 : (n : Int) ≤ 9223372036854775807) (h48 : n * i.bytes ≤ 281474976710656) :
    (Builtin.append_ #[t, u] ty #[.slice none 0 0, .int .i64 n]).run P w =
      .ok (.slice (some ⟨w.heap.size, 0, none⟩) n (grownCap w n 0 e)) (w.drew.alloc (.cells (Builtin.zeroCells z.cells n ++ Builtin.zeroCells z.cells (grownCap w n 0 e - n)) e)) := by
  have hn : n ≠ 0 := by omega
  have h63' : ¬ (9223372036854775807 < (n : Int)) := by omega
  have h48' : ¬ (281474976710656 < Builtin.nextslicecap n 0 * i.bytes) := by rw [nextslicecap_zero h0]; omega
  have h48i : ¬ (281474976710656 < (n : Int) * (i.bytes : Int)) := by
    have h : ((n * i.bytes : Nat) : Int) = (n : Int) * (i.bytes : Int) := by simp
    rw [← h]; omega
  have hw : IntKind.i64.wrap (n : Int) = (n : Int) := by rw [IntKind.wrap_i64]; omega
  have hneg : ¬ ((n : Int) < 0) := by omega
  have hs0 : i.size ≠ 0 := by omega
  have hmx : max (n : Int) 0 = (n : Int) := by omega
  simp [Builtin.append_, run_underlying ht, run_underlying hu, sizeOf, typeInfo, zeroValue, hi, hz, hn, h63', h48', Question.forced, run_firstCells_none, newRow, grownCap, asInt, asIntOf, hw, hneg, h48i, hs0, hmx]
  exact fun h => absurd h (Nat.mul_ne_zero hn hs0)
set_option maxRecDepth 100000 in
set_option maxHeartbeats 1000000 in
/-- slices.Grow(nil, n): no slice, or room of the call's own. -/
theorem grow_any (n : Nat) (hn : n ≤ 1000000) (w : World) :
    Calls Tryz.prog 100 #[.slice none 0 0, .int .i64 n] w fun e w' => ∃ v, e = .returned v ∧ w'.ownsRow w.heap.size 2 1 v 0 [] ∧ RowKit.Below w.heap.size w w' := by
  have c0 : decide ((n : Int) < 0) = false := decide_eq_false (by omega)
  have hw : wrap64 ((n : Int) - wrap64 (0 - 0)) = (n : Int) := by unfold wrap64; omega
  by_cases h : n = 0
  · subst h
    go_enter Tryz.func100, Tryz.ntmps100
    go_wp2
    go_ret
    exact ⟨_, rfl, World.ownsRow_nil _ _ _ _, RowKit.Below.refl _ _⟩
  · obtain ⟨i0, hi, hz0, hz1, hz2⟩ := info_parts infoI
    have hr := run_append_make (P := Tryz.prog) w 35 3 35 2 i0 (.int .i64 0) Tryz.underlying35 Tryz.underlying3 hi hz0 n (by rw [hz1]; decide) (by omega) (by omega) (by rw [hz2]; omega)
    have ho := World.ownsRow_made (e := 2) (size := 1) w.drew (Builtin.zeroCells (Value.int .i64 0).cells n ++ Builtin.zeroCells (Value.int .i64 0).cells (grownCap w n 0 2 - n)) (grownCap w n 0 2) (base := w.heap.size) (Nat.le_refl _) (grownCap_le_maxLen w n 0 2 (by unfold maxLen; omega)) (by
      have := grownCap_ge w n 0 2
      simp [size_zeroCells, Value.cells]; omega)
    have hb : RowKit.Below w.heap.size w (w.drew.alloc (.cells (Builtin.zeroCells (Value.int .i64 0).cells n ++ Builtin.zeroCells (Value.int .i64 0).cells (grownCap w n 0 2 - n)) 2)) := below_alloc (below_drew1 (RowKit.Below.refl _ _)) _
    revert hr ho hb
    generalize w.drew.alloc (.cells (Builtin.zeroCells (Value.int .i64 0).cells n ++ Builtin.zeroCells (Value.int .i64 0).cells (grownCap w n 0 2 - n)) 2) = W1
    generalize grownCap w n 0 2 = cap
    intro hr ho hb
    have HR := Aside0.mk hr
    have HO := Aside0.mk ho
    have HB := Aside0.mk hb
    have c1 : decide ((0 : Int) < (n : Int)) = true := decide_eq_true (by omega)
    have hp : (0 < n) = True := eq_true (by omega)
    clear hr ho hb hi hz0 hz1 hz2 h
    go_enter Tryz.func100, Tryz.ntmps100
    go_wp2_with ((with_reducible refine gate_dst (N := 22) rfl ?_); refine Kd.event_run (by rfl) (v := .slice (some ⟨w.heap.size, 0, none⟩) n cap) (w1 := W1) (by have h_ := HR.out; simp [execOp, resolve, invoke, builtin, Act.eval, h_, Result.andThen]) ?_)
    go_ret
    exact ⟨_, rfl, HO.out, HB.out⟩
end Go.Proofs.YtibaiaenfeppcaaGreatDoor.Gr

/- slices.Concat at []int64: the lists one behind the other, in memory of the call's own. -/
namespace Go.Proofs.YtibaiaenfeppcaaGreatDoor.Gr
open Go Go.RowKit Go.Proofs.YtibaiaenfeppcaaGreatDoorW.PrintWords Go.Proofs.YtibaiaenfeppcaaGreatDoor.Sv
def rdl (xs : List (List Int)) (i : Int) : List Int := xs.getD i.toNat []
theorem at_rows {w : World} {A : Option Addr} {n : Nat} {xs : List (List Int)} (h : Kd.C (Kd.slice 2 (Kd.int .i64)) w A n xs) (i : Int) (h0 : 0 ≤ i) (h1 : i < n) : ∃ ad A0 c0, A = some ad ∧ w.cell? (ad.add i.toNat) = some (.slice A0 (rdl xs i).length c0) ∧ (rdl xs i).length ≤ c0 ∧ (Kd.int .i64).C w A0 (rdl xs i).length (rdl xs i) := by
  obtain ⟨ad, c, e, _, hK, hc0⟩ := Kd.C_get h ([] : List Int) i h0 h1
  have hc : ∀ j u, c[j]? = some u → w.cell? (ad.add (i.toNat * 1 + j)) = some u := hc0
  obtain ⟨A0, c0, rfl, l0, g0⟩ := hK
  exact ⟨ad, A0, c0, e, by have hq := hc 0 _ rfl; rwa [Nat.mul_one, Nat.add_zero] at hq, l0, g0⟩
/-- The first lists, one behind the other. -/
def cat (xs : List (List Int)) (j : Nat) : List Int := (xs.take j).flatten
theorem cat_all (xs : List (List Int)) : cat xs xs.length = xs.flatten := by simp [cat]
theorem cat_succ (xs : List (List Int)) (j : Nat) (h : j < xs.length) : cat xs (j + 1) = cat xs j ++ rdl xs (j : Int) := by
  have e : rdl xs (j : Int) = xs[j] := by simp [rdl, h]
  rw [e]; unfold cat
  rw [List.take_succ_eq_append_getElem h, List.flatten_append]; simp
theorem cat_le (xs : List (List Int)) (j : Nat) : (cat xs j).length ≤ xs.flatten.length := by
  have : xs.flatten = cat xs j ++ (xs.drop j).flatten := by unfold cat; rw [← List.flatten_append, List.take_append_drop]
  rw [this, List.length_append]; omega
theorem infoK : (Tryz.prog.info? 2).map (fun i => (i.zero, i.size, i.bytes)) = some (some (.int .i64 0), 1, 8) := by kernel_rfl
set_option maxRecDepth 100000 in
set_option maxHeartbeats 2000000 in
theorem concat_any (A : Option Addr) (c : Nat) (xs : List (List Int)) (hn : xs.length ≤ 1000000) (hl : xs.flatten.length ≤ 1000000) (w : World) (hr : Kd.C (Kd.slice 2 (Kd.int .i64)) w A xs.length xs) :
    Calls Tryz.prog 69 #[.slice A xs.length c] w fun e w' => ∃ v, e = .returned v ∧ Kd.R (Kd.int .i64) 2 w' w.heap.size (fun _ => True) v xs.flatten ∧ RowKit.Below w.heap.size w w' := by
  have HR := Aside0.mk hr
  have HL := Aside0.mk hl
  have HN := Aside0.mk hn
  clear hr hl hn
  go_enter Tryz.func69, Tryz.ntmps69
  go_wp2
  go_loopw [3, 11] (fun v3 v11 wz => ∃ j : Nat, j ≤ xs.length ∧ v3 = .int .i64 ((cat xs j).length : Int) ∧ v11 = .int .i64 (j : Int) ∧ wz = w) (fun _ v _ => xs.length - (intOf v).toNat)
  case atStart => exact ⟨0, by omega, by simp [cat], rfl, rfl⟩
  case round =>
    obtain ⟨j, hj, rfl, rfl, hwr⟩ := hrel
    have hwr' := hwr.symm
    subst hwr'
    clear hwr
    have hN := HN.out
    have hcl := cat_le xs j
    have hL := HL.out
    by_cases hlt : j < xs.length
    · have c0 : decide ((j : Int) < (xs.length : Int)) = true := decide_eq_true (by omega)
      have p1 : 0 ≤ (j : Int) := by omega
      have q1 : (j : Int) < (xs.length : Int) := by omega
      obtain ⟨ad, A0, c0', rfl, hx, _, _⟩ := at_rows HR.out (j : Int) p1 q1
      simp only [Int.toNat_natCast] at hx
      have hs := cat_succ xs j hlt
      have hcl2 := cat_le xs (j + 1)
      obtain ⟨m, hm⟩ : ∃ m, m = (rdl xs (j : Int)).length := ⟨_, rfl⟩
      obtain ⟨k, hk⟩ : ∃ k, k = (cat xs j).length := ⟨_, rfl⟩
      have hk2 : (cat xs (j + 1)).length = k + m := by rw [hs, List.length_append, hk, hm]
      have hw1 : wrap64 ((k : Int) + (m : Int)) = ((k + m : Nat) : Int) := by unfold wrap64; omega
      have hw2 : wrap64 ((j : Int) + 1) = ((j + 1 : Nat) : Int) := by unfold wrap64; omega
      have c1 : decide (wrap64 ((k : Int) + (m : Int)) < 0) = false := decide_eq_false (by rw [hw1]; omega)
      rw [← hm] at hx
      rw [← hk]
      replace p1 := eq_true p1
      replace q1 := eq_true q1
      have HK := Aside0.mk (And.intro hk2 (And.intro hw1 hw2))
      have HJ := Aside0.mk hlt
      clear hw1 hw2 hk2 hs hcl hcl2 hm hk hlt
      go_wp2
      go_roundw
      case rel => exact ⟨j + 1, by have := HJ.out; omega, by have h1 := HK.out.1; have h2 := HK.out.2.1; congr 1; omega, by have h2 := HK.out.2.2; first | (congr 1; done) | (congr 1; omega), by first | rfl | trivial⟩
      case measure => have := HJ.out; have h2 := HK.out.2.2; simp only [intOf]; omega
    · have c0 : decide ((j : Int) < (xs.length : Int)) = false := decide_eq_false (by omega)
      obtain rfl : j = xs.length := by omega
      obtain ⟨k, hk⟩ : ∃ k, k = (cat xs xs.length).length := ⟨_, rfl⟩
      have HK := Aside0.mk hk
      rw [← hk]
      have hk1 : k ≤ 1000000 := by omega
      clear hlt hcl hk
      go_wp2_with (go_at_call 100; refine (grow_any k hk1 _).mono ?_; rintro e w1 ⟨v, rfl, ho, hb⟩; have HO := Aside0.mk ho; have HB := Aside0.mk hb; clear ho hb)
      have h0 : Kd.R (Kd.int .i64) 2 w1 w.heap.size (fun _ => True) v (cat xs 0) := Kd.R_of_own (xs := []) HO.out (fun _ _ => trivial)
      have H0 := Aside0.mk h0
      clear h0
      have HN0 := Aside0.mk hN
      have HL0 := Aside0.mk hL
      clear hN hL hj c0 hk1
      go_loopw [6, 27] (fun v6 v27 wz => ∃ j : Nat, j ≤ xs.length ∧ v27 = .int .i64 (j : Int) ∧ Aside0 (Kd.R (Kd.int .i64) 2 wz w.heap.size (fun _ => True) v6 (cat xs j)) ∧ Aside0 (RowKit.Below w.heap.size w wz)) (fun _ v _ => xs.length - (intOf v).toNat)
      case atStart => exact ⟨0, by omega, rfl, H0, HB⟩
      case round =>
        obtain ⟨j, hj, rfl, hv, hb⟩ := hrel
        have hN := HN0.out
        by_cases hlt : j < xs.length
        · have c0 : decide ((j : Int) < (xs.length : Int)) = true := decide_eq_true (by omega)
          have p1 : 0 ≤ (j : Int) := by omega
          have q1 : (j : Int) < (xs.length : Int) := by omega
          obtain ⟨ad, A0, c0', rfl, hx, hcx, hCx⟩ := at_rows HR.out (j : Int) p1 q1
          simp only [Int.toNat_natCast] at hx
          replace hx := pw_cell_below hb.out hx
          have HX := Aside0.mk (Kd.C_below hCx hb.out)
          have hs := cat_succ xs j hlt
          have hcl := cat_le xs (j + 1)
          have hlen := Aside0.mk (show ((cat xs j).length + (rdl xs (j : Int)).length) * 8 ≤ 140737488355328 by have hL := HL0.out; rw [hs, List.length_append] at hcl; omega)
          have HS := Aside0.mk hs
          have HJ := Aside0.mk hlt
          have HW := Aside0.mk (show wrap64 ((j : Int) + 1) = ((j + 1 : Nat) : Int) by unfold wrap64; omega)
          replace p1 := eq_true p1
          replace q1 := eq_true q1
          clear hs hcl hlt hcx hCx
          go_wp2_with ((with_reducible refine gate_dst (N := 33) rfl ?_); refine Kd.R_append_row (Value.int .i64) (0 : Int) (w0 := w) w.heap.size (by rfl) (.tmp 31) (.tmp 32) 35 2 (.int .i64 0) 8 rfl Tryz.underlying35 infoK rfl (by decide) _ (cat xs j) (rdl xs (j : Int)) A0 _ c0' (fun _ => True) rfl rfl (fun _ _ => trivial) hv.out HX.out hb.out hb.out.size hlen.out ?_; intro v1 w2 h1 h2 h3 h4; have H1 := Aside0.mk h1; have H2 := Aside0.mk h2; clear h1 h2 h3 h4)
          go_roundw
          case rel => exact ⟨j + 1, by have := HJ.out; omega, by have h2 := HW.out; first | (congr 1; done) | (congr 1; omega), ⟨by rw [HS.out]; exact H1.out⟩, H2⟩
          case measure => have := HJ.out; have h2 := HW.out; simp only [intOf]; omega
        · have c0 : decide ((j : Int) < (xs.length : Int)) = false := decide_eq_false (by omega)
          obtain rfl : j = xs.length := by omega
          clear hlt
          go_wp2
          go_ret
          exact ⟨_, rfl, by rw [← cat_all]; exact hv.out, hb.out⟩
end Go.Proofs.YtibaiaenfeppcaaGreatDoor.Gr

/-
  DERIVED: THE SHELF's CONTRACTS AT THIS DUMP, IN PLAIN WORDS (tools/lay-plain.mjs out of 'TryzShelf.lean', which tools/lay-shelf.mjs wrote): THE SAME DECLARATIONS UNDER THE SAME NAMES: 'import', 'namespace', 'open', 'def', 'theorem' AND NOTHING ELSE: no command of the shelf's: FOR A HAND-IN. Each laying: the table of numbers ('.._ren') and one theorem, a field a fact of the dump's own or the kernel's comparison; each contract: ONE APPLICATION.
-/
namespace Go.Proofs
open Go.Shelf
def Tryz.lays169_ren : Go.Shelf.Ren := ⟨fun | 169 => 78 | n => n, fun | 70 => 99 | 9 => 9 | 0 => 0 | 72 => 101 | 37 => 30 | 127 => 127 | 3 => 3 | 5 => 5 | n => n, fun | n => n⟩
def Tryz.lays241_ren : Go.Shelf.Ren := ⟨fun | 241 => 104 | 277 => 124 | n => n, fun | 70 => 99 | 3 => 3 | 0 => 0 | 72 => 101 | 37 => 30 | 5 => 5 | n => n, fun | n => n⟩
def Tryz.lays165_ren : Go.Shelf.Ren := ⟨fun | 165 => 76 | 240 => 103 | 241 => 104 | 276 => 123 | 277 => 124 | n => n, fun | 70 => 99 | 3 => 3 | 0 => 0 | 4 => 4 | 9 => 9 | 20 => 20 | 72 => 101 | 37 => 30 | 164 => 147 | 5 => 5 | n => n, fun | n => n⟩
def Tryz.lays156_ren : Go.Shelf.Ren := ⟨fun | 156 => 58 | 165 => 76 | 166 => 77 | 169 => 78 | 240 => 103 | 241 => 104 | 276 => 123 | 277 => 124 | n => n, fun | 31 => 50 | 9 => 9 | 3 => 3 | 4 => 4 | 0 => 0 | 20 => 20 | 72 => 101 | 76 => 103 | 70 => 99 | 37 => 30 | 75 => 88 | 127 => 127 | 164 => 147 | 5 => 5 | 80 => 105 | n => n, fun | n => n⟩
theorem Tryz.lays156 : Go.Proofs.Lays.n156 Tryz.prog Tryz.lays156_ren := {
  mixed := by kernel_rfl
  f156 := Tryz.func58.trans (congrArg some (by kernel_rfl))
  f165 := Tryz.func76.trans (congrArg some (by kernel_rfl))
  f166 := Tryz.func77.trans (congrArg some (by kernel_rfl))
  f169 := Tryz.func78.trans (congrArg some (by kernel_rfl))
  f240 := Tryz.func103.trans (congrArg some (by kernel_rfl))
  f241 := Tryz.func104.trans (congrArg some (by kernel_rfl))
  f276 := Tryz.func123.trans (congrArg some (by kernel_rfl))
  f277 := Tryz.func124.trans (congrArg some (by kernel_rfl))
  t0 := Tryz.underlying0
  a0 := Tryz.isAgg0
  z0 := Tryz.sizeOf0
  v0 := Tryz.zeroValue0
  t3 := Tryz.underlying3
  a3 := Tryz.isAgg3
  z3 := Tryz.sizeOf3
  v3 := Tryz.zeroValue3
  t4 := Tryz.underlying4
  a4 := Tryz.isAgg4
  z4 := Tryz.sizeOf4
  v4 := Tryz.zeroValue4
  t9 := Tryz.underlying9
  a9 := Tryz.isAgg9
  z9 := Tryz.sizeOf9
  v9 := Tryz.zeroValue9
  t20 := Tryz.underlying20
  a20 := Tryz.isAgg20
  z20 := Tryz.sizeOf20
  v20 := Tryz.zeroValue20
  t31 := Tryz.underlying50
  a31 := Tryz.isAgg50
  z31 := Tryz.sizeOf50
  v31 := Tryz.zeroValue50
  t37 := Tryz.underlying30
  a37 := Tryz.isAgg30
  z37 := Tryz.sizeOf30
  v37 := Tryz.zeroValue30
  t70 := Tryz.underlying99
  a70 := Tryz.isAgg99
  z70 := Tryz.sizeOf99
  v70 := Tryz.zeroValue99
  t72 := Tryz.underlying101
  a72 := Tryz.isAgg101
  z72 := Tryz.sizeOf101
  v72 := Tryz.zeroValue101
  t75 := Tryz.underlying88
  a75 := Tryz.isAgg88
  z75 := Tryz.sizeOf88
  v75 := Tryz.zeroValue88
  t76 := Tryz.underlying103
  a76 := Tryz.isAgg103
  z76 := Tryz.sizeOf103
  v76 := Tryz.zeroValue103
  t127 := Tryz.underlying127
  a127 := Tryz.isAgg127
  z127 := Tryz.sizeOf127
  v127 := Tryz.zeroValue127
  t164 := Tryz.underlying147
  a164 := Tryz.isAgg147
  z164 := Tryz.sizeOf147
  v164 := Tryz.zeroValue147 }
theorem Tryz.Builder_Extra_156 : Builder.Extra Tryz.prog Tryz.lays156_ren := {
  sizeBuilder := by kernel_rfl
  liesBuilder := by kernel_rfl
  t5 := Tryz.underlying5
  a5 := Tryz.isAgg5
  z5 := Tryz.sizeOf5
  v5 := Tryz.zeroValue5
  infoByte := by kernel_rfl
  cellsByte := by kernel_rfl
  sizeByte := by kernel_rfl
  neB5 := by decide }
open Go.RowKit in
/-- No element: the empty string; the world is as it was. (Whatever the slice's address and capacity: a nil slice too.) (LAID: no walk: one application.) -/
theorem Tryz.strings_Join_none (a : Option Addr) (c : Nat) (sep : ByteArray) (w : World) :
    Calls Tryz.prog 58 #[.slice a 0 c, .string sep] w fun e w' => e = .returned (.string ⟨#[]⟩) ∧ w' = w := Any.strings_Join_none Tryz.lays156 Tryz.Builder_Extra_156 a c sep w
open Go.RowKit in
/-- strings.Join: "Join concatenates the elements of its first argument to create a single string. The separator string sep is placed between elements in the resulting string.": HOWEVER MANY ELEMENTS. Below the heap's end the world is as it was. (LAID: no walk: one application.) -/
theorem Tryz.strings_Join (bk o c : Nat) (xs : List ByteArray) (sep : ByteArray) (w : World) (hcells : ∀ (j : Nat) x, xs[j]? = some x → w.cell? ⟨bk, o + j, none⟩ = some (.string x)) (hbk : bk < w.heap.size) (hN : xs.length ≤ 140737488355328) (hcap : xs.length ≤ c) (hlen : (Lib.join (xs.map (·.data.toList)) sep.data.toList).length ≤ 140737488355328) :
    Calls Tryz.prog 58 #[.slice (some ⟨bk, o, none⟩) xs.length c, .string sep] w fun e w' => e = .returned (.string ⟨(Lib.join (xs.map (·.data.toList)) sep.data.toList).toArray⟩) ∧ Below w.heap.size w w' := Any.strings_Join Tryz.lays156 Tryz.Builder_Extra_156 bk o c xs sep w hcells hbk hN hcap hlen
def Tryz.lays128_ren : Go.Shelf.Ren := ⟨fun | 128 => 88 | n => n, fun | 51 => 116 | 3 => 3 | 4 => 4 | 46 => 84 | 5 => 5 | 9 => 9 | n => n, fun | n => n⟩
def Tryz.lays125_ren : Go.Shelf.Ren := ⟨fun | 125 => 60 | 128 => 88 | 129 => 89 | n => n, fun | 46 => 84 | 3 => 3 | 51 => 116 | 53 => 76 | 4 => 4 | 5 => 5 | 9 => 9 | n => n, fun | n => n⟩
def Tryz.lays195_ren : Go.Shelf.Ren := ⟨fun | 195 => 96 | n => n, fun | 9 => 9 | 3 => 3 | 0 => 0 | 4 => 4 | n => n, fun | n => n⟩
def Tryz.lays129_ren : Go.Shelf.Ren := ⟨fun | 129 => 89 | n => n, fun | 53 => 76 | 3 => 3 | 4 => 4 | 46 => 84 | 5 => 5 | 9 => 9 | n => n, fun | n => n⟩
def Tryz.lays317_ren : Go.Shelf.Ren := ⟨fun | 317 => 131 | n => n, fun | 3 => 3 | 46 => 84 | n => n, fun | n => n⟩
def Tryz.lays318_ren : Go.Shelf.Ren := ⟨fun | 318 => 132 | n => n, fun | 3 => 3 | 4 => 4 | n => n, fun | n => n⟩
def Tryz.lays283_ren : Go.Shelf.Ren := ⟨fun | 283 => 119 | n => n, fun | 3 => 3 | 9 => 9 | 4 => 4 | n => n, fun | n => n⟩
def Tryz.laysM284_ren : Go.Shelf.Ren := ⟨fun | 284 => 120 | 129 => 89 | 317 => 131 | 318 => 132 | n => n, fun | 53 => 76 | 3 => 3 | 212 => 163 | 0 => 0 | 4 => 4 | 46 => 84 | 5 => 5 | 9 => 9 | n => n, fun | 17 => 5 | n => n⟩
def Tryz.lays285_ren : Go.Shelf.Ren := ⟨fun | 285 => 121 | n => n, fun | 37 => 30 | 53 => 76 | 3 => 3 | 4 => 4 | 51 => 116 | 9 => 9 | 5 => 5 | 0 => 0 | n => n, fun | n => n⟩
def Tryz.laysM246_ren : Go.Shelf.Ren := ⟨fun | 246 => 102 | 283 => 119 | 284 => 120 | 285 => 121 | 286 => 122 | 129 => 89 | 317 => 131 | 318 => 132 | 319 => 133 | 320 => 134 | 337 => 136 | 338 => 137 | n => n, fun | 2 => 2 | 3 => 3 | 9 => 9 | 4 => 4 | 171 => 143 | 0 => 0 | 53 => 76 | 37 => 30 | 5 => 5 | 173 => 145 | 212 => 163 | 51 => 116 | 20 => 20 | 213 => 164 | 46 => 84 | 232 => 169 | 233 => 170 | n => n, fun | 17 => 5 | 18 => 6 | 19 => 7 | n => n⟩
def Tryz.lays246_ren : Go.Shelf.Ren := ⟨fun | 246 => 102 | 283 => 119 | 284 => 120 | 285 => 121 | 286 => 122 | 129 => 89 | 317 => 131 | 318 => 132 | 319 => 133 | 320 => 134 | 337 => 136 | 338 => 137 | n => n, fun | 2 => 2 | 3 => 3 | 9 => 9 | 4 => 4 | 171 => 143 | 0 => 0 | 53 => 76 | 37 => 30 | 5 => 5 | 173 => 145 | 212 => 163 | 51 => 116 | 20 => 20 | 213 => 164 | 46 => 84 | 232 => 169 | 233 => 170 | n => n, fun | 17 => 5 | 18 => 6 | 19 => 7 | n => n⟩
def Tryz.laysM243_ren : Go.Shelf.Ren := ⟨fun | 243 => 135 | 246 => 102 | 283 => 119 | 284 => 120 | 285 => 121 | 286 => 122 | 129 => 89 | 317 => 131 | 318 => 132 | 319 => 133 | 320 => 134 | 337 => 136 | 338 => 137 | n => n, fun | 3 => 3 | 9 => 9 | 2 => 2 | 4 => 4 | 171 => 143 | 0 => 0 | 53 => 76 | 37 => 30 | 5 => 5 | 173 => 145 | 212 => 163 | 51 => 116 | 20 => 20 | 213 => 164 | 46 => 84 | 232 => 169 | 233 => 170 | n => n, fun | 17 => 5 | 18 => 6 | 19 => 7 | n => n⟩
def Tryz.lays243_ren : Go.Shelf.Ren := ⟨fun | 243 => 135 | 246 => 102 | 283 => 119 | 284 => 120 | 285 => 121 | 286 => 122 | 129 => 89 | 317 => 131 | 318 => 132 | 319 => 133 | 320 => 134 | 337 => 136 | 338 => 137 | n => n, fun | 3 => 3 | 9 => 9 | 2 => 2 | 4 => 4 | 171 => 143 | 0 => 0 | 53 => 76 | 37 => 30 | 5 => 5 | 173 => 145 | 212 => 163 | 51 => 116 | 20 => 20 | 213 => 164 | 46 => 84 | 232 => 169 | 233 => 170 | n => n, fun | 17 => 5 | 18 => 6 | 19 => 7 | n => n⟩
def Tryz.laysM171_ren : Go.Shelf.Ren := ⟨fun | 171 => 130 | 243 => 135 | 246 => 102 | 283 => 119 | 284 => 120 | 285 => 121 | 286 => 122 | 129 => 89 | 317 => 131 | 318 => 132 | 319 => 133 | 320 => 134 | 337 => 136 | 338 => 137 | n => n, fun | 3 => 3 | 9 => 9 | 2 => 2 | 4 => 4 | 171 => 143 | 0 => 0 | 53 => 76 | 37 => 30 | 5 => 5 | 173 => 145 | 212 => 163 | 51 => 116 | 20 => 20 | 213 => 164 | 46 => 84 | 232 => 169 | 233 => 170 | n => n, fun | 17 => 5 | 18 => 6 | 19 => 7 | n => n⟩
def Tryz.lays171_ren : Go.Shelf.Ren := ⟨fun | 171 => 130 | 243 => 135 | 246 => 102 | 283 => 119 | 284 => 120 | 285 => 121 | 286 => 122 | 129 => 89 | 317 => 131 | 318 => 132 | 319 => 133 | 320 => 134 | 337 => 136 | 338 => 137 | n => n, fun | 3 => 3 | 9 => 9 | 2 => 2 | 4 => 4 | 171 => 143 | 0 => 0 | 53 => 76 | 37 => 30 | 5 => 5 | 173 => 145 | 212 => 163 | 51 => 116 | 20 => 20 | 213 => 164 | 46 => 84 | 232 => 169 | 233 => 170 | n => n, fun | 17 => 5 | 18 => 6 | 19 => 7 | n => n⟩
def Tryz.laysM173_ren : Go.Shelf.Ren := ⟨fun | 173 => 75 | 246 => 102 | 283 => 119 | 284 => 120 | 285 => 121 | 286 => 122 | 129 => 89 | 317 => 131 | 318 => 132 | 319 => 133 | 320 => 134 | 337 => 136 | 338 => 137 | n => n, fun | 2 => 2 | 3 => 3 | 9 => 9 | 4 => 4 | 171 => 143 | 0 => 0 | 53 => 76 | 37 => 30 | 5 => 5 | 173 => 145 | 212 => 163 | 51 => 116 | 20 => 20 | 213 => 164 | 46 => 84 | 232 => 169 | 233 => 170 | n => n, fun | 17 => 5 | 18 => 6 | 19 => 7 | n => n⟩
theorem Tryz.laysM173 : Go.Proofs.LaysM.n173 Tryz.prog Tryz.laysM173_ren := {
  mixed := by kernel_rfl
  f129 := Tryz.func89.trans (congrArg some (by kernel_rfl))
  f173 := Tryz.func75.trans (congrArg some (by kernel_rfl))
  f246 := Tryz.func102.trans (congrArg some (by kernel_rfl))
  f283 := Tryz.func119.trans (congrArg some (by kernel_rfl))
  f284 := Tryz.func120.trans (congrArg some (by kernel_rfl))
  f285 := Tryz.func121.trans (congrArg some (by kernel_rfl))
  f286 := Tryz.func122.trans (congrArg some (by kernel_rfl))
  f317 := Tryz.func131.trans (congrArg some (by kernel_rfl))
  f318 := Tryz.func132.trans (congrArg some (by kernel_rfl))
  f319 := Tryz.func133.trans (congrArg some (by kernel_rfl))
  f320 := Tryz.func134.trans (congrArg some (by kernel_rfl))
  f337 := Tryz.func136.trans (congrArg some (by kernel_rfl))
  f338 := Tryz.func137.trans (congrArg some (by kernel_rfl))
  t0 := Tryz.underlying0
  a0 := Tryz.isAgg0
  z0 := Tryz.sizeOf0
  v0 := Tryz.zeroValue0
  t2 := Tryz.underlying2
  a2 := Tryz.isAgg2
  z2 := Tryz.sizeOf2
  v2 := Tryz.zeroValue2
  t3 := Tryz.underlying3
  a3 := Tryz.isAgg3
  z3 := Tryz.sizeOf3
  v3 := Tryz.zeroValue3
  t4 := Tryz.underlying4
  a4 := Tryz.isAgg4
  z4 := Tryz.sizeOf4
  v4 := Tryz.zeroValue4
  t5 := Tryz.underlying5
  a5 := Tryz.isAgg5
  z5 := Tryz.sizeOf5
  v5 := Tryz.zeroValue5
  t9 := Tryz.underlying9
  a9 := Tryz.isAgg9
  z9 := Tryz.sizeOf9
  v9 := Tryz.zeroValue9
  t20 := Tryz.underlying20
  a20 := Tryz.isAgg20
  z20 := Tryz.sizeOf20
  v20 := Tryz.zeroValue20
  t37 := Tryz.underlying30
  a37 := Tryz.isAgg30
  z37 := Tryz.sizeOf30
  v37 := Tryz.zeroValue30
  t46 := Tryz.underlying84
  a46 := Tryz.isAgg84
  z46 := Tryz.sizeOf84
  v46 := Tryz.zeroValue84
  t51 := Tryz.underlying116
  a51 := Tryz.isAgg116
  z51 := Tryz.sizeOf116
  v51 := Tryz.zeroValue116
  t53 := Tryz.underlying76
  a53 := Tryz.isAgg76
  z53 := Tryz.sizeOf76
  v53 := Tryz.zeroValue76
  t171 := Tryz.underlying143
  a171 := Tryz.isAgg143
  z171 := Tryz.sizeOf143
  v171 := Tryz.zeroValue143
  t173 := Tryz.underlying145
  a173 := Tryz.isAgg145
  z173 := Tryz.sizeOf145
  v173 := Tryz.zeroValue145
  t212 := Tryz.underlying163
  a212 := Tryz.isAgg163
  z212 := Tryz.sizeOf163
  v212 := Tryz.zeroValue163
  t213 := Tryz.underlying164
  a213 := Tryz.isAgg164
  z213 := Tryz.sizeOf164
  t232 := Tryz.underlying169
  a232 := Tryz.isAgg169
  z232 := Tryz.sizeOf169
  v232 := Tryz.zeroValue169
  t233 := Tryz.underlying170
  a233 := Tryz.isAgg170
  z233 := Tryz.sizeOf170
  v233 := Tryz.zeroValue170
  g17 := by kernel_rfl
  g18 := by kernel_rfl
  g19 := by kernel_rfl
  i0 := by kernel_rfl
  i2 := by kernel_rfl
  i3 := by kernel_rfl
  i4 := by kernel_rfl
  i5 := by kernel_rfl
  i9 := by kernel_rfl
  i20 := by kernel_rfl
  i37 := by kernel_rfl
  i46 := by kernel_rfl
  i51 := by kernel_rfl
  i53 := by kernel_rfl
  i171 := by kernel_rfl
  i173 := by kernel_rfl
  i212 := by kernel_rfl
  i232 := by kernel_rfl
  i233 := by kernel_rfl
  m17 := by kernel_rfl
  m18 := by kernel_rfl
  m19 := by kernel_rfl }
open Go.RowKit Go.Sort Go.Lib in
/-- strconv.FormatInt: "FormatInt returns the string representation of i in the given base": AT BASE 10: i's decimal numeral, for every int64. (LAID: no walk: one application.) -/
theorem Tryz.strconv_FormatInt_10 (n : Int) (h0 : -9223372036854775808 ≤ n) (h1 : n ≤ 9223372036854775807) (w : World) (htab : Lib.TabIs Tryz.prog w "internal/strconv.uint64pow10" .u64 Lib.pow10Tab) :
    Calls Tryz.prog 75 #[.int .i64 n, .int .i64 10] w fun e w' => e = .returned (.string ⟨(Lib.itoa n).toArray⟩) ∧ ∃ k os, w' = grow (w.drewN k) os := Any.strconv_FormatInt_10 Tryz.laysM173 n h0 h1 w htab
def Tryz.lays173_ren : Go.Shelf.Ren := ⟨fun | 173 => 75 | 246 => 102 | 283 => 119 | 284 => 120 | 285 => 121 | 286 => 122 | 129 => 89 | 317 => 131 | 318 => 132 | 319 => 133 | 320 => 134 | 337 => 136 | 338 => 137 | n => n, fun | 2 => 2 | 3 => 3 | 9 => 9 | 4 => 4 | 171 => 143 | 0 => 0 | 53 => 76 | 37 => 30 | 5 => 5 | 173 => 145 | 212 => 163 | 51 => 116 | 20 => 20 | 213 => 164 | 46 => 84 | 232 => 169 | 233 => 170 | n => n, fun | 17 => 5 | 18 => 6 | 19 => 7 | n => n⟩
def Tryz.lays247_ren : Go.Shelf.Ren := ⟨fun | 247 => 94 | 287 => 113 | 321 => 126 | 322 => 127 | n => n, fun | 9 => 9 | 3 => 3 | 2 => 2 | 75 => 88 | 4 => 4 | 167 => 136 | 5 => 5 | 53 => 76 | 175 => 137 | 46 => 84 | 37 => 30 | 0 => 0 | 21 => 21 | 80 => 105 | n => n, fun | n => n⟩
def Tryz.laysM316_ren : Go.Shelf.Ren := ⟨fun | 316 => 128 | n => n, fun | 9 => 9 | 3 => 3 | 4 => 4 | 37 => 30 | 0 => 0 | 127 => 127 | 5 => 5 | n => n, fun | n => n⟩
def Tryz.laysM279_ren : Go.Shelf.Ren := ⟨fun | 279 => 114 | 316 => 128 | n => n, fun | 9 => 9 | 168 => 139 | 75 => 88 | 210 => 156 | 3 => 3 | 4 => 4 | 37 => 30 | 0 => 0 | 127 => 127 | 80 => 105 | 5 => 5 | n => n, fun | 15 => 1 | n => n⟩
def Tryz.laysC245_ren : Go.Shelf.Ren := ⟨fun | 245 => 95 | 279 => 114 | 280 => 115 | 281 => 116 | 282 => 117 | 316 => 128 | 171 => 130 | 205 => 129 | 243 => 135 | 246 => 102 | 283 => 119 | 284 => 120 | 285 => 121 | 286 => 122 | 129 => 89 | 317 => 131 | 318 => 132 | 319 => 133 | 320 => 134 | 337 => 136 | 338 => 137 | n => n, fun | 9 => 9 | 3 => 3 | 75 => 88 | 167 => 136 | 4 => 4 | 168 => 139 | 210 => 156 | 37 => 30 | 0 => 0 | 127 => 127 | 145 => 168 | 143 => 166 | 2 => 2 | 171 => 143 | 53 => 76 | 5 => 5 | 173 => 145 | 212 => 163 | 51 => 116 | 20 => 20 | 213 => 164 | 46 => 84 | 232 => 169 | 233 => 170 | 80 => 105 | n => n, fun | 15 => 1 | 16 => 2 | 17 => 5 | 18 => 6 | 19 => 7 | n => n⟩
def Tryz.lays321_ren : Go.Shelf.Ren := ⟨fun | 321 => 126 | n => n, fun | 5 => 5 | n => n, fun | n => n⟩
def Tryz.lays287_ren : Go.Shelf.Ren := ⟨fun | 287 => 113 | 321 => 126 | 322 => 127 | n => n, fun | 9 => 9 | 3 => 3 | 53 => 76 | 75 => 88 | 4 => 4 | 167 => 136 | 5 => 5 | 46 => 84 | 37 => 30 | 0 => 0 | 21 => 21 | 80 => 105 | n => n, fun | n => n⟩
def Tryz.laysC247_ren : Go.Shelf.Ren := ⟨fun | 247 => 94 | 287 => 113 | 321 => 126 | 322 => 127 | n => n, fun | 9 => 9 | 3 => 3 | 2 => 2 | 75 => 88 | 4 => 4 | 167 => 136 | 5 => 5 | 53 => 76 | 175 => 137 | 46 => 84 | 37 => 30 | 0 => 0 | 21 => 21 | 80 => 105 | n => n, fun | n => n⟩
def Tryz.laysM280_ren : Go.Shelf.Ren := ⟨fun | 280 => 115 | 316 => 128 | n => n, fun | 9 => 9 | 168 => 139 | 75 => 88 | 210 => 156 | 3 => 3 | 4 => 4 | 37 => 30 | 0 => 0 | 127 => 127 | 80 => 105 | 5 => 5 | n => n, fun | 16 => 2 | n => n⟩
def Tryz.laysC174_ren : Go.Shelf.Ren := ⟨fun | 174 => 63 | 247 => 94 | 245 => 95 | 287 => 113 | 279 => 114 | 280 => 115 | 281 => 116 | 282 => 117 | 321 => 126 | 322 => 127 | 316 => 128 | 171 => 130 | 205 => 129 | 243 => 135 | 246 => 102 | 283 => 119 | 284 => 120 | 285 => 121 | 286 => 122 | 129 => 89 | 317 => 131 | 318 => 132 | 319 => 133 | 320 => 134 | 337 => 136 | 338 => 137 | n => n, fun | 9 => 9 | 3 => 3 | 2 => 2 | 75 => 88 | 85 => 89 | 4 => 4 | 167 => 136 | 5 => 5 | 53 => 76 | 175 => 137 | 46 => 84 | 168 => 139 | 37 => 30 | 0 => 0 | 210 => 156 | 21 => 21 | 127 => 127 | 145 => 168 | 143 => 166 | 171 => 143 | 173 => 145 | 212 => 163 | 51 => 116 | 20 => 20 | 213 => 164 | 232 => 169 | 233 => 170 | 80 => 105 | n => n, fun | 15 => 1 | 16 => 2 | 17 => 5 | 18 => 6 | 19 => 7 | n => n⟩
theorem Tryz.laysC174 : Go.Proofs.LaysC.n174 Tryz.prog Tryz.laysC174_ren := {
  mixed := by kernel_rfl
  f129 := Tryz.func89.trans (congrArg some (by kernel_rfl))
  f171 := Tryz.func130.trans (congrArg some (by kernel_rfl))
  f174 := Tryz.func63.trans (congrArg some (by kernel_rfl))
  f205 := Tryz.func129.trans (congrArg some (by kernel_rfl))
  f243 := Tryz.func135.trans (congrArg some (by kernel_rfl))
  f245 := Tryz.func95.trans (congrArg some (by kernel_rfl))
  f246 := Tryz.func102.trans (congrArg some (by kernel_rfl))
  f247 := Tryz.func94.trans (congrArg some (by kernel_rfl))
  f279 := Tryz.func114.trans (congrArg some (by kernel_rfl))
  f280 := Tryz.func115.trans (congrArg some (by kernel_rfl))
  f281 := Tryz.func116.trans (congrArg some (by kernel_rfl))
  f282 := Tryz.func117.trans (congrArg some (by kernel_rfl))
  f283 := Tryz.func119.trans (congrArg some (by kernel_rfl))
  f284 := Tryz.func120.trans (congrArg some (by kernel_rfl))
  f285 := Tryz.func121.trans (congrArg some (by kernel_rfl))
  f286 := Tryz.func122.trans (congrArg some (by kernel_rfl))
  f287 := Tryz.func113.trans (congrArg some (by kernel_rfl))
  f316 := Tryz.func128.trans (congrArg some (by kernel_rfl))
  f317 := Tryz.func131.trans (congrArg some (by kernel_rfl))
  f318 := Tryz.func132.trans (congrArg some (by kernel_rfl))
  f319 := Tryz.func133.trans (congrArg some (by kernel_rfl))
  f320 := Tryz.func134.trans (congrArg some (by kernel_rfl))
  f321 := Tryz.func126.trans (congrArg some (by kernel_rfl))
  f322 := Tryz.func127.trans (congrArg some (by kernel_rfl))
  f337 := Tryz.func136.trans (congrArg some (by kernel_rfl))
  f338 := Tryz.func137.trans (congrArg some (by kernel_rfl))
  t0 := Tryz.underlying0
  a0 := Tryz.isAgg0
  z0 := Tryz.sizeOf0
  v0 := Tryz.zeroValue0
  t2 := Tryz.underlying2
  a2 := Tryz.isAgg2
  z2 := Tryz.sizeOf2
  v2 := Tryz.zeroValue2
  t3 := Tryz.underlying3
  a3 := Tryz.isAgg3
  z3 := Tryz.sizeOf3
  v3 := Tryz.zeroValue3
  t4 := Tryz.underlying4
  a4 := Tryz.isAgg4
  z4 := Tryz.sizeOf4
  v4 := Tryz.zeroValue4
  t5 := Tryz.underlying5
  a5 := Tryz.isAgg5
  z5 := Tryz.sizeOf5
  v5 := Tryz.zeroValue5
  t9 := Tryz.underlying9
  a9 := Tryz.isAgg9
  z9 := Tryz.sizeOf9
  v9 := Tryz.zeroValue9
  t20 := Tryz.underlying20
  a20 := Tryz.isAgg20
  z20 := Tryz.sizeOf20
  v20 := Tryz.zeroValue20
  t21 := Tryz.underlying21
  a21 := Tryz.isAgg21
  z21 := Tryz.sizeOf21
  v21 := Tryz.zeroValue21
  t37 := Tryz.underlying30
  a37 := Tryz.isAgg30
  z37 := Tryz.sizeOf30
  v37 := Tryz.zeroValue30
  t46 := Tryz.underlying84
  a46 := Tryz.isAgg84
  z46 := Tryz.sizeOf84
  v46 := Tryz.zeroValue84
  t51 := Tryz.underlying116
  a51 := Tryz.isAgg116
  z51 := Tryz.sizeOf116
  v51 := Tryz.zeroValue116
  t53 := Tryz.underlying76
  a53 := Tryz.isAgg76
  z53 := Tryz.sizeOf76
  v53 := Tryz.zeroValue76
  t75 := Tryz.underlying88
  a75 := Tryz.isAgg88
  z75 := Tryz.sizeOf88
  v75 := Tryz.zeroValue88
  t85 := Tryz.underlying89
  a85 := Tryz.isAgg89
  z85 := Tryz.sizeOf89
  v85 := Tryz.zeroValue89
  t127 := Tryz.underlying127
  a127 := Tryz.isAgg127
  z127 := Tryz.sizeOf127
  v127 := Tryz.zeroValue127
  t143 := Tryz.underlying166
  a143 := Tryz.isAgg166
  z143 := Tryz.sizeOf166
  v143 := Tryz.zeroValue166
  t145 := Tryz.underlying168
  a145 := Tryz.isAgg168
  z145 := Tryz.sizeOf168
  v145 := Tryz.zeroValue168
  t167 := Tryz.underlying136
  a167 := Tryz.isAgg136
  z167 := Tryz.sizeOf136
  v167 := Tryz.zeroValue136
  t168 := Tryz.underlying139
  a168 := Tryz.isAgg139
  z168 := Tryz.sizeOf139
  v168 := Tryz.zeroValue139
  t171 := Tryz.underlying143
  a171 := Tryz.isAgg143
  z171 := Tryz.sizeOf143
  v171 := Tryz.zeroValue143
  t173 := Tryz.underlying145
  a173 := Tryz.isAgg145
  z173 := Tryz.sizeOf145
  v173 := Tryz.zeroValue145
  t175 := Tryz.underlying137
  a175 := Tryz.isAgg137
  z175 := Tryz.sizeOf137
  v175 := Tryz.zeroValue137
  t210 := Tryz.underlying156
  a210 := Tryz.isAgg156
  z210 := Tryz.sizeOf156
  v210 := Tryz.zeroValue156
  t212 := Tryz.underlying163
  a212 := Tryz.isAgg163
  z212 := Tryz.sizeOf163
  v212 := Tryz.zeroValue163
  t213 := Tryz.underlying164
  a213 := Tryz.isAgg164
  z213 := Tryz.sizeOf164
  t232 := Tryz.underlying169
  a232 := Tryz.isAgg169
  z232 := Tryz.sizeOf169
  v232 := Tryz.zeroValue169
  t233 := Tryz.underlying170
  a233 := Tryz.isAgg170
  z233 := Tryz.sizeOf170
  v233 := Tryz.zeroValue170
  g15 := by kernel_rfl
  g16 := by kernel_rfl
  g17 := by kernel_rfl
  g18 := by kernel_rfl
  g19 := by kernel_rfl
  t80 := Tryz.underlying105
  a80 := Tryz.isAgg105
  z80 := Tryz.sizeOf105
  v80 := Tryz.zeroValue105
  i0 := by kernel_rfl
  i2 := by kernel_rfl
  i3 := by kernel_rfl
  i4 := by kernel_rfl
  i5 := by kernel_rfl
  i9 := by kernel_rfl
  i20 := by kernel_rfl
  i21 := by kernel_rfl
  i37 := by kernel_rfl
  i46 := by kernel_rfl
  i51 := by kernel_rfl
  i53 := by kernel_rfl
  i75 := by kernel_rfl
  i80 := by kernel_rfl
  i85 := by kernel_rfl
  i127 := by kernel_rfl
  i143 := by kernel_rfl
  i145 := by kernel_rfl
  i167 := by kernel_rfl
  i168 := by kernel_rfl
  i171 := by kernel_rfl
  i173 := by kernel_rfl
  i175 := by kernel_rfl
  i210 := by kernel_rfl
  i212 := by kernel_rfl
  i232 := by kernel_rfl
  i233 := by kernel_rfl
  m15 := by kernel_rfl
  m16 := by kernel_rfl
  m17 := by kernel_rfl
  m18 := by kernel_rfl
  m19 := by kernel_rfl
  c0 := by kernel_rfl
  c2 := by kernel_rfl
  c3 := by kernel_rfl
  c4 := by kernel_rfl
  c5 := by kernel_rfl
  c9 := by kernel_rfl
  c20 := by kernel_rfl
  c21 := by kernel_rfl
  c37 := by kernel_rfl
  c46 := by kernel_rfl
  c51 := by kernel_rfl
  c53 := by kernel_rfl
  c75 := by kernel_rfl
  c80 := by kernel_rfl
  c85 := by kernel_rfl
  c127 := by kernel_rfl
  c143 := by kernel_rfl
  c145 := by kernel_rfl
  c167 := by kernel_rfl
  c168 := by kernel_rfl
  c171 := by kernel_rfl
  c173 := by kernel_rfl
  c175 := by kernel_rfl
  c210 := by kernel_rfl
  c212 := by kernel_rfl
  c213 := by kernel_rfl
  c232 := by kernel_rfl
  c233 := by kernel_rfl }
open Go.RowKit in
/-- strconv.ParseInt(s, 10, 64), AT EVERY STRING THAT SPELLS AN int64 ('Lib.parseIntB 64 s.data.toList = .ok v'): v, AND NO ERROR. (LAID: no walk: one application.) -/
theorem Tryz.strconv_ParseInt_10_at64_ok (s : ByteArray) (hmax : s.size ≤ 9223372036854775806) (v : Int) (h : Lib.parseIntB 64 s.data.toList = .ok v) (w : World) :
    Calls Tryz.prog 63 #[.string s, .int .i64 10, .int .i64 64] w fun e w' => e = .returned (.tuple #[.int .i64 v, .nilIface]) ∧ (w' = w ∨ ∃ t, w' = Lib.bytesWorld w 5 t) := Any.strconv_ParseInt_10_at64_ok Tryz.laysC174 s hmax v h w
open Go.RowKit in
theorem Tryz.strconv_ParseInt_10_at64_syntax_var (s : ByteArray) (hlim : s.size ≤ 281474976710656) (h : Lib.parseIntB 64 s.data.toList = .«syntax») (tp : TypeId) (p : Value) (w : World) (hvar : w.var? Tryz.prog "strconv.ErrSyntax" = some #[.iface tp p]) :
    Calls Tryz.prog 63 #[.string s, .int .i64 10, .int .i64 64] w fun e w' => ∃ N, e = .returned (.tuple #[.int .i64 (0), .iface 139 (.pointer (some ⟨N, 0, none⟩))]) ∧ w.heap.size ≤ N ∧ w'.heap[N]? = some (.cells #[.string ⟨#[80, 97, 114, 115, 101, 73, 110, 116]⟩, .string s, .iface tp p] 156 (0, 0)) ∧ Below w.heap.size w w' := Any.strconv_ParseInt_10_at64_syntax_var Tryz.laysC174 s hlim h tp p w hvar
open Go.RowKit in
theorem Tryz.strconv_ParseInt_10_at64_range_var (s : ByteArray) (hlim : s.size ≤ 281474976710656) (h : Lib.parseIntB 64 s.data.toList = .range) (tp : TypeId) (p : Value) (w : World) (hvar : w.var? Tryz.prog "strconv.ErrRange" = some #[.iface tp p]) :
    Calls Tryz.prog 63 #[.string s, .int .i64 10, .int .i64 64] w fun e w' => ∃ N, e = .returned (.tuple #[.int .i64 (Lib.intSat 64 s.data.toList), .iface 139 (.pointer (some ⟨N, 0, none⟩))]) ∧ w.heap.size ≤ N ∧ w'.heap[N]? = some (.cells #[.string ⟨#[80, 97, 114, 115, 101, 73, 110, 116]⟩, .string s, .iface tp p] 156 (0, 0)) ∧ Below w.heap.size w w' := Any.strconv_ParseInt_10_at64_range_var Tryz.laysC174 s hlim h tp p w hvar
def Tryz.lays217_ren : Go.Shelf.Ren := ⟨fun | 217 => 90 | 266 => 111 | n => n, fun | 9 => 9 | 5 => 5 | 3 => 3 | n => n, fun | n => n⟩
def Tryz.lays224_ren : Go.Shelf.Ren := ⟨fun | 224 => 92 | n => n, fun | 3 => 3 | n => n, fun | n => n⟩
def Tryz.lays314_ren : Go.Shelf.Ren := ⟨fun | 314 => 112 | n => n, fun | 9 => 9 | 51 => 116 | 3 => 3 | 4 => 4 | 5 => 5 | 46 => 84 | n => n, fun | n => n⟩
def Tryz.lays267_ren : Go.Shelf.Ren := ⟨fun | 267 => 93 | 314 => 112 | n => n, fun | 9 => 9 | 3 => 3 | 146 => 134 | 51 => 116 | 4 => 4 | 5 => 5 | 46 => 84 | n => n, fun | n => n⟩
def Tryz.lays219_ren : Go.Shelf.Ren := ⟨fun | 219 => 62 | 217 => 90 | 225 => 91 | 224 => 92 | 267 => 93 | 266 => 111 | 314 => 112 | n => n, fun | 9 => 9 | 3 => 3 | 4 => 4 | 5 => 5 | 46 => 84 | 146 => 134 | 51 => 116 | n => n, fun | 1 => 0 | n => n⟩
def Tryz.lays143_ren : Go.Shelf.Ren := ⟨fun | 143 => 66 | 219 => 62 | 217 => 90 | 225 => 91 | 224 => 92 | 267 => 93 | 266 => 111 | 314 => 112 | n => n, fun | 9 => 9 | 3 => 3 | 4 => 4 | 5 => 5 | 46 => 84 | 146 => 134 | 51 => 116 | n => n, fun | 1 => 0 | n => n⟩
def Tryz.lays220_ren : Go.Shelf.Ren := ⟨fun | 220 => 43 | 219 => 62 | 217 => 90 | 225 => 91 | 224 => 92 | 267 => 93 | 266 => 111 | 314 => 112 | n => n, fun | 9 => 9 | 4 => 4 | 3 => 3 | 5 => 5 | 46 => 84 | 146 => 134 | 51 => 116 | n => n, fun | 1 => 0 | n => n⟩
def Tryz.lays145_ren : Go.Shelf.Ren := ⟨fun | 145 => 24 | 220 => 43 | 219 => 62 | 217 => 90 | 225 => 91 | 224 => 92 | 267 => 93 | 266 => 111 | 314 => 112 | n => n, fun | 9 => 9 | 4 => 4 | 59 => 48 | 3 => 3 | 5 => 5 | 46 => 84 | 146 => 134 | 51 => 116 | n => n, fun | 1 => 0 | n => n⟩
theorem Tryz.lays145 : Go.Proofs.Lays.n145 Tryz.prog Tryz.lays145_ren := {
  mixed := by kernel_rfl
  f145 := Tryz.func24.trans (congrArg some (by kernel_rfl))
  f217 := Tryz.func90.trans (congrArg some (by kernel_rfl))
  f219 := Tryz.func62.trans (congrArg some (by kernel_rfl))
  f220 := Tryz.func43.trans (congrArg some (by kernel_rfl))
  f224 := Tryz.func92.trans (congrArg some (by kernel_rfl))
  f225 := Tryz.func91.trans (congrArg some (by kernel_rfl))
  f266 := Tryz.func111.trans (congrArg some (by kernel_rfl))
  f267 := Tryz.func93.trans (congrArg some (by kernel_rfl))
  f314 := Tryz.func112.trans (congrArg some (by kernel_rfl))
  t3 := Tryz.underlying3
  a3 := Tryz.isAgg3
  z3 := Tryz.sizeOf3
  v3 := Tryz.zeroValue3
  t4 := Tryz.underlying4
  a4 := Tryz.isAgg4
  z4 := Tryz.sizeOf4
  v4 := Tryz.zeroValue4
  t5 := Tryz.underlying5
  a5 := Tryz.isAgg5
  z5 := Tryz.sizeOf5
  v5 := Tryz.zeroValue5
  t9 := Tryz.underlying9
  a9 := Tryz.isAgg9
  z9 := Tryz.sizeOf9
  v9 := Tryz.zeroValue9
  t46 := Tryz.underlying84
  a46 := Tryz.isAgg84
  z46 := Tryz.sizeOf84
  v46 := Tryz.zeroValue84
  t51 := Tryz.underlying116
  a51 := Tryz.isAgg116
  z51 := Tryz.sizeOf116
  v51 := Tryz.zeroValue116
  t59 := Tryz.underlying48
  a59 := Tryz.isAgg48
  z59 := Tryz.sizeOf48
  v59 := Tryz.zeroValue48
  t146 := Tryz.underlying134
  a146 := Tryz.isAgg134
  z146 := Tryz.sizeOf134
  v146 := Tryz.zeroValue134
  g1 := by kernel_rfl }
open Go.RowKit Go.Lib in
/-- strings.Cut: "Cut slices s around the first instance of sep, returning the text before and after sep. The found result reports whether sep appears in s. If sep does not appear in s, cut returns s, "", false.": IT RETURNS 'Lib.cut s sep'; the world is as it was but for the count of draws. (LAID: no walk: one application.) -/
theorem Tryz.strings_Cut (s sep : ByteArray) (m : Int) (w : World) (hs : s.size < 4294967281) (hm : w.cell? ⟨0, 0, none⟩ = some (.int .i64 m)) :
    Calls Tryz.prog 24 #[.string s, .string sep] w fun e w' => e = .returned (.tuple #[.string ⟨(Lib.cut s.data.toList sep.data.toList).1.toArray⟩, .string ⟨(Lib.cut s.data.toList sep.data.toList).2.1.toArray⟩, .bool (Lib.cut s.data.toList sep.data.toList).2.2]) ∧ ∃ n, w' = w.drewN n := Any.strings_Cut Tryz.lays145 s sep m w hs hm
def Tryz.lays138_ren : Go.Shelf.Ren := ⟨fun | 138 => 65 | 195 => 96 | 218 => 98 | 143 => 66 | 219 => 62 | 217 => 90 | 225 => 91 | 224 => 92 | 267 => 93 | 266 => 111 | 314 => 112 | n => n, fun | 9 => 9 | 3 => 3 | 4 => 4 | 5 => 5 | 0 => 0 | 46 => 84 | 146 => 134 | 51 => 116 | n => n, fun | 1 => 0 | n => n⟩
def Tryz.laysM219_ren : Go.Shelf.Ren := ⟨fun | 219 => 62 | 217 => 90 | 225 => 91 | 224 => 92 | 267 => 93 | 266 => 111 | 314 => 112 | n => n, fun | 9 => 9 | 3 => 3 | 4 => 4 | 5 => 5 | 46 => 84 | 146 => 134 | 51 => 116 | n => n, fun | 1 => 0 | n => n⟩
def Tryz.laysM143_ren : Go.Shelf.Ren := ⟨fun | 143 => 66 | 219 => 62 | 217 => 90 | 225 => 91 | 224 => 92 | 267 => 93 | 266 => 111 | 314 => 112 | n => n, fun | 9 => 9 | 3 => 3 | 4 => 4 | 5 => 5 | 46 => 84 | 146 => 134 | 51 => 116 | n => n, fun | 1 => 0 | n => n⟩
def Tryz.laysM220_ren : Go.Shelf.Ren := ⟨fun | 220 => 43 | 219 => 62 | 217 => 90 | 225 => 91 | 224 => 92 | 267 => 93 | 266 => 111 | 314 => 112 | n => n, fun | 9 => 9 | 4 => 4 | 3 => 3 | 5 => 5 | 46 => 84 | 146 => 134 | 51 => 116 | n => n, fun | 1 => 0 | n => n⟩
def Tryz.laysM145_ren : Go.Shelf.Ren := ⟨fun | 145 => 24 | 220 => 43 | 219 => 62 | 217 => 90 | 225 => 91 | 224 => 92 | 267 => 93 | 266 => 111 | 314 => 112 | n => n, fun | 9 => 9 | 4 => 4 | 59 => 48 | 3 => 3 | 5 => 5 | 46 => 84 | 146 => 134 | 51 => 116 | n => n, fun | 1 => 0 | n => n⟩
theorem Tryz.laysM145 : Go.Proofs.LaysM.n145 Tryz.prog Tryz.laysM145_ren := {
  mixed := by kernel_rfl
  f145 := Tryz.func24.trans (congrArg some (by kernel_rfl))
  f217 := Tryz.func90.trans (congrArg some (by kernel_rfl))
  f219 := Tryz.func62.trans (congrArg some (by kernel_rfl))
  f220 := Tryz.func43.trans (congrArg some (by kernel_rfl))
  f224 := Tryz.func92.trans (congrArg some (by kernel_rfl))
  f225 := Tryz.func91.trans (congrArg some (by kernel_rfl))
  f266 := Tryz.func111.trans (congrArg some (by kernel_rfl))
  f267 := Tryz.func93.trans (congrArg some (by kernel_rfl))
  f314 := Tryz.func112.trans (congrArg some (by kernel_rfl))
  t3 := Tryz.underlying3
  a3 := Tryz.isAgg3
  z3 := Tryz.sizeOf3
  v3 := Tryz.zeroValue3
  t4 := Tryz.underlying4
  a4 := Tryz.isAgg4
  z4 := Tryz.sizeOf4
  v4 := Tryz.zeroValue4
  t5 := Tryz.underlying5
  a5 := Tryz.isAgg5
  z5 := Tryz.sizeOf5
  v5 := Tryz.zeroValue5
  t9 := Tryz.underlying9
  a9 := Tryz.isAgg9
  z9 := Tryz.sizeOf9
  v9 := Tryz.zeroValue9
  t46 := Tryz.underlying84
  a46 := Tryz.isAgg84
  z46 := Tryz.sizeOf84
  v46 := Tryz.zeroValue84
  t51 := Tryz.underlying116
  a51 := Tryz.isAgg116
  z51 := Tryz.sizeOf116
  v51 := Tryz.zeroValue116
  t59 := Tryz.underlying48
  a59 := Tryz.isAgg48
  z59 := Tryz.sizeOf48
  v59 := Tryz.zeroValue48
  t146 := Tryz.underlying134
  a146 := Tryz.isAgg134
  z146 := Tryz.sizeOf134
  v146 := Tryz.zeroValue134
  g1 := by kernel_rfl
  i3 := by kernel_rfl
  i4 := by kernel_rfl
  i5 := by kernel_rfl
  i9 := by kernel_rfl
  i46 := by kernel_rfl
  i51 := by kernel_rfl
  i59 := by kernel_rfl
  i146 := by kernel_rfl
  m1 := by kernel_rfl
  s1_3 := fun w h => Go.Proofs.cell_of_shapedOpen_int (zero := #[.int .i64 0]) (t := 3) h (of_decide_eq_true (by kernel_rfl)) (by kernel_rfl) rfl (by kernel_rfl) (by kernel_rfl) Tryz.underlying3 }
def Tryz.laysM138_ren : Go.Shelf.Ren := ⟨fun | 138 => 65 | 195 => 96 | 218 => 98 | 143 => 66 | 219 => 62 | 217 => 90 | 225 => 91 | 224 => 92 | 267 => 93 | 266 => 111 | 314 => 112 | n => n, fun | 9 => 9 | 3 => 3 | 4 => 4 | 5 => 5 | 0 => 0 | 46 => 84 | 146 => 134 | 51 => 116 | n => n, fun | 1 => 0 | n => n⟩
def Tryz.lays221_ren : Go.Shelf.Ren := ⟨fun | 221 => 45 | 268 => 64 | 138 => 65 | 143 => 66 | 195 => 96 | 197 => 97 | 218 => 98 | 219 => 62 | 260 => 118 | 217 => 90 | 225 => 91 | 224 => 92 | 267 => 93 | 266 => 111 | 314 => 112 | n => n, fun | 9 => 9 | 3 => 3 | 31 => 50 | 4 => 4 | 0 => 0 | 105 => 122 | 21 => 21 | 5 => 5 | 46 => 84 | 119 => 158 | 139 => 161 | 138 => 160 | 146 => 134 | 51 => 116 | n => n, fun | 1 => 0 | 3 => 3 | 4 => 4 | n => n⟩
def Tryz.lays146_ren : Go.Shelf.Ren := ⟨fun | 146 => 26 | 221 => 45 | 268 => 64 | 138 => 65 | 143 => 66 | 195 => 96 | 197 => 97 | 218 => 98 | 219 => 62 | 260 => 118 | 217 => 90 | 225 => 91 | 224 => 92 | 267 => 93 | 266 => 111 | 314 => 112 | n => n, fun | 9 => 9 | 31 => 50 | 3 => 3 | 4 => 4 | 0 => 0 | 105 => 122 | 21 => 21 | 5 => 5 | 46 => 84 | 119 => 158 | 139 => 161 | 138 => 160 | 146 => 134 | 51 => 116 | n => n, fun | 1 => 0 | 3 => 3 | 4 => 4 | n => n⟩
theorem Tryz.lays146 : Go.Proofs.Lays.n146 Tryz.prog Tryz.lays146_ren := {
  mixed := by kernel_rfl
  f138 := Tryz.func65.trans (congrArg some (by kernel_rfl))
  f143 := Tryz.func66.trans (congrArg some (by kernel_rfl))
  f146 := Tryz.func26.trans (congrArg some (by kernel_rfl))
  f195 := Tryz.func96.trans (congrArg some (by kernel_rfl))
  f197 := Tryz.func97.trans (congrArg some (by kernel_rfl))
  f217 := Tryz.func90.trans (congrArg some (by kernel_rfl))
  f218 := Tryz.func98.trans (congrArg some (by kernel_rfl))
  f219 := Tryz.func62.trans (congrArg some (by kernel_rfl))
  f221 := Tryz.func45.trans (congrArg some (by kernel_rfl))
  f224 := Tryz.func92.trans (congrArg some (by kernel_rfl))
  f225 := Tryz.func91.trans (congrArg some (by kernel_rfl))
  f260 := Tryz.func118.trans (congrArg some (by kernel_rfl))
  f266 := Tryz.func111.trans (congrArg some (by kernel_rfl))
  f267 := Tryz.func93.trans (congrArg some (by kernel_rfl))
  f268 := Tryz.func64.trans (congrArg some (by kernel_rfl))
  f314 := Tryz.func112.trans (congrArg some (by kernel_rfl))
  t0 := Tryz.underlying0
  a0 := Tryz.isAgg0
  z0 := Tryz.sizeOf0
  v0 := Tryz.zeroValue0
  t3 := Tryz.underlying3
  a3 := Tryz.isAgg3
  z3 := Tryz.sizeOf3
  v3 := Tryz.zeroValue3
  t4 := Tryz.underlying4
  a4 := Tryz.isAgg4
  z4 := Tryz.sizeOf4
  v4 := Tryz.zeroValue4
  t5 := Tryz.underlying5
  a5 := Tryz.isAgg5
  z5 := Tryz.sizeOf5
  v5 := Tryz.zeroValue5
  t9 := Tryz.underlying9
  a9 := Tryz.isAgg9
  z9 := Tryz.sizeOf9
  v9 := Tryz.zeroValue9
  t21 := Tryz.underlying21
  a21 := Tryz.isAgg21
  z21 := Tryz.sizeOf21
  v21 := Tryz.zeroValue21
  t31 := Tryz.underlying50
  a31 := Tryz.isAgg50
  z31 := Tryz.sizeOf50
  v31 := Tryz.zeroValue50
  t46 := Tryz.underlying84
  a46 := Tryz.isAgg84
  z46 := Tryz.sizeOf84
  v46 := Tryz.zeroValue84
  t51 := Tryz.underlying116
  a51 := Tryz.isAgg116
  z51 := Tryz.sizeOf116
  v51 := Tryz.zeroValue116
  t105 := Tryz.underlying122
  a105 := Tryz.isAgg122
  z105 := Tryz.sizeOf122
  v105 := Tryz.zeroValue122
  t119 := Tryz.underlying158
  a119 := Tryz.isAgg158
  z119 := Tryz.sizeOf158
  t138 := Tryz.underlying160
  a138 := Tryz.isAgg160
  z138 := Tryz.sizeOf160
  v138 := Tryz.zeroValue160
  t139 := Tryz.underlying161
  a139 := Tryz.isAgg161
  z139 := Tryz.sizeOf161
  v139 := Tryz.zeroValue161
  t146 := Tryz.underlying134
  a146 := Tryz.isAgg134
  z146 := Tryz.sizeOf134
  v146 := Tryz.zeroValue134
  g1 := by kernel_rfl
  g3 := by kernel_rfl
  g4 := by kernel_rfl }
open Go.RowKit Go.Lib in
/-- strings.Split. (LAID: no walk: one application.) -/
theorem Tryz.strings_Split (s sep : ByteArray) (m : Int) (w : World) (hs : s.size < 4294967281) (hm : w.cell? ⟨0, 0, none⟩ = some (.int .i64 m)) (h1 : 1 ≤ sep.size) :
    Calls Tryz.prog 26 #[.string s, .string sep] w fun e w' =>
      e = .returned (.slice (some ⟨w.heap.size, 0, none⟩) (Lib.countB s sep + 1) (Lib.countB s sep + 1)) ∧ w' = w.alloc (.cells ((Lib.splitB sep 0 (Lib.countB s sep) s).map Value.string).toArray 9) := Any.strings_Split Tryz.lays146 (by kernel_rfl) s sep m w hs hm h1
def Tryz.laysM146_ren : Go.Shelf.Ren := ⟨fun | 146 => 26 | 221 => 45 | 268 => 64 | 138 => 65 | 143 => 66 | 195 => 96 | 197 => 97 | 218 => 98 | 219 => 62 | 260 => 118 | 217 => 90 | 225 => 91 | 224 => 92 | 267 => 93 | 266 => 111 | 314 => 112 | n => n, fun | 9 => 9 | 31 => 50 | 3 => 3 | 4 => 4 | 0 => 0 | 105 => 122 | 21 => 21 | 5 => 5 | 46 => 84 | 119 => 158 | 139 => 161 | 138 => 160 | 146 => 134 | 51 => 116 | n => n, fun | 1 => 0 | 3 => 3 | 4 => 4 | n => n⟩
def Tryz.lays197_ren : Go.Shelf.Ren := ⟨fun | 197 => 97 | 260 => 118 | n => n, fun | 9 => 9 | 21 => 21 | 3 => 3 | 4 => 4 | 5 => 5 | 105 => 122 | 119 => 158 | 0 => 0 | 46 => 84 | 139 => 161 | 138 => 160 | n => n, fun | 3 => 3 | 4 => 4 | n => n⟩
def Tryz.lays268_ren : Go.Shelf.Ren := ⟨fun | 268 => 64 | 195 => 96 | 197 => 97 | 260 => 118 | n => n, fun | 9 => 9 | 3 => 3 | 31 => 50 | 4 => 4 | 105 => 122 | 21 => 21 | 0 => 0 | 5 => 5 | 119 => 158 | 46 => 84 | 139 => 161 | 138 => 160 | n => n, fun | 3 => 3 | 4 => 4 | n => n⟩
def Tryz.lays260_ren : Go.Shelf.Ren := ⟨fun | 260 => 118 | n => n, fun | 9 => 9 | 21 => 21 | 3 => 3 | 4 => 4 | 5 => 5 | 119 => 158 | 0 => 0 | 46 => 84 | 139 => 161 | 138 => 160 | n => n, fun | 3 => 3 | 4 => 4 | n => n⟩
def Tryz.laysSlM5_f36_ren : Go.Shelf.Ren := ⟨fun | 5 => 36 | 8 => 60 | 7 => 59 | 19 => 88 | 20 => 89 | 10 => 79 | 11 => 80 | 12 => 81 | 13 => 82 | 14 => 83 | 15 => 84 | 16 => 85 | 17 => 86 | 18 => 87 | 30 => 105 | 31 => 106 | 32 => 107 | 33 => 108 | 34 => 109 | 35 => 110 | 40 => 125 | n => n, fun | 23 => 35 | 25 => 2 | 3 => 3 | 32 => 84 | 22 => 35 | 0 => 0 | 44 => 116 | 46 => 76 | 4 => 4 | 36 => 108 | 35 => 107 | 41 => 113 | 5 => 5 | 9 => 9 | 53 => 128 | 57 => 132 | 63 => 150 | 64 => 151 | n => n, fun | n => n⟩
theorem Tryz.laysSlM5_f36 : Go.Proofs.SlLaysM.n5 Tryz.prog Tryz.laysSlM5_f36_ren := {
  mixed := by kernel_rfl
  f5 := ⟨Tryz.f36.name, by decide, Tryz.func36.trans (congrArg some (by kernel_rfl))⟩
  f7 := ⟨Tryz.f59.name, by decide, Tryz.func59.trans (congrArg some (by kernel_rfl))⟩
  f8 := Tryz.func60.trans (congrArg some (by kernel_rfl))
  f10 := ⟨Tryz.f79.name, by decide, Tryz.func79.trans (congrArg some (by kernel_rfl))⟩
  f11 := ⟨Tryz.f80.name, by decide, Tryz.func80.trans (congrArg some (by kernel_rfl))⟩
  f12 := ⟨Tryz.f81.name, by decide, Tryz.func81.trans (congrArg some (by kernel_rfl))⟩
  f13 := ⟨Tryz.f82.name, by decide, Tryz.func82.trans (congrArg some (by kernel_rfl))⟩
  f14 := ⟨Tryz.f83.name, by decide, Tryz.func83.trans (congrArg some (by kernel_rfl))⟩
  f15 := ⟨Tryz.f84.name, by decide, Tryz.func84.trans (congrArg some (by kernel_rfl))⟩
  f16 := ⟨Tryz.f85.name, by decide, Tryz.func85.trans (congrArg some (by kernel_rfl))⟩
  f17 := ⟨Tryz.f86.name, by decide, Tryz.func86.trans (congrArg some (by kernel_rfl))⟩
  f18 := ⟨Tryz.f87.name, by decide, Tryz.func87.trans (congrArg some (by kernel_rfl))⟩
  f19 := Tryz.func88.trans (congrArg some (by kernel_rfl))
  f20 := Tryz.func89.trans (congrArg some (by kernel_rfl))
  f30 := ⟨Tryz.f105.name, by decide, Tryz.func105.trans (congrArg some (by kernel_rfl))⟩
  f31 := Tryz.func106.trans (congrArg some (by kernel_rfl))
  f32 := Tryz.func107.trans (congrArg some (by kernel_rfl))
  f33 := ⟨Tryz.f108.name, by decide, Tryz.func108.trans (congrArg some (by kernel_rfl))⟩
  f34 := ⟨Tryz.f109.name, by decide, Tryz.func109.trans (congrArg some (by kernel_rfl))⟩
  f35 := ⟨Tryz.f110.name, by decide, Tryz.func110.trans (congrArg some (by kernel_rfl))⟩
  f40 := ⟨Tryz.f125.name, by decide, Tryz.func125.trans (congrArg some (by kernel_rfl))⟩
  t0 := Tryz.underlying0
  a0 := Tryz.isAgg0
  z0 := Tryz.sizeOf0
  v0 := Tryz.zeroValue0
  t3 := Tryz.underlying3
  a3 := Tryz.isAgg3
  z3 := Tryz.sizeOf3
  v3 := Tryz.zeroValue3
  t4 := Tryz.underlying4
  a4 := Tryz.isAgg4
  z4 := Tryz.sizeOf4
  v4 := Tryz.zeroValue4
  t5 := Tryz.underlying5
  a5 := Tryz.isAgg5
  z5 := Tryz.sizeOf5
  v5 := Tryz.zeroValue5
  t9 := Tryz.underlying9
  a9 := Tryz.isAgg9
  z9 := Tryz.sizeOf9
  v9 := Tryz.zeroValue9
  t22 := Tryz.underlying35
  a22 := Tryz.isAgg35
  z22 := Tryz.sizeOf35
  v22 := Tryz.zeroValue35
  t23 := Tryz.underlying35
  a23 := Tryz.isAgg35
  z23 := Tryz.sizeOf35
  v23 := Tryz.zeroValue35
  t25 := Tryz.underlying2
  a25 := Tryz.isAgg2
  z25 := Tryz.sizeOf2
  v25 := Tryz.zeroValue2
  t32 := Tryz.underlying84
  a32 := Tryz.isAgg84
  z32 := Tryz.sizeOf84
  v32 := Tryz.zeroValue84
  t35 := Tryz.underlying107
  a35 := Tryz.isAgg107
  z35 := Tryz.sizeOf107
  v35 := Tryz.zeroValue107
  t36 := Tryz.underlying108
  a36 := Tryz.isAgg108
  z36 := Tryz.sizeOf108
  v36 := Tryz.zeroValue108
  t41 := Tryz.underlying113
  a41 := Tryz.isAgg113
  z41 := Tryz.sizeOf113
  v41 := Tryz.zeroValue113
  t44 := Tryz.underlying116
  a44 := Tryz.isAgg116
  z44 := Tryz.sizeOf116
  v44 := Tryz.zeroValue116
  t46 := Tryz.underlying76
  a46 := Tryz.isAgg76
  z46 := Tryz.sizeOf76
  v46 := Tryz.zeroValue76
  t53 := Tryz.underlying128
  a53 := Tryz.isAgg128
  z53 := Tryz.sizeOf128
  v53 := Tryz.zeroValue128
  t57 := Tryz.underlying132
  a57 := Tryz.isAgg132
  z57 := Tryz.sizeOf132
  v57 := Tryz.zeroValue132
  t63 := Tryz.underlying150
  a63 := Tryz.isAgg150
  z63 := Tryz.sizeOf150
  v63 := Tryz.zeroValue150
  t64 := Tryz.underlying151
  a64 := Tryz.isAgg151
  z64 := Tryz.sizeOf151
  v64 := Tryz.zeroValue151 }
open Go.Sort Go.RowKit in
theorem Tryz.slices_Sort_int (blk off cap : Nat) (zs : List Int) (w : World) (hH : Holds (Value.int .i64) w blk off zs.toArray) (hblk : blk < w.heap.size) (hsz : zs.length < 4611686018427387904) :
    Calls Tryz.prog 36 #[.slice (some ⟨blk, off, none⟩) zs.length cap] w fun e w' =>
      e = .returned (.tuple #[]) ∧ ∃ n os, w' = grow (putRow (Value.int .i64) (Sort.ahead w n) blk off (zs.mergeSort fun x y => decide (x ≤ y)).toArray) os := AnyM.slices_Sort_int Tryz.laysSlM5_f36 blk off cap zs w hH hblk hsz
open Go.RowKit Go.Sort in
/-- .. and plain. (LAID AT THE INSTANCE 'slices.Sort[[]int64,int64]': no walk: one application.) -/
theorem Tryz.slices_Sort_int_none (p : Option Addr) (cap : Nat) (w : World) :
    Calls Tryz.prog 36 #[.slice p 0 cap] w fun e w' => e = .returned (.tuple #[]) ∧ w' = w := AnyM.slices_Sort_int_none Tryz.laysSlM5_f36 p cap w
end Go.Proofs

/- slices.Sorted over a slice's values: the numbers in rising order, in memory of the call's own. -/
namespace Go.Proofs.YtibaiaenfeppcaaGreatDoor.Sv
open Go Go.Sort
open Go.RowKit Go.Proofs.YtibaiaenfeppcaaGreatDoorW.PrintWords
/-- Numbers in rising order. -/
def srt (zs : List Int) : List Int := zs.mergeSort fun x y => decide (x ≤ y)
theorem srt_len (zs : List Int) : (srt zs).length = zs.length := by simp [srt]
/-- slices.Sort on a list of the call's own. -/
theorem sort_own {base : Nat} (v : Value) (zs : List Int) (hlen : zs.length ≤ 1000000) (w1 : World) (h : w1.ownsRow base 2 1 v zs.length (zs.map (Value.int .i64))) :
    Calls Tryz.prog 36 #[v] w1 fun e w' => e = .returned (.tuple #[]) ∧ w'.ownsRow base 2 1 v zs.length ((srt zs).map (Value.int .i64)) ∧ ∀ w0 : World, RowKit.Below base w0 w1 → base ≤ w1.heap.size → RowKit.Below base w0 w' := by
  rcases h.2 with ⟨rfl, hz⟩ | ⟨gb, cap, cur, rfl, hbase, hgb, r1, r2, r3, r4⟩
  · have hzs : zs = [] := List.eq_nil_of_length_eq_zero hz
    subst hzs
    refine (Tryz.slices_Sort_int_none none 0 w1).mono ?_
    rintro e w' ⟨rfl, rfl⟩
    exact ⟨rfl, by simpa [srt] using h, fun _ hb _ => hb⟩
  · have hH : Holds (Value.int .i64) w1 gb 0 zs.toArray := holds_of_blockI hgb (by simpa using r4)
    have hgl : gb < w1.heap.size := (Array.getElem?_eq_some_iff.1 hgb).1
    refine (Tryz.slices_Sort_int gb 0 cap zs w1 hH hgl (by omega)).mono ?_
    rintro e w' ⟨rfl, n, os, rfl⟩
    exact ⟨rfl, ownsRow_sortedI (ss := zs) (ts := srt zs) (srt_len zs) hbase hgb r1 r2 r3, fun w0 hb hs => hb.grown (grownBy_sortedI _) hs (fun j hj => by cases hj; exact hbase)⟩
set_option maxHeartbeats 1000000 in
theorem sorted_any (Bs : Nat) (sv : Value) (zs : List Int) (hlen : zs.length ≤ 1000000) (w : World) (hBs : Bs < w.heap.size) (hc : w.cell? ⟨Bs, 0, none⟩ = some sv) (hI : Ints w.heap.size w sv zs) :
    Calls Tryz.prog 48 #[.func (.func 68) #[] #[.pointer (some ⟨Bs, 0, none⟩)]] w fun e w' => ∃ v, e = .returned v ∧ w'.ownsRow w.heap.size 2 1 v zs.length ((srt zs).map (Value.int .i64)) ∧ Below w.heap.size w w' := by
  have cC := Aside0.mk (collect_any Bs sv zs hlen w hBs hc hI)
  have HL := Aside0.mk hlen
  clear hlen hBs hc hI
  go_enter Tryz.func48, Tryz.ntmps48
  go_wp2_with (first
    | (go_at_call 67; refine cC.out.mono ?_; rintro e w1 ⟨v, rfl, hrow, hb⟩; have HR := Aside0.mk hrow; have HB := Aside0.mk hb; clear hrow hb)
    | (go_at_call 36; refine (sort_own v zs HL.out w1 HR.out).mono ?_; rintro e w2 ⟨rfl, hrow, hb⟩; have HR2 := Aside0.mk hrow; have HB2 := Aside0.mk (hb _ HB.out HB.out.size); clear hrow hb))
  go_ret
  exact ⟨v, rfl, HR2.out, HB2.out⟩
end Go.Proofs.YtibaiaenfeppcaaGreatDoor.Sv

namespace Go.Proofs.YtibaiaenfeppcaaGreatDoor.Ha
open Go.RowKit Go.Proofs.YtibaiaenfeppcaaGreatDoorW.PrintWords Go.Proofs.YtibaiaenfeppcaaGreatDoorW.PrintLast Go.Proofs.YtibaiaenfeppcaaGreatDoorW.PrintMore

theorem ret_bool {a b : Bool} (h : a = b) : Ending.returned (.bool a) = .returned (.bool b) := by rw [h]
theorem ret_int {k : IntKind} {a b : Int} (h : a = b) : Ending.returned (.int k a) = .returned (.int k b) := by rw [h]

def inB (lo hi n : Int) : Bool := decide (lo ≤ n) && decide (n ≤ hi)

theorem within_any (n lo hi : Int) (w : World) :
    Calls Tryz.prog 47 #[.int .i64 n, .int .i64 lo, .int .i64 hi] w fun e w' => e = .returned (.bool (inB lo hi n)) ∧ w' = w := by
  by_cases h : lo ≤ n
  · go_enter Tryz.func47, Tryz.ntmps47
    go_wp2
    go_ret
    exact ⟨ret_bool (by simp [inB, h]), rfl⟩
  · have h' : decide (lo ≤ n) = false := by simpa using h
    go_enter Tryz.func47, Tryz.ntmps47
    go_wp2
    go_ret
    exact ⟨ret_bool (by simp [inB]; omega), rfl⟩

theorem lit1_any (n lo hi : Int) (b1 b2 : Nat) (w : World) (h1 : w.cell? ⟨b1, 0, none⟩ = some (.int .i64 lo)) (h2 : w.cell? ⟨b2, 0, none⟩ = some (.int .i64 hi)) :
    Calls Tryz.prog 71 #[.int .i64 n, .pointer (some ⟨b1, 0, none⟩), .pointer (some ⟨b2, 0, none⟩)] w fun e w' => e = .returned (.bool (!inB lo hi n)) ∧ w' = w := by
  go_enter Tryz.func71, Tryz.ntmps71
  go_wp2_with (go_at_call 47; refine (within_any _ _ _ _).mono ?_; rintro e w' ⟨rfl, rfl⟩)
  go_ret
  exact ⟨rfl, rfl⟩

def idxOf (p : Int → Bool) : List Int → Int → Int
  | [], _ => -1
  | x :: xs, k => if p x then k else idxOf p xs (k + 1)

theorem idx_any (lo hi : Int) (b1 b2 : Nat) (A : Option Addr) (c : Nat) (l : List Int) (w : World) (h1 : w.cell? ⟨b1, 0, none⟩ = some (.int .i64 lo)) (h2 : w.cell? ⟨b2, 0, none⟩ = some (.int .i64 hi))
    (hr : Kd.C (Kd.int .i64) w A l.length l) :
    Calls Tryz.prog 101 #[.slice A l.length c, .func (.func 71) #[] #[.pointer (some ⟨b1, 0, none⟩), .pointer (some ⟨b2, 0, none⟩)]] w fun e w' => e = .returned (.int .i64 (idxOf (fun n => !inB lo hi n) l 0)) ∧ w' = w := by
  have hlen : l.length ≤ 9223372036854775807 := hr.2.1
  go_enter Tryz.func101, Tryz.ntmps101
  go_wp2
  go_loop [8, 5] (fun i _ => ∃ k : Nat, k ≤ l.length ∧ i = .int .i64 k ∧ idxOf (fun n => !inB lo hi n) l 0 = idxOf (fun n => !inB lo hi n) (l.drop k) k) (fun i _ => l.length - (intOf i).toNat)
  case atStart => exact ⟨0, by omega, rfl, by simp⟩
  case round =>
    obtain ⟨k, hk, rfl, hi⟩ := hrel
    have HI := Lib.hid hi
    clear hi
    by_cases hlt : k < l.length
    · obtain ⟨ad, rfl, hc⟩ := Kd.at_int hr (k : Int) (by omega) (by omega)
      have hc' : w.cell? (ad.add k) = some (.int .i64 (rd l k)) := by simpa using hc
      have hd : l.drop k = rd l k :: l.drop (k + 1) := by rw [List.drop_eq_getElem_cons hlt]; simp [rd, hlt]
      have HD := Lib.hid hd
      clear hd
      by_cases hin : inB lo hi (rd l k) = true
      · go_wp2_with (go_at_call 71; refine (lit1_any _ _ _ _ _ _ h1 h2).mono ?_; rintro e w' ⟨rfl, rfl⟩)
        go_round
        case rel => exact ⟨k + 1, by omega, by go_num, by rw [HI.out, HD.out]; simp [idxOf, hin]⟩
        case measure => simp [intOf]; omega
      · have hin' : inB lo hi (rd l k) = false := by simpa using hin
        clear hin
        go_wp2_with (go_at_call 71; refine (lit1_any _ _ _ _ _ _ h1 h2).mono ?_; rintro e w' ⟨rfl, rfl⟩)
        go_ret
        exact ⟨ret_int (by rw [HI.out, HD.out]; simp [idxOf, hin']), rfl⟩
    · go_wp2
      go_ret
      have : k = l.length := by omega
      subst this
      exact ⟨ret_int (by rw [HI.out]; simp [idxOf]), rfl⟩

theorem idxOf_neg (p : Int → Bool) (l : List Int) (k : Int) (hk : 0 ≤ k) : decide (idxOf p l k ≥ 0) = l.any p := by
  induction l generalizing k with
  | nil => simp [idxOf]
  | cons x xs ih =>
    by_cases h : p x = true
    · simp [idxOf, h, hk]
    · simp only [idxOf, h]; simp [ih (k + 1) (by omega), h]

theorem contains_any (lo hi : Int) (b1 b2 : Nat) (A : Option Addr) (c : Nat) (l : List Int) (w : World) (h1 : w.cell? ⟨b1, 0, none⟩ = some (.int .i64 lo)) (h2 : w.cell? ⟨b2, 0, none⟩ = some (.int .i64 hi))
    (hr : Kd.C (Kd.int .i64) w A l.length l) :
    Calls Tryz.prog 70 #[.slice A l.length c, .func (.func 71) #[] #[.pointer (some ⟨b1, 0, none⟩), .pointer (some ⟨b2, 0, none⟩)]] w fun e w' => e = .returned (.bool (l.any fun n => !inB lo hi n)) ∧ w' = w := by
  have HR := Lib.hid (idxOf_neg (fun n => !inB lo hi n) l 0 (by omega))
  go_enter Tryz.func70, Tryz.ntmps70
  go_wp2_with (go_at_call 101; refine (idx_any _ _ _ _ _ _ _ _ h1 h2 hr).mono ?_; rintro e w' ⟨rfl, rfl⟩)
  go_ret
  exact ⟨ret_bool HR.out, rfl⟩

def areIn (l : List Int) (lo hi : Int) : Bool := l.all fun n => inB lo hi n

theorem areIn_any (l : List Int) (lo hi : Int) : (!l.any fun n => !inB lo hi n) = areIn l lo hi := by
  simp [areIn, List.any_eq_not_all_not]

theorem areWithin_any (A : Option Addr) (c : Nat) (l : List Int) (lo hi : Int) (w : World) (hr : Kd.C (Kd.int .i64) w A l.length l) :
    Calls Tryz.prog 51 #[.slice A l.length c, .int .i64 lo, .int .i64 hi] w fun e w' => e = .returned (.bool (areIn l lo hi)) ∧ Below w.heap.size w w' := by
  have HX := Lib.hid (areIn_any l lo hi)
  have hC := fun W hW h1 h2 => contains_any lo hi w.heap.size (w.heap.size + 1) A c l W h1 h2 hW
  go_enter Tryz.func51, Tryz.ntmps51
  go_wp2_with (go_at_call 70; refine (hC _ (Kd.C_alloc (Kd.C_alloc hr _) _) (by simp) (by simp)).mono ?_; rintro e w' ⟨rfl, rfl⟩)
  go_ret
  exact ⟨ret_bool HX.out, below_alloc (below_alloc (Below.refl _ _) _) _⟩
end Go.Proofs.YtibaiaenfeppcaaGreatDoor.Ha

/- The lots of a yard: all stacks one behind the other. -/
namespace Go.Proofs.YtibaiaenfeppcaaGreatDoor.Yv
open Go Go.RowKit Go.Proofs.YtibaiaenfeppcaaGreatDoorW.PrintWords Go.Proofs.YtibaiaenfeppcaaGreatDoor.Sv Go.Proofs.YtibaiaenfeppcaaGreatDoor.Gr Go.Proofs.YtibaiaenfeppcaaGreatDoor.Ha
set_option maxRecDepth 100000 in
theorem lots_any (h : Int) (A : Option Addr) (c : Nat) (xs : List (List Int)) (hn : xs.length ≤ 1000000) (hl : xs.flatten.length ≤ 1000000) (w : World) (hr : Kd.C (Kd.slice 2 (Kd.int .i64)) w A xs.length xs) :
    Calls Tryz.prog 50 #[.agg #[.int .i64 h, .slice A xs.length c]] w fun e w' => ∃ v, e = .returned v ∧ Kd.R (Kd.int .i64) 2 w' w.heap.size (fun _ => True) v xs.flatten ∧ RowKit.Below w.heap.size w w' := by
  have HR := Aside0.mk hr
  have hu := Tryz.underlying24
  clear hr
  go_enter Tryz.func50, Tryz.ntmps50
  go_wp2_with (go_at_call 69; refine (concat_any A c xs hn hl _ (Kd.C_below HR.out (below_alloc (RowKit.Below.refl _ _) (.cells #[.int .i64 h, .slice A xs.length c] 24)))).mono ?_; rintro e w1 ⟨v, rfl, hR, hb⟩; have HV := Aside0.mk (Kd.R_lower hR (below_size (below_alloc (RowKit.Below.refl w.heap.size w) (.cells #[.int .i64 h, .slice A xs.length c] 24)))); have HB := Aside0.mk (below_step (below_alloc (RowKit.Below.refl w.heap.size w) (.cells #[.int .i64 h, .slice A xs.length c] 24)) hb); clear hR hb)
  go_ret
  exact ⟨v, rfl, HV.out, HB.out⟩
end Go.Proofs.YtibaiaenfeppcaaGreatDoor.Yv

/- The program's ValidYard. -/
namespace Go.Proofs.YtibaiaenfeppcaaGreatDoor.Yv
set_option linter.unusedSimpArgs false
set_option linter.unusedVariables false
open Go Go.RowKit Go.Proofs.YtibaiaenfeppcaaGreatDoorW.PrintWords Go.Proofs.YtibaiaenfeppcaaGreatDoorW.PrintLast Go.Proofs.YtibaiaenfeppcaaGreatDoor.Sv Go.Proofs.YtibaiaenfeppcaaGreatDoor.Gr Go.Proofs.YtibaiaenfeppcaaGreatDoor.Ha
theorem ints_of_own {w : World} {base : Nat} {e : TypeId} {v : Value} {zs : List Int} (h : w.ownsRow base e 1 v zs.length (zs.map (Value.int .i64))) : Ints w.heap.size w v zs := by
  rcases h.2 with ⟨rfl, hz⟩ | ⟨g, cap, cur, rfl, hb, hg, _⟩
  · exact .inl ⟨rfl, List.eq_nil_of_length_eq_zero hz⟩
  · refine .inr ⟨g, 0, cap, rfl, (Array.getElem?_eq_some_iff.1 hg).1, fun j hj => ?_⟩
    have := h.cells (g := g) rfl j (.int .i64 (zs[j]?.getD 0)) (by simp [hj])
    rw [show (⟨g, 0, none⟩ : Addr).add j = ⟨g, 0 + j, none⟩ by unfold Addr.add; split <;> simp_all] at this
    exact this
theorem values_any (a : Option Addr) (len cap : Nat) (w : World) :
    Calls Tryz.prog 49 #[.slice a len cap] w fun e w' => e = .returned (.func (.func 68) #[] #[.pointer (some ⟨w.heap.size, 0, none⟩)]) ∧ w' = w.alloc (.cells #[.slice a len cap] 35) :=
  (callsIn_wide (n := 3)).1 (values_in Fence.wide 3 trivial rfl a len cap w)
/-- slices.Sorted(slices.Values(l)) behind the iterator's making. -/
theorem sorted_of (v : Value) (zs : List Int) (hlen : zs.length ≤ 1000000) (w : World) {base : Nat} (h : w.ownsRow base 2 1 v zs.length (zs.map (Value.int .i64))) :
    Calls Tryz.prog 48 #[.func (.func 68) #[] #[.pointer (some ⟨w.heap.size, 0, none⟩)]] (w.alloc (.cells #[v] 35)) fun e w' => ∃ A c, e = .returned (.slice A (srt zs).length c) ∧ (srt zs).length ≤ c ∧ Kd.C (Kd.int .i64) w' A (srt zs).length (srt zs) ∧ RowKit.Below w.heap.size w w' := by
  have hI := ints_of_own (h.alloc (.cells #[v] 35))
  have hb := blk_new w (.cells #[v] 35)
  refine (sorted_any w.heap.size v zs hlen _ (by simp) ((blk_cell hb 0).trans rfl) hI).mono ?_
  rintro e w' ⟨u, rfl, ho, hB⟩
  rw [← srt_len zs] at ho
  obtain ⟨A, c, rfl, hc, hC⟩ := Kd.R_reads (Kd.R_of_own (enc := Value.int .i64) ho (fun _ _ => trivial))
  exact ⟨A, c, rfl, hc, hC, below_step (below_alloc (RowKit.Below.refl _ _) _) hB⟩
end Go.Proofs.YtibaiaenfeppcaaGreatDoor.Yv

/- The program's ValidYard, walked. -/
namespace Go.Proofs.YtibaiaenfeppcaaGreatDoor.Yv
set_option linter.unusedSimpArgs false
set_option linter.unusedVariables false
open Go Go.RowKit Go.Proofs.YtibaiaenfeppcaaGreatDoorW.PrintWords Go.Proofs.YtibaiaenfeppcaaGreatDoorW.PrintLast Go.Proofs.YtibaiaenfeppcaaGreatDoor.Sv Go.Proofs.YtibaiaenfeppcaaGreatDoor.Gr Go.Proofs.YtibaiaenfeppcaaGreatDoor.Ha
theorem meas (n j : Nat) (x : Int) (h : j < n) (hx : x = ((j + 1 : Nat) : Int)) : n - x.toNat < n - ((j : Nat) : Int).toNat := by
  subst hx; simp only [Int.toNat_natCast]; omega
theorem flat_le (xs : List (List Int)) (h : ∀ i : Nat, i < xs.length → (rdl xs (i : Int)).length ≤ 4) : xs.flatten.length ≤ 4 * xs.length := by
  have key : ∀ j, j ≤ xs.length → (cat xs j).length ≤ 4 * j := by
    intro j
    induction j with
    | zero => intro _; simp [cat]
    | succ j ih =>
      intro hj
      rw [cat_succ xs j (by omega), List.length_append]
      have := ih (by omega); have := h j (by omega); omega
  have := key xs.length (Nat.le_refl _)
  rwa [cat_all] at this
/-- No two neighbours of the first j are alike. -/
def apart (l : List Int) (j : Nat) : Prop := ∀ i : Nat, 0 < i → i < j → rd l ((i : Int) - 1) ≠ rd l (i : Int)
set_option maxRecDepth 100000 in
set_option maxHeartbeats 4000000 in
theorem impl_yard (h : Int) (A : Option Addr) (c : Nat) (xs : List (List Int)) (w : World) (hr : Kd.C (Kd.slice 2 (Kd.int .i64)) w A xs.length xs) (res : Bool)
    (hno : res = true ↔ (inB 1 4 h = true ∧ inB 1 4 (xs.length : Int) = true ∧ (∀ i : Nat, i < xs.length → ((rdl xs (i : Int)).length : Int) ≤ h) ∧ apart (srt xs.flatten) (srt xs.flatten).length ∧ ((srt xs.flatten).length : Int) ≤ 7 ∧ areIn (srt xs.flatten) 0 99 = true)) :
    Calls Tryz.prog 28 #[.agg #[.int .i64 h, .slice A xs.length c]] w fun e w' => e = .returned (.bool res) ∧ RowKit.Below w.heap.size w w' := by
  have HR := Aside0.mk hr
  have HNO := Aside0.mk hno
  have hu := Tryz.underlying24
  have HB0 := Aside0.mk (below_alloc (RowKit.Below.refl w.heap.size w) (.cells #[.int .i64 h, .slice A xs.length c] 24))
  have BK := Aside0.mk (blk_new w (.cells #[.int .i64 h, .slice A xs.length c] 24))
  clear hr hno
  by_cases h1 : inB 1 4 h = true
  case neg =>
    have hres : res = false := by cases res with
      | false => rfl
      | true => exact absurd (HNO.out.1 rfl).1 h1
    have h1' : inB 1 4 h = false := by simpa using h1
    go_enter Tryz.func28, Tryz.ntmps28
    go_wp2_with (go_at_call 47; refine (within_any _ _ _ _).mono ?_; rintro e w1 ⟨rfl, rfl⟩)
    go_ret
    exact ⟨hres ▸ rfl, HB0.out⟩
  case pos =>
  by_cases h2 : inB 1 4 (xs.length : Int) = true
  case neg =>
    have hres : res = false := by cases res with
      | false => rfl
      | true => exact absurd (HNO.out.1 rfl).2.1 h2
    have h2' : inB 1 4 (xs.length : Int) = false := by simpa using h2
    go_enter Tryz.func28, Tryz.ntmps28
    go_wp2_with (go_at_call 47; refine (within_any _ _ _ _).mono ?_; rintro e w1 ⟨rfl, rfl⟩)
    go_ret
    exact ⟨hres ▸ rfl, HB0.out⟩
  case pos =>
  have hxs : xs.length ≤ 4 := by
    unfold inB at h2; rw [Bool.and_eq_true, decide_eq_true_eq, decide_eq_true_eq] at h2; omega
  have hh4 : h ≤ 4 := by
    unfold inB at h1; rw [Bool.and_eq_true, decide_eq_true_eq, decide_eq_true_eq] at h1; omega
  go_enter Tryz.func28, Tryz.ntmps28
  go_wp2_with (go_at_call 47; refine (within_any _ _ _ _).mono ?_; rintro e w1 ⟨rfl, rfl⟩)
  go_loopw [21] (fun v21 wz => ∃ j : Nat, j ≤ xs.length ∧ v21 = .int .i64 (j : Int) ∧ Aside0 (∀ i : Nat, i < j → ((rdl xs (i : Int)).length : Int) ≤ h) ∧ wz = w.alloc (.cells #[.int .i64 h, .slice A xs.length c] 24)) (fun v _ => xs.length - (intOf v).toNat)
  case atStart => exact ⟨0, by omega, rfl, ⟨fun i hi => absurd hi (by omega)⟩, rfl⟩
  case round =>
    obtain ⟨j, hj, rfl, hgd, hwr⟩ := hrel
    subst hwr
    by_cases hlt : j < xs.length
    · have c0 : decide ((j : Int) < (xs.length : Int)) = true := decide_eq_true (by omega)
      have p1 : 0 ≤ (j : Int) := by omega
      have q1 : (j : Int) < (xs.length : Int) := by omega
      obtain ⟨ad, A0, c0', rfl, hx, _, _⟩ := at_rows HR.out (j : Int) p1 q1
      simp only [Int.toNat_natCast] at hx
      replace hx := pw_cell_below HB0.out hx
      obtain ⟨m, hm⟩ : ∃ m, m = (rdl xs (j : Int)).length := ⟨_, rfl⟩
      rw [← hm] at hx
      have HM := Aside0.mk hm
      replace p1 := eq_true p1
      replace q1 := eq_true q1
      have HJ := Aside0.mk hlt
      by_cases hle : (m : Int) ≤ h
      · have c1 : decide (h < (m : Int)) = false := decide_eq_false (by omega)
        have HLE := Aside0.mk hle
        clear hm hlt hle
        go_wp2
        go_roundw
        case rel => exact ⟨j + 1, by have := HJ.out; omega, by first | (congr 1; done) | (congr 1; unfold wrap64; omega), ⟨fun i hi => by
          rcases Nat.lt_or_ge i j with hl | hl
          · exact hgd.out i hl
          · obtain rfl : i = j := by omega
            rw [← HM.out]; exact HLE.out⟩, by first | rfl | trivial⟩
        case measure => have := HJ.out; simp only [intOf]; omega
      · have c1 : decide (h < (m : Int)) = true := decide_eq_true (by omega)
        have hres : res = false := by cases res with
          | false => rfl
          | true => exact absurd ((HNO.out.1 rfl).2.2.1 j hlt) (by rw [← hm]; exact hle)
        clear hm hlt hle
        go_wp2
        go_ret
        exact ⟨hres ▸ rfl, HB0.out⟩
    · have c0 : decide ((j : Int) < (xs.length : Int)) = false := decide_eq_false (by omega)
      obtain rfl : j = xs.length := by omega
      have hfl : xs.flatten.length ≤ 1000000 := by have := flat_le xs (fun i hi => by have := hgd.out i hi; omega); omega
      have hcl := hgd.out
      obtain ⟨zs, hzs⟩ : ∃ z, z = xs.flatten := ⟨_, rfl⟩
      have HZ := Aside0.mk hzs
      have hzl : zs.length ≤ 1000000 := by rw [hzs]; exact hfl
      obtain ⟨ss, hss⟩ : ∃ z, z = srt zs := ⟨_, rfl⟩
      have HSS := Aside0.mk hss
      have hsl : ss.length ≤ 1000000 := by rw [hss, srt_len]; exact hzl
      clear hlt hj hzs hss
      have hc0 : (w.alloc (.cells #[.int .i64 h, .slice A xs.length c] 24)).cell? ⟨w.heap.size, 0, none⟩ = some (.int .i64 h) := (blk_cell BK.out 0).trans rfl
      have hc1 : (w.alloc (.cells #[.int .i64 h, .slice A xs.length c] 24)).cell? ⟨w.heap.size, 1, none⟩ = some (.slice A xs.length c) := (blk_cell BK.out 1).trans rfl
      go_wp2_with (first
        | (go_at_call 50; refine (lots_any h A c xs (by omega) hfl _ (Kd.C_below HR.out HB0.out)).mono ?_; rintro e w1 ⟨v, rfl, hR, hb⟩; rw [← HZ.out] at hR; have HO := Aside0.mk (Kd.own_of_R hR); have HB1 := Aside0.mk (below_step HB0.out hb); obtain ⟨A1, c1, rfl⟩ := Kd.R_slice hR; clear hR hb)
        | (go_at_call 49; refine (values_any _ _ _ _).mono ?_; rintro e w2 ⟨rfl, rfl⟩)
        | (go_at_call 48; refine (sorted_of _ zs hzl w1 HO.out).mono ?_; rintro e w3 ⟨A2, c2, he, hc2, hC2, hb⟩; rw [← HSS.out] at he hc2 hC2; subst he; have HC2c := Aside0.mk hc2; have HC2 := Aside0.mk hC2; have HB3 := Aside0.mk (below_step HB1.out hb); clear hc2 hC2 hb))
      go_loopw [37] (fun v37 wz => ∃ j : Nat, j ≤ ss.length ∧ v37 = .int .i64 (j : Int) ∧ Aside0 (apart ss j) ∧ Aside0 (RowKit.Below w3.heap.size w3 wz)) (fun v _ => ss.length - (intOf v).toNat)
      case atStart => exact ⟨0, by omega, rfl, ⟨fun i _ hi => absurd hi (by omega)⟩, ⟨RowKit.Below.refl _ _⟩⟩
      case round =>
        obtain ⟨j, hj, rfl, hap, rb⟩ := hrel
        have HCr := Aside0.mk (Kd.C_below HC2.out rb.out)
        have HBr := Aside0.mk (below_step HB3.out rb.out)
        by_cases hlt : j < ss.length
        · have c0 : decide ((j : Int) < (ss.length : Int)) = true := decide_eq_true (by omega)
          by_cases hj0 : j = 0
          · subst hj0
            have HJ := Aside0.mk hlt
            have c0' : decide ((0 : Int) < (ss.length : Int)) = true := decide_eq_true (by omega)
            have c0n : decide (0 < ss.length) = true := decide_eq_true (by omega)
            have c0p : (0 < ss.length) = True := eq_true (by omega)
            clear hlt hj
            go_wp2
            go_quiet (fail)
            go_wp2
            go_roundw
            case rel => exact ⟨1, by have := HJ.out; omega, by first | rfl | (congr 1; done) | (congr 1; unfold wrap64; omega), ⟨fun i hi hl => absurd hi (by omega)⟩, ⟨pw_below_drewN rb.out _⟩⟩
            case measure => exact meas ss.length 0 _ HJ.out (by first | rfl | decide)
          · have c1 : decide ((0 : Int) < (j : Int)) = true := decide_eq_true (by omega)
            have c1n : decide (0 < j) = true := decide_eq_true (by omega)
            have hpos : (0 < j) = True := eq_true (by omega)
            obtain ⟨y, hy⟩ : ∃ y, wrap64 ((j : Int) - 1) = y := ⟨_, rfl⟩
            have hyv : y = (j : Int) - 1 := by rw [← hy]; unfold wrap64; omega
            have HY := Aside0.mk hyv
            have hyw : IntKind.i64.wrap ((j : Int) - 1) = y := by rw [i64_w]; exact hy
            have p1 : 0 ≤ (j : Int) := by omega
            have q1 : (j : Int) < (ss.length : Int) := by omega
            have p2 : 0 ≤ y := by omega
            have q2 : y < (ss.length : Int) := by omega
            obtain ⟨a2, rfl, hx1⟩ := Kd.at_int HCr.out (j : Int) p1 q1
            obtain ⟨_, ea, hx2⟩ := Kd.at_int HCr.out y p2 q2
            cases ea
            simp only [Int.toNat_natCast] at hx1
            have HX := Aside0.mk (And.intro hx1 hx2)
            have HJ := Aside0.mk (And.intro hlt hj0)
            have HW := Aside0.mk (show wrap64 ((j : Int) + 1) = ((j + 1 : Nat) : Int) by unfold wrap64; omega)
            replace p1 := eq_true p1
            replace q1 := eq_true q1
            replace p2 := eq_true p2
            replace q2 := eq_true q2
            clear hyv hx1 hx2 hlt hj0 hj
            go_wp2
            obtain ⟨hx1, hx2⟩ := HX.out
            go_quiet (fail)
            clear hx1 hx2
            by_cases heq : rd ss y = rd ss (j : Int)
            · have c5 : (rd ss y == rd ss (j : Int)) = true := beq_iff_eq.mpr heq
              have hres : res = false := by cases res with
                | false => rfl
                | true =>
                  have ha := (HNO.out.1 rfl).2.2.2.1
                  rw [← HZ.out, ← HSS.out] at ha
                  exact absurd (by rw [← HY.out]; exact heq) (ha j (by have := HJ.out; omega) HJ.out.1)
              clear heq
              go_wp2
              go_ret
              exact ⟨hres ▸ rfl, pw_below_drewN HBr.out _⟩
            · have c5 : (rd ss y == rd ss (j : Int)) = false := beq_eq_false_iff_ne.mpr heq
              have HNE := Aside0.mk heq
              clear heq
              have hlt := HJ.out.1
              go_wp2
              go_roundw
              case rel => exact ⟨j + 1, by have := HJ.out; omega, by have h2 := HW.out; first | (congr 1; done) | (congr 1; omega), ⟨fun i hi hl => by
                rcases Nat.lt_or_ge i j with hlj | hlj
                · exact hap.out i hi hlj
                · obtain rfl : i = j := by omega
                  rw [← HY.out]; exact HNE.out⟩, ⟨pw_below_drewN rb.out _⟩⟩
              case measure => have h3 := HJ.out.1; simp only [intOf]; omega
        · have c0 : decide ((j : Int) < (ss.length : Int)) = false := decide_eq_false (by omega)
          obtain rfl : j = ss.length := by omega
          clear hlt hj
          by_cases h7 : (ss.length : Int) ≤ 7
          · have c7 : decide ((ss.length : Int) ≤ 7) = true := decide_eq_true h7
            have hres : areIn ss 0 99 = res := by
              have h8 := HNO.out
              rw [← HZ.out, ← HSS.out] at h8
              cases hA : areIn ss 0 99 with
              | true => exact (h8.2 ⟨h1, h2, hcl, hap.out, h7, hA⟩).symm
              | false => cases res with
                | false => rfl
                | true => exact absurd (h8.1 rfl).2.2.2.2.2 (by rw [hA]; decide)
            clear h7
            go_wp2_with (go_at_call 51; refine (areWithin_any A2 c2 ss 0 99 _ HCr.out).mono ?_; rintro e w5 ⟨rfl, hb5⟩; have HB5 := Aside0.mk (below_step HBr.out hb5); clear hb5)
            go_ret
            exact ⟨hres ▸ rfl, HB5.out⟩
          · have c7 : decide ((ss.length : Int) ≤ 7) = false := decide_eq_false h7
            have hres : res = false := by cases res with
              | false => rfl
              | true =>
                have h8 := (HNO.out.1 rfl).2.2.2.2.1
                rw [← HZ.out, ← HSS.out] at h8
                exact absurd h8 h7
            clear h7
            go_wp2
            go_ret
            exact ⟨hres ▸ rfl, HBr.out⟩
end Go.Proofs.YtibaiaenfeppcaaGreatDoor.Yv

/- impl.ValidYard, plainly; slices.Sort at a list that is written, slices.Min, the lots of a yard: in the printer's words. -/
namespace Go.Proofs.YtibaiaenfeppcaaGreatDoor.Yv
open Go Go.RowKit Go.Proofs.YtibaiaenfeppcaaGreatDoorW.PrintWords Go.Proofs.YtibaiaenfeppcaaGreatDoorW.PrintLast Go.Proofs.YtibaiaenfeppcaaGreatDoorW.PrintMore Go.Proofs.YtibaiaenfeppcaaGreatDoor.Sv Go.Proofs.YtibaiaenfeppcaaGreatDoor.Gr Go.Proofs.YtibaiaenfeppcaaGreatDoor.Ha
/-- Few lots, each once, none too great, in stacks that are not too high. -/
def valid (h : Int) (xs : List (List Int)) : Bool :=
  inB 1 4 h && (inB 1 4 (xs.length : Int) && (xs.all (fun s => decide ((s.length : Int) ≤ h)) && (decide xs.flatten.Nodup && (decide ((xs.flatten.length : Int) ≤ 7) && areIn xs.flatten 0 99))))
theorem srt_perm (l : List Int) : (srt l).Perm l := List.mergeSort_perm _ _
theorem srt_sorted (l : List Int) : (srt l).Pairwise (fun a b => a ≤ b) := by
  have h := List.pairwise_mergeSort (le := fun x y : Int => decide (x ≤ y)) (by intro a b c; simp; omega) (by intro a b; simp; omega) l
  exact h.imp (by intro a b; simp)
theorem apart_nodup (l : List Int) (hs : l.Pairwise (fun a b => a ≤ b)) : apart l l.length ↔ l.Nodup := by
  constructor
  · intro h
    have key : ∀ i j : Nat, i < j → ∀ (hj : j < l.length) (hi : i < l.length), l[i] < l[j] := by
      intro i j hij
      induction j with
      | zero => omega
      | succ j ih =>
        intro hj hi
        have h1 : l[j] ≤ l[j + 1] := List.pairwise_iff_getElem.1 hs j (j + 1) (by omega) hj (by omega)
        have h2 := h (j + 1) (by omega) hj
        have e1 : rd l (((j + 1 : Nat) : Int) - 1) = l[j] := by
          unfold rd; rw [show (((j + 1 : Nat) : Int) - 1).toNat = j by omega, List.getD_eq_getElem?_getD, List.getElem?_eq_getElem (by omega)]; rfl
        have e2 : rd l ((j + 1 : Nat) : Int) = l[j + 1] := by
          unfold rd; rw [Int.toNat_natCast, List.getD_eq_getElem?_getD, List.getElem?_eq_getElem hj]; rfl
        rw [e1, e2] at h2
        rcases Nat.lt_or_ge i j with hl | hl
        · have := ih hl (by omega) hi; omega
        · obtain rfl : i = j := by omega
          omega
    rw [List.nodup_iff_pairwise_ne, List.pairwise_iff_getElem]
    intro i j hi hj hij
    have := key i j hij hj hi
    omega
  · intro h i hi hl
    rw [List.nodup_iff_pairwise_ne, List.pairwise_iff_getElem] at h
    have := h (i - 1) i (by omega) hl (by omega)
    unfold rd
    rw [show ((i : Int) - 1).toNat = i - 1 by omega, Int.toNat_natCast, List.getD_eq_getElem?_getD, List.getElem?_eq_getElem (by omega), List.getD_eq_getElem?_getD, List.getElem?_eq_getElem hl]
    exact this
theorem all_rows (xs : List (List Int)) (h : Int) : xs.all (fun s => decide ((s.length : Int) ≤ h)) = true ↔ ∀ i : Nat, i < xs.length → ((rdl xs (i : Int)).length : Int) ≤ h := by
  rw [List.all_eq_true]
  constructor
  · intro hh i hi
    have := hh xs[i] (List.getElem_mem hi)
    have e : rdl xs (i : Int) = xs[i] := by simp [rdl, hi]
    rw [e]; simpa using this
  · intro hh s hs
    obtain ⟨i, hi, rfl⟩ := List.getElem_of_mem hs
    have := hh i hi
    have e : rdl xs (i : Int) = xs[i] := by simp [rdl, hi]
    rw [e] at this; simpa using this
theorem areIn_srt (l : List Int) (a b : Int) : areIn (srt l) a b = areIn l a b := by
  rw [Bool.eq_iff_iff]
  unfold areIn
  rw [List.all_eq_true, List.all_eq_true]
  exact ⟨fun h x hx => h x ((srt_perm l).mem_iff.2 hx), fun h x hx => h x ((srt_perm l).mem_iff.1 hx)⟩
theorem valid_iff (h : Int) (xs : List (List Int)) : valid h xs = true ↔ (inB 1 4 h = true ∧ inB 1 4 (xs.length : Int) = true ∧ (∀ i : Nat, i < xs.length → ((rdl xs (i : Int)).length : Int) ≤ h) ∧ apart (srt xs.flatten) (srt xs.flatten).length ∧ ((srt xs.flatten).length : Int) ≤ 7 ∧ areIn (srt xs.flatten) 0 99 = true) := by
  rw [apart_nodup _ (srt_sorted _), (srt_perm xs.flatten).nodup_iff, srt_len, areIn_srt, ← all_rows]
  unfold valid
  simp only [Bool.and_eq_true, decide_eq_true_eq]
theorem validYard_calls (a0_0 : Int) (A0_1 : Option Addr) (c0_1 : Nat) (l0_1 : List (List Int)) (w : World) (hr0_1 : Kd.C (Kd.slice 2 (Kd.int .i64)) w A0_1 l0_1.length l0_1) :
    Calls Tryz.prog 28 #[.agg #[.int .i64 a0_0, .slice A0_1 l0_1.length c0_1]] w fun e w' => e = .returned (.bool (valid a0_0 l0_1)) ∧ RowKit.Below w.heap.size w w' :=
  impl_yard a0_0 A0_1 c0_1 l0_1 w hr0_1 _ (valid_iff a0_0 l0_1)
/-- slices.Sort at a list that is written. -/
theorem sort_R (P0_ : Nat → Prop) (v : Value) (zs : List Int) (hlen : zs.length ≤ 1000000) (w0 w : World) (hB : RowKit.Below w0.heap.size w0 w) (ho : Kd.R (Kd.int .i64) 2 w w0.heap.size P0_ v zs) :
    Calls Tryz.prog 36 #[v] w fun e w' => e = .returned (.tuple #[]) ∧ Kd.R (Kd.int .i64) 2 w' w0.heap.size (fun k_ => (P0_ k_ ∨ w.heap.size ≤ k_)) v (srt zs) ∧ RowKit.Below w0.heap.size w0 w' ∧ Kept w w' (fun k_ => P0_ k_) := by
  have h := Kd.own_of_R ho
  have hP := ho.1
  rcases h.2 with ⟨rfl, hz⟩ | ⟨gb, cap, cur, rfl, hbase, hgb, r1, r2, r3, r4⟩
  · have hzs : zs = [] := List.eq_nil_of_length_eq_zero hz
    subst hzs
    refine (Tryz.slices_Sort_int_none none 0 w).mono ?_
    rintro e w' ⟨rfl, rfl⟩
    exact ⟨rfl, Kd.R_mono (by simpa [srt] using ho) (fun _ hk => .inl hk), hB, Kept.refl _ _⟩
  · have hH : Go.Sort.Holds (Value.int .i64) w gb 0 zs.toArray := holds_of_blockI hgb (by have h4 := r4; rw [Nat.mul_one] at h4; exact h4)
    have hgl : gb < w.heap.size := (Array.getElem?_eq_some_iff.1 hgb).1
    refine (Tryz.slices_Sort_int gb 0 cap zs w hH hgl (by omega)).mono ?_
    rintro e w' ⟨rfl, n, os, rfl⟩
    have hg := grownBy_sortedI (w := w) (g := gb) (n := n) (os := os) (srt zs).toArray
    refine ⟨rfl, ?_, hB.grown hg (hB.size) (fun j hj => by cases hj; exact hbase), Kept.of_grown hg (Kept.refl _ _) (fun k hk => by cases hk; exact .inl (hP gb rfl))⟩
    have hown := ownsRow_sortedI (ss := zs) (ts := srt zs) (srt_len zs) hbase hgb r1 r2 r3 (n := n) (os := os)
    refine Kd.R_of_own ?_ (fun k hk => .inl (hP k hk))
    rw [srt_len]
    exact hown
end Go.Proofs.YtibaiaenfeppcaaGreatDoor.Yv

/- slices.Min at []int64. -/
namespace Go.Proofs.YtibaiaenfeppcaaGreatDoor.Yv
open Go Go.RowKit Go.Proofs.YtibaiaenfeppcaaGreatDoorW.PrintWords Go.Proofs.YtibaiaenfeppcaaGreatDoorW.PrintLast Go.Proofs.YtibaiaenfeppcaaGreatDoorW.PrintMore Go.Proofs.YtibaiaenfeppcaaGreatDoor.Sv Go.Proofs.YtibaiaenfeppcaaGreatDoor.Gr Go.Proofs.YtibaiaenfeppcaaGreatDoor.Ha
/-- The least of some numbers. -/
def minOf : List Int → Int
  | [] => 0
  | x :: xs => xs.foldl (fun m y => if y < m then y else m) x
theorem minOf_one (l : List Int) (h : 0 < l.length) : minOf (l.take 1) = rd l 0 := by
  cases l with
  | nil => simp at h
  | cons x xs => rfl
theorem minOf_succ (l : List Int) (k : Nat) (h1 : 1 ≤ k) (h : k < l.length) : minOf (l.take (k + 1)) = if rd l (k : Int) < minOf (l.take k) then rd l (k : Int) else minOf (l.take k) := by
  have e : rd l (k : Int) = l[k] := by simp [rd, h]
  rw [e, List.take_succ_eq_append_getElem h]
  obtain ⟨x, xs, hx⟩ : ∃ x xs, l.take k = x :: xs := by
    cases hl : l.take k with
    | nil => have h3 := congrArg List.length hl; rw [List.length_take] at h3; simp only [List.length_nil] at h3; omega
    | cons x xs => exact ⟨x, xs, rfl⟩
  rw [hx]
  simp only [minOf, List.cons_append, List.foldl_append, List.foldl_cons, List.foldl_nil]
  rfl
set_option maxHeartbeats 1000000 in
theorem min_any (A0 : Option Addr) (c0 : Nat) (l0 : List Int) (hn : 0 < l0.length) (w : World) (hr0 : Kd.C (Kd.int .i64) w A0 l0.length l0) :
    Calls Tryz.prog 35 #[.slice A0 l0.length c0] w fun e w' => e = .returned (.int .i64 (minOf l0)) ∧ w' = w := by
  have hm := hr0.2.1
  have c0 : decide ((l0.length : Int) < 1) = false := decide_eq_false (by omega)
  have c1 : decide (l0.length < 1) = false := decide_eq_false (by omega)
  have c2 : (l0.length < 1) = False := eq_false (by omega)
  obtain ⟨ad, rfl, hx0⟩ := Kd.at_int hr0 0 (by decide) (by omega)
  replace hx0 : w.cell? ad = some (.int .i64 (rd l0 0)) := by simpa [Addr.add] using hx0
  have H1 := Aside0.mk (minOf_one l0 hn)
  have hnn : (0 < l0.length) = True := eq_true hn
  have HN := Aside0.mk hn
  clear hn
  go_enter Tryz.func35, Tryz.ntmps35
  go_wp2
  go_loop [3, 4] (fun m i => ∃ k : Nat, 1 ≤ k ∧ k ≤ l0.length ∧ i = .int .i64 (k : Int) ∧ m = .int .i64 (minOf (l0.take k))) (fun _ v => l0.length - (intOf v).toNat)
  case atStart => exact ⟨1, by omega, by have := HN.out; omega, rfl, by rw [H1.out]⟩
  case round =>
    obtain ⟨k, hk1, hk, rfl, rfl⟩ := hrel
    obtain ⟨mm, hmm⟩ : ∃ mm, mm = minOf (l0.take k) := ⟨_, rfl⟩
    by_cases hlt : k < l0.length
    · have hs := minOf_succ l0 k hk1 hlt
      rw [← hmm] at hs ⊢
      have c3 : decide ((k : Int) < (l0.length : Int)) = true := decide_eq_true (by omega)
      have p1 : 0 ≤ (k : Int) := by omega
      have q1 : (k : Int) < (l0.length : Int) := by omega
      obtain ⟨ad', ea, hx⟩ := Kd.at_int hr0 (k : Int) p1 q1
      cases ea
      simp only [Int.toNat_natCast] at hx
      obtain ⟨y, hy⟩ : ∃ y, y = rd l0 (k : Int) := ⟨_, rfl⟩
      rw [← hy] at hs hx
      have hmn : Builtin.min2 (.int .i64 mm) (.int .i64 y) = pure (.int .i64 (if y < mm then y else mm)) := min2_int _ _ _ _
      have hm2 := fun ats ty => min_two ats ty (.int .i64 mm) (.int .i64 y)
      have HS := Aside0.mk hs
      clear hs hy hmm
      go_wp2
      go_round
      case rel => exact ⟨k + 1, by omega, by omega, by go_num, by rw [HS.out]⟩
      case measure => simp only [intOf]; omega
    · have c3 : decide ((k : Int) < (l0.length : Int)) = false := decide_eq_false (by omega)
      obtain rfl : k = l0.length := by omega
      have HM := Aside0.mk hmm
      rw [← hmm]
      clear hmm
      go_wp2
      go_ret
      exact ⟨ret_int (by rw [HM.out, List.take_length]), rfl⟩
end Go.Proofs.YtibaiaenfeppcaaGreatDoor.Yv

/- What the package-level variables hold, as the calls need it; strconv.FormatInt and Decimal over it. -/
namespace Go.Proofs.YtibaiaenfeppcaaGreatDoor.Tb
open Go.RowKit Go.Proofs.YtibaiaenfeppcaaGreatDoorW.PrintWords Go.Proofs.YtibaiaenfeppcaaGreatDoorW.PrintLast Go.Proofs.YtibaiaenfeppcaaGreatDoorW.PrintMore

theorem var_below {P : Program} {n : String} {x : Array Value} {w w' : World} (h : w.var? P n = some x) (hb : Below w.heap.size w w') : w'.var? P n = some x := by
  unfold World.var? at h ⊢
  cases hg : P.globalNamed n with
  | none => rw [hg] at h; simp at h
  | some g =>
    rw [hg] at h
    simp only [Option.bind_some] at h ⊢
    have hlt : g < w.heap.size := by
      rcases Nat.lt_or_ge g w.heap.size with h' | h'
      · exact h'
      · rw [Array.getElem?_eq_none h'] at h; cases h
    rw [hb.block g hlt]
    exact h

/-- The table of powers holds the powers, and the library's bound is a number. -/
def TB (w : World) : Prop := Lib.TabIs Tryz.prog w "internal/strconv.uint64pow10" .u64 Lib.pow10Tab ∧ ∃ m, w.cell? ⟨0, 0, none⟩ = some (.int .i64 m)
theorem TB.below {w w' : World} (h : TB w) (hb : Below w.heap.size w w') : TB w' := by
  obtain ⟨h1, m, h2⟩ := h
  refine ⟨var_below h1 hb, m, ?_⟩
  rw [hb.cell (World.block_lt_of_cell? w _ h2)]; exact h2
/-- And the two errors of the library stand. -/
def TC (w : World) : Prop := TB w ∧ (∃ tp p, w.var? Tryz.prog "strconv.ErrSyntax" = some #[.iface tp p]) ∧ ∃ tp p, w.var? Tryz.prog "strconv.ErrRange" = some #[.iface tp p]
theorem TC.below {w w' : World} (h : TC w) (hb : Below w.heap.size w w') : TC w' := by
  obtain ⟨h0, ⟨t1, p1, h1⟩, t2, p2, h2⟩ := h
  exact ⟨h0.below hb, ⟨t1, p1, var_below h1 hb⟩, t2, p2, var_below h2 hb⟩
theorem TC.tb {w : World} (h : TC w) : TB w := h.1

theorem grow_below (w : World) (k : Nat) (os : Array Obj) : Below w.heap.size w (Sort.grow (w.drewN k) os) := by
  refine (pw_below_drewN (Below.refl _ _) k).trans ?_
  refine ⟨rfl, rfl, rfl, by simp [Sort.grow], fun j hj => ?_⟩
  simp only [Sort.grow]
  rw [Array.getElem?_append_left (by simpa using hj)]

theorem decimal_any (n : Int) (h0 : -9223372036854775808 ≤ n) (h1 : n ≤ 9223372036854775807) (w : World) (hT : TB w) :
    Calls Tryz.prog 57 #[.int .i64 n] w fun e w' => e = .returned (.string ⟨(Lib.itoa n).toArray⟩) ∧ Below w.heap.size w w' := by
  have h := Tryz.strconv_FormatInt_10 n h0 h1 w hT.1
  go_enter Tryz.func57, Tryz.ntmps57
  go_wp2_with (go_at_call 75; refine h.mono ?_; rintro e w' ⟨rfl, hw⟩)
  go_ret
  obtain ⟨k, os, rfl⟩ := hw
  exact ⟨rfl, grow_below _ _ _⟩
end Go.Proofs.YtibaiaenfeppcaaGreatDoor.Tb

/- strings.Join over a row of strings that is read. -/
namespace Go.Proofs.YtibaiaenfeppcaaGreatDoor.Jn
open Go.RowKit Go.Proofs.YtibaiaenfeppcaaGreatDoorW.PrintWords Go.Proofs.YtibaiaenfeppcaaGreatDoorW.PrintLast Go.Proofs.YtibaiaenfeppcaaGreatDoorW.PrintMore

theorem spot_none {w : World} {a : Addr} {v : Value} (h : w.cell? a = some v) : a = ⟨a.block, a.off, none⟩ ∧ a.block < w.heap.size := by
  have hlt := World.block_lt_of_cell? w a h
  obtain ⟨b, o, s⟩ := a
  cases s with
  | none => exact ⟨rfl, hlt⟩
  | some i =>
    exfalso
    unfold World.cell? at h
    simp only [Option.isSome_some, if_true] at h
    split at h <;> simp at h

theorem cells_of {w : World} {ad : Addr} {xs : List ByteArray} (h : Kd.string.C w (some ad) xs.length xs) (h0 : 0 < xs.length) :
    ad = ⟨ad.block, ad.off, none⟩ ∧ ad.block < w.heap.size ∧ ∀ (j : Nat) x, xs[j]? = some x → w.cell? ⟨ad.block, ad.off + j, none⟩ = some (.string x) := by
  have hc : ∀ (j : Nat) x, xs[j]? = some x → w.cell? (ad.add j) = some (.string x) := by
    intro j x hx
    have hj : j < xs.length := (List.getElem?_eq_some_iff.1 hx).1
    obtain ⟨a', e, hcell⟩ := Kd.at_string h (j : Int) (by omega) (by omega)
    obtain rfl := Option.some.inj e
    rw [Int.toNat_natCast] at hcell
    rw [hcell]
    simp only [rdOf, Int.toNat_natCast, List.getD_eq_getElem?_getD, hx, Option.getD_some]
  have h1 := hc 0 xs[0] (by simp [List.getElem?_eq_getElem h0])
  obtain ⟨e, hlt⟩ := spot_none (by rwa [Addr.add, if_pos rfl] at h1)
  refine ⟨e, hlt, fun j x hx => ?_⟩
  have := hc j x hx
  unfold Addr.add at this
  split at this
  · subst j; rw [Nat.add_zero, ← e]; exact this
  · exact this

theorem join_any (A : Option Addr) (c : Nat) (xs : List ByteArray) (sep : ByteArray) (w : World) (hr : Kd.string.C w A xs.length xs) (hc : xs.length ≤ c) (hlen : (Lib.join (xs.map (·.data.toList)) sep.data.toList).length ≤ 140737488355328) (hN : xs.length ≤ 140737488355328) :
    Calls Tryz.prog 58 #[.slice A xs.length c, .string sep] w fun e w' => e = .returned (.string ⟨(Lib.join (xs.map (·.data.toList)) sep.data.toList).toArray⟩) ∧ Below w.heap.size w w' := by
  by_cases h0 : 0 < xs.length
  · obtain ⟨ad, rfl, _⟩ := hr.2.2 h0
    obtain ⟨e, hlt, hcells⟩ := cells_of hr h0
    rw [e]
    exact Tryz.strings_Join ad.block ad.off c xs sep w hcells hlt hN hc hlen
  · obtain rfl : xs = [] := by cases xs with | nil => rfl | cons a l => simp at h0
    refine (Tryz.strings_Join_none A c sep w).mono ?_
    rintro e w' ⟨rfl, rfl⟩
    exact ⟨rfl, Below.refl _ _⟩
end Go.Proofs.YtibaiaenfeppcaaGreatDoor.Jn

/- strings.Split and strings.Cut at one byte; readIn. -/
namespace Go.Proofs.YtibaiaenfeppcaaGreatDoor.Sp
open Go.RowKit Go.Proofs.YtibaiaenfeppcaaGreatDoorW.PrintWords Go.Proofs.YtibaiaenfeppcaaGreatDoorW.PrintLast Go.Proofs.YtibaiaenfeppcaaGreatDoorW.PrintMore Go.Proofs.YtibaiaenfeppcaaGreatDoor.Ha

def tx (l : List UInt8) : ByteArray := ⟨l.toArray⟩
/-- The parts of a text between bytes c. -/
def split1 (c : UInt8) : List UInt8 → List (List UInt8)
  | [] => [[]]
  | b :: l => if b = c then [] :: split1 c l else match split1 c l with
    | [] => [[b]]
    | w :: ws => (b :: w) :: ws
/-- What stands ahead of the first byte c and behind it. -/
def cut1 (c : UInt8) : List UInt8 → List UInt8 × List UInt8 × Bool
  | [] => ([], [], false)
  | b :: l => if b = c then ([], l, true) else (b :: (cut1 c l).1, (cut1 c l).2.1, (cut1 c l).2.2)

theorem index_none (c : UInt8) (l : List UInt8) (h : c ∉ l) : Lib.index l [c] = -1 := by
  induction l with
  | nil => rfl
  | cons b l ih =>
    have h1 : c ≠ b := fun e => h (by simp [e])
    have h2 : c ∉ l := fun e => h (by simp [e])
    simp [Lib.index, ih h2, h1]
theorem index_some (c : UInt8) (p q : List UInt8) (h : c ∉ p) : Lib.index (p ++ c :: q) [c] = p.length := by
  induction p with
  | nil => simp [Lib.index]
  | cons b p ih =>
    have h1 : c ≠ b := fun e => h (by simp [e])
    have h2 : c ∉ p := fun e => h (by simp [e])
    have := ih h2
    simp only [List.cons_append, Lib.index, this, List.length_cons]
    simp [h1]
theorem first_at (c : UInt8) (l : List UInt8) (h : c ∈ l) : ∃ p q, l = p ++ c :: q ∧ c ∉ p := by
  induction l with
  | nil => simp at h
  | cons b l ih =>
    by_cases e : b = c
    · exact ⟨[], l, by simp [e], by simp⟩
    · obtain ⟨p, q, rfl, hp⟩ := ih (by rcases List.mem_cons.1 h with h | h; exact absurd h.symm e; exact h)
      exact ⟨b :: p, q, by simp, by simp [hp, Ne.symm e]⟩
theorem cut1_none (c : UInt8) (l : List UInt8) (h : c ∉ l) : cut1 c l = (l, [], false) := by
  induction l with
  | nil => rfl
  | cons b l ih =>
    have h1 : b ≠ c := fun e => h (by simp [e])
    have h2 : c ∉ l := fun e => h (by simp [e])
    simp [cut1, ih h2, h1]
theorem cut1_some (c : UInt8) (p q : List UInt8) (h : c ∉ p) : cut1 c (p ++ c :: q) = (p, q, true) := by
  induction p with
  | nil => simp [cut1]
  | cons b p ih =>
    have h1 : b ≠ c := fun e => h (by simp [e])
    have h2 : c ∉ p := fun e => h (by simp [e])
    simp [cut1, ih h2, h1]
theorem cut_eq (c : UInt8) (l : List UInt8) : Lib.cut l [c] = cut1 c l := by
  by_cases h : c ∈ l
  · obtain ⟨p, q, rfl, hp⟩ := first_at c l h
    rw [cut1_some c p q hp, Lib.cut, index_some c p q hp, if_pos (by omega)]
    simp
  · rw [cut1_none c l h, Lib.cut, index_none c l h, if_neg (by omega)]
theorem split1_none (c : UInt8) (l : List UInt8) (h : c ∉ l) : split1 c l = [l] := by
  induction l with
  | nil => rfl
  | cons b l ih =>
    have h1 : b ≠ c := fun e => h (by simp [e])
    have h2 : c ∉ l := fun e => h (by simp [e])
    simp [split1, ih h2, h1]
theorem split1_some (c : UInt8) (p q : List UInt8) (h : c ∉ p) : split1 c (p ++ c :: q) = p :: split1 c q := by
  induction p with
  | nil => simp [split1]
  | cons b p ih =>
    have h1 : b ≠ c := fun e => h (by simp [e])
    have h2 : c ∉ p := fun e => h (by simp [e])
    simp [split1, ih h2, h1]
theorem splitK_eq (c : UInt8) : ∀ (k : Nat) (l : List UInt8), l.count c = k → Lib.splitK [c] 0 k l = split1 c l := by
  intro k
  induction k with
  | zero =>
    intro l hk
    rw [split1_none c l (List.count_eq_zero.1 hk)]; rfl
  | succ k ih =>
    intro l hk
    have hm : c ∈ l := List.count_pos_iff.1 (by omega)
    obtain ⟨p, q, rfl, hp⟩ := first_at c l hm
    have hq : q.count c = k := by
      rw [List.count_append, List.count_eq_zero.2 hp, List.count_cons_self] at hk; omega
    rw [split1_some c p q hp, ← ih q hq]
    have e : Lib.splitK [c] 0 (k + 1) (p ++ c :: q) = if Lib.index (p ++ c :: q) [c] == -1 then [p ++ c :: q] else (p ++ c :: q).take ((Lib.index (p ++ c :: q) [c]).toNat + 0) :: Lib.splitK [c] 0 k ((p ++ c :: q).drop ((Lib.index (p ++ c :: q) [c]).toNat + 1)) := rfl
    rw [e, index_some c p q hp, if_neg (by simp)]
    simp

theorem split_data (c : UInt8) (s : ByteArray) : (Lib.splitB (tx [c]) 0 (Lib.countB s (tx [c])) s) = (split1 c s.data.toList).map tx := by
  have h := Lib.splitB_data (tx [c]) 0 (Lib.countB s (tx [c])) s
  have hc : Lib.countB s (tx [c]) = s.data.toList.count c := Lib.count_one c s.data.toList
  rw [show (tx [c]).data.toList = [c] from rfl, hc, splitK_eq c _ _ rfl] at h
  rw [hc, ← h, List.map_map]
  conv => lhs; rw [← List.map_id (Lib.splitB (tx [c]) 0 (s.data.toList.count c) s)]
  congr 1

theorem split_any (s : ByteArray) (c : UInt8) (w : World) (hT : Tb.TB w) (hs : s.size < 4294967281) :
    Calls Tryz.prog 26 #[.string s, .string (tx [c])] w fun e w' => ∃ v : Value, e = .returned v ∧ Kd.R Kd.string 9 w' w.heap.size (fun _ => True) v ((split1 c s.data.toList).map tx) ∧ Below w.heap.size w w' := by
  obtain ⟨m, hm⟩ := hT.2
  refine (Tryz.strings_Split s (tx [c]) m w hs hm (by simp [tx, ByteArray.size])).mono ?_
  rintro e w' ⟨rfl, rfl⟩
  have hl : (Lib.splitB (tx [c]) 0 (Lib.countB s (tx [c])) s).length = Lib.countB s (tx [c]) + 1 := Lib.splitB_all _ (by simp [tx, ByteArray.size]) 0 _ s rfl
  have hle := Lib.countB_le (tx [c]) (by simp [tx, ByteArray.size]) _ s (Nat.le_refl _)
  rw [split_data] at hl ⊢
  refine ⟨_, rfl, Kd.R_of_own ⟨by simp [encs], .inr ⟨w.heap.size, Lib.countB s (tx [c]) + 1, _, ?_, Nat.le_refl _, blk_new _ _, ?_, ?_, ?_, ?_⟩⟩ (fun _ _ => trivial), below_alloc (Below.refl _ _) _⟩
  · rw [hl]
  · rw [hl]; exact Nat.le_refl _
  · unfold maxLen; omega
  · rw [List.size_toArray, List.length_map, hl]; omega
  · rw [List.take_of_length_le (by simp)]; simp [encs]

theorem cut_any (s : ByteArray) (c : UInt8) (w : World) (hT : Tb.TB w) (hs : s.size < 4294967281) :
    Calls Tryz.prog 24 #[.string s, .string (tx [c])] w fun e w' => e = .returned (.tuple #[.string (tx (cut1 c s.data.toList).1), .string (tx (cut1 c s.data.toList).2.1), .bool (cut1 c s.data.toList).2.2]) ∧ Below w.heap.size w w' := by
  obtain ⟨m, hm⟩ := hT.2
  refine (Tryz.strings_Cut s (tx [c]) m w hs hm).mono ?_
  rintro e w' ⟨rfl, n, rfl⟩
  rw [show (tx [c]).data.toList = [c] from rfl, cut_eq]
  exact ⟨rfl, pw_below_drewN (Below.refl _ _) _⟩

/-- The number in a range whose decimal is a text. -/
def readL (l : List UInt8) (lo hi : Int) : Int × Bool := match Lib.parseIntB 64 l with
  | .ok v => if Lib.itoa v = l ∧ lo ≤ v ∧ v ≤ hi then (v, true) else (0, false)
  | _ => (0, false)
end Go.Proofs.YtibaiaenfeppcaaGreatDoor.Sp

-- made by a patched copy of print.sh: this session's own
namespace Go.Proofs.YtibaiaenfeppcaaGreatDoor.Q
open Go.RowKit Go.Proofs.YtibaiaenfeppcaaGreatDoorW.PrintWords Go.Proofs.YtibaiaenfeppcaaGreatDoorW.PrintLast Go.Proofs.YtibaiaenfeppcaaGreatDoorW.PrintMore
attribute [local go_sem] max2_int min2_int max_two min_two max_three min_three max_four min_four   -- for this text's walks alone
set_option linter.unusedVariables false
set_option linter.unusedSimpArgs false

/-! ### laws_b10Long: function 10 -/
def laws_b10Long.f (l0 : List Int) (l1 : List Int) : Option (Bool) := if (l0.length : Int) > 1048576 then (some true) else (some (decide ((l1.length : Int) > 1048576)))
set_option maxHeartbeats 8000000 in
set_option maxRecDepth 100000 in
theorem laws_b10Long.calls (A0 : Option Addr) (c0 : Nat) (l0 : List Int) (A1 : Option Addr) (c1 : Nat) (l1 : List Int) (r : Bool) (w : World) (hr0 : Kd.C (Kd.int .u8) w A0 l0.length l0) (hc0 : l0.length ≤ c0) (hr1 : Kd.C (Kd.int .u8) w A1 l1.length l1) (hc1 : l1.length ≤ c1) (h : laws_b10Long.f l0 l1 = some r) :
    Calls Tryz.prog 10 #[.slice A0 l0.length c0, .slice A1 l1.length c1] w fun e w' => e = .returned (.bool r) ∧ Drawn0 w w' := by
  have HR0 := Aside0.mk hr0
  have HC0 := Aside0.mk hc0
  clear hr0 hc0
  have HR1 := Aside0.mk hr1
  have HC1 := Aside0.mk hc1
  clear hr1 hc1
  have H : (if (l0.length : Int) > 1048576 then (some true) else (some (decide ((l1.length : Int) > 1048576)))) = some r := h
  clear h
  by_cases c3 : (l0.length : Int) > 1048576
  · rw [if_pos c3] at H
    have c3b0 : decide (1048576 < (l0.length : Int)) = true := decide_eq_true c3
    have c3b1 : decide (1048576 < l0.length) = true := decide_eq_true (by omega)
    clear c3
    obtain rfl := Option.some.inj H
    go_enter Tryz.func10, Tryz.ntmps10
    go_wp2
    go_ret
    exact ⟨by first | rfl | (simp; done) | (simp [*]; done), by repeat (first | exact Drawn0.refl _ | apply Drawn0.step)⟩
  · rw [if_neg c3] at H
    have c3b0 : decide (1048576 < (l0.length : Int)) = false := decide_eq_false c3
    have c3b1 : decide (1048576 < l0.length) = false := decide_eq_false (by omega)
    clear c3
    obtain rfl := Option.some.inj H
    go_enter Tryz.func10, Tryz.ntmps10
    go_wp2
    go_ret
    exact ⟨by first | rfl | (simp; done) | (simp [*]; done), by repeat (first | exact Drawn0.refl _ | apply Drawn0.step)⟩

end Go.Proofs.YtibaiaenfeppcaaGreatDoor.Q

-- made by a patched copy of print.sh: this session's own
namespace Go.Proofs.YtibaiaenfeppcaaGreatDoor.Q
open Go.RowKit Go.Proofs.YtibaiaenfeppcaaGreatDoorW.PrintWords Go.Proofs.YtibaiaenfeppcaaGreatDoorW.PrintLast Go.Proofs.YtibaiaenfeppcaaGreatDoorW.PrintMore
attribute [local go_sem] max2_int min2_int max_two min_two max_three min_three max_four min_four   -- for this text's walks alone
set_option linter.unusedVariables false
set_option linter.unusedSimpArgs false

/-- A state of type 78 at block g of W; what its slices lead to came in by w0. -/
def IsS78 (w0 W : World) (g : Nat) (f0 : List Int) (f1 : Int) (f2 : Int) : Prop := ∃ A0 c0, W.heap[g]? = some (.cells #[.slice A0 f0.length c0, .int .i64 f1, .int .u64 f2] 78 (0, 0)) ∧ w0.heap.size ≤ g ∧ Kd.C (Kd.int .u8) w0 A0 f0.length f0
theorem IsS78.grown {w0 W : World} {g : Nat} {f0 : List Int} {f1 : Int} {f2 : Int} {W1 : World} {row : Option Nat} (h : IsS78 w0 W g f0 f1 f2) (hw : W.grownBy W1 row) (hne : some g ≠ row) : IsS78 w0 W1 g f0 f1 f2 := by
  obtain ⟨A0, c0, hb, hg, hr0⟩ := h
  exact ⟨A0, c0, blk_grown hb hw hne, hg, hr0⟩
theorem IsS78.kept {w0 W : World} {g : Nat} {f0 : List Int} {f1 : Int} {f2 : Int} {W1 : World} {S : Nat → Prop} (h : IsS78 w0 W g f0 f1 f2) (hk : Kept W W1 S) (hne : ¬ S g) : IsS78 w0 W1 g f0 f1 f2 := by
  obtain ⟨A0, c0, hb, hg, hr0⟩ := h
  exact ⟨A0, c0, blk_kept hb hk hne, hg, hr0⟩
theorem IsS78.below {w0 W : World} {g : Nat} {f0 : List Int} {f1 : Int} {f2 : Int} {W1 : World} (h : IsS78 w0 W g f0 f1 f2) (hw : Below W.heap.size W W1) : IsS78 w0 W1 g f0 f1 f2 := h.grown (grown_of_below hw none) (by simp)
theorem IsS78.alloc {w0 W : World} {g : Nat} {f0 : List Int} {f1 : Int} {f2 : Int} (h : IsS78 w0 W g f0 f1 f2) (o : Obj) : IsS78 w0 (W.alloc o) g f0 f1 f2 := h.below (below_alloc (Below.refl _ _) o)
theorem IsS78.drewN {w0 W : World} {g : Nat} {f0 : List Int} {f1 : Int} {f2 : Int} (h : IsS78 w0 W g f0 f1 f2) (m : Nat) : IsS78 w0 (W.drewN m) g f0 f1 f2 := h
theorem IsS78.drew {w0 W : World} {g : Nat} {f0 : List Int} {f1 : Int} {f2 : Int} (h : IsS78 w0 W g f0 f1 f2) : IsS78 w0 W.drew g f0 f1 f2 := h
theorem IsS78.at_ {w0 W : World} {g : Nat} {f0 : List Int} {f1 : Int} {f2 : Int} {w' : World} {m : Nat} (hq : W.drewN m = w') (h : IsS78 w0 W g f0 f1 f2) : IsS78 w0 w' g f0 f1 f2 := by subst hq; exact IsS78.drewN h m
theorem IsS78.apart {w0 W : World} {g : Nat} {f0 : List Int} {f1 : Int} {f2 : Int} {α : Type} {d : Kd α} {e : Nat} {base : Nat} {ok : Nat → Prop} {v : Value} {xs : List α} (h : IsS78 w0 W g f0 f1 f2) (ho : d.R e W base ok v xs) (ht : ∀ q, q ∈ e :: d.E → q ≠ 78) : d.R e W base (fun k => ok k ∧ k ≠ g) v xs := by
  obtain ⟨A0, c0, hb, hg, hr0⟩ := h
  exact Kd.R_types ho hb ht
theorem IsS78.own_ne {w0 W : World} {g : Nat} {f0 : List Int} {f1 : Int} {f2 : Int} {α : Type} {d : Kd α} {e : Nat} {base : Nat} {ok : Nat → Prop} {v : Value} {xs : List α} (h : IsS78 w0 W g f0 f1 f2) (ho : d.R e W base ok v xs) (ht : e ≠ 78) : some g ≠ v.ownBlock := by
  obtain ⟨A0, c0, hb, hg, hr0⟩ := h
  exact Kd.R_ne ho hb ht
theorem IsS78.apartS {w0 W : World} {g : Nat} {f0 : List Int} {f1 : Int} {f2 : Int} {α : Type} {d : Kd α} {e : Nat} {base : Nat} {ok : Nat → Prop} {v : Value} {xs : List α} (h : IsS78 w0 W g f0 f1 f2) (ho : d.S e W base ok v xs) (ht : ∀ q, q ∈ e :: d.E → q ≠ 78) : d.S e W base (fun k => ok k ∧ k ≠ g) v xs := by
  obtain ⟨A0, c0, hb, hg, hr0⟩ := h
  exact Kd.S_types ho hb ht
theorem IsS78.own_neS {w0 W : World} {g : Nat} {f0 : List Int} {f1 : Int} {f2 : Int} {α : Type} {d : Kd α} {e : Nat} {base : Nat} {ok : Nat → Prop} {v : Value} {xs : List α} (h : IsS78 w0 W g f0 f1 f2) (ho : d.S e W base ok v xs) (ht : e ≠ 78) : some g ≠ v.ownBlock := by
  obtain ⟨A0, c0, hb, hg, hr0⟩ := h
  exact Kd.S_ne ho hb ht
theorem IsS78.lt {w0 W : World} {g : Nat} {f0 : List Int} {f1 : Int} {f2 : Int} (h : IsS78 w0 W g f0 f1 f2) : g < W.heap.size := by
  obtain ⟨A0, c0, hb, hg, hr0⟩ := h
  exact blk_lt hb
theorem IsS78.ge {w0 W : World} {g : Nat} {f0 : List Int} {f1 : Int} {f2 : Int} (h : IsS78 w0 W g f0 f1 f2) : w0.heap.size ≤ g := by
  obtain ⟨A0, c0, hb, hg, hr0⟩ := h
  exact hg
theorem IsS78.ne_blk {w0 W : World} {g : Nat} {f0 : List Int} {f1 : Int} {f2 : Int} {a : Nat} {cs : Array Value} {t : TypeId} {fr : Nat × Nat} (h : IsS78 w0 W g f0 f1 f2) (hb2 : W.heap[a]? = some (.cells cs t fr)) (ht : t ≠ 78) : g ≠ a := by
  obtain ⟨A0, c0, hb, hg, hr0⟩ := h
  rintro rfl
  rw [hb] at hb2
  injection hb2 with hb2
  injection hb2 with _ ht2
  exact ht ht2.symm
theorem IsS78.far {w0 W : World} {g : Nat} {f0 : List Int} {f1 : Int} {f2 : Int} {p : Addr} (h : IsS78 w0 W g f0 f1 f2) (hne : g ≠ p.block) (u : Value) : IsS78 w0 (W.setCell p u) g f0 f1 f2 := by
  obtain ⟨A0, c0, hb, hg, hr0⟩ := h
  exact ⟨A0, c0, blk_far hb hne u, hg, hr0⟩
theorem cellS78_0 {W : World} {g : Nat} {A0 : Option Addr} {c0 : Nat} {f0 : List Int} {f1 : Int} {f2 : Int} (h : W.heap[g]? = some (.cells #[.slice A0 f0.length c0, .int .i64 f1, .int .u64 f2] 78 (0, 0))) : W.cell? ⟨g, 0, none⟩ = some (.slice A0 f0.length c0) := (blk_cell h 0).trans rfl
theorem cellS78_1 {W : World} {g : Nat} {A0 : Option Addr} {c0 : Nat} {f0 : List Int} {f1 : Int} {f2 : Int} (h : W.heap[g]? = some (.cells #[.slice A0 f0.length c0, .int .i64 f1, .int .u64 f2] 78 (0, 0))) : W.cell? ⟨g, 1, none⟩ = some (.int .i64 f1) := (blk_cell h 1).trans rfl
theorem IsS78.set_1 {w0 W : World} {g : Nat} {f0 : List Int} {f1 : Int} {f2 : Int} (h : IsS78 w0 W g f0 f1 f2) (x : Int) : IsS78 w0 (W.setCell ⟨g, 1, none⟩ (.int .i64 x)) g f0 x f2 := by
  obtain ⟨A0, c0, hb, hg, hr0⟩ := h
  exact ⟨A0, c0, by simpa using blk_set hb 1 (.int .i64 x), hg, hr0⟩
theorem cellS78_2 {W : World} {g : Nat} {A0 : Option Addr} {c0 : Nat} {f0 : List Int} {f1 : Int} {f2 : Int} (h : W.heap[g]? = some (.cells #[.slice A0 f0.length c0, .int .i64 f1, .int .u64 f2] 78 (0, 0))) : W.cell? ⟨g, 2, none⟩ = some (.int .u64 f2) := (blk_cell h 2).trans rfl
theorem IsS78.set_2 {w0 W : World} {g : Nat} {f0 : List Int} {f1 : Int} {f2 : Int} (h : IsS78 w0 W g f0 f1 f2) (x : Int) : IsS78 w0 (W.setCell ⟨g, 2, none⟩ (.int .u64 x)) g f0 f1 x := by
  obtain ⟨A0, c0, hb, hg, hr0⟩ := h
  exact ⟨A0, c0, by simpa using blk_set hb 2 (.int .u64 x), hg, hr0⟩
theorem IsS78.new (w0 W : World) (A0 : Option Addr) (c0 : Nat) (f0 : List Int) (f1 : Int) (f2 : Int) (hB : Below w0.heap.size w0 W) (hr0 : Kd.C (Kd.int .u8) w0 A0 f0.length f0) : IsS78 w0 (W.alloc (.cells #[.slice A0 f0.length c0, .int .i64 f1, .int .u64 f2] 78)) W.heap.size f0 f1 f2 := ⟨A0, c0, by simpa using heap_alloc_new W _, hB.size, hr0⟩

/-! ### spec_l00From: function 32 -/
def spec_l00From.f (l0 : List Int) : Option (List Int × Int × Int) := some (l0, 0, 0)
set_option maxHeartbeats 8000000 in
set_option maxRecDepth 100000 in
theorem spec_l00From.calls (A0 : Option Addr) (c0 : Nat) (l0 : List Int) (r1 : List Int) (r2 : Int) (r3 : Int) (w0 w : World) (hB : Below w0.heap.size w0 w) (hr0 : Kd.C (Kd.int .u8) w0 A0 l0.length l0) (hc0 : l0.length ≤ c0) (h : spec_l00From.f l0 = some (r1, r2, r3)) :
    Calls Tryz.prog 32 #[.slice A0 l0.length c0] w fun e w' => ∃ g_ : Nat, e = .returned (.pointer (some ⟨g_, 0, none⟩)) ∧ IsS78 w0 w' g_ r1 r2 r3 ∧ Below w0.heap.size w0 w' ∧ Below w.heap.size w w' := by
  have hu78 := Tryz.underlying78
  have HR0 := Aside0.mk hr0
  have HC0 := Aside0.mk hc0
  clear hr0 hc0
  have HBW := Aside0.mk (Below.refl w.heap.size w)
  have HW0 := Aside0.mk hB.size
  have HB := Aside0.mk hB
  clear hB
  have H : (some (l0, 0, 0)) = some (r1, r2, r3) := h
  clear h
  simp only [Option.some.injEq, Prod.mk.injEq] at H
  obtain ⟨rfl, rfl, rfl⟩ := H
  go_enter Tryz.func32, Tryz.ntmps32
  go_wp2_with (first | ((with_reducible refine gate_dst (N := 5) rfl ?_); refine box_event ?hg (N := 5) ?hd (cs := #[.slice A0 l0.length c0, .int .i64 0, .int .u64 0]) (t := 78) ?hr ?_; (case hd => rfl); (case hg => rfl); (case hr => first | (go_simp; done) | (go_simp; rfl)); intro gb370 hg w2 hbox hb; have n0_ := Aside0.mk (below_step HBW.out hb); have n1_ := Aside0.mk (below_step (by repeat (first | (with_reducible first | exact HB.out | apply below_alloc | apply pw_below_drewN | apply below_drew1) | exact HB.out)) hb); have n2_ := Aside0.mk (hbox); have n3_ := Aside0.mk ((by rw [hg]; exact (below_size (by repeat (first | (with_reducible first | exact HBW.out | apply below_alloc | apply pw_below_drewN | apply below_drew1) | exact HBW.out))) : w.heap.size ≤ gb370)); have n4_ := Aside0.mk ((Nat.le_trans HW0.out (by rw [hg]; exact (below_size (by repeat (first | (with_reducible first | exact HBW.out | apply below_alloc | apply pw_below_drewN | apply below_drew1) | exact HBW.out))) : w.heap.size ≤ gb370) : w0.heap.size ≤ gb370)); clear HBW; clear HB; have HBW := n0_; have HB := n1_; have BK370 := n2_; have GW370 := n3_; have GE370 := n4_; clear n0_ n1_ n2_ n3_ n4_; clear hb hbox hg))
  go_ret
  exact ⟨_, rfl, (show IsS78 w0 _ gb370 l0 0 0 from ⟨_, _, by (with_reducible repeat (first | refine blk_drewN ?_ _ | refine blk_drew ?_ | refine blk_alloc ?_ _)); exact BK370.out, GE370.out, HR0.out⟩), by repeat (first | (with_reducible first | exact HB.out | apply below_alloc | apply pw_below_drewN | apply below_drew1 | refine below_set ?_ GE370.out) | exact HB.out), by repeat (first | (with_reducible first | exact HBW.out | apply below_alloc | apply pw_below_drewN | apply below_drew1 | refine below_set ?_ GW370.out) | exact HBW.out)⟩

end Go.Proofs.YtibaiaenfeppcaaGreatDoor.Q

-- made by a patched copy of print.sh: this session's own
namespace Go.Proofs.YtibaiaenfeppcaaGreatDoor.Q
open Go.RowKit Go.Proofs.YtibaiaenfeppcaaGreatDoorW.PrintWords Go.Proofs.YtibaiaenfeppcaaGreatDoorW.PrintLast Go.Proofs.YtibaiaenfeppcaaGreatDoorW.PrintMore
attribute [local go_sem] max2_int min2_int max_two min_two max_three min_three max_four min_four   -- for this text's walks alone
set_option linter.unusedVariables false
set_option linter.unusedSimpArgs false

/-! ### spec_l00Has: function 41 -/
def spec_l00Has.l0 : Nat → List Int → Int → Int → Option (Bool)
  | 0, _, _, _ => none
  | k + 1, x0, x1, x5 => if x5 < (x0.length : Int) then (if 0 ≤ x5 then (if (rd x0 x5) = x1 then (some true) else (spec_l00Has.l0 k x0 x1 (wrap64 (x5 + 1)))) else (none)) else (some false)
def spec_l00Has.f (k : Nat) (l0 : List Int) (a1 : Int) : Option (Bool) := spec_l00Has.l0 k l0 a1 0
theorem spec_l00Has.mono_l : ∀ k, (∀ y0 y1 y2, LeO (spec_l00Has.l0 k y0 y1 y2) (spec_l00Has.l0 (k + 1) y0 y1 y2))
  | 0 => fun _ _ _ r h => by simp [spec_l00Has.l0] at h
  | k + 1 => by
    have ih0 := spec_l00Has.mono_l k
    · intro y0 y1 y2
      unfold spec_l00Has.l0
      repeat' first
      | (with_reducible exact ih0 _ _ _)
      | (with_reducible exact LeO.refl _)
      | (with_reducible exact LeO.none _)
      | (with_reducible refine LeO.ite ?_ ?_)
      | (with_reducible refine LeO.bind ?_ (fun _ => ?_))
      | exact ih0 _ _ _
      | exact LeO.none _
      | refine LeO.ite ?_ ?_
      | refine LeO.bind ?_ (fun _ => ?_)
theorem spec_l00Has.mono : ∀ a0 a1 k, LeO (spec_l00Has.f k a0 a1) (spec_l00Has.f (k + 1) a0 a1) := by
  intro a0 a1 k
  have ih0 := spec_l00Has.mono_l k
  unfold spec_l00Has.f
  repeat' first
      | (with_reducible exact ih0 _ _ _)
      | (with_reducible exact LeO.refl _)
      | (with_reducible exact LeO.none _)
      | (with_reducible refine LeO.ite ?_ ?_)
      | (with_reducible refine LeO.bind ?_ (fun _ => ?_))
      | exact ih0 _ _ _
      | exact LeO.none _
      | refine LeO.ite ?_ ?_
      | refine LeO.bind ?_ (fun _ => ?_)
set_option maxHeartbeats 8000000 in
set_option maxRecDepth 100000 in
theorem spec_l00Has.calls (k : Nat) (A0 : Option Addr) (c0 : Nat) (l0 : List Int) (a1 : Int) (r : Bool) (w : World) (hr0 : Kd.C (Kd.int .i64) w A0 l0.length l0) (hc0 : l0.length ≤ c0) (h : spec_l00Has.f k l0 a1 = some r) :
    Calls Tryz.prog 41 #[.slice A0 l0.length c0, .int .i64 a1] w fun e w' => e = .returned (.bool r) ∧ Drawn0 w w' := by
  have HR0 := Aside0.mk hr0
  have HC0 := Aside0.mk hc0
  clear hr0 hc0
  have H : (spec_l00Has.l0 k l0 a1 0) = some r := h
  clear h
  have H' := Aside0.mk H
  clear H
  go_enter Tryz.func41, Tryz.ntmps41
  go_wp2
  go_loopg [5] k (fun kq v5 w' => ∃ (x5_1 : Int), v5 = .int .i64 x5_1 ∧ Aside0 (spec_l00Has.l0 kq l0 a1 x5_1 = some r) ∧ Aside0 (kq ≤ k) ∧ Drawn0 w w')
  case atStart => exact ⟨(0), (by first | rfl | (simp; done) | (simp [*]; done)), H', ⟨Nat.le_refl _⟩, by repeat (first | exact Drawn0.refl _ | apply Drawn0.step)⟩
  case round =>
    clear H'
    try clear p2
    obtain ⟨x5_1, rfl, HA, HK1, ⟨m1, rfl⟩⟩ := hrel
    cases gk with
    | zero => exact absurd HA.out (by simp [spec_l00Has.l0])
    | succ k1 =>
      have H := HA.out
      clear HA
      simp only [spec_l00Has.l0] at H
      by_cases c3 : x5_1 < (l0.length : Int)
      · rw [if_pos c3] at H
        have c3b0 : decide (x5_1 < (l0.length : Int)) = true := decide_eq_true c3
        clear c3
        by_cases c4 : 0 ≤ x5_1
        · rw [if_pos c4] at H
          have c4b0 : decide (0 ≤ x5_1) = true := decide_eq_true c4
          clear c4
          by_cases c5 : (rd l0 x5_1) = a1
          · rw [if_pos c5] at H
            have c5b0 : ((rd l0 x5_1) == a1) = true := beq_iff_eq.mpr c5
            have c5b1 : ((rd l0 x5_1) != a1) = false := bne_eq_false_iff_eq.mpr c5
            clear c5
            obtain rfl := Option.some.inj H
            have p120 : 0 ≤ (x5_1 : Int) := of_decide_eq_true (by first | (with_reducible assumption) | assumption)
            have q120 : x5_1 < (l0.length : Int) := of_decide_eq_true (by first | (with_reducible assumption) | assumption)
            obtain ⟨ad120, e120, hx120_0⟩ := Kd.at_int HR0.out x5_1 p120 q120
            cases e120
            replace p120 := eq_true p120
            replace q120 := eq_true q120
            go_wp2
            go_ret
            exact ⟨by first | rfl | (simp; done) | (simp [*]; done), by repeat (first | exact Drawn0.refl _ | apply Drawn0.step)⟩
          · rw [if_neg c5] at H
            have c5b0 : ((rd l0 x5_1) == a1) = false := beq_eq_false_iff_ne.mpr c5
            have c5b1 : ((rd l0 x5_1) != a1) = true := bne_iff_ne.mpr c5
            have H' := Aside0.mk H
            clear H
            have p120 : 0 ≤ (x5_1 : Int) := of_decide_eq_true (by first | (with_reducible assumption) | assumption)
            have q120 : x5_1 < (l0.length : Int) := of_decide_eq_true (by first | (with_reducible assumption) | assumption)
            obtain ⟨ad120, e120, hx120_0⟩ := Kd.at_int HR0.out x5_1 p120 q120
            cases e120
            replace p120 := eq_true p120
            replace q120 := eq_true q120
            go_wp2
            go_roundg k1
            case measure => have := HK1.out; omega
            case rel => exact ⟨(wrap64 (x5_1 + 1)), (by first | rfl | (simp; done) | (simp [*]; done)), H', ⟨by have := HK1.out; omega⟩, by repeat (first | exact Drawn0.refl _ | apply Drawn0.step)⟩
        · rw [if_neg c4] at H
          exact absurd H (by simp)
      · rw [if_neg c3] at H
        have c3b0 : decide (x5_1 < (l0.length : Int)) = false := decide_eq_false c3
        clear c3
        obtain rfl := Option.some.inj H
        go_wp2
        go_ret
        exact ⟨by first | rfl | (simp; done) | (simp [*]; done), by repeat (first | exact Drawn0.refl _ | apply Drawn0.step)⟩

end Go.Proofs.YtibaiaenfeppcaaGreatDoor.Q

-- made by a patched copy of print.sh: this session's own
namespace Go.Proofs.YtibaiaenfeppcaaGreatDoor.Q
open Go.RowKit Go.Proofs.YtibaiaenfeppcaaGreatDoorW.PrintWords Go.Proofs.YtibaiaenfeppcaaGreatDoorW.PrintLast Go.Proofs.YtibaiaenfeppcaaGreatDoorW.PrintMore
attribute [local go_sem] max2_int min2_int max_two min_two max_three min_three max_four min_four   -- for this text's walks alone
set_option linter.unusedVariables false
set_option linter.unusedSimpArgs false

/-! ### spec_l00Src_next: function 72 -/
def spec_l00Src_next.f (s0_0 : List Int) (s0_1 : Int) (s0_2 : Int) : Option (Int × Int × Int) := if s0_1 < (s0_0.length : Int) then (if 0 ≤ s0_1 then (if (wrap64 (s0_1 + 1)) ≤ (s0_0.length : Int) then (some (wrap64 (rd s0_0 s0_1), wrap64 (s0_1 + 1), IntKind.u64.wrap ((IntKind.u64.wrap ((IntKind.u64.wrap (s0_2 * 6364136223846793005)) + (IntKind.u64.wrap (wrap64 (rd s0_0 s0_1))))) + 1442695040888963407))) else (some (wrap64 (Go.bits .and .u64 ((IntKind.u64.wrap ((IntKind.u64.wrap ((IntKind.u64.wrap (s0_2 * 6364136223846793005)) + (IntKind.u64.wrap (wrap64 (rd s0_0 s0_1))))) + 1442695040888963407)) / 1099511627776) 255), wrap64 (s0_1 + 1), IntKind.u64.wrap ((IntKind.u64.wrap ((IntKind.u64.wrap (s0_2 * 6364136223846793005)) + (IntKind.u64.wrap (wrap64 (rd s0_0 s0_1))))) + 1442695040888963407)))) else (none)) else (if (wrap64 (s0_1 + 1)) ≤ (s0_0.length : Int) then (some (0, wrap64 (s0_1 + 1), IntKind.u64.wrap ((IntKind.u64.wrap ((IntKind.u64.wrap (s0_2 * 6364136223846793005)))) + 1442695040888963407))) else (some (wrap64 (Go.bits .and .u64 ((IntKind.u64.wrap ((IntKind.u64.wrap ((IntKind.u64.wrap (s0_2 * 6364136223846793005)))) + 1442695040888963407)) / 1099511627776) 255), wrap64 (s0_1 + 1), IntKind.u64.wrap ((IntKind.u64.wrap ((IntKind.u64.wrap (s0_2 * 6364136223846793005)))) + 1442695040888963407))))
set_option maxHeartbeats 8000000 in
set_option maxRecDepth 100000 in
theorem spec_l00Src_next.calls (g : Nat) (s0_0 : List Int) (s0_1 : Int) (s0_2 : Int) (r1 : Int) (r2 : Int) (r3 : Int) (w0 w : World) (hI : IsS78 w0 w g s0_0 s0_1 s0_2) (hB : Below w0.heap.size w0 w) (h : spec_l00Src_next.f s0_0 s0_1 s0_2 = some (r1, r2, r3)) :
    Calls Tryz.prog 72 #[.pointer (some ⟨g, 0, none⟩)] w fun e w' => e = .returned (.int .i64 r1) ∧ IsS78 w0 w' g s0_0 r2 r3 ∧ Below w0.heap.size w0 w' ∧ KeepBut w w' g none := by
  have HI0 := Aside0.mk hI
  have HK := Aside0.mk (KeepBut.refl w g none)
  have HL := Aside0.mk hB.size
  clear hI
  have HW0 := Aside0.mk hB.size
  have HB := Aside0.mk hB
  clear hB
  have H : (if s0_1 < (s0_0.length : Int) then (if 0 ≤ s0_1 then (if (wrap64 (s0_1 + 1)) ≤ (s0_0.length : Int) then (some (wrap64 (rd s0_0 s0_1), wrap64 (s0_1 + 1), IntKind.u64.wrap ((IntKind.u64.wrap ((IntKind.u64.wrap (s0_2 * 6364136223846793005)) + (IntKind.u64.wrap (wrap64 (rd s0_0 s0_1))))) + 1442695040888963407))) else (some (wrap64 (Go.bits .and .u64 ((IntKind.u64.wrap ((IntKind.u64.wrap ((IntKind.u64.wrap (s0_2 * 6364136223846793005)) + (IntKind.u64.wrap (wrap64 (rd s0_0 s0_1))))) + 1442695040888963407)) / 1099511627776) 255), wrap64 (s0_1 + 1), IntKind.u64.wrap ((IntKind.u64.wrap ((IntKind.u64.wrap (s0_2 * 6364136223846793005)) + (IntKind.u64.wrap (wrap64 (rd s0_0 s0_1))))) + 1442695040888963407)))) else (none)) else (if (wrap64 (s0_1 + 1)) ≤ (s0_0.length : Int) then (some (0, wrap64 (s0_1 + 1), IntKind.u64.wrap ((IntKind.u64.wrap ((IntKind.u64.wrap (s0_2 * 6364136223846793005)))) + 1442695040888963407))) else (some (wrap64 (Go.bits .and .u64 ((IntKind.u64.wrap ((IntKind.u64.wrap ((IntKind.u64.wrap (s0_2 * 6364136223846793005)))) + 1442695040888963407)) / 1099511627776) 255), wrap64 (s0_1 + 1), IntKind.u64.wrap ((IntKind.u64.wrap ((IntKind.u64.wrap (s0_2 * 6364136223846793005)))) + 1442695040888963407))))) = some (r1, r2, r3) := h
  clear h
  by_cases c2 : s0_1 < (s0_0.length : Int)
  · rw [if_pos c2] at H
    have c2b0 : decide (s0_1 < (s0_0.length : Int)) = true := decide_eq_true c2
    clear c2
    by_cases c3 : 0 ≤ s0_1
    · rw [if_pos c3] at H
      have c3b0 : decide (0 ≤ s0_1) = true := decide_eq_true c3
      clear c3
      by_cases c4 : (wrap64 (s0_1 + 1)) ≤ (s0_0.length : Int)
      · rw [if_pos c4] at H
        have c4b0 : decide ((wrap64 (s0_1 + 1)) ≤ (s0_0.length : Int)) = true := decide_eq_true c4
        clear c4
        simp only [Option.some.injEq, Prod.mk.injEq] at H
        obtain ⟨rfl, rfl, rfl⟩ := H
        obtain ⟨ASz5_0, cSz5_0, HGz5, hgz5, HSz5_0⟩ := HI0.out
        have hcz5_0 := cellS78_0 HGz5
        have hcz5_1 := cellS78_1 HGz5
        have hcz5_2 := cellS78_2 HGz5
        have hfz5_1 := blk_frozen HGz5 1
        have hfz5_2 := blk_frozen HGz5 2
        clear HGz5 hgz5
        have p371 : 0 ≤ (s0_1 : Int) := of_decide_eq_true (by first | (with_reducible assumption) | assumption)
        have q371 : s0_1 < (s0_0.length : Int) := of_decide_eq_true (by first | (with_reducible assumption) | assumption)
        obtain ⟨ad371, e371, hx371_0⟩ := Kd.at_int HSz5_0 s0_1 p371 q371
        cases e371
        replace hx371_0 := pw_cell_below HB.out hx371_0
        replace p371 := eq_true p371
        replace q371 := eq_true q371
        go_enter Tryz.func72, Tryz.ntmps72
        go_wp2
        repeat (go_quiet (fail); try go_wp2)
        go_ret
        exact ⟨by first | rfl | (simp [errW_none, errW_some] <;> rfl) | (simp [*, errW_none, errW_some] <;> rfl), by repeat (first | (with_reducible first | exact HI0.out | apply IsS78.alloc | apply IsS78.drewN | apply IsS78.drew | apply IsS78.set_1 | apply IsS78.set_2) | exact HI0.out), by repeat (first | (with_reducible first | exact HB.out | apply below_alloc | apply pw_below_drewN | apply below_drew1 | refine below_set ?_ (IsS78.ge HI0.out)) | exact HB.out), by repeat (first | (with_reducible first | exact HK.out | apply KeepBut.set_ | apply keep_drewN | apply keep_drew | apply keep_alloc) | exact HK.out)⟩
      · rw [if_neg c4] at H
        have c4b0 : decide ((wrap64 (s0_1 + 1)) ≤ (s0_0.length : Int)) = false := decide_eq_false c4
        clear c4
        simp only [Option.some.injEq, Prod.mk.injEq] at H
        obtain ⟨rfl, rfl, rfl⟩ := H
        obtain ⟨ASz6_0, cSz6_0, HGz6, hgz6, HSz6_0⟩ := HI0.out
        have hcz6_0 := cellS78_0 HGz6
        have hcz6_1 := cellS78_1 HGz6
        have hcz6_2 := cellS78_2 HGz6
        have hfz6_1 := blk_frozen HGz6 1
        have hfz6_2 := blk_frozen HGz6 2
        clear HGz6 hgz6
        have p371 : 0 ≤ (s0_1 : Int) := of_decide_eq_true (by first | (with_reducible assumption) | assumption)
        have q371 : s0_1 < (s0_0.length : Int) := of_decide_eq_true (by first | (with_reducible assumption) | assumption)
        obtain ⟨ad371, e371, hx371_0⟩ := Kd.at_int HSz6_0 s0_1 p371 q371
        cases e371
        replace hx371_0 := pw_cell_below HB.out hx371_0
        replace p371 := eq_true p371
        replace q371 := eq_true q371
        go_enter Tryz.func72, Tryz.ntmps72
        go_wp2
        repeat (go_quiet (fail); try go_wp2)
        go_ret
        exact ⟨by first | rfl | (simp [errW_none, errW_some] <;> rfl) | (simp [*, errW_none, errW_some] <;> rfl), by repeat (first | (with_reducible first | exact HI0.out | apply IsS78.alloc | apply IsS78.drewN | apply IsS78.drew | apply IsS78.set_1 | apply IsS78.set_2) | exact HI0.out), by repeat (first | (with_reducible first | exact HB.out | apply below_alloc | apply pw_below_drewN | apply below_drew1 | refine below_set ?_ (IsS78.ge HI0.out)) | exact HB.out), by repeat (first | (with_reducible first | exact HK.out | apply KeepBut.set_ | apply keep_drewN | apply keep_drew | apply keep_alloc) | exact HK.out)⟩
    · rw [if_neg c3] at H
      exact absurd H (by simp)
  · rw [if_neg c2] at H
    have c2b0 : decide (s0_1 < (s0_0.length : Int)) = false := decide_eq_false c2
    clear c2
    by_cases c7 : (wrap64 (s0_1 + 1)) ≤ (s0_0.length : Int)
    · rw [if_pos c7] at H
      have c7b0 : decide ((wrap64 (s0_1 + 1)) ≤ (s0_0.length : Int)) = true := decide_eq_true c7
      clear c7
      simp only [Option.some.injEq, Prod.mk.injEq] at H
      obtain ⟨rfl, rfl, rfl⟩ := H
      obtain ⟨ASz8_0, cSz8_0, HGz8, hgz8, HSz8_0⟩ := HI0.out
      have hcz8_0 := cellS78_0 HGz8
      have hcz8_1 := cellS78_1 HGz8
      have hcz8_2 := cellS78_2 HGz8
      have hfz8_1 := blk_frozen HGz8 1
      have hfz8_2 := blk_frozen HGz8 2
      clear HGz8 hgz8
      go_enter Tryz.func72, Tryz.ntmps72
      go_wp2
      repeat (go_quiet (fail); try go_wp2)
      go_ret
      exact ⟨by first | rfl | (simp [errW_none, errW_some] <;> rfl) | (simp [*, errW_none, errW_some] <;> rfl), by repeat (first | (with_reducible first | exact HI0.out | apply IsS78.alloc | apply IsS78.drewN | apply IsS78.drew | apply IsS78.set_1 | apply IsS78.set_2) | exact HI0.out), by repeat (first | (with_reducible first | exact HB.out | apply below_alloc | apply pw_below_drewN | apply below_drew1 | refine below_set ?_ (IsS78.ge HI0.out)) | exact HB.out), by repeat (first | (with_reducible first | exact HK.out | apply KeepBut.set_ | apply keep_drewN | apply keep_drew | apply keep_alloc) | exact HK.out)⟩
    · rw [if_neg c7] at H
      have c7b0 : decide ((wrap64 (s0_1 + 1)) ≤ (s0_0.length : Int)) = false := decide_eq_false c7
      clear c7
      simp only [Option.some.injEq, Prod.mk.injEq] at H
      obtain ⟨rfl, rfl, rfl⟩ := H
      obtain ⟨ASz9_0, cSz9_0, HGz9, hgz9, HSz9_0⟩ := HI0.out
      have hcz9_0 := cellS78_0 HGz9
      have hcz9_1 := cellS78_1 HGz9
      have hcz9_2 := cellS78_2 HGz9
      have hfz9_1 := blk_frozen HGz9 1
      have hfz9_2 := blk_frozen HGz9 2
      clear HGz9 hgz9
      go_enter Tryz.func72, Tryz.ntmps72
      go_wp2
      repeat (go_quiet (fail); try go_wp2)
      go_ret
      exact ⟨by first | rfl | (simp [errW_none, errW_some] <;> rfl) | (simp [*, errW_none, errW_some] <;> rfl), by repeat (first | (with_reducible first | exact HI0.out | apply IsS78.alloc | apply IsS78.drewN | apply IsS78.drew | apply IsS78.set_1 | apply IsS78.set_2) | exact HI0.out), by repeat (first | (with_reducible first | exact HB.out | apply below_alloc | apply pw_below_drewN | apply below_drew1 | refine below_set ?_ (IsS78.ge HI0.out)) | exact HB.out), by repeat (first | (with_reducible first | exact HK.out | apply KeepBut.set_ | apply keep_drewN | apply keep_drew | apply keep_alloc) | exact HK.out)⟩

end Go.Proofs.YtibaiaenfeppcaaGreatDoor.Q

-- mended

-- made by a patched copy of print.sh: this session's own
namespace Go.Proofs.YtibaiaenfeppcaaGreatDoor.Q
open Go.RowKit Go.Proofs.YtibaiaenfeppcaaGreatDoorW.PrintWords Go.Proofs.YtibaiaenfeppcaaGreatDoorW.PrintLast Go.Proofs.YtibaiaenfeppcaaGreatDoorW.PrintMore
attribute [local go_sem] max2_int min2_int max_two min_two max_three min_three max_four min_four   -- for this text's walks alone
set_option linter.unusedVariables false
set_option linter.unusedSimpArgs false

/-! ### spec_l00Src_pick: function 55 -/
def spec_l00Src_pick.f (s0_0 : List Int) (s0_1 : Int) (s0_2 : Int) (a1 : Int) : Option (Int × Int × Int) := if a1 ≤ 1 then (some (0, s0_1, s0_2)) else ((spec_l00Src_next.f s0_0 s0_1 s0_2).bind fun bt372 => (if a1 > 200 then ((spec_l00Src_next.f s0_0 bt372.2.1 bt372.2.2).bind fun bt375 => (if a1 = 0 then (none) else (some (Int.tmod (wrap64 ((wrap64 (bt372.1 * 256)) + bt375.1)) a1, bt375.2.1, bt375.2.2)))) else (if a1 = 0 then (none) else (some (Int.tmod bt372.1 a1, bt372.2.1, bt372.2.2)))))
set_option maxHeartbeats 8000000 in
set_option maxRecDepth 100000 in
theorem spec_l00Src_pick.calls (g : Nat) (s0_0 : List Int) (s0_1 : Int) (s0_2 : Int) (a1 : Int) (r1 : Int) (r2 : Int) (r3 : Int) (w0 w : World) (hI : IsS78 w0 w g s0_0 s0_1 s0_2) (hB : Below w0.heap.size w0 w) (h : spec_l00Src_pick.f s0_0 s0_1 s0_2 a1 = some (r1, r2, r3)) :
    Calls Tryz.prog 55 #[.pointer (some ⟨g, 0, none⟩), .int .i64 a1] w fun e w' => e = .returned (.int .i64 r1) ∧ IsS78 w0 w' g s0_0 r2 r3 ∧ Below w0.heap.size w0 w' ∧ KeepBut w w' g none := by
  have HI0 := Aside0.mk hI
  have HK := Aside0.mk (KeepBut.refl w g none)
  have HL := Aside0.mk hB.size
  clear hI
  have HW0 := Aside0.mk hB.size
  have HB := Aside0.mk hB
  clear hB
  have H : (if a1 ≤ 1 then (some (0, s0_1, s0_2)) else ((spec_l00Src_next.f s0_0 s0_1 s0_2).bind fun bt372 => (if a1 > 200 then ((spec_l00Src_next.f s0_0 bt372.2.1 bt372.2.2).bind fun bt375 => (if a1 = 0 then (none) else (some (Int.tmod (wrap64 ((wrap64 (bt372.1 * 256)) + bt375.1)) a1, bt375.2.1, bt375.2.2)))) else (if a1 = 0 then (none) else (some (Int.tmod bt372.1 a1, bt372.2.1, bt372.2.2)))))) = some (r1, r2, r3) := h
  clear h
  by_cases c3 : a1 ≤ 1
  · rw [if_pos c3] at H
    have c3b0 : decide (a1 ≤ 1) = true := decide_eq_true c3
    clear c3
    simp only [Option.some.injEq, Prod.mk.injEq] at H
    obtain ⟨rfl, rfl, rfl⟩ := H
    go_enter Tryz.func55, Tryz.ntmps55
    go_wp2
    go_ret
    exact ⟨by first | rfl | (simp [errW_none, errW_some] <;> rfl) | (simp [*, errW_none, errW_some] <;> rfl), by repeat (first | (with_reducible first | exact HI0.out | apply IsS78.alloc | apply IsS78.drewN | apply IsS78.drew | apply IsS78.set_1 | apply IsS78.set_2) | exact HI0.out), by repeat (first | (with_reducible first | exact HB.out | apply below_alloc | apply pw_below_drewN | apply below_drew1 | refine below_set ?_ (IsS78.ge HI0.out)) | exact HB.out), by repeat (first | (with_reducible first | exact HK.out | apply KeepBut.set_ | apply keep_drewN | apply keep_drew | apply keep_alloc) | exact HK.out)⟩
  · rw [if_neg c3] at H
    have c3b0 : decide (a1 ≤ 1) = false := decide_eq_false c3
    clear c3
    replace H := Option.bind_eq_some_iff.mp H
    obtain ⟨⟨t372, t373, t374⟩, A40, H⟩ := H
    replace H : (if a1 > 200 then ((spec_l00Src_next.f s0_0 t373 t374).bind fun bt375 => (if a1 = 0 then (none) else (some (Int.tmod (wrap64 ((wrap64 (t372 * 256)) + bt375.1)) a1, bt375.2.1, bt375.2.2)))) else (if a1 = 0 then (none) else (some (Int.tmod t372 a1, t373, t374)))) = some (r1, r2, r3) := H
    have A4 := Aside0.mk A40
    clear A40
    by_cases c5 : a1 > 200
    · rw [if_pos c5] at H
      have c5b0 : decide (200 < a1) = true := decide_eq_true c5
      clear c5
      replace H := Option.bind_eq_some_iff.mp H
      obtain ⟨⟨t375, t376, t377⟩, A60, H⟩ := H
      replace H : (if a1 = 0 then (none) else (some (Int.tmod (wrap64 ((wrap64 (t372 * 256)) + t375)) a1, t376, t377))) = some (r1, r2, r3) := H
      have A6 := Aside0.mk A60
      clear A60
      by_cases c7 : a1 = 0
      · rw [if_pos c7] at H
        exact absurd H (by simp)
      · rw [if_neg c7] at H
        have c7b0 : (a1 == 0) = false := beq_eq_false_iff_ne.mpr c7
        have c7b1 : (a1 != 0) = true := bne_iff_ne.mpr c7
        simp only [Option.some.injEq, Prod.mk.injEq] at H
        obtain ⟨rfl, rfl, rfl⟩ := H
        go_enter Tryz.func55, Tryz.ntmps55
        go_wp2_with (first | ((with_reducible refine gate_callee (f := 72) rfl ?_); refine goesL_ (some 9) rfl rfl Tryz.func72 (by kernel_rfl) rfl #[.pointer (some ⟨g, 0, none⟩)] rfl (by (try simp only [List.map_toArray, List.map_cons, List.map_nil]); first | done | rfl | (simp only [List.length_drop, List.length_take]; rfl)) ?_; (with_reducible refine (spec_l00Src_next.calls g s0_0 s0_1 s0_2 t372 t373 t374 w0 _ ?side1 ?side2 A4.out).mono ?_); (case side1 => repeat (first | (with_reducible first | exact HI0.out | apply IsS78.alloc | apply IsS78.drewN | apply IsS78.drew | apply IsS78.set_1 | apply IsS78.set_2) | exact HI0.out)); (case side2 => repeat (first | (with_reducible first | exact HB.out | apply below_alloc | apply pw_below_drewN | apply below_drew1 | refine below_set ?_ (IsS78.ge HI0.out)) | exact HB.out)); rintro e w8 ⟨rfl, hi, hb, hk⟩; refine ⟨_, rfl, ?_⟩; have n0_ := Aside0.mk (KeepBut.trans (by repeat (first | (with_reducible first | exact HK.out | apply KeepBut.set_ | apply keep_drewN | apply keep_drew | apply keep_alloc) | exact HK.out)) hk (.inl rfl)); have n1_ := Aside0.mk (hb); have n2_ := Aside0.mk (hi); clear HK; clear HB; clear HI0; have HK := n0_; have HB := n1_; have HI0 := n2_; clear n0_ n1_ n2_; (try clear hb); (try clear hb2); (try clear hk); (try clear hi)) | ((with_reducible refine gate_callee (f := 72) rfl ?_); refine goesL_ (some 15) rfl rfl Tryz.func72 (by kernel_rfl) rfl #[.pointer (some ⟨g, 0, none⟩)] rfl (by (try simp only [List.map_toArray, List.map_cons, List.map_nil]); first | done | rfl | (simp only [List.length_drop, List.length_take]; rfl)) ?_; (with_reducible refine (spec_l00Src_next.calls g s0_0 t373 t374 t375 t376 t377 w0 _ ?side1 ?side2 A6.out).mono ?_); (case side1 => repeat (first | (with_reducible first | exact HI0.out | apply IsS78.alloc | apply IsS78.drewN | apply IsS78.drew | apply IsS78.set_1 | apply IsS78.set_2) | exact HI0.out)); (case side2 => repeat (first | (with_reducible first | exact HB.out | apply below_alloc | apply pw_below_drewN | apply below_drew1 | refine below_set ?_ (IsS78.ge HI0.out)) | exact HB.out)); rintro e w9 ⟨rfl, hi, hb, hk⟩; refine ⟨_, rfl, ?_⟩; have n0_ := Aside0.mk (KeepBut.trans (by repeat (first | (with_reducible first | exact HK.out | apply KeepBut.set_ | apply keep_drewN | apply keep_drew | apply keep_alloc) | exact HK.out)) hk (.inl rfl)); have n1_ := Aside0.mk (hb); have n2_ := Aside0.mk (hi); clear HK; clear HB; clear HI0; have HK := n0_; have HB := n1_; have HI0 := n2_; clear n0_ n1_ n2_; (try clear hb); (try clear hb2); (try clear hk); (try clear hi)))
        go_ret
        exact ⟨by first | rfl | (simp [errW_none, errW_some] <;> rfl) | (simp [*, errW_none, errW_some] <;> rfl), by repeat (first | (with_reducible first | exact HI0.out | apply IsS78.alloc | apply IsS78.drewN | apply IsS78.drew | apply IsS78.set_1 | apply IsS78.set_2) | exact HI0.out), by repeat (first | (with_reducible first | exact HB.out | apply below_alloc | apply pw_below_drewN | apply below_drew1 | refine below_set ?_ (IsS78.ge HI0.out)) | exact HB.out), by repeat (first | (with_reducible first | exact HK.out | apply KeepBut.set_ | apply keep_drewN | apply keep_drew | apply keep_alloc) | exact HK.out)⟩
    · rw [if_neg c5] at H
      have c5b0 : decide (200 < a1) = false := decide_eq_false c5
      clear c5
      by_cases c10 : a1 = 0
      · rw [if_pos c10] at H
        exact absurd H (by simp)
      · rw [if_neg c10] at H
        have c10b0 : (a1 == 0) = false := beq_eq_false_iff_ne.mpr c10
        have c10b1 : (a1 != 0) = true := bne_iff_ne.mpr c10
        simp only [Option.some.injEq, Prod.mk.injEq] at H
        obtain ⟨rfl, rfl, rfl⟩ := H
        go_enter Tryz.func55, Tryz.ntmps55
        go_wp2_with (first | ((with_reducible refine gate_callee (f := 72) rfl ?_); refine goesL_ (some 9) rfl rfl Tryz.func72 (by kernel_rfl) rfl #[.pointer (some ⟨g, 0, none⟩)] rfl (by (try simp only [List.map_toArray, List.map_cons, List.map_nil]); first | done | rfl | (simp only [List.length_drop, List.length_take]; rfl)) ?_; (with_reducible refine (spec_l00Src_next.calls g s0_0 s0_1 s0_2 t372 t373 t374 w0 _ ?side1 ?side2 A4.out).mono ?_); (case side1 => repeat (first | (with_reducible first | exact HI0.out | apply IsS78.alloc | apply IsS78.drewN | apply IsS78.drew | apply IsS78.set_1 | apply IsS78.set_2) | exact HI0.out)); (case side2 => repeat (first | (with_reducible first | exact HB.out | apply below_alloc | apply pw_below_drewN | apply below_drew1 | refine below_set ?_ (IsS78.ge HI0.out)) | exact HB.out)); rintro e w11 ⟨rfl, hi, hb, hk⟩; refine ⟨_, rfl, ?_⟩; have n0_ := Aside0.mk (KeepBut.trans (by repeat (first | (with_reducible first | exact HK.out | apply KeepBut.set_ | apply keep_drewN | apply keep_drew | apply keep_alloc) | exact HK.out)) hk (.inl rfl)); have n1_ := Aside0.mk (hb); have n2_ := Aside0.mk (hi); clear HK; clear HB; clear HI0; have HK := n0_; have HB := n1_; have HI0 := n2_; clear n0_ n1_ n2_; (try clear hb); (try clear hb2); (try clear hk); (try clear hi)))
        go_ret
        exact ⟨by first | rfl | (simp [errW_none, errW_some] <;> rfl) | (simp [*, errW_none, errW_some] <;> rfl), by repeat (first | (with_reducible first | exact HI0.out | apply IsS78.alloc | apply IsS78.drewN | apply IsS78.drew | apply IsS78.set_1 | apply IsS78.set_2) | exact HI0.out), by repeat (first | (with_reducible first | exact HB.out | apply below_alloc | apply pw_below_drewN | apply below_drew1 | refine below_set ?_ (IsS78.ge HI0.out)) | exact HB.out), by repeat (first | (with_reducible first | exact HK.out | apply KeepBut.set_ | apply keep_drewN | apply keep_drew | apply keep_alloc) | exact HK.out)⟩

end Go.Proofs.YtibaiaenfeppcaaGreatDoor.Q

