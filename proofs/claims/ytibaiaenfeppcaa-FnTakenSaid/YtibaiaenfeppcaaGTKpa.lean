/- Parts of the proof that the law of this seat holds: Q0, Op, OpY, Sv, Gr, Cc, Shelf, Sw, Ha, Yl, Yv, Yw, Yg, Ym, Q50, Q53, Q85, Q86, Q1, Q2, Q3, Q8, Q9, Q10, Q44, Q45, Q46, Q4, Q5, Q6, PuY, Lw, Ow, Yo, Q80, Yn, Q88, AdN, Yk, Yt, Yx, Q65, Q11, Ymv, Q39, Q61, Q63, Q64, Ytn, Q48, Q43, Q49, Q75, Q76, Q77. -/
import Derived.Test.YtibaiaenfeppcaaProg
import Derived.Below
import Derived.Deep.Draws
import Derived.Deep.AppendLies
import Derived.Maps.AppendAt
import Derived.OwnWalk
import Derived.Laws.BytesArg
import Derived.Laws.MakeOwn
import Derived.Laws.OwnMore
import Derived.Deep.OwnRows
import Derived.Tactics
import Derived.Lib.ConvBytes
import Derived.Laws.Slices
import Derived.WalkKit
import Derived.KernelRfl
import Derived.RowKit3
import Derived.Deep.LoopGhost
import Derived.Deep.QuietTactic
import Derived.BigQuiet
import Derived.WideLaws
import Derived.Deep.DeepCutAuto
import Derived.Deep.CutBlock
import Derived.Deep.RegionHeld3
import Derived.Laws.Rows
import Derived.Lib.AppendStr
import Derived.ArgAppend
import Derived.Laws.IdiomCopy
import Derived.OrdersHeld
import Derived.Laws.BitsLemmas
import Derived.RowKit
import Derived.Test.YtibaiaenfeppcaaGTKw
import Derived.ProofKit
import Derived.OpenShut
import Derived.ShutString
import Derived.ChangeOld
import Derived.SizedLaws
import Derived.RangeFuncNested
import Derived.RangeFuncBound
import Derived.RangeFuncCalls
import Derived.RangeFuncLeaves
import Derived.RangeFuncFrom
import Derived.RangeFuncBox
import Derived.Shelf.Abstract
import Derived.Shelf.RegionOpen
import Derived.OwnWalkIn
import Derived.TacticsInMore
import Derived.LoopNIn
import Derived.LoopIn
import Derived.Laws.AppendOwn
import Derived.Ground.SlgmProg
import Derived.Shelf.SortM.Plain
import Derived.Shelf.SortM.SortNone
import Derived.Sort.OwnSortedInts
import Derived.Lib.Hide
import Derived.Outline
import Derived.Deep.RegionHeld
import Derived.Deep.RegionWith
import Derived.StillTailTactics
set_option linter.unusedVariables false
set_option linter.unusedSimpArgs false
-- made by a patched copy of print.sh: this session's own
namespace Go.Proofs.Ytibaiaenfeppcaa.Q
open Go.RowKit Go.Proofs.YtibaiaenfeppcaaW.PrintWords Go.Proofs.YtibaiaenfeppcaaW.PrintLast Go.Proofs.YtibaiaenfeppcaaW.PrintMore
attribute [local go_sem] max2_int min2_int max_two min_two max_three min_three max_four min_four   -- for this text's walks alone
set_option linter.unusedVariables false
set_option linter.unusedSimpArgs false



def errW : Option Int → Value
  | none => .nilIface
  | some c => .iface 0 (.int .i64 c)
theorem errW_none : errW none = .nilIface := rfl
theorem errW_some (c : Int) : errW (some c) = .iface 0 (.int .i64 c) := rfl

theorem info2 : (Try.prog.info? 2).map (fun i => (i.zero, i.size, i.bytes)) = some (some (.int .i64 0), 1, 8) := by kernel_rfl
theorem info31 : (Try.prog.info? 31).map (fun i => (i.zero, i.size, i.bytes)) = some (some (.slice none 0 0), 1, 24) := by kernel_rfl
-- the values' own types
def rd_L1 (xs : List (List Int)) (i : Int) : (List Int) := xs.getD i.toNat ([] : List Int)
theorem at_L1 {w : World} {A : Option Addr} {n : Nat} {xs : List (List Int)} (h : Kd.C (Kd.slice 2 (Kd.int .i64)) w A n xs) (i : Int) (h0 : 0 ≤ i) (h1 : i < n) : ∃ ad A0 c0, A = some ad ∧ w.cell? (ad.add i.toNat) = some (.slice A0 (rd_L1 xs i).length c0) ∧ (rd_L1 xs i).length ≤ c0 ∧ (Kd.int .i64).C w A0 (rd_L1 xs i).length (rd_L1 xs i) := by
  obtain ⟨ad, c, e, _, hK, hc0⟩ := Kd.C_get h ([] : List Int) i h0 h1
  have hc : ∀ j u, c[j]? = some u → w.cell? (ad.add (i.toNat * 1 + j)) = some u := hc0
  obtain ⟨A0, c0, rfl, l0, g0⟩ := hK
  exact ⟨ad, A0, c0, e, by have hq := hc 0 _ rfl; rwa [Nat.mul_one, Nat.add_zero] at hq, l0, g0⟩

def rd_L2 (xs : List (List (List Int))) (i : Int) : (List (List Int)) := xs.getD i.toNat ([] : List (List Int))
end Go.Proofs.Ytibaiaenfeppcaa.Q

/- How a value that came in is told by the kinds (Kd): what its reading as data says of its cells. -/
namespace Go.Proofs.Ytibaiaenfeppcaa.Op
open Go.RowKit Go.ChangeShapes Go.WideShapes Go.ChangeAt Go.Proofs.YtibaiaenfeppcaaW.PrintWords

/-- Whatever can be read as a value of type t has cells that tell some a of kind d, of which Ok holds. -/
def Opens {α : Type} (P : Program) (w : World) (t : TypeId) (d : Kd α) (Ok : α → Prop) : Prop :=
  ∀ (H : Type) (enc : TypeId × Value → H) (fuel : Nat) (cs : List Value) (x : DataW H × List MemPlace), DataW.trod enc P w 0 (fun _ => true) true fuel t cs = some x → ∃ a, d.K w a cs ∧ Ok a

def In64 (n : Int) : Prop := -9223372036854775808 ≤ n ∧ n ≤ 9223372036854775807

variable {P : Program} {w : World} {t e : TypeId} {α β : Type} {d : Kd α} {d2 : Kd β} {Ok : α → Prop} {Ok2 : β → Prop}

theorem opens_i64 (ht : P.underlying t = some (.int .i64)) : Opens P w t (Kd.int .i64) In64 := by
  intro H enc fuel cs x h
  obtain ⟨n, rfl, _, hw⟩ := DataW.trod_int ht h
  refine ⟨n, rfl, ?_⟩
  have h2 := hw
  simp [Lit.wf, IntKind.min, IntKind.max, IntKind.signed, IntKind.bits] at h2
  exact h2

theorem mapM_cells {w : World} {a : Addr} : ∀ (n k : Nat) (cs : List Value), ((List.range' k n).mapM fun i => w.cell? (a.add i)) = some cs → cs.length = n ∧ ∀ i u, cs[i]? = some u → w.cell? (a.add (k + i)) = some u := by
  intro n
  induction n with
  | zero => intro k cs h; simp at h; subst h; simp
  | succ n ih =>
    intro k cs h
    rw [List.range'_succ, List.mapM_cons] at h
    simp only [bind, Option.bind_eq_some_iff, pure, Option.some.injEq] at h
    obtain ⟨u, hu, us, hus, rfl⟩ := h
    obtain ⟨h1, h2⟩ := ih (k + 1) us hus
    refine ⟨by simp [h1], ?_⟩
    intro i v hv
    cases i with
    | zero => simp at hv; subst hv; simpa using hu
    | succ i => rw [show k + (i + 1) = k + 1 + i by omega]; exact h2 i v (by simpa using hv)

theorem cells_get {w : World} {b n : Nat} {a : Addr} {cs : List Value} (h : w.cells? b a n = some cs) : cs.length = n ∧ ∀ i u, cs[i]? = some u → w.cell? (a.add i) = some u := by
  unfold World.cells? at h
  split at h
  · rw [List.range_eq_range'] at h
    obtain ⟨h1, h2⟩ := mapM_cells n 0 cs h
    exact ⟨h1, fun i u hu => by have := h2 i u hu; rwa [Nat.zero_add] at this⟩
  · simp at h

theorem choose_list {α : Type} {R : Nat → α → Prop} : ∀ n : Nat, (∀ j, j < n → ∃ a, R j a) → ∃ l : List α, l.length = n ∧ ∀ j a, l[j]? = some a → R j a := by
  intro n
  induction n with
  | zero => intro _; exact ⟨[], rfl, by simp⟩
  | succ n ih =>
    intro h
    obtain ⟨l, hl, hR⟩ := ih fun j hj => h j (by omega)
    obtain ⟨a, ha⟩ := h n (by omega)
    refine ⟨l ++ [a], by simp [hl], ?_⟩
    intro j b hb
    by_cases hj : j < n
    · rw [List.getElem?_append_left (by omega)] at hb; exact hR j b hb
    · rw [List.getElem?_append_right (by omega)] at hb
      have : j = n := by
        have := (List.getElem?_eq_some_iff.1 hb).1
        simp at this; omega
      subst this
      rw [hl, Nat.sub_self] at hb
      simp at hb; subst hb; exact ha

theorem add_add' (a : Addr) (i j : Nat) : (a.add i).add j = a.add (i + j) := by
  simp only [Addr.add]
  split <;> split <;> simp_all [Nat.add_assoc]

theorem opens_slice (ht : P.underlying t = some (.slice e)) (he : Opens P w e d Ok) (hs : d.sz = P.cellsOf e) : Opens P w t (Kd.slice e d) (fun xs => (∀ a ∈ xs, Ok a) ∧ xs.length ≤ maxLen) := by
  intro H enc fuel cs x h
  rcases DataW.trod_slice ht h with ⟨rfl, _⟩ | ⟨a, len, cap, elems, rest, n, _, rfl, _, _, hl, hm, hlen, hel, _, _⟩
  · exact ⟨[], ⟨none, 0, rfl, Nat.le_refl _, Kd.C_nil _ _⟩, by simp, by simp⟩
  · have each : ∀ j, j < len → ∃ b, (∃ c : List Value, c.length = d.sz ∧ d.K w b c ∧ ∀ i u, c[i]? = some u → w.cell? (a.add (j * d.sz + i)) = some u) ∧ Ok b := by
      intro j hj
      have h1 := hel j hj
      rw [List.getElem?_eq_getElem (by omega), Option.bind_eq_some_iff] at h1
      obtain ⟨c, hc, hx⟩ := h1
      obtain ⟨hcl, hcell⟩ := cells_get hc
      obtain ⟨b, hb, hok⟩ := he H enc n c _ hx
      refine ⟨b, ⟨c, by rw [hs, hcl], hb, fun i u hu => ?_⟩, hok⟩
      have := hcell i u hu
      rwa [add_add', ← hs] at this
    obtain ⟨l, hll, hR⟩ := choose_list len each
    have hm' : cap ≤ 9223372036854775807 := by unfold maxLen at hm; exact hm
    refine ⟨l, ⟨some a, cap, by rw [hll], by omega, by omega, by omega, fun _ => ⟨a, rfl, fun j p hp => (hR j p hp).1⟩⟩, fun b hb => ?_, by omega⟩
    obtain ⟨j, hj, rfl⟩ := List.getElem_of_mem hb
    exact (hR j _ (List.getElem?_eq_getElem hj)).2

/-- The same of a struct's fields from cell number off on. -/
def OpensL {α : Type} (P : Program) (w : World) (fs : List Field) (off : Nat) (d : Kd α) (Ok : α → Prop) : Prop :=
  ∀ (H : Type) (enc : TypeId × Value → H) (fuel : Nat) (cs : List Value), cs.length = off + d.sz → (∀ f ∈ fs, ∃ x, DataW.trod enc P w 0 (fun _ => true) true fuel f.type ((cs.drop f.offset).take (P.cellsOf f.type)) = some x) → ∃ a, d.K w a (cs.drop off) ∧ Ok a

theorem opensL_one {f : Field} {off : Nat} (hf : Opens P w f.type d Ok) (ho : f.offset = off) (hs : d.sz = P.cellsOf f.type) : OpensL P w [f] off d Ok := by
  intro H enc fuel cs hl h
  obtain ⟨x, hx⟩ := h f (by simp)
  rw [ho, List.take_of_length_le (by simp; omega)] at hx
  exact hf H enc fuel _ x hx

theorem opensL_cons {f : Field} {fs : List Field} {off : Nat} (hf : Opens P w f.type d Ok) (ho : f.offset = off) (hs : d.sz = P.cellsOf f.type) (hr : OpensL P w fs (off + d.sz) d2 Ok2) :
    OpensL P w (f :: fs) off (Kd.pair d d2) (fun x => Ok x.1 ∧ Ok2 x.2) := by
  intro H enc fuel cs hl h
  have hl' : cs.length = off + (d.sz + d2.sz) := hl
  obtain ⟨x, hx⟩ := h f (by simp)
  rw [ho, ← hs] at hx
  obtain ⟨a, ha, hoka⟩ := hf H enc fuel _ x hx
  obtain ⟨b, hb, hokb⟩ := hr H enc fuel cs (by omega) (fun g hg => h g (by simp [hg]))
  exact ⟨(a, b), ⟨(cs.drop off).take d.sz, cs.drop (off + d.sz), by rw [← List.drop_drop, List.take_append_drop], ha, hb⟩, hoka, hokb⟩

theorem opens_struct {fs : Array Field} (ht : P.underlying t = some (.struct fs)) (hs : d.sz = P.cellsOf t) (h : OpensL P w fs.toList 0 d Ok) : Opens P w t d Ok := by
  intro H enc fuel cs x hx
  obtain ⟨xs, n, _, _, hl, hxl, hf⟩ := DataW.trod_struct ht hx
  have := h H enc n cs (by omega) (fun f hfm => by
    obtain ⟨i, hi, rfl⟩ := List.getElem_of_mem hfm
    have hi' : i < fs.size := by simpa using hi
    have h1 := hf i fs[i] (Array.getElem?_eq_getElem hi')
    rw [List.getElem?_eq_getElem (by omega)] at h1
    exact ⟨_, by simpa using h1⟩)
  simpa using this

theorem opens_imp {Ok' : α → Prop} (h : Opens P w t d Ok) (hi : ∀ a, Ok a → Ok' a) : Opens P w t d Ok' := by
  intro H enc fuel cs x hx
  obtain ⟨a, ha, hok⟩ := h H enc fuel cs x hx
  exact ⟨a, ha, hi a hok⟩

/-- An argument that is a slice. -/
theorem open_slice_arg {H : Type} {enc : TypeId × Value → H} {r : Reach} {base : Nat} {v : Value} {y : DataW H} {p : List MemPlace} {Ok' : List α → Prop} (ht : P.underlying t = some (.slice e)) (ho : Opens P w t (Kd.slice e d) Ok') (hv : Value.okWide P w r base t v)
    (h : DataW.Trod enc P w 0 (fun _ => true) true t v y p) : ∃ (A : Option Addr) (c : Nat) (l : List α), v = .slice A l.length c ∧ l.length ≤ c ∧ d.C w A l.length l ∧ Ok' l := by
  obtain ⟨a, len, cap, rfl⟩ := okWide_slice ht hv
  obtain ⟨fuel, hf⟩ := h
  obtain ⟨l, ⟨A, c, hc, hl, hr⟩, hok⟩ := ho H enc fuel _ _ hf
  simp [Value.cells] at hc
  obtain ⟨rfl, rfl, rfl⟩ := hc
  exact ⟨_, _, l, rfl, hl, hr, hok⟩
end Go.Proofs.Ytibaiaenfeppcaa.Op

/- A yard, and moves, that came in as arguments. -/
namespace Go.Proofs.Ytibaiaenfeppcaa.Op
open Go.RowKit Go.ChangeShapes Go.WideShapes Go.ChangeAt Go.Proofs.YtibaiaenfeppcaaW.PrintWords
abbrev kRows : Kd (List (List Int)) := Kd.slice 31 (Kd.slice 2 (Kd.int .i64))
abbrev kYard : Kd (Int × List (List Int)) := Kd.pair (Kd.int .i64) kRows
theorem opens_rows (w : World) : Opens Try.prog w 22 kRows (fun x => x.length ≤ maxLen ∧ ∀ r ∈ x, r.length ≤ maxLen) := by
  have i := opens_imp (opens_i64 (w := w) Try.underlying2) (Ok' := fun _ => True) (fun _ _ => trivial)
  have s := opens_slice (d := Kd.int .i64) (w := w) Try.underlying31 i (by kernel_rfl)
  have l := opens_slice (d := Kd.slice 2 (Kd.int .i64)) (w := w) Try.underlying22 s (by kernel_rfl)
  exact opens_imp l (fun _ h => ⟨h.2, fun r hr => (h.1 r hr).2⟩)
theorem opens_yard (w : World) : Opens Try.prog w 24 kYard (fun x => x.2.length ≤ maxLen ∧ ∀ r ∈ x.2, r.length ≤ maxLen) := by
  have i := opens_imp (opens_i64 (w := w) Try.underlying2) (Ok' := fun _ => True) (fun _ _ => trivial)
  exact opens_imp (opens_struct (w := w) Try.underlying24 (by kernel_rfl) (opensL_cons i rfl (by kernel_rfl) (opensL_one (opens_rows w) rfl (by kernel_rfl)))) (fun _ h => h.2)
theorem yard_open {w : World} {x : Int × List (List Int)} {cs : List Value} (h : kYard.K w x cs) : ∃ A c, cs = [.int .i64 x.1, .slice A x.2.length c] ∧ x.2.length ≤ c ∧ Kd.C (Kd.slice 2 (Kd.int .i64)) w A x.2.length x.2 := by
  obtain ⟨_, _, rfl, rfl, A, c, rfl, hl, hr⟩ := h
  exact ⟨A, c, rfl, hl, hr⟩
theorem opens_u8 {P : Program} {w : World} {t : TypeId} (ht : P.underlying t = some (.int .u8)) : Opens P w t (Kd.int .u8) (fun n => 0 ≤ n ∧ n ≤ 255) := by
  intro H enc fuel cs x h
  obtain ⟨n, rfl, _, hw⟩ := DataW.trod_int ht h
  refine ⟨n, rfl, ?_⟩
  have h2 := hw
  simp [Lit.wf, IntKind.min, IntKind.max, IntKind.signed, IntKind.bits] at h2
  exact h2
theorem opens_bytes (w : World) : Opens Try.prog w 37 (Kd.slice 5 (Kd.int .u8)) (fun x => x.length ≤ maxLen ∧ ∀ b ∈ x, 0 ≤ b ∧ b ≤ 255) := by
  have l := opens_slice (d := Kd.int .u8) (w := w) Try.underlying37 (opens_u8 (w := w) Try.underlying5) (by kernel_rfl)
  exact opens_imp l (fun _ h => ⟨h.2, h.1⟩)
end Go.Proofs.Ytibaiaenfeppcaa.Op

/- slices.Values and slices.Sorted at []int64: the iterator over a slice that is read, and what is collected out of it, sorted. -/
namespace Go.Proofs.Ytibaiaenfeppcaa.Sv
open Go.RowKit Go.Shelf Go.Proofs
attribute [local go_sem] Oper.semAt_some
/-- The first k of a list. -/
def upto (zs : List Int) (k : Nat) : List Int := (List.range k).map fun j => zs[j]?.getD 0
theorem upto_succ (zs : List Int) (k : Nat) : upto zs (k + 1) = upto zs k ++ [zs[k]?.getD 0] := by simp [upto, List.range_succ]
theorem upto_len (zs : List Int) (k : Nat) : (upto zs k).length = k := by simp [upto]
theorem upto_take (zs : List Int) {k : Nat} (hk : k ≤ zs.length) : upto zs k = zs.take k := by
  apply List.ext_getElem
  · simp [upto, hk]
  · intro i h1 h2
    have : i < zs.length := by simp [upto] at h1; omega
    simp [upto, this]
/-- A slice value that holds numbers in a block below n₀, or nil. -/
def Ints (n₀ : Nat) (W : World) (sv : Value) (zs : List Int) : Prop :=
  (sv = .slice none 0 0 ∧ zs = []) ∨ ∃ b off cap, sv = .slice (some ⟨b, off, none⟩) zs.length cap ∧ b < n₀ ∧ ∀ j, j < zs.length → W.cell? ⟨b, off + j, none⟩ = some (.int .i64 (zs[j]?.getD 0))
theorem Ints.below {n₀ : Nat} {A B : World} (h : Below n₀ A B) {sv : Value} {zs : List Int} : Ints n₀ A sv zs → Ints n₀ B sv zs
  | .inl e => .inl e
  | .inr ⟨b, off, cap, e, hb, hc⟩ => .inr ⟨b, off, cap, e, hb, fun j hj => (h.cell (p := ⟨b, off + j, none⟩) hb).trans (hc j hj)⟩
set_option maxRecDepth 100000 in
set_option maxHeartbeats 2000000 in
theorem iter_in (F : Fence) (n : Nat) (h7 : F.fn 65) (hro : F.round = none) (hn : 1 ≤ n) (l Bs n₀ b off len cap : Nat) (zs : List Int) (hreach : len * 8 ≤ 140737488351232) (hb : b < n₀) (J Jx : List Int → World → Prop)
    (hY : ∀ pre x W, J pre W → pre.length < len → YieldAt F (n - 1) Try.prog l #[.int .i64 x] W fun e W' =>
      (e = .returned (.bool true) ∧ J (pre ++ [x]) W' ∧ Below n₀ W W') ∨ (e = .returned (.bool false) ∧ Jx (pre ++ [x]) W'))
    (W : World) (hBs : W.cell? ⟨Bs, 0, none⟩ = some (.slice (some ⟨b, off, none⟩) len cap)) (hc : ∀ j, j < len → W.cell? ⟨b, off + j, none⟩ = some (.int .i64 (zs[j]?.getD 0))) (h0 : J [] W) :
    CallsIn F n Try.prog 65 #[.func (.yield l) #[] #[], .pointer (some ⟨Bs, 0, none⟩)] W fun e W' => (∃ v, e = .returned v) ∧
      (J (upto zs len) W' ∨ (∃ k, k ≤ len ∧ Jx (upto zs k) W')) := by
  refine callsIn_of_wp Try.func65 rfl h7 ?_ hro
  simp only [Try.ntmps65, List.size_toArray, List.length_cons, List.length_nil, Nat.reduceAdd, Nat.reduceSub, Array.replicate_succ, Array.replicate_zero, List.push_toArray, List.append_toArray, List.nil_append, List.cons_append]
  gi_wp2
  gi_loopw [7] (fun i wr => ∃ k : Nat, k ≤ len ∧ i = .int .i64 k ∧ J (upto zs k) wr ∧ Below n₀ W wr)
    (fun i _ => len - (intOf i).toNat)
  case atStart => exact ⟨0, Nat.zero_le _, rfl, h0, Below.refl _ _⟩
  case round =>
    obtain ⟨k, hk, rfl, hJs, hnx⟩ := hrel
    have hcx : k < len → wr.cell? ⟨b, off + k, none⟩ = some (.int .i64 (zs[k]?.getD 0)) := fun h => (hnx.cell (p := ⟨b, off + k, none⟩) hb).trans (hc k h)
    by_cases hlt : k < len
    · obtain ⟨fn, tmps, assign, body, hy, hR⟩ := hY _ (zs[k]?.getD 0) wr hJs (by rw [upto_len]; exact hlt)
      have hcx' := hcx hlt
      gi_wp2
      refine hR.mono ?_
      rintro e W3 (⟨rfl, hJ3, hk3⟩ | ⟨rfl, hJx3⟩)
      · gi_wp2
        go_roundw
        case rel => exact ⟨k + 1, by omega, by simp, by rw [upto_succ]; exact hJ3, hnx.trans hk3⟩
        case measure => simp [intOf]; omega
      · gi_wp2
        refine bodyPost_ret (results_none rfl _ _ _) rfl ?_
        exact ⟨⟨_, rfl⟩, .inr ⟨k + 1, by omega, by rw [upto_succ]; exact hJx3⟩⟩
    · obtain rfl : k = len := by omega
      gi_wp2
      go_end0
      exact ⟨⟨_, rfl⟩, .inl hJs⟩
set_option maxRecDepth 100000 in
set_option maxHeartbeats 1000000 in
theorem iter_nil_in (F : Fence) (n : Nat) (h7 : F.fn 65) (hro : F.round = none) (l Bs : Nat) (J : List Int → World → Prop) (W : World) (hBs : W.cell? ⟨Bs, 0, none⟩ = some (.slice none 0 0)) (h0 : J [] W) :
    CallsIn F n Try.prog 65 #[.func (.yield l) #[] #[], .pointer (some ⟨Bs, 0, none⟩)] W fun e W' => (∃ v, e = .returned v) ∧ J [] W' := by
  refine callsIn_of_wp Try.func65 rfl h7 ?_ hro
  simp only [Try.ntmps65, List.size_toArray, List.length_cons, List.length_nil, Nat.reduceAdd, Nat.reduceSub, Array.replicate_succ, Array.replicate_zero, List.push_toArray, List.append_toArray, List.nil_append, List.cons_append]
  gi_wp2
  gi_loopw [7] (fun i wr => i = .int .i64 0 ∧ J [] wr) (fun _ _ => 0)
  case atStart => exact ⟨rfl, h0⟩
  case round =>
    obtain ⟨rfl, hJs⟩ := hrel
    gi_wp2
    go_end0
    exact ⟨⟨_, rfl⟩, hJs⟩
set_option maxHeartbeats 1000000 in
theorem values_in (F : Fence) (n : Nat) (h5 : F.fn 41) (hro : F.round = none) (a : Option Addr) (len cap : Nat) (w : World) :
    CallsIn F n Try.prog 41 #[.slice a len cap] w fun e w' => e = .returned (.func (.func 65) #[] #[.pointer (some ⟨w.heap.size, 0, none⟩)]) ∧ w' = w.alloc (.cells #[.slice a len cap] 31) := by
  refine callsIn_of_wp Try.func41 rfl h5 ?_ hro
  simp only [Try.ntmps41, List.size_toArray, List.length_cons, List.length_nil, Nat.reduceAdd, Nat.reduceSub, Array.replicate_succ, Array.replicate_zero, List.push_toArray, List.append_toArray, List.nil_append, List.cons_append]
  gi_wp2
  go_ret
  exact ⟨rfl, rfl⟩
set_option maxHeartbeats 1000000 in
theorem iter_stops (F : Fence) (n : Nat) (h7 : F.fn 65) (hro : F.round = none) (hn : 1 ≤ n) (Bs n₀ : Nat) (sv : Value) (zs : List Int) (hreach : zs.length * 8 ≤ 140737488351232) (w : World) (hBs : Bs < w.heap.size) (hn₀ : n₀ ≤ w.heap.size)
    (hc : w.cell? ⟨Bs, 0, none⟩ = some sv) (hI : Ints n₀ w sv zs) :
    SeqStopsK F n Try.prog 65 #[.pointer (some ⟨Bs, 0, none⟩)] (fun x : Int => #[Value.int .i64 x]) (Below n₀) (fun ys => ys = zs) (fun pre => pre <+: zs) zs.length w := fun l J Jx W hW _ _ hY h0 => by
  have hc' := (hW.cell (p := ⟨Bs, 0, none⟩) hBs).trans hc
  rcases hI.below (hW.mono hn₀) with ⟨rfl, rfl⟩ | ⟨b, off, cap, rfl, hb, hcs⟩
  · exact (iter_nil_in F n h7 hro l Bs J W hc' h0).mono fun e W' ⟨he, hj⟩ => ⟨he, .inl ⟨_, rfl, hj⟩⟩
  · refine (iter_in F n h7 hro hn l Bs n₀ b off zs.length cap zs hreach hb J Jx hY W hc' hcs h0).mono ?_
    rintro e W' ⟨he, hj | ⟨k, hk, hj⟩⟩
    · exact ⟨he, .inl ⟨_, by rw [upto_take zs (Nat.le_refl _), List.take_length], hj⟩⟩
    · exact ⟨he, .inr ⟨_, by rw [upto_take zs hk]; exact List.take_prefix _ _, hj⟩⟩
theorem infoI : (Try.prog.info? 2).map (fun i => (i.zero, i.size, i.bytes)) = some (some (.int .i64 0), 1, 8) := by kernel_rfl
set_option maxRecDepth 100000 in
set_option maxHeartbeats 2000000 in
/-- slices.AppendSeq at no slice: what comes is appended one by one. -/
theorem append_in (F : Fence) (n : Nat) (hA : F.fn 77) (hV : F.fn 65) (hro : F.round = none) (hn : 2 ≤ n) (lb : Array Value) (zs : List Int) (hlen : zs.length ≤ 1000000) (w : World)
    (hseq : SeqStopsK F (n - 1) Try.prog 65 lb (fun x : Int => #[Value.int .i64 x]) (Below w.heap.size) (fun ys => ys = zs) (fun pre => pre <+: zs) zs.length w) :
    CallsIn F n Try.prog 77 #[.slice none 0 0, .func (.func 65) #[] lb] w fun e w' => ∃ v, e = .returned v ∧ w'.ownsRow w.heap.size 2 1 v zs.length (zs.map (Value.int .i64)) ∧ Below w.heap.size w w' := by
  have h1 : 1 ≤ n := by omega
  have hmax : 1000001 ≤ maxLen := by unfold maxLen; omega
  obtain ⟨i0, hi, hz0, hz1, hz2⟩ := info_parts infoI
  refine callsIn_of_wp_marks Try.func77 rfl hA ?_ hro
  simp only [Try.ntmps77, List.size_toArray, List.length_cons, List.length_nil, Nat.reduceAdd, Nat.reduceSub, Array.replicate_succ, Array.replicate_zero, List.push_toArray, List.append_toArray, List.nil_append, List.cons_append]
  gi_wp2
  have hB0 : Below w.heap.size w (w.alloc (.cells #[.slice none 0 0] 31)) := (Below.refl _ w).alloc (Nat.le_refl _) _
  refine wpIn_rangeFunc_ownF hro h1 (gf := 65) (lb := lb) rfl hV (enters_of Try.func65 (by kernel_rfl) rfl) hseq belowK_t (belowK_b (by simp)) hB0 (fun _ => rfl)
    (fun (pre : List Int) W => (∃ v, Boxed W w.heap.size 31 v ∧ W.ownsRow w.heap.size 2 1 v pre.length (pre.map (Value.int .i64)) ∧ True) ∧ Below w.heap.size w W)
    (fun _ _ _ => False)
    (OwnFrom.and (Own.from (holdsRow_own w.heap.size w.heap.size 31 2 1 (fun (pre : List Int) => pre.length) (fun (pre : List Int) => pre.map (Value.int .i64)) (fun _ _ => True)) _) (ownFrom_below (Nat.le_refl _) (by simp)))
    (fun _ _ _ _ _ hs _ _ => hs)
    ⟨⟨_, Boxed.new w 31 (.slice none 0 0), ⟨rfl, .inl ⟨rfl, rfl⟩⟩, trivial⟩, hB0⟩
    (fun x => { tmps := #[.slice none 0 0, .func (.func 65) #[] lb, .pointer (some ⟨w.heap.size, 0, none⟩), undef, .slice none 0 0, .int .i64 x, .func (.func 65) #[] lb, .int .i64 x, undef, undef, undef, undef, undef], defers := [] }) ?assign ?body ?done ?stop
  case assign =>
    intro l x W K hK
    gi_wp2
    exact hK
  case body =>
    rintro l pre x W ⟨⟨v, hv, hrow, _⟩, hB⟩ hle
    have hc := hv.cell
    gi_wp2_with (gi_at_builtin; refine wpListIn_append_own _ rfl _ _ 31 rfl w.heap.size 2 i0 (.int .i64 0) 1 8 Try.underlying31 hi hz0 hz1 hz2 rfl (by decide) _ _ _ rfl (hrow.alloc _) ⟨W.heap.size, 0, none⟩ 1 1 [.int .i64 x] rfl rfl (cell_one_new _ _ _) (by simp [Value.oneCell']) (by omega) (by omega) (by have := hB.size; simp; omega) ?_; intro v' w1 hown' hgrow _; obtain ⟨g', cap', rfl⟩ := ownsRow_succ hown'; obtain ⟨hv1, hv2, hr2, hk2, hb2⟩ := hv.appended (by decide) hrow hB.size (Nat.le_refl _) hown' hgrow; have hc1 := hv1.cell; have hf1 := hv1.frozen)
    exact ⟨hk2, hb2, ⟨_, hv2, by simpa using hr2, trivial⟩, hB.trans hb2⟩
  case done =>
    rintro D ys W hD rfl ⟨⟨v, hv, hrow, _⟩, hB⟩ hK
    have hc := hv.cell
    gi_wp2
    refine ⟨by simp, .inl ⟨_, _, rfl, run_takeDeferred hK, ?_⟩⟩
    exact ⟨_, results_tmp rfl _ _ _, v, rfl, ownsRow_putObj hrow _ hK rfl, hB.trans (belowK_b (w := w) (Nat.le_refl _) W D _ _ (by simp at hD; omega) hK rfl rfl)⟩
  case stop =>
    rintro D c pre W _ _ h _
    exact h.elim
set_option maxHeartbeats 1000000 in
/-- slices.Collect over a slice's values: the same numbers in memory of the call's own. -/
theorem collect_any (Bs : Nat) (sv : Value) (zs : List Int) (hlen : zs.length ≤ 1000000) (w : World) (hBs : Bs < w.heap.size) (hc : w.cell? ⟨Bs, 0, none⟩ = some sv) (hI : Ints w.heap.size w sv zs) :
    Calls Try.prog 64 #[.func (.func 65) #[] #[.pointer (some ⟨Bs, 0, none⟩)]] w fun e w' => ∃ v, e = .returned v ∧ w'.ownsRow w.heap.size 2 1 v zs.length (zs.map (Value.int .i64)) ∧ Below w.heap.size w w' := by
  refine (callsIn_wide (n := 6)).1 ?_
  have hs := iter_stops Fence.wide 4 trivial rfl (by omega) Bs w.heap.size sv zs (by omega) w hBs (Nat.le_refl _) hc hI
  have cA := append_in Fence.wide 5 trivial trivial rfl (by omega) #[.pointer (some ⟨Bs, 0, none⟩)] zs hlen w hs
  have hfA : Fence.wide.fn 77 := trivial
  refine callsIn_of_wp Try.func64 rfl trivial ?_ rfl
  simp only [Try.ntmps64, List.size_toArray, List.length_cons, List.length_nil, Nat.reduceAdd, Nat.reduceSub, Array.replicate_succ, Array.replicate_zero, List.push_toArray, List.append_toArray, List.nil_append, List.cons_append]
  gi_wp2_with (gi_at_call 77; refine cA.mono ?_; rintro e w' ⟨v, rfl, hrow, hb⟩)
  go_ret
  exact ⟨v, rfl, hrow, hb⟩
end Go.Proofs.Ytibaiaenfeppcaa.Sv

/- slices.Grow at no slice, and slices.Concat at []int64. -/
namespace Go.Proofs.Ytibaiaenfeppcaa.Gr
open Go Go.RowKit Go.Proofs.YtibaiaenfeppcaaW.PrintWords Go.Proofs.Ytibaiaenfeppcaa.Sv
set_option linter.unusedSimpArgs false in
/-- append(nil, make([]E, n)...): one append with a number for what is appended. -/
theorem run_append_make {P : Program} (w : World) (t u ty e : TypeId) (i : TypeInfo) (z : Value) (ht : P.underlying t = some (.slice e)) (hu : P.underlying u = some (.int .i64)) (hi : P.info? e = some i) (hz : i.zero = some z)
    (n : Nat) (hs1 : 0 < i.size) (h0 : 0 < n) (h63 : (n : Int) ≤ 9223372036854775807) (h48 : n * i.bytes ≤ 281474976710656) :
    (Builtin.append_ #[t, u] ty #[.slice none 0 0, .int .i64 n]).run P w =
      .ok (.slice (some ⟨w.heap.size, 0, none⟩) n (grownCap w n 0 e)) (w.drew.alloc (.cells (Builtin.zeroCells z.cells n ++ Builtin.zeroCells z.cells (grownCap w n 0 e - n)) e)) := by
  have hn : n ≠ 0 := by omega
  have h63' : ¬ (9223372036854775807 < (n : Int)) := by omega
  have h48' : ¬ (281474976710656 < Builtin.nextslicecap n 0 * i.bytes) := by rw [nextslicecap_zero h0]; omega
  have h48i : ¬ (281474976710656 < (n : Int) * (i.bytes : Int)) := by
    have h : ((n * i.bytes : Nat) : Int) = (n : Int) * (i.bytes : Int) := by simp
    rw [← h]; omega
  have hw : IntKind.i64.wrap (n : Int) = (n : Int) := by rw [IntKind.wrap_i64]; omega
  have hneg : ¬ ((n : Int) < 0) := by omega
  have hs0 : i.size ≠ 0 := by omega
  have hmx : max (n : Int) 0 = (n : Int) := by omega
  simp [Builtin.append_, run_underlying ht, run_underlying hu, sizeOf, typeInfo, zeroValue, hi, hz, hn, h63', h48', Question.forced, run_firstCells_none, newRow, grownCap, asInt, asIntOf, hw, hneg, h48i, hs0, hmx]
  exact fun h => absurd h (Nat.mul_ne_zero hn hs0)
set_option maxRecDepth 100000 in
set_option maxHeartbeats 1000000 in
/-- slices.Grow(nil, n): no slice, or room of the call's own. -/
theorem grow_any (n : Nat) (hn : n ≤ 1000000) (w : World) :
    Calls Try.prog 78 #[.slice none 0 0, .int .i64 n] w fun e w' => ∃ v, e = .returned v ∧ w'.ownsRow w.heap.size 2 1 v 0 [] ∧ RowKit.Below w.heap.size w w' := by
  have c0 : decide ((n : Int) < 0) = false := decide_eq_false (by omega)
  have hw : wrap64 ((n : Int) - wrap64 (0 - 0)) = (n : Int) := by unfold wrap64; omega
  by_cases h : n = 0
  · subst h
    go_enter Try.func78, Try.ntmps78
    go_wp2
    go_ret
    exact ⟨_, rfl, World.ownsRow_nil _ _ _ _, RowKit.Below.refl _ _⟩
  · obtain ⟨i0, hi, hz0, hz1, hz2⟩ := info_parts infoI
    have hr := run_append_make (P := Try.prog) w 31 3 31 2 i0 (.int .i64 0) Try.underlying31 Try.underlying3 hi hz0 n (by rw [hz1]; decide) (by omega) (by omega) (by rw [hz2]; omega)
    have ho := World.ownsRow_made (e := 2) (size := 1) w.drew (Builtin.zeroCells (Value.int .i64 0).cells n ++ Builtin.zeroCells (Value.int .i64 0).cells (grownCap w n 0 2 - n)) (grownCap w n 0 2) (base := w.heap.size) (Nat.le_refl _) (grownCap_le_maxLen w n 0 2 (by unfold maxLen; omega)) (by
      have := grownCap_ge w n 0 2
      simp [size_zeroCells, Value.cells]; omega)
    have hb : RowKit.Below w.heap.size w (w.drew.alloc (.cells (Builtin.zeroCells (Value.int .i64 0).cells n ++ Builtin.zeroCells (Value.int .i64 0).cells (grownCap w n 0 2 - n)) 2)) := below_alloc (below_drew1 (RowKit.Below.refl _ _)) _
    revert hr ho hb
    generalize w.drew.alloc (.cells (Builtin.zeroCells (Value.int .i64 0).cells n ++ Builtin.zeroCells (Value.int .i64 0).cells (grownCap w n 0 2 - n)) 2) = W1
    generalize grownCap w n 0 2 = cap
    intro hr ho hb
    have HR := Aside0.mk hr
    have HO := Aside0.mk ho
    have HB := Aside0.mk hb
    have c1 : decide ((0 : Int) < (n : Int)) = true := decide_eq_true (by omega)
    have hp : (0 < n) = True := eq_true (by omega)
    clear hr ho hb hi hz0 hz1 hz2 h
    go_enter Try.func78, Try.ntmps78
    go_wp2_with ((with_reducible refine gate_dst (N := 22) rfl ?_); refine Kd.event_run (by rfl) (v := .slice (some ⟨w.heap.size, 0, none⟩) n cap) (w1 := W1) (by have h_ := HR.out; simp [execOp, resolve, invoke, builtin, Act.eval, h_, Result.andThen]) ?_)
    go_ret
    exact ⟨_, rfl, HO.out, HB.out⟩
end Go.Proofs.Ytibaiaenfeppcaa.Gr

/- slices.Concat at []int64: the lists one behind the other, in memory of the call's own. -/
namespace Go.Proofs.Ytibaiaenfeppcaa.Gr
open Go Go.RowKit Go.Proofs.YtibaiaenfeppcaaW.PrintWords Go.Proofs.Ytibaiaenfeppcaa.Sv
def rdl (xs : List (List Int)) (i : Int) : List Int := xs.getD i.toNat []
theorem at_rows {w : World} {A : Option Addr} {n : Nat} {xs : List (List Int)} (h : Kd.C (Kd.slice 2 (Kd.int .i64)) w A n xs) (i : Int) (h0 : 0 ≤ i) (h1 : i < n) : ∃ ad A0 c0, A = some ad ∧ w.cell? (ad.add i.toNat) = some (.slice A0 (rdl xs i).length c0) ∧ (rdl xs i).length ≤ c0 ∧ (Kd.int .i64).C w A0 (rdl xs i).length (rdl xs i) := by
  obtain ⟨ad, c, e, _, hK, hc0⟩ := Kd.C_get h ([] : List Int) i h0 h1
  have hc : ∀ j u, c[j]? = some u → w.cell? (ad.add (i.toNat * 1 + j)) = some u := hc0
  obtain ⟨A0, c0, rfl, l0, g0⟩ := hK
  exact ⟨ad, A0, c0, e, by have hq := hc 0 _ rfl; rwa [Nat.mul_one, Nat.add_zero] at hq, l0, g0⟩
/-- The first lists, one behind the other. -/
def cat (xs : List (List Int)) (j : Nat) : List Int := (xs.take j).flatten
theorem cat_all (xs : List (List Int)) : cat xs xs.length = xs.flatten := by simp [cat]
theorem cat_succ (xs : List (List Int)) (j : Nat) (h : j < xs.length) : cat xs (j + 1) = cat xs j ++ rdl xs (j : Int) := by
  have e : rdl xs (j : Int) = xs[j] := by simp [rdl, h]
  rw [e]; unfold cat
  rw [List.take_succ_eq_append_getElem h, List.flatten_append]; simp
theorem cat_le (xs : List (List Int)) (j : Nat) : (cat xs j).length ≤ xs.flatten.length := by
  have : xs.flatten = cat xs j ++ (xs.drop j).flatten := by unfold cat; rw [← List.flatten_append, List.take_append_drop]
  rw [this, List.length_append]; omega
theorem infoK : (Try.prog.info? 2).map (fun i => (i.zero, i.size, i.bytes)) = some (some (.int .i64 0), 1, 8) := by kernel_rfl
set_option maxRecDepth 100000 in
set_option maxHeartbeats 2000000 in
theorem concat_any (A : Option Addr) (c : Nat) (xs : List (List Int)) (hn : xs.length ≤ 1000000) (hl : xs.flatten.length ≤ 1000000) (w : World) (hr : Kd.C (Kd.slice 2 (Kd.int .i64)) w A xs.length xs) :
    Calls Try.prog 66 #[.slice A xs.length c] w fun e w' => ∃ v, e = .returned v ∧ Kd.R (Kd.int .i64) 2 w' w.heap.size (fun _ => True) v xs.flatten ∧ RowKit.Below w.heap.size w w' := by
  have HR := Aside0.mk hr
  have HL := Aside0.mk hl
  have HN := Aside0.mk hn
  clear hr hl hn
  go_enter Try.func66, Try.ntmps66
  go_wp2
  go_loopw [3, 11] (fun v3 v11 wz => ∃ j : Nat, j ≤ xs.length ∧ v3 = .int .i64 ((cat xs j).length : Int) ∧ v11 = .int .i64 (j : Int) ∧ wz = w) (fun _ v _ => xs.length - (intOf v).toNat)
  case atStart => exact ⟨0, by omega, by simp [cat], rfl, rfl⟩
  case round =>
    obtain ⟨j, hj, rfl, rfl, hwr⟩ := hrel
    have hwr' := hwr.symm
    subst hwr'
    clear hwr
    have hN := HN.out
    have hcl := cat_le xs j
    have hL := HL.out
    by_cases hlt : j < xs.length
    · have c0 : decide ((j : Int) < (xs.length : Int)) = true := decide_eq_true (by omega)
      have p1 : 0 ≤ (j : Int) := by omega
      have q1 : (j : Int) < (xs.length : Int) := by omega
      obtain ⟨ad, A0, c0', rfl, hx, _, _⟩ := at_rows HR.out (j : Int) p1 q1
      simp only [Int.toNat_natCast] at hx
      have hs := cat_succ xs j hlt
      have hcl2 := cat_le xs (j + 1)
      obtain ⟨m, hm⟩ : ∃ m, m = (rdl xs (j : Int)).length := ⟨_, rfl⟩
      obtain ⟨k, hk⟩ : ∃ k, k = (cat xs j).length := ⟨_, rfl⟩
      have hk2 : (cat xs (j + 1)).length = k + m := by rw [hs, List.length_append, hk, hm]
      have hw1 : wrap64 ((k : Int) + (m : Int)) = ((k + m : Nat) : Int) := by unfold wrap64; omega
      have hw2 : wrap64 ((j : Int) + 1) = ((j + 1 : Nat) : Int) := by unfold wrap64; omega
      have c1 : decide (wrap64 ((k : Int) + (m : Int)) < 0) = false := decide_eq_false (by rw [hw1]; omega)
      rw [← hm] at hx
      rw [← hk]
      replace p1 := eq_true p1
      replace q1 := eq_true q1
      have HK := Aside0.mk (And.intro hk2 (And.intro hw1 hw2))
      have HJ := Aside0.mk hlt
      clear hw1 hw2 hk2 hs hcl hcl2 hm hk hlt
      go_wp2
      go_roundw
      case rel => exact ⟨j + 1, by have := HJ.out; omega, by have h1 := HK.out.1; have h2 := HK.out.2.1; congr 1; omega, by have h2 := HK.out.2.2; first | (congr 1; done) | (congr 1; omega), by first | rfl | trivial⟩
      case measure => have := HJ.out; have h2 := HK.out.2.2; simp only [intOf]; omega
    · have c0 : decide ((j : Int) < (xs.length : Int)) = false := decide_eq_false (by omega)
      obtain rfl : j = xs.length := by omega
      obtain ⟨k, hk⟩ : ∃ k, k = (cat xs xs.length).length := ⟨_, rfl⟩
      have HK := Aside0.mk hk
      rw [← hk]
      have hk1 : k ≤ 1000000 := by omega
      clear hlt hcl hk
      go_wp2_with (go_at_call 78; refine (grow_any k hk1 _).mono ?_; rintro e w1 ⟨v, rfl, ho, hb⟩; have HO := Aside0.mk ho; have HB := Aside0.mk hb; clear ho hb)
      have h0 : Kd.R (Kd.int .i64) 2 w1 w.heap.size (fun _ => True) v (cat xs 0) := Kd.R_of_own (xs := []) HO.out (fun _ _ => trivial)
      have H0 := Aside0.mk h0
      clear h0
      have HN0 := Aside0.mk hN
      have HL0 := Aside0.mk hL
      clear hN hL hj c0 hk1
      go_loopw [6, 27] (fun v6 v27 wz => ∃ j : Nat, j ≤ xs.length ∧ v27 = .int .i64 (j : Int) ∧ Aside0 (Kd.R (Kd.int .i64) 2 wz w.heap.size (fun _ => True) v6 (cat xs j)) ∧ Aside0 (RowKit.Below w.heap.size w wz)) (fun _ v _ => xs.length - (intOf v).toNat)
      case atStart => exact ⟨0, by omega, rfl, H0, HB⟩
      case round =>
        obtain ⟨j, hj, rfl, hv, hb⟩ := hrel
        have hN := HN0.out
        by_cases hlt : j < xs.length
        · have c0 : decide ((j : Int) < (xs.length : Int)) = true := decide_eq_true (by omega)
          have p1 : 0 ≤ (j : Int) := by omega
          have q1 : (j : Int) < (xs.length : Int) := by omega
          obtain ⟨ad, A0, c0', rfl, hx, hcx, hCx⟩ := at_rows HR.out (j : Int) p1 q1
          simp only [Int.toNat_natCast] at hx
          replace hx := pw_cell_below hb.out hx
          have HX := Aside0.mk (Kd.C_below hCx hb.out)
          have hs := cat_succ xs j hlt
          have hcl := cat_le xs (j + 1)
          have hlen := Aside0.mk (show ((cat xs j).length + (rdl xs (j : Int)).length) * 8 ≤ 140737488355328 by have hL := HL0.out; rw [hs, List.length_append] at hcl; omega)
          have HS := Aside0.mk hs
          have HJ := Aside0.mk hlt
          have HW := Aside0.mk (show wrap64 ((j : Int) + 1) = ((j + 1 : Nat) : Int) by unfold wrap64; omega)
          replace p1 := eq_true p1
          replace q1 := eq_true q1
          clear hs hcl hlt hcx hCx
          go_wp2_with ((with_reducible refine gate_dst (N := 33) rfl ?_); refine Kd.R_append_row (Value.int .i64) (0 : Int) (w0 := w) w.heap.size (by rfl) (.tmp 31) (.tmp 32) 31 2 (.int .i64 0) 8 rfl Try.underlying31 infoK rfl (by decide) _ (cat xs j) (rdl xs (j : Int)) A0 _ c0' (fun _ => True) rfl rfl (fun _ _ => trivial) hv.out HX.out hb.out hb.out.size hlen.out ?_; intro v1 w2 h1 h2 h3 h4; have H1 := Aside0.mk h1; have H2 := Aside0.mk h2; clear h1 h2 h3 h4)
          go_roundw
          case rel => exact ⟨j + 1, by have := HJ.out; omega, by have h2 := HW.out; first | (congr 1; done) | (congr 1; omega), ⟨by rw [HS.out]; exact H1.out⟩, H2⟩
          case measure => have := HJ.out; have h2 := HW.out; simp only [intOf]; omega
        · have c0 : decide ((j : Int) < (xs.length : Int)) = false := decide_eq_false (by omega)
          obtain rfl : j = xs.length := by omega
          clear hlt
          go_wp2
          go_ret
          exact ⟨_, rfl, by rw [← cat_all]; exact hv.out, hb.out⟩
end Go.Proofs.Ytibaiaenfeppcaa.Gr

/-
  DERIVED: THE SHELF's CONTRACTS AT THIS DUMP, IN PLAIN WORDS (tools/lay-plain.mjs out of 'TryShelf.lean', which tools/lay-shelf.mjs wrote): THE SAME DECLARATIONS UNDER THE SAME NAMES: 'import', 'namespace', 'open', 'def', 'theorem' AND NOTHING ELSE: no command of the shelf's: FOR A HAND-IN. Each laying: the table of numbers ('.._ren') and one theorem, a field a fact of the dump's own or the kernel's comparison; each contract: ONE APPLICATION.
-/
namespace Go.Proofs
open Go.Shelf
def Try.laysSlM5_f47_ren : Go.Shelf.Ren := ⟨fun | 5 => 47 | 8 => 71 | 7 => 70 | 19 => 90 | 20 => 91 | 10 => 81 | 11 => 82 | 12 => 83 | 13 => 84 | 14 => 85 | 15 => 86 | 16 => 87 | 17 => 88 | 18 => 89 | 30 => 92 | 31 => 93 | 32 => 94 | 33 => 95 | 34 => 96 | 35 => 97 | 40 => 98 | n => n, fun | 23 => 31 | 25 => 2 | 3 => 3 | 32 => 85 | 22 => 31 | 0 => 0 | 44 => 103 | 46 => 79 | 4 => 4 | 36 => 95 | 35 => 94 | 41 => 100 | 5 => 5 | 9 => 9 | 53 => 105 | 57 => 109 | 63 => 111 | 64 => 112 | n => n, fun | n => n⟩
theorem Try.laysSlM5_f47 : Go.Proofs.SlLaysM.n5 Try.prog Try.laysSlM5_f47_ren := {
  mixed := by kernel_rfl
  f5 := ⟨Try.f47.name, by decide, Try.func47.trans (congrArg some (by kernel_rfl))⟩
  f7 := ⟨Try.f70.name, by decide, Try.func70.trans (congrArg some (by kernel_rfl))⟩
  f8 := Try.func71.trans (congrArg some (by kernel_rfl))
  f10 := ⟨Try.f81.name, by decide, Try.func81.trans (congrArg some (by kernel_rfl))⟩
  f11 := ⟨Try.f82.name, by decide, Try.func82.trans (congrArg some (by kernel_rfl))⟩
  f12 := ⟨Try.f83.name, by decide, Try.func83.trans (congrArg some (by kernel_rfl))⟩
  f13 := ⟨Try.f84.name, by decide, Try.func84.trans (congrArg some (by kernel_rfl))⟩
  f14 := ⟨Try.f85.name, by decide, Try.func85.trans (congrArg some (by kernel_rfl))⟩
  f15 := ⟨Try.f86.name, by decide, Try.func86.trans (congrArg some (by kernel_rfl))⟩
  f16 := ⟨Try.f87.name, by decide, Try.func87.trans (congrArg some (by kernel_rfl))⟩
  f17 := ⟨Try.f88.name, by decide, Try.func88.trans (congrArg some (by kernel_rfl))⟩
  f18 := ⟨Try.f89.name, by decide, Try.func89.trans (congrArg some (by kernel_rfl))⟩
  f19 := Try.func90.trans (congrArg some (by kernel_rfl))
  f20 := Try.func91.trans (congrArg some (by kernel_rfl))
  f30 := ⟨Try.f92.name, by decide, Try.func92.trans (congrArg some (by kernel_rfl))⟩
  f31 := Try.func93.trans (congrArg some (by kernel_rfl))
  f32 := Try.func94.trans (congrArg some (by kernel_rfl))
  f33 := ⟨Try.f95.name, by decide, Try.func95.trans (congrArg some (by kernel_rfl))⟩
  f34 := ⟨Try.f96.name, by decide, Try.func96.trans (congrArg some (by kernel_rfl))⟩
  f35 := ⟨Try.f97.name, by decide, Try.func97.trans (congrArg some (by kernel_rfl))⟩
  f40 := ⟨Try.f98.name, by decide, Try.func98.trans (congrArg some (by kernel_rfl))⟩
  t0 := Try.underlying0
  a0 := Try.isAgg0
  z0 := Try.sizeOf0
  v0 := Try.zeroValue0
  t3 := Try.underlying3
  a3 := Try.isAgg3
  z3 := Try.sizeOf3
  v3 := Try.zeroValue3
  t4 := Try.underlying4
  a4 := Try.isAgg4
  z4 := Try.sizeOf4
  v4 := Try.zeroValue4
  t5 := Try.underlying5
  a5 := Try.isAgg5
  z5 := Try.sizeOf5
  v5 := Try.zeroValue5
  t9 := Try.underlying9
  a9 := Try.isAgg9
  z9 := Try.sizeOf9
  v9 := Try.zeroValue9
  t22 := Try.underlying31
  a22 := Try.isAgg31
  z22 := Try.sizeOf31
  v22 := Try.zeroValue31
  t23 := Try.underlying31
  a23 := Try.isAgg31
  z23 := Try.sizeOf31
  v23 := Try.zeroValue31
  t25 := Try.underlying2
  a25 := Try.isAgg2
  z25 := Try.sizeOf2
  v25 := Try.zeroValue2
  t32 := Try.underlying85
  a32 := Try.isAgg85
  z32 := Try.sizeOf85
  v32 := Try.zeroValue85
  t35 := Try.underlying94
  a35 := Try.isAgg94
  z35 := Try.sizeOf94
  v35 := Try.zeroValue94
  t36 := Try.underlying95
  a36 := Try.isAgg95
  z36 := Try.sizeOf95
  v36 := Try.zeroValue95
  t41 := Try.underlying100
  a41 := Try.isAgg100
  z41 := Try.sizeOf100
  v41 := Try.zeroValue100
  t44 := Try.underlying103
  a44 := Try.isAgg103
  z44 := Try.sizeOf103
  v44 := Try.zeroValue103
  t46 := Try.underlying79
  a46 := Try.isAgg79
  z46 := Try.sizeOf79
  v46 := Try.zeroValue79
  t53 := Try.underlying105
  a53 := Try.isAgg105
  z53 := Try.sizeOf105
  v53 := Try.zeroValue105
  t57 := Try.underlying109
  a57 := Try.isAgg109
  z57 := Try.sizeOf109
  v57 := Try.zeroValue109
  t63 := Try.underlying111
  a63 := Try.isAgg111
  z63 := Try.sizeOf111
  v63 := Try.zeroValue111
  t64 := Try.underlying112
  a64 := Try.isAgg112
  z64 := Try.sizeOf112
  v64 := Try.zeroValue112 }
open Go.Sort Go.RowKit in
theorem Try.slices_Sort_int (blk off cap : Nat) (zs : List Int) (w : World) (hH : Holds (Value.int .i64) w blk off zs.toArray) (hblk : blk < w.heap.size) (hsz : zs.length < 4611686018427387904) :
    Calls Try.prog 47 #[.slice (some ⟨blk, off, none⟩) zs.length cap] w fun e w' =>
      e = .returned (.tuple #[]) ∧ ∃ n os, w' = grow (putRow (Value.int .i64) (Sort.ahead w n) blk off (zs.mergeSort fun x y => decide (x ≤ y)).toArray) os := AnyM.slices_Sort_int Try.laysSlM5_f47 blk off cap zs w hH hblk hsz
open Go.RowKit Go.Sort in
/-- .. and plain. (LAID AT THE INSTANCE 'slices.Sort[[]int64,int64]': no walk: one application.) -/
theorem Try.slices_Sort_int_none (p : Option Addr) (cap : Nat) (w : World) :
    Calls Try.prog 47 #[.slice p 0 cap] w fun e w' => e = .returned (.tuple #[]) ∧ w' = w := AnyM.slices_Sort_int_none Try.laysSlM5_f47 p cap w
end Go.Proofs

/- slices.Sorted over a slice's values: the numbers in rising order, in memory of the call's own. -/
namespace Go.Proofs.Ytibaiaenfeppcaa.Sv
open Go Go.Sort
open Go.RowKit Go.Proofs.YtibaiaenfeppcaaW.PrintWords
/-- Numbers in rising order. -/
def srt (zs : List Int) : List Int := zs.mergeSort fun x y => decide (x ≤ y)
theorem srt_len (zs : List Int) : (srt zs).length = zs.length := by simp [srt]
/-- slices.Sort on a list of the call's own. -/
theorem sort_own {base : Nat} (v : Value) (zs : List Int) (hlen : zs.length ≤ 1000000) (w1 : World) (h : w1.ownsRow base 2 1 v zs.length (zs.map (Value.int .i64))) :
    Calls Try.prog 47 #[v] w1 fun e w' => e = .returned (.tuple #[]) ∧ w'.ownsRow base 2 1 v zs.length ((srt zs).map (Value.int .i64)) ∧ ∀ w0 : World, RowKit.Below base w0 w1 → base ≤ w1.heap.size → RowKit.Below base w0 w' := by
  rcases h.2 with ⟨rfl, hz⟩ | ⟨gb, cap, cur, rfl, hbase, hgb, r1, r2, r3, r4⟩
  · have hzs : zs = [] := List.eq_nil_of_length_eq_zero hz
    subst hzs
    refine (Try.slices_Sort_int_none none 0 w1).mono ?_
    rintro e w' ⟨rfl, rfl⟩
    exact ⟨rfl, by simpa [srt] using h, fun _ hb _ => hb⟩
  · have hH : Holds (Value.int .i64) w1 gb 0 zs.toArray := holds_of_blockI hgb (by simpa using r4)
    have hgl : gb < w1.heap.size := (Array.getElem?_eq_some_iff.1 hgb).1
    refine (Try.slices_Sort_int gb 0 cap zs w1 hH hgl (by omega)).mono ?_
    rintro e w' ⟨rfl, n, os, rfl⟩
    exact ⟨rfl, ownsRow_sortedI (ss := zs) (ts := srt zs) (srt_len zs) hbase hgb r1 r2 r3, fun w0 hb hs => hb.grown (grownBy_sortedI _) hs (fun j hj => by cases hj; exact hbase)⟩
set_option maxHeartbeats 1000000 in
theorem sorted_any (Bs : Nat) (sv : Value) (zs : List Int) (hlen : zs.length ≤ 1000000) (w : World) (hBs : Bs < w.heap.size) (hc : w.cell? ⟨Bs, 0, none⟩ = some sv) (hI : Ints w.heap.size w sv zs) :
    Calls Try.prog 40 #[.func (.func 65) #[] #[.pointer (some ⟨Bs, 0, none⟩)]] w fun e w' => ∃ v, e = .returned v ∧ w'.ownsRow w.heap.size 2 1 v zs.length ((srt zs).map (Value.int .i64)) ∧ Below w.heap.size w w' := by
  have cC := Aside0.mk (collect_any Bs sv zs hlen w hBs hc hI)
  have HL := Aside0.mk hlen
  clear hlen hBs hc hI
  go_enter Try.func40, Try.ntmps40
  go_wp2_with (first
    | (go_at_call 64; refine cC.out.mono ?_; rintro e w1 ⟨v, rfl, hrow, hb⟩; have HR := Aside0.mk hrow; have HB := Aside0.mk hb; clear hrow hb)
    | (go_at_call 47; refine (sort_own v zs HL.out w1 HR.out).mono ?_; rintro e w2 ⟨rfl, hrow, hb⟩; have HR2 := Aside0.mk hrow; have HB2 := Aside0.mk (hb _ HB.out HB.out.size); clear hrow hb))
  go_ret
  exact ⟨v, rfl, HR2.out, HB2.out⟩
end Go.Proofs.Ytibaiaenfeppcaa.Sv

namespace Go.Proofs.Ytibaiaenfeppcaa.Ha
open Go.RowKit Go.Proofs.YtibaiaenfeppcaaW.PrintWords Go.Proofs.YtibaiaenfeppcaaW.PrintLast Go.Proofs.YtibaiaenfeppcaaW.PrintMore

theorem ret_bool {a b : Bool} (h : a = b) : Ending.returned (.bool a) = .returned (.bool b) := by rw [h]
theorem ret_int {k : IntKind} {a b : Int} (h : a = b) : Ending.returned (.int k a) = .returned (.int k b) := by rw [h]

def inB (lo hi n : Int) : Bool := decide (lo ≤ n) && decide (n ≤ hi)

theorem within_any (n lo hi : Int) (w : World) :
    Calls Try.prog 39 #[.int .i64 n, .int .i64 lo, .int .i64 hi] w fun e w' => e = .returned (.bool (inB lo hi n)) ∧ w' = w := by
  by_cases h : lo ≤ n
  · go_enter Try.func39, Try.ntmps39
    go_wp2
    go_ret
    exact ⟨ret_bool (by simp [inB, h]), rfl⟩
  · have h' : decide (lo ≤ n) = false := by simpa using h
    go_enter Try.func39, Try.ntmps39
    go_wp2
    go_ret
    exact ⟨ret_bool (by simp [inB]; omega), rfl⟩

theorem lit1_any (n lo hi : Int) (b1 b2 : Nat) (w : World) (h1 : w.cell? ⟨b1, 0, none⟩ = some (.int .i64 lo)) (h2 : w.cell? ⟨b2, 0, none⟩ = some (.int .i64 hi)) :
    Calls Try.prog 68 #[.int .i64 n, .pointer (some ⟨b1, 0, none⟩), .pointer (some ⟨b2, 0, none⟩)] w fun e w' => e = .returned (.bool (!inB lo hi n)) ∧ w' = w := by
  go_enter Try.func68, Try.ntmps68
  go_wp2_with (go_at_call 39; refine (within_any _ _ _ _).mono ?_; rintro e w' ⟨rfl, rfl⟩)
  go_ret
  exact ⟨rfl, rfl⟩

def idxOf (p : Int → Bool) : List Int → Int → Int
  | [], _ => -1
  | x :: xs, k => if p x then k else idxOf p xs (k + 1)

theorem idx_any (lo hi : Int) (b1 b2 : Nat) (A : Option Addr) (c : Nat) (l : List Int) (w : World) (h1 : w.cell? ⟨b1, 0, none⟩ = some (.int .i64 lo)) (h2 : w.cell? ⟨b2, 0, none⟩ = some (.int .i64 hi))
    (hr : Kd.C (Kd.int .i64) w A l.length l) :
    Calls Try.prog 79 #[.slice A l.length c, .func (.func 68) #[] #[.pointer (some ⟨b1, 0, none⟩), .pointer (some ⟨b2, 0, none⟩)]] w fun e w' => e = .returned (.int .i64 (idxOf (fun n => !inB lo hi n) l 0)) ∧ w' = w := by
  have hlen : l.length ≤ 9223372036854775807 := hr.2.1
  go_enter Try.func79, Try.ntmps79
  go_wp2
  go_loop [8, 5] (fun i _ => ∃ k : Nat, k ≤ l.length ∧ i = .int .i64 k ∧ idxOf (fun n => !inB lo hi n) l 0 = idxOf (fun n => !inB lo hi n) (l.drop k) k) (fun i _ => l.length - (intOf i).toNat)
  case atStart => exact ⟨0, by omega, rfl, by simp⟩
  case round =>
    obtain ⟨k, hk, rfl, hi⟩ := hrel
    have HI := Lib.hid hi
    clear hi
    by_cases hlt : k < l.length
    · obtain ⟨ad, rfl, hc⟩ := Kd.at_int hr (k : Int) (by omega) (by omega)
      have hc' : w.cell? (ad.add k) = some (.int .i64 (rd l k)) := by simpa using hc
      have hd : l.drop k = rd l k :: l.drop (k + 1) := by rw [List.drop_eq_getElem_cons hlt]; simp [rd, hlt]
      have HD := Lib.hid hd
      clear hd
      by_cases hin : inB lo hi (rd l k) = true
      · go_wp2_with (go_at_call 68; refine (lit1_any _ _ _ _ _ _ h1 h2).mono ?_; rintro e w' ⟨rfl, rfl⟩)
        go_round
        case rel => exact ⟨k + 1, by omega, by go_num, by rw [HI.out, HD.out]; simp [idxOf, hin]⟩
        case measure => simp [intOf]; omega
      · have hin' : inB lo hi (rd l k) = false := by simpa using hin
        clear hin
        go_wp2_with (go_at_call 68; refine (lit1_any _ _ _ _ _ _ h1 h2).mono ?_; rintro e w' ⟨rfl, rfl⟩)
        go_ret
        exact ⟨ret_int (by rw [HI.out, HD.out]; simp [idxOf, hin']), rfl⟩
    · go_wp2
      go_ret
      have : k = l.length := by omega
      subst this
      exact ⟨ret_int (by rw [HI.out]; simp [idxOf]), rfl⟩

theorem idxOf_neg (p : Int → Bool) (l : List Int) (k : Int) (hk : 0 ≤ k) : decide (idxOf p l k ≥ 0) = l.any p := by
  induction l generalizing k with
  | nil => simp [idxOf]
  | cons x xs ih =>
    by_cases h : p x = true
    · simp [idxOf, h, hk]
    · simp only [idxOf, h]; simp [ih (k + 1) (by omega), h]

theorem contains_any (lo hi : Int) (b1 b2 : Nat) (A : Option Addr) (c : Nat) (l : List Int) (w : World) (h1 : w.cell? ⟨b1, 0, none⟩ = some (.int .i64 lo)) (h2 : w.cell? ⟨b2, 0, none⟩ = some (.int .i64 hi))
    (hr : Kd.C (Kd.int .i64) w A l.length l) :
    Calls Try.prog 67 #[.slice A l.length c, .func (.func 68) #[] #[.pointer (some ⟨b1, 0, none⟩), .pointer (some ⟨b2, 0, none⟩)]] w fun e w' => e = .returned (.bool (l.any fun n => !inB lo hi n)) ∧ w' = w := by
  have HR := Lib.hid (idxOf_neg (fun n => !inB lo hi n) l 0 (by omega))
  go_enter Try.func67, Try.ntmps67
  go_wp2_with (go_at_call 79; refine (idx_any _ _ _ _ _ _ _ _ h1 h2 hr).mono ?_; rintro e w' ⟨rfl, rfl⟩)
  go_ret
  exact ⟨ret_bool HR.out, rfl⟩

def areIn (l : List Int) (lo hi : Int) : Bool := l.all fun n => inB lo hi n

theorem areIn_any (l : List Int) (lo hi : Int) : (!l.any fun n => !inB lo hi n) = areIn l lo hi := by
  simp [areIn, List.any_eq_not_all_not]

theorem areWithin_any (A : Option Addr) (c : Nat) (l : List Int) (lo hi : Int) (w : World) (hr : Kd.C (Kd.int .i64) w A l.length l) :
    Calls Try.prog 43 #[.slice A l.length c, .int .i64 lo, .int .i64 hi] w fun e w' => e = .returned (.bool (areIn l lo hi)) ∧ Below w.heap.size w w' := by
  have HX := Lib.hid (areIn_any l lo hi)
  have hC := fun W hW h1 h2 => contains_any lo hi w.heap.size (w.heap.size + 1) A c l W h1 h2 hW
  go_enter Try.func43, Try.ntmps43
  go_wp2_with (go_at_call 67; refine (hC _ (Kd.C_alloc (Kd.C_alloc hr _) _) (by simp) (by simp)).mono ?_; rintro e w' ⟨rfl, rfl⟩)
  go_ret
  exact ⟨ret_bool HX.out, below_alloc (below_alloc (Below.refl _ _) _) _⟩
end Go.Proofs.Ytibaiaenfeppcaa.Ha

/- The lots of a yard: all stacks one behind the other. -/
namespace Go.Proofs.Ytibaiaenfeppcaa.Yv
open Go Go.RowKit Go.Proofs.YtibaiaenfeppcaaW.PrintWords Go.Proofs.Ytibaiaenfeppcaa.Sv Go.Proofs.Ytibaiaenfeppcaa.Gr Go.Proofs.Ytibaiaenfeppcaa.Ha
set_option maxRecDepth 100000 in
theorem lots_any (h : Int) (A : Option Addr) (c : Nat) (xs : List (List Int)) (hn : xs.length ≤ 1000000) (hl : xs.flatten.length ≤ 1000000) (w : World) (hr : Kd.C (Kd.slice 2 (Kd.int .i64)) w A xs.length xs) :
    Calls Try.prog 42 #[.agg #[.int .i64 h, .slice A xs.length c]] w fun e w' => ∃ v, e = .returned v ∧ Kd.R (Kd.int .i64) 2 w' w.heap.size (fun _ => True) v xs.flatten ∧ RowKit.Below w.heap.size w w' := by
  have HR := Aside0.mk hr
  have hu := Try.underlying27
  clear hr
  go_enter Try.func42, Try.ntmps42
  go_wp2_with (go_at_call 66; refine (concat_any A c xs hn hl _ (Kd.C_below HR.out (below_alloc (RowKit.Below.refl _ _) (.cells #[.int .i64 h, .slice A xs.length c] 27)))).mono ?_; rintro e w1 ⟨v, rfl, hR, hb⟩; have HV := Aside0.mk (Kd.R_lower hR (below_size (below_alloc (RowKit.Below.refl w.heap.size w) (.cells #[.int .i64 h, .slice A xs.length c] 27)))); have HB := Aside0.mk (below_step (below_alloc (RowKit.Below.refl w.heap.size w) (.cells #[.int .i64 h, .slice A xs.length c] 27)) hb); clear hR hb)
  go_ret
  exact ⟨v, rfl, HV.out, HB.out⟩
end Go.Proofs.Ytibaiaenfeppcaa.Yv

/- The program's ValidYard. -/
namespace Go.Proofs.Ytibaiaenfeppcaa.Yv
set_option linter.unusedSimpArgs false
set_option linter.unusedVariables false
open Go Go.RowKit Go.Proofs.YtibaiaenfeppcaaW.PrintWords Go.Proofs.YtibaiaenfeppcaaW.PrintLast Go.Proofs.Ytibaiaenfeppcaa.Sv Go.Proofs.Ytibaiaenfeppcaa.Gr Go.Proofs.Ytibaiaenfeppcaa.Ha
theorem ints_of_own {w : World} {base : Nat} {e : TypeId} {v : Value} {zs : List Int} (h : w.ownsRow base e 1 v zs.length (zs.map (Value.int .i64))) : Ints w.heap.size w v zs := by
  rcases h.2 with ⟨rfl, hz⟩ | ⟨g, cap, cur, rfl, hb, hg, _⟩
  · exact .inl ⟨rfl, List.eq_nil_of_length_eq_zero hz⟩
  · refine .inr ⟨g, 0, cap, rfl, (Array.getElem?_eq_some_iff.1 hg).1, fun j hj => ?_⟩
    have := h.cells (g := g) rfl j (.int .i64 (zs[j]?.getD 0)) (by simp [hj])
    rw [show (⟨g, 0, none⟩ : Addr).add j = ⟨g, 0 + j, none⟩ by unfold Addr.add; split <;> simp_all] at this
    exact this
theorem values_any (a : Option Addr) (len cap : Nat) (w : World) :
    Calls Try.prog 41 #[.slice a len cap] w fun e w' => e = .returned (.func (.func 65) #[] #[.pointer (some ⟨w.heap.size, 0, none⟩)]) ∧ w' = w.alloc (.cells #[.slice a len cap] 31) :=
  (callsIn_wide (n := 3)).1 (values_in Fence.wide 3 trivial rfl a len cap w)
/-- slices.Sorted(slices.Values(l)) behind the iterator's making. -/
theorem sorted_of (v : Value) (zs : List Int) (hlen : zs.length ≤ 1000000) (w : World) {base : Nat} (h : w.ownsRow base 2 1 v zs.length (zs.map (Value.int .i64))) :
    Calls Try.prog 40 #[.func (.func 65) #[] #[.pointer (some ⟨w.heap.size, 0, none⟩)]] (w.alloc (.cells #[v] 31)) fun e w' => ∃ A c, e = .returned (.slice A (srt zs).length c) ∧ (srt zs).length ≤ c ∧ Kd.C (Kd.int .i64) w' A (srt zs).length (srt zs) ∧ RowKit.Below w.heap.size w w' := by
  have hI := ints_of_own (h.alloc (.cells #[v] 31))
  have hb := blk_new w (.cells #[v] 31)
  refine (sorted_any w.heap.size v zs hlen _ (by simp) ((blk_cell hb 0).trans rfl) hI).mono ?_
  rintro e w' ⟨u, rfl, ho, hB⟩
  rw [← srt_len zs] at ho
  obtain ⟨A, c, rfl, hc, hC⟩ := Kd.R_reads (Kd.R_of_own (enc := Value.int .i64) ho (fun _ _ => trivial))
  exact ⟨A, c, rfl, hc, hC, below_step (below_alloc (RowKit.Below.refl _ _) _) hB⟩
end Go.Proofs.Ytibaiaenfeppcaa.Yv

/- The program's ValidYard, walked. -/
namespace Go.Proofs.Ytibaiaenfeppcaa.Yv
set_option linter.unusedSimpArgs false
set_option linter.unusedVariables false
open Go Go.RowKit Go.Proofs.YtibaiaenfeppcaaW.PrintWords Go.Proofs.YtibaiaenfeppcaaW.PrintLast Go.Proofs.Ytibaiaenfeppcaa.Sv Go.Proofs.Ytibaiaenfeppcaa.Gr Go.Proofs.Ytibaiaenfeppcaa.Ha
theorem meas (n j : Nat) (x : Int) (h : j < n) (hx : x = ((j + 1 : Nat) : Int)) : n - x.toNat < n - ((j : Nat) : Int).toNat := by
  subst hx; simp only [Int.toNat_natCast]; omega
theorem flat_le (xs : List (List Int)) (h : ∀ i : Nat, i < xs.length → (rdl xs (i : Int)).length ≤ 4) : xs.flatten.length ≤ 4 * xs.length := by
  have key : ∀ j, j ≤ xs.length → (cat xs j).length ≤ 4 * j := by
    intro j
    induction j with
    | zero => intro _; simp [cat]
    | succ j ih =>
      intro hj
      rw [cat_succ xs j (by omega), List.length_append]
      have := ih (by omega); have := h j (by omega); omega
  have := key xs.length (Nat.le_refl _)
  rwa [cat_all] at this
/-- No two neighbours of the first j are alike. -/
def apart (l : List Int) (j : Nat) : Prop := ∀ i : Nat, 0 < i → i < j → rd l ((i : Int) - 1) ≠ rd l (i : Int)
set_option maxRecDepth 100000 in
set_option maxHeartbeats 4000000 in
theorem impl_yard (h : Int) (A : Option Addr) (c : Nat) (xs : List (List Int)) (w : World) (hr : Kd.C (Kd.slice 2 (Kd.int .i64)) w A xs.length xs) (res : Bool)
    (hno : res = true ↔ (inB 1 4 h = true ∧ inB 1 4 (xs.length : Int) = true ∧ (∀ i : Nat, i < xs.length → ((rdl xs (i : Int)).length : Int) ≤ h) ∧ apart (srt xs.flatten) (srt xs.flatten).length ∧ ((srt xs.flatten).length : Int) ≤ 7 ∧ areIn (srt xs.flatten) 0 99 = true)) :
    Calls Try.prog 13 #[.agg #[.int .i64 h, .slice A xs.length c]] w fun e w' => e = .returned (.bool res) ∧ RowKit.Below w.heap.size w w' := by
  have HR := Aside0.mk hr
  have HNO := Aside0.mk hno
  have hu := Try.underlying27
  have HB0 := Aside0.mk (below_alloc (RowKit.Below.refl w.heap.size w) (.cells #[.int .i64 h, .slice A xs.length c] 27))
  have BK := Aside0.mk (blk_new w (.cells #[.int .i64 h, .slice A xs.length c] 27))
  clear hr hno
  by_cases h1 : inB 1 4 h = true
  case neg =>
    have hres : res = false := by cases res with
      | false => rfl
      | true => exact absurd (HNO.out.1 rfl).1 h1
    have h1' : inB 1 4 h = false := by simpa using h1
    go_enter Try.func13, Try.ntmps13
    go_wp2_with (go_at_call 39; refine (within_any _ _ _ _).mono ?_; rintro e w1 ⟨rfl, rfl⟩)
    go_ret
    exact ⟨hres ▸ rfl, HB0.out⟩
  case pos =>
  by_cases h2 : inB 1 4 (xs.length : Int) = true
  case neg =>
    have hres : res = false := by cases res with
      | false => rfl
      | true => exact absurd (HNO.out.1 rfl).2.1 h2
    have h2' : inB 1 4 (xs.length : Int) = false := by simpa using h2
    go_enter Try.func13, Try.ntmps13
    go_wp2_with (go_at_call 39; refine (within_any _ _ _ _).mono ?_; rintro e w1 ⟨rfl, rfl⟩)
    go_ret
    exact ⟨hres ▸ rfl, HB0.out⟩
  case pos =>
  have hxs : xs.length ≤ 4 := by
    unfold inB at h2; rw [Bool.and_eq_true, decide_eq_true_eq, decide_eq_true_eq] at h2; omega
  have hh4 : h ≤ 4 := by
    unfold inB at h1; rw [Bool.and_eq_true, decide_eq_true_eq, decide_eq_true_eq] at h1; omega
  go_enter Try.func13, Try.ntmps13
  go_wp2_with (go_at_call 39; refine (within_any _ _ _ _).mono ?_; rintro e w1 ⟨rfl, rfl⟩)
  go_loopw [21] (fun v21 wz => ∃ j : Nat, j ≤ xs.length ∧ v21 = .int .i64 (j : Int) ∧ Aside0 (∀ i : Nat, i < j → ((rdl xs (i : Int)).length : Int) ≤ h) ∧ wz = w.alloc (.cells #[.int .i64 h, .slice A xs.length c] 27)) (fun v _ => xs.length - (intOf v).toNat)
  case atStart => exact ⟨0, by omega, rfl, ⟨fun i hi => absurd hi (by omega)⟩, rfl⟩
  case round =>
    obtain ⟨j, hj, rfl, hgd, hwr⟩ := hrel
    subst hwr
    by_cases hlt : j < xs.length
    · have c0 : decide ((j : Int) < (xs.length : Int)) = true := decide_eq_true (by omega)
      have p1 : 0 ≤ (j : Int) := by omega
      have q1 : (j : Int) < (xs.length : Int) := by omega
      obtain ⟨ad, A0, c0', rfl, hx, _, _⟩ := at_rows HR.out (j : Int) p1 q1
      simp only [Int.toNat_natCast] at hx
      replace hx := pw_cell_below HB0.out hx
      obtain ⟨m, hm⟩ : ∃ m, m = (rdl xs (j : Int)).length := ⟨_, rfl⟩
      rw [← hm] at hx
      have HM := Aside0.mk hm
      replace p1 := eq_true p1
      replace q1 := eq_true q1
      have HJ := Aside0.mk hlt
      by_cases hle : (m : Int) ≤ h
      · have c1 : decide (h < (m : Int)) = false := decide_eq_false (by omega)
        have HLE := Aside0.mk hle
        clear hm hlt hle
        go_wp2
        go_roundw
        case rel => exact ⟨j + 1, by have := HJ.out; omega, by first | (congr 1; done) | (congr 1; unfold wrap64; omega), ⟨fun i hi => by
          rcases Nat.lt_or_ge i j with hl | hl
          · exact hgd.out i hl
          · obtain rfl : i = j := by omega
            rw [← HM.out]; exact HLE.out⟩, by first | rfl | trivial⟩
        case measure => have := HJ.out; simp only [intOf]; omega
      · have c1 : decide (h < (m : Int)) = true := decide_eq_true (by omega)
        have hres : res = false := by cases res with
          | false => rfl
          | true => exact absurd ((HNO.out.1 rfl).2.2.1 j hlt) (by rw [← hm]; exact hle)
        clear hm hlt hle
        go_wp2
        go_ret
        exact ⟨hres ▸ rfl, HB0.out⟩
    · have c0 : decide ((j : Int) < (xs.length : Int)) = false := decide_eq_false (by omega)
      obtain rfl : j = xs.length := by omega
      have hfl : xs.flatten.length ≤ 1000000 := by have := flat_le xs (fun i hi => by have := hgd.out i hi; omega); omega
      have hcl := hgd.out
      obtain ⟨zs, hzs⟩ : ∃ z, z = xs.flatten := ⟨_, rfl⟩
      have HZ := Aside0.mk hzs
      have hzl : zs.length ≤ 1000000 := by rw [hzs]; exact hfl
      obtain ⟨ss, hss⟩ : ∃ z, z = srt zs := ⟨_, rfl⟩
      have HSS := Aside0.mk hss
      have hsl : ss.length ≤ 1000000 := by rw [hss, srt_len]; exact hzl
      clear hlt hj hzs hss
      have hc0 : (w.alloc (.cells #[.int .i64 h, .slice A xs.length c] 27)).cell? ⟨w.heap.size, 0, none⟩ = some (.int .i64 h) := (blk_cell BK.out 0).trans rfl
      have hc1 : (w.alloc (.cells #[.int .i64 h, .slice A xs.length c] 27)).cell? ⟨w.heap.size, 1, none⟩ = some (.slice A xs.length c) := (blk_cell BK.out 1).trans rfl
      go_wp2_with (first
        | (go_at_call 42; refine (lots_any h A c xs (by omega) hfl _ (Kd.C_below HR.out HB0.out)).mono ?_; rintro e w1 ⟨v, rfl, hR, hb⟩; rw [← HZ.out] at hR; have HO := Aside0.mk (Kd.own_of_R hR); have HB1 := Aside0.mk (below_step HB0.out hb); obtain ⟨A1, c1, rfl⟩ := Kd.R_slice hR; clear hR hb)
        | (go_at_call 41; refine (values_any _ _ _ _).mono ?_; rintro e w2 ⟨rfl, rfl⟩)
        | (go_at_call 40; refine (sorted_of _ zs hzl w1 HO.out).mono ?_; rintro e w3 ⟨A2, c2, he, hc2, hC2, hb⟩; rw [← HSS.out] at he hc2 hC2; subst he; have HC2c := Aside0.mk hc2; have HC2 := Aside0.mk hC2; have HB3 := Aside0.mk (below_step HB1.out hb); clear hc2 hC2 hb))
      go_loopw [37] (fun v37 wz => ∃ j : Nat, j ≤ ss.length ∧ v37 = .int .i64 (j : Int) ∧ Aside0 (apart ss j) ∧ Aside0 (RowKit.Below w3.heap.size w3 wz)) (fun v _ => ss.length - (intOf v).toNat)
      case atStart => exact ⟨0, by omega, rfl, ⟨fun i _ hi => absurd hi (by omega)⟩, ⟨RowKit.Below.refl _ _⟩⟩
      case round =>
        obtain ⟨j, hj, rfl, hap, rb⟩ := hrel
        have HCr := Aside0.mk (Kd.C_below HC2.out rb.out)
        have HBr := Aside0.mk (below_step HB3.out rb.out)
        by_cases hlt : j < ss.length
        · have c0 : decide ((j : Int) < (ss.length : Int)) = true := decide_eq_true (by omega)
          by_cases hj0 : j = 0
          · subst hj0
            have HJ := Aside0.mk hlt
            have c0' : decide ((0 : Int) < (ss.length : Int)) = true := decide_eq_true (by omega)
            have c0n : decide (0 < ss.length) = true := decide_eq_true (by omega)
            have c0p : (0 < ss.length) = True := eq_true (by omega)
            clear hlt hj
            go_wp2
            go_quiet (fail)
            go_wp2
            go_roundw
            case rel => exact ⟨1, by have := HJ.out; omega, by first | rfl | (congr 1; done) | (congr 1; unfold wrap64; omega), ⟨fun i hi hl => absurd hi (by omega)⟩, ⟨pw_below_drewN rb.out _⟩⟩
            case measure => exact meas ss.length 0 _ HJ.out (by first | rfl | decide)
          · have c1 : decide ((0 : Int) < (j : Int)) = true := decide_eq_true (by omega)
            have c1n : decide (0 < j) = true := decide_eq_true (by omega)
            have hpos : (0 < j) = True := eq_true (by omega)
            obtain ⟨y, hy⟩ : ∃ y, wrap64 ((j : Int) - 1) = y := ⟨_, rfl⟩
            have hyv : y = (j : Int) - 1 := by rw [← hy]; unfold wrap64; omega
            have HY := Aside0.mk hyv
            have hyw : IntKind.i64.wrap ((j : Int) - 1) = y := by rw [i64_w]; exact hy
            have p1 : 0 ≤ (j : Int) := by omega
            have q1 : (j : Int) < (ss.length : Int) := by omega
            have p2 : 0 ≤ y := by omega
            have q2 : y < (ss.length : Int) := by omega
            obtain ⟨a2, rfl, hx1⟩ := Kd.at_int HCr.out (j : Int) p1 q1
            obtain ⟨_, ea, hx2⟩ := Kd.at_int HCr.out y p2 q2
            cases ea
            simp only [Int.toNat_natCast] at hx1
            have HX := Aside0.mk (And.intro hx1 hx2)
            have HJ := Aside0.mk (And.intro hlt hj0)
            have HW := Aside0.mk (show wrap64 ((j : Int) + 1) = ((j + 1 : Nat) : Int) by unfold wrap64; omega)
            replace p1 := eq_true p1
            replace q1 := eq_true q1
            replace p2 := eq_true p2
            replace q2 := eq_true q2
            clear hyv hx1 hx2 hlt hj0 hj
            go_wp2
            obtain ⟨hx1, hx2⟩ := HX.out
            go_quiet (fail)
            clear hx1 hx2
            by_cases heq : rd ss y = rd ss (j : Int)
            · have c5 : (rd ss y == rd ss (j : Int)) = true := beq_iff_eq.mpr heq
              have hres : res = false := by cases res with
                | false => rfl
                | true =>
                  have ha := (HNO.out.1 rfl).2.2.2.1
                  rw [← HZ.out, ← HSS.out] at ha
                  exact absurd (by rw [← HY.out]; exact heq) (ha j (by have := HJ.out; omega) HJ.out.1)
              clear heq
              go_wp2
              go_ret
              exact ⟨hres ▸ rfl, pw_below_drewN HBr.out _⟩
            · have c5 : (rd ss y == rd ss (j : Int)) = false := beq_eq_false_iff_ne.mpr heq
              have HNE := Aside0.mk heq
              clear heq
              have hlt := HJ.out.1
              go_wp2
              go_roundw
              case rel => exact ⟨j + 1, by have := HJ.out; omega, by have h2 := HW.out; first | (congr 1; done) | (congr 1; omega), ⟨fun i hi hl => by
                rcases Nat.lt_or_ge i j with hlj | hlj
                · exact hap.out i hi hlj
                · obtain rfl : i = j := by omega
                  rw [← HY.out]; exact HNE.out⟩, ⟨pw_below_drewN rb.out _⟩⟩
              case measure => have h3 := HJ.out.1; simp only [intOf]; omega
        · have c0 : decide ((j : Int) < (ss.length : Int)) = false := decide_eq_false (by omega)
          obtain rfl : j = ss.length := by omega
          clear hlt hj
          by_cases h7 : (ss.length : Int) ≤ 7
          · have c7 : decide ((ss.length : Int) ≤ 7) = true := decide_eq_true h7
            have hres : areIn ss 0 99 = res := by
              have h8 := HNO.out
              rw [← HZ.out, ← HSS.out] at h8
              cases hA : areIn ss 0 99 with
              | true => exact (h8.2 ⟨h1, h2, hcl, hap.out, h7, hA⟩).symm
              | false => cases res with
                | false => rfl
                | true => exact absurd (h8.1 rfl).2.2.2.2.2 (by rw [hA]; decide)
            clear h7
            go_wp2_with (go_at_call 43; refine (areWithin_any A2 c2 ss 0 99 _ HCr.out).mono ?_; rintro e w5 ⟨rfl, hb5⟩; have HB5 := Aside0.mk (below_step HBr.out hb5); clear hb5)
            go_ret
            exact ⟨hres ▸ rfl, HB5.out⟩
          · have c7 : decide ((ss.length : Int) ≤ 7) = false := decide_eq_false h7
            have hres : res = false := by cases res with
              | false => rfl
              | true =>
                have h8 := (HNO.out.1 rfl).2.2.2.2.1
                rw [← HZ.out, ← HSS.out] at h8
                exact absurd h8 h7
            clear h7
            go_wp2
            go_ret
            exact ⟨hres ▸ rfl, HBr.out⟩
end Go.Proofs.Ytibaiaenfeppcaa.Yv

/- impl.ValidYard, plainly; slices.Sort at a list that is written, slices.Min, the lots of a yard: in the printer's words. -/
namespace Go.Proofs.Ytibaiaenfeppcaa.Yv
open Go Go.RowKit Go.Proofs.YtibaiaenfeppcaaW.PrintWords Go.Proofs.YtibaiaenfeppcaaW.PrintLast Go.Proofs.YtibaiaenfeppcaaW.PrintMore Go.Proofs.Ytibaiaenfeppcaa.Sv Go.Proofs.Ytibaiaenfeppcaa.Gr Go.Proofs.Ytibaiaenfeppcaa.Ha
/-- Few lots, each once, none too great, in stacks that are not too high. -/
def valid (h : Int) (xs : List (List Int)) : Bool :=
  inB 1 4 h && (inB 1 4 (xs.length : Int) && (xs.all (fun s => decide ((s.length : Int) ≤ h)) && (decide xs.flatten.Nodup && (decide ((xs.flatten.length : Int) ≤ 7) && areIn xs.flatten 0 99))))
theorem srt_perm (l : List Int) : (srt l).Perm l := List.mergeSort_perm _ _
theorem srt_sorted (l : List Int) : (srt l).Pairwise (fun a b => a ≤ b) := by
  have h := List.pairwise_mergeSort (le := fun x y : Int => decide (x ≤ y)) (by intro a b c; simp; omega) (by intro a b; simp; omega) l
  exact h.imp (by intro a b; simp)
theorem apart_nodup (l : List Int) (hs : l.Pairwise (fun a b => a ≤ b)) : apart l l.length ↔ l.Nodup := by
  constructor
  · intro h
    have key : ∀ i j : Nat, i < j → ∀ (hj : j < l.length) (hi : i < l.length), l[i] < l[j] := by
      intro i j hij
      induction j with
      | zero => omega
      | succ j ih =>
        intro hj hi
        have h1 : l[j] ≤ l[j + 1] := List.pairwise_iff_getElem.1 hs j (j + 1) (by omega) hj (by omega)
        have h2 := h (j + 1) (by omega) hj
        have e1 : rd l (((j + 1 : Nat) : Int) - 1) = l[j] := by
          unfold rd; rw [show (((j + 1 : Nat) : Int) - 1).toNat = j by omega, List.getD_eq_getElem?_getD, List.getElem?_eq_getElem (by omega)]; rfl
        have e2 : rd l ((j + 1 : Nat) : Int) = l[j + 1] := by
          unfold rd; rw [Int.toNat_natCast, List.getD_eq_getElem?_getD, List.getElem?_eq_getElem hj]; rfl
        rw [e1, e2] at h2
        rcases Nat.lt_or_ge i j with hl | hl
        · have := ih hl (by omega) hi; omega
        · obtain rfl : i = j := by omega
          omega
    rw [List.nodup_iff_pairwise_ne, List.pairwise_iff_getElem]
    intro i j hi hj hij
    have := key i j hij hj hi
    omega
  · intro h i hi hl
    rw [List.nodup_iff_pairwise_ne, List.pairwise_iff_getElem] at h
    have := h (i - 1) i (by omega) hl (by omega)
    unfold rd
    rw [show ((i : Int) - 1).toNat = i - 1 by omega, Int.toNat_natCast, List.getD_eq_getElem?_getD, List.getElem?_eq_getElem (by omega), List.getD_eq_getElem?_getD, List.getElem?_eq_getElem hl]
    exact this
theorem all_rows (xs : List (List Int)) (h : Int) : xs.all (fun s => decide ((s.length : Int) ≤ h)) = true ↔ ∀ i : Nat, i < xs.length → ((rdl xs (i : Int)).length : Int) ≤ h := by
  rw [List.all_eq_true]
  constructor
  · intro hh i hi
    have := hh xs[i] (List.getElem_mem hi)
    have e : rdl xs (i : Int) = xs[i] := by simp [rdl, hi]
    rw [e]; simpa using this
  · intro hh s hs
    obtain ⟨i, hi, rfl⟩ := List.getElem_of_mem hs
    have := hh i hi
    have e : rdl xs (i : Int) = xs[i] := by simp [rdl, hi]
    rw [e] at this; simpa using this
theorem areIn_srt (l : List Int) (a b : Int) : areIn (srt l) a b = areIn l a b := by
  rw [Bool.eq_iff_iff]
  unfold areIn
  rw [List.all_eq_true, List.all_eq_true]
  exact ⟨fun h x hx => h x ((srt_perm l).mem_iff.2 hx), fun h x hx => h x ((srt_perm l).mem_iff.1 hx)⟩
theorem valid_iff (h : Int) (xs : List (List Int)) : valid h xs = true ↔ (inB 1 4 h = true ∧ inB 1 4 (xs.length : Int) = true ∧ (∀ i : Nat, i < xs.length → ((rdl xs (i : Int)).length : Int) ≤ h) ∧ apart (srt xs.flatten) (srt xs.flatten).length ∧ ((srt xs.flatten).length : Int) ≤ 7 ∧ areIn (srt xs.flatten) 0 99 = true) := by
  rw [apart_nodup _ (srt_sorted _), (srt_perm xs.flatten).nodup_iff, srt_len, areIn_srt, ← all_rows]
  unfold valid
  simp only [Bool.and_eq_true, decide_eq_true_eq]
theorem validYard_calls (a0_0 : Int) (A0_1 : Option Addr) (c0_1 : Nat) (l0_1 : List (List Int)) (w : World) (hr0_1 : Kd.C (Kd.slice 2 (Kd.int .i64)) w A0_1 l0_1.length l0_1) :
    Calls Try.prog 13 #[.agg #[.int .i64 a0_0, .slice A0_1 l0_1.length c0_1]] w fun e w' => e = .returned (.bool (valid a0_0 l0_1)) ∧ RowKit.Below w.heap.size w w' :=
  impl_yard a0_0 A0_1 c0_1 l0_1 w hr0_1 _ (valid_iff a0_0 l0_1)
/-- slices.Sort at a list that is written. -/
theorem sort_R (P0_ : Nat → Prop) (v : Value) (zs : List Int) (hlen : zs.length ≤ 1000000) (w0 w : World) (hB : RowKit.Below w0.heap.size w0 w) (ho : Kd.R (Kd.int .i64) 2 w w0.heap.size P0_ v zs) :
    Calls Try.prog 47 #[v] w fun e w' => e = .returned (.tuple #[]) ∧ Kd.R (Kd.int .i64) 2 w' w0.heap.size (fun k_ => (P0_ k_ ∨ w.heap.size ≤ k_)) v (srt zs) ∧ RowKit.Below w0.heap.size w0 w' ∧ Kept w w' (fun k_ => P0_ k_) := by
  have h := Kd.own_of_R ho
  have hP := ho.1
  rcases h.2 with ⟨rfl, hz⟩ | ⟨gb, cap, cur, rfl, hbase, hgb, r1, r2, r3, r4⟩
  · have hzs : zs = [] := List.eq_nil_of_length_eq_zero hz
    subst hzs
    refine (Try.slices_Sort_int_none none 0 w).mono ?_
    rintro e w' ⟨rfl, rfl⟩
    exact ⟨rfl, Kd.R_mono (by simpa [srt] using ho) (fun _ hk => .inl hk), hB, Kept.refl _ _⟩
  · have hH : Go.Sort.Holds (Value.int .i64) w gb 0 zs.toArray := holds_of_blockI hgb (by have h4 := r4; rw [Nat.mul_one] at h4; exact h4)
    have hgl : gb < w.heap.size := (Array.getElem?_eq_some_iff.1 hgb).1
    refine (Try.slices_Sort_int gb 0 cap zs w hH hgl (by omega)).mono ?_
    rintro e w' ⟨rfl, n, os, rfl⟩
    have hg := grownBy_sortedI (w := w) (g := gb) (n := n) (os := os) (srt zs).toArray
    refine ⟨rfl, ?_, hB.grown hg (hB.size) (fun j hj => by cases hj; exact hbase), Kept.of_grown hg (Kept.refl _ _) (fun k hk => by cases hk; exact .inl (hP gb rfl))⟩
    have hown := ownsRow_sortedI (ss := zs) (ts := srt zs) (srt_len zs) hbase hgb r1 r2 r3 (n := n) (os := os)
    refine Kd.R_of_own ?_ (fun k hk => .inl (hP k hk))
    rw [srt_len]
    exact hown
end Go.Proofs.Ytibaiaenfeppcaa.Yv

/- slices.Min at []int64. -/
namespace Go.Proofs.Ytibaiaenfeppcaa.Yv
open Go Go.RowKit Go.Proofs.YtibaiaenfeppcaaW.PrintWords Go.Proofs.YtibaiaenfeppcaaW.PrintLast Go.Proofs.YtibaiaenfeppcaaW.PrintMore Go.Proofs.Ytibaiaenfeppcaa.Sv Go.Proofs.Ytibaiaenfeppcaa.Gr Go.Proofs.Ytibaiaenfeppcaa.Ha
/-- The least of some numbers. -/
def minOf : List Int → Int
  | [] => 0
  | x :: xs => xs.foldl (fun m y => if y < m then y else m) x
theorem minOf_one (l : List Int) (h : 0 < l.length) : minOf (l.take 1) = rd l 0 := by
  cases l with
  | nil => simp at h
  | cons x xs => rfl
theorem minOf_succ (l : List Int) (k : Nat) (h1 : 1 ≤ k) (h : k < l.length) : minOf (l.take (k + 1)) = if rd l (k : Int) < minOf (l.take k) then rd l (k : Int) else minOf (l.take k) := by
  have e : rd l (k : Int) = l[k] := by simp [rd, h]
  rw [e, List.take_succ_eq_append_getElem h]
  obtain ⟨x, xs, hx⟩ : ∃ x xs, l.take k = x :: xs := by
    cases hl : l.take k with
    | nil => have h3 := congrArg List.length hl; rw [List.length_take] at h3; simp only [List.length_nil] at h3; omega
    | cons x xs => exact ⟨x, xs, rfl⟩
  rw [hx]
  simp only [minOf, List.cons_append, List.foldl_append, List.foldl_cons, List.foldl_nil]
  rfl
set_option maxHeartbeats 1000000 in
theorem min_any (A0 : Option Addr) (c0 : Nat) (l0 : List Int) (hn : 0 < l0.length) (w : World) (hr0 : Kd.C (Kd.int .i64) w A0 l0.length l0) :
    Calls Try.prog 46 #[.slice A0 l0.length c0] w fun e w' => e = .returned (.int .i64 (minOf l0)) ∧ w' = w := by
  have hm := hr0.2.1
  have c0 : decide ((l0.length : Int) < 1) = false := decide_eq_false (by omega)
  have c1 : decide (l0.length < 1) = false := decide_eq_false (by omega)
  have c2 : (l0.length < 1) = False := eq_false (by omega)
  obtain ⟨ad, rfl, hx0⟩ := Kd.at_int hr0 0 (by decide) (by omega)
  replace hx0 : w.cell? ad = some (.int .i64 (rd l0 0)) := by simpa [Addr.add] using hx0
  have H1 := Aside0.mk (minOf_one l0 hn)
  have hnn : (0 < l0.length) = True := eq_true hn
  have HN := Aside0.mk hn
  clear hn
  go_enter Try.func46, Try.ntmps46
  go_wp2
  go_loop [3, 4] (fun m i => ∃ k : Nat, 1 ≤ k ∧ k ≤ l0.length ∧ i = .int .i64 (k : Int) ∧ m = .int .i64 (minOf (l0.take k))) (fun _ v => l0.length - (intOf v).toNat)
  case atStart => exact ⟨1, by omega, by have := HN.out; omega, rfl, by rw [H1.out]⟩
  case round =>
    obtain ⟨k, hk1, hk, rfl, rfl⟩ := hrel
    obtain ⟨mm, hmm⟩ : ∃ mm, mm = minOf (l0.take k) := ⟨_, rfl⟩
    by_cases hlt : k < l0.length
    · have hs := minOf_succ l0 k hk1 hlt
      rw [← hmm] at hs ⊢
      have c3 : decide ((k : Int) < (l0.length : Int)) = true := decide_eq_true (by omega)
      have p1 : 0 ≤ (k : Int) := by omega
      have q1 : (k : Int) < (l0.length : Int) := by omega
      obtain ⟨ad', ea, hx⟩ := Kd.at_int hr0 (k : Int) p1 q1
      cases ea
      simp only [Int.toNat_natCast] at hx
      obtain ⟨y, hy⟩ : ∃ y, y = rd l0 (k : Int) := ⟨_, rfl⟩
      rw [← hy] at hs hx
      have hmn : Builtin.min2 (.int .i64 mm) (.int .i64 y) = pure (.int .i64 (if y < mm then y else mm)) := min2_int _ _ _ _
      have hm2 := fun ats ty => min_two ats ty (.int .i64 mm) (.int .i64 y)
      have HS := Aside0.mk hs
      clear hs hy hmm
      go_wp2
      go_round
      case rel => exact ⟨k + 1, by omega, by omega, by go_num, by rw [HS.out]⟩
      case measure => simp only [intOf]; omega
    · have c3 : decide ((k : Int) < (l0.length : Int)) = false := decide_eq_false (by omega)
      obtain rfl : k = l0.length := by omega
      have HM := Aside0.mk hmm
      rw [← hmm]
      clear hmm
      go_wp2
      go_ret
      exact ⟨ret_int (by rw [HM.out, List.take_length]), rfl⟩
end Go.Proofs.Ytibaiaenfeppcaa.Yv

-- made by a patched copy of print.sh: this session's own
namespace Go.Proofs.Ytibaiaenfeppcaa.Q
open Go.RowKit Go.Proofs.YtibaiaenfeppcaaW.PrintWords Go.Proofs.YtibaiaenfeppcaaW.PrintLast Go.Proofs.YtibaiaenfeppcaaW.PrintMore
attribute [local go_sem] max2_int min2_int max_two min_two max_three min_three max_four min_four   -- for this text's walks alone
set_option linter.unusedVariables false
set_option linter.unusedSimpArgs false

/-! ### laws_markInt64S: function 19 -/
def laws_markInt64S.l0 : Nat → List Int → Int → Int → Option (Int × List Int)
  | 0, _, _, _ => none
  | k + 1, x0, x1, x5 => if x5 < (x0.length : Int) then (if 0 ≤ x5 then (laws_markInt64S.l0 k (x0.set (x5 : Int).toNat x1) (wrap64 (x1 + 1)) (wrap64 (x5 + 1))) else (none)) else (some (x1, x0))
def laws_markInt64S.f (k : Nat) (l0 : List Int) (a1 : Int) : Option (Int × List Int) := laws_markInt64S.l0 k l0 a1 0
end Go.Proofs.Ytibaiaenfeppcaa.Q

-- made by a patched copy of print.sh: this session's own
namespace Go.Proofs.Ytibaiaenfeppcaa.Q
open Go.RowKit Go.Proofs.YtibaiaenfeppcaaW.PrintWords Go.Proofs.YtibaiaenfeppcaaW.PrintLast Go.Proofs.YtibaiaenfeppcaaW.PrintMore
attribute [local go_sem] max2_int min2_int max_two min_two max_three min_three max_four min_four   -- for this text's walks alone
set_option linter.unusedVariables false
set_option linter.unusedSimpArgs false

/-! ### laws_heldInt64S: function 20 -/
def laws_heldInt64S.l0 : Nat → List Int → Int → Int → Option (Int)
  | 0, _, _, _ => none
  | k + 1, x0, x1, x5 => if x5 < (x0.length : Int) then (if 0 ≤ x5 then (if (rd x0 x5) = x1 then (laws_heldInt64S.l0 k x0 (wrap64 (x1 + 1)) (wrap64 (x5 + 1))) else (some (-1))) else (none)) else (some x1)
def laws_heldInt64S.f (k : Nat) (l0 : List Int) (a1 : Int) : Option (Int) := laws_heldInt64S.l0 k l0 a1 0
end Go.Proofs.Ytibaiaenfeppcaa.Q

-- made by a patched copy of print.sh: this session's own
namespace Go.Proofs.Ytibaiaenfeppcaa.Q
open Go.RowKit Go.Proofs.YtibaiaenfeppcaaW.PrintWords Go.Proofs.YtibaiaenfeppcaaW.PrintLast Go.Proofs.YtibaiaenfeppcaaW.PrintMore
attribute [local go_sem] max2_int min2_int max_two min_two max_three min_three max_four min_four   -- for this text's walks alone
set_option linter.unusedVariables false
set_option linter.unusedSimpArgs false

/-! ### laws_heldInt64SS: function 56 -/
def laws_heldInt64SS.l0 : Nat → List (List Int) → Int → Int → Option (Int)
  | 0, _, _, _ => none
  | k + 1, x0, x1, x5 => if x5 < (x0.length : Int) then (if 0 ≤ x5 then ((laws_heldInt64S.f k (rd_L1 x0 x5) x1).bind fun t595 => (if t595 < 0 then (some (-1)) else (laws_heldInt64SS.l0 k x0 t595 (wrap64 (x5 + 1))))) else (none)) else (some x1)
def laws_heldInt64SS.f (k : Nat) (l0 : List (List Int)) (a1 : Int) : Option (Int) := laws_heldInt64SS.l0 k l0 a1 0
end Go.Proofs.Ytibaiaenfeppcaa.Q

-- made by a patched copy of print.sh: this session's own
namespace Go.Proofs.Ytibaiaenfeppcaa.Q
open Go.RowKit Go.Proofs.YtibaiaenfeppcaaW.PrintWords Go.Proofs.YtibaiaenfeppcaaW.PrintLast Go.Proofs.YtibaiaenfeppcaaW.PrintMore
attribute [local go_sem] max2_int min2_int max_two min_two max_three min_three max_four min_four   -- for this text's walks alone
set_option linter.unusedVariables false
set_option linter.unusedSimpArgs false

/-! ### laws_heldYard: function 31 -/
def laws_heldYard.f (k : Nat) (a0_0 : Int) (l0_1 : List (List Int)) (a1 : Int) : Option (Int) := (laws_heldInt64SS.f k l0_1 a1).bind fun t597 => (if t597 < 0 then (some (-1)) else (some t597))
end Go.Proofs.Ytibaiaenfeppcaa.Q

-- made by a patched copy of print.sh: this session's own
namespace Go.Proofs.Ytibaiaenfeppcaa.Q
open Go.RowKit Go.Proofs.YtibaiaenfeppcaaW.PrintWords Go.Proofs.YtibaiaenfeppcaaW.PrintLast Go.Proofs.YtibaiaenfeppcaaW.PrintMore
attribute [local go_sem] max2_int min2_int max_two min_two max_three min_three max_four min_four   -- for this text's walks alone
set_option linter.unusedVariables false
set_option linter.unusedSimpArgs false

/-! ### laws_szInt64S: function 58 -/
def laws_szInt64S.f (l0 : List Int) (a1 : Int) : Option (Int) := if (wrap64 (a1 - (l0.length : Int))) < 0 then (some (-1)) else (some (wrap64 (a1 - (l0.length : Int))))
end Go.Proofs.Ytibaiaenfeppcaa.Q

-- made by a patched copy of print.sh: this session's own
namespace Go.Proofs.Ytibaiaenfeppcaa.Q
open Go.RowKit Go.Proofs.YtibaiaenfeppcaaW.PrintWords Go.Proofs.YtibaiaenfeppcaaW.PrintLast Go.Proofs.YtibaiaenfeppcaaW.PrintMore
attribute [local go_sem] max2_int min2_int max_two min_two max_three min_three max_four min_four   -- for this text's walks alone
set_option linter.unusedVariables false
set_option linter.unusedSimpArgs false

/-! ### laws_szInt64SS: function 33 -/
def laws_szInt64SS.l0 : Nat → List (List Int) → Int → Int → Option (Int)
  | 0, _, _, _ => none
  | k + 1, x0, x1, x5 => if x5 < (x0.length : Int) then (if 0 ≤ x5 then ((laws_szInt64S.f (rd_L1 x0 x5) x1).bind fun t102 => (if t102 < 0 then (some (-1)) else (laws_szInt64SS.l0 k x0 t102 (wrap64 (x5 + 1))))) else (none)) else (some x1)
def laws_szInt64SS.f (k : Nat) (l0 : List (List Int)) (a1 : Int) : Option (Int) := if (wrap64 (a1 - (l0.length : Int))) < 0 then (some (-1)) else (laws_szInt64SS.l0 k l0 (wrap64 (a1 - (l0.length : Int))) 0)
end Go.Proofs.Ytibaiaenfeppcaa.Q

-- made by a patched copy of print.sh: this session's own
namespace Go.Proofs.Ytibaiaenfeppcaa.Q
open Go.RowKit Go.Proofs.YtibaiaenfeppcaaW.PrintWords Go.Proofs.YtibaiaenfeppcaaW.PrintLast Go.Proofs.YtibaiaenfeppcaaW.PrintMore
attribute [local go_sem] max2_int min2_int max_two min_two max_three min_three max_four min_four   -- for this text's walks alone
set_option linter.unusedVariables false
set_option linter.unusedSimpArgs false

/-! ### laws_szYard: function 10 -/
def laws_szYard.f (k : Nat) (a0_0 : Int) (l0_1 : List (List Int)) (a1 : Int) : Option (Int) := (laws_szInt64SS.f k l0_1 a1).bind fun t104 => (if t104 < 0 then (some (-1)) else (some t104))
end Go.Proofs.Ytibaiaenfeppcaa.Q

-- made by a patched copy of print.sh: this session's own
namespace Go.Proofs.Ytibaiaenfeppcaa.Q
open Go.RowKit Go.Proofs.YtibaiaenfeppcaaW.PrintWords Go.Proofs.YtibaiaenfeppcaaW.PrintLast Go.Proofs.YtibaiaenfeppcaaW.PrintMore
attribute [local go_sem] max2_int min2_int max_two min_two max_three min_three max_four min_four   -- for this text's walks alone
set_option linter.unusedVariables false
set_option linter.unusedSimpArgs false

/-! ### laws_toInt64S: function 61 -/
def laws_toInt64S.l0 : Nat → List Int → List Int → Int → Option (List Int)
  | 0, _, _, _ => none
  | k + 1, x0, x3, x4 => if x4 < (x0.length : Int) then (if 0 ≤ x4 then (if x4 < (x3.length : Int) then (laws_toInt64S.l0 k x0 (x3.set (x4 : Int).toNat (rd x0 x4)) (wrap64 (x4 + 1))) else (none)) else (none)) else (some x3)
def laws_toInt64S.f (k : Nat) (l0 : List Int) : Option (List Int) := if 0 ≤ (l0.length : Int) then (if ((l0.length : Int) : Int).toNat ≤ 35184372088832 then (laws_toInt64S.l0 k l0 (List.replicate ((l0.length : Int) : Int).toNat 0) 0) else (none)) else (none)
end Go.Proofs.Ytibaiaenfeppcaa.Q

-- made by a patched copy of print.sh: this session's own
namespace Go.Proofs.Ytibaiaenfeppcaa.Q
open Go.RowKit Go.Proofs.YtibaiaenfeppcaaW.PrintWords Go.Proofs.YtibaiaenfeppcaaW.PrintLast Go.Proofs.YtibaiaenfeppcaaW.PrintMore
attribute [local go_sem] max2_int min2_int max_two min_two max_three min_three max_four min_four   -- for this text's walks alone
set_option linter.unusedVariables false
set_option linter.unusedSimpArgs false

/-! ### laws_toInt64SS: function 35 -/
def laws_toInt64SS.l0 : Nat → List (List Int) → List (List Int) → Int → Option ((List (List Int)))
  | 0, _, _, _ => none
  | k + 1, x0, x3, x4 => if x4 < (x0.length : Int) then (if 0 ≤ x4 then ((laws_toInt64S.f k (rd_L1 x0 x4)).bind fun t131 => (if x4 < (x3.length : Int) then (laws_toInt64SS.l0 k x0 (x3.set (x4 : Int).toNat t131) (wrap64 (x4 + 1))) else (none))) else (none)) else (some x3)
def laws_toInt64SS.f (k : Nat) (l0 : List (List Int)) : Option ((List (List Int))) := if 0 ≤ (l0.length : Int) then (if ((l0.length : Int) : Int).toNat ≤ 11728124029610 then (laws_toInt64SS.l0 k l0 (List.replicate ((l0.length : Int) : Int).toNat []) 0) else (none)) else (none)
end Go.Proofs.Ytibaiaenfeppcaa.Q

-- mended

-- made by a patched copy of print.sh: this session's own
namespace Go.Proofs.Ytibaiaenfeppcaa.Q
open Go.RowKit Go.Proofs.YtibaiaenfeppcaaW.PrintWords Go.Proofs.YtibaiaenfeppcaaW.PrintLast Go.Proofs.YtibaiaenfeppcaaW.PrintMore
attribute [local go_sem] max2_int min2_int max_two min_two max_three min_three max_four min_four   -- for this text's walks alone
set_option linter.unusedVariables false
set_option linter.unusedSimpArgs false

/-! ### laws_toYard: function 12 -/
def laws_toYard.f (k : Nat) (a0_0 : Int) (l0_1 : List (List Int)) : Option (Int × (List (List Int))) := (laws_toInt64SS.f k l0_1).bind fun t138 => (some (a0_0, t138))
end Go.Proofs.Ytibaiaenfeppcaa.Q

-- made by a patched copy of print.sh: this session's own
namespace Go.Proofs.Ytibaiaenfeppcaa.Q
open Go.RowKit Go.Proofs.YtibaiaenfeppcaaW.PrintWords Go.Proofs.YtibaiaenfeppcaaW.PrintLast Go.Proofs.YtibaiaenfeppcaaW.PrintMore
attribute [local go_sem] max2_int min2_int max_two min_two max_three min_three max_four min_four   -- for this text's walks alone
set_option linter.unusedVariables false
set_option linter.unusedSimpArgs false

/-! ### laws_eqInt64S: function 17 -/
def laws_eqInt64S.l0 : Nat → List Int → List Int → Int → Option (Bool)
  | 0, _, _, _ => none
  | k + 1, x0, x1, x5 => if x5 < (x0.length : Int) then (if 0 ≤ x5 then (if x5 < (x1.length : Int) then (if (rd x0 x5) = (rd x1 x5) then (laws_eqInt64S.l0 k x0 x1 (wrap64 (x5 + 1))) else (some false)) else (none)) else (none)) else (some true)
def laws_eqInt64S.f (k : Nat) (l0 : List Int) (l1 : List Int) : Option (Bool) := if (l0.length : Int) = (l1.length : Int) then (laws_eqInt64S.l0 k l0 l1 0) else (some false)
end Go.Proofs.Ytibaiaenfeppcaa.Q

-- made by a patched copy of print.sh: this session's own
namespace Go.Proofs.Ytibaiaenfeppcaa.Q
open Go.RowKit Go.Proofs.YtibaiaenfeppcaaW.PrintWords Go.Proofs.YtibaiaenfeppcaaW.PrintLast Go.Proofs.YtibaiaenfeppcaaW.PrintMore
attribute [local go_sem] max2_int min2_int max_two min_two max_three min_three max_four min_four   -- for this text's walks alone
set_option linter.unusedVariables false
set_option linter.unusedSimpArgs false

/-! ### laws_eqInt64SS: function 36 -/
def laws_eqInt64SS.l0 : Nat → List (List Int) → List (List Int) → Int → Option (Bool)
  | 0, _, _, _ => none
  | k + 1, x0, x1, x5 => if x5 < (x0.length : Int) then (if 0 ≤ x5 then (if x5 < (x1.length : Int) then ((laws_eqInt64S.f k (rd_L1 x0 x5) (rd_L1 x1 x5)).bind fun t265 => (if t265 = true then (laws_eqInt64SS.l0 k x0 x1 (wrap64 (x5 + 1))) else (some false))) else (none)) else (none)) else (some true)
def laws_eqInt64SS.f (k : Nat) (l0 : List (List Int)) (l1 : List (List Int)) : Option (Bool) := if (l0.length : Int) = (l1.length : Int) then (laws_eqInt64SS.l0 k l0 l1 0) else (some false)
end Go.Proofs.Ytibaiaenfeppcaa.Q

-- made by a patched copy of print.sh: this session's own
namespace Go.Proofs.Ytibaiaenfeppcaa.Q
open Go.RowKit Go.Proofs.YtibaiaenfeppcaaW.PrintWords Go.Proofs.YtibaiaenfeppcaaW.PrintLast Go.Proofs.YtibaiaenfeppcaaW.PrintMore
attribute [local go_sem] max2_int min2_int max_two min_two max_three min_three max_four min_four   -- for this text's walks alone
set_option linter.unusedVariables false
set_option linter.unusedSimpArgs false

/-! ### laws_eqYard: function 14 -/
def laws_eqYard.f (k : Nat) (a0_0 : Int) (l0_1 : List (List Int)) (a1_0 : Int) (l1_1 : List (List Int)) : Option (Bool) := if a0_0 = a1_0 then ((laws_eqInt64SS.f k l0_1 l1_1).bind fun t268 => (if t268 = true then (some true) else (some false))) else (some false)
end Go.Proofs.Ytibaiaenfeppcaa.Q

-- made by a patched copy of print.sh: this session's own
namespace Go.Proofs.Ytibaiaenfeppcaa.Q
open Go.RowKit Go.Proofs.YtibaiaenfeppcaaW.PrintWords Go.Proofs.YtibaiaenfeppcaaW.PrintLast Go.Proofs.YtibaiaenfeppcaaW.PrintMore
attribute [local go_sem] max2_int min2_int max_two min_two max_three min_three max_four min_four   -- for this text's walks alone
set_option linter.unusedVariables false
set_option linter.unusedSimpArgs false

/-! ### spec_l00In: function 62 -/
def spec_l00In.f (a0 : Int) (a1 : Int) (a2 : Int) : Option (Bool) := if a0 ≥ a1 then (some (decide (a0 ≤ a2))) else (some false)
set_option maxHeartbeats 8000000 in
set_option maxRecDepth 100000 in
theorem spec_l00In.calls (a0 : Int) (a1 : Int) (a2 : Int) (r : Bool) (w : World) (h : spec_l00In.f a0 a1 a2 = some r) :
    Calls Try.prog 62 #[.int .i64 a0, .int .i64 a1, .int .i64 a2] w fun e w' => e = .returned (.bool r) ∧ Drawn0 w w' := by
  have H : (if a0 ≥ a1 then (some (decide (a0 ≤ a2))) else (some false)) = some r := h
  clear h
  by_cases c4 : a0 ≥ a1
  · rw [if_pos c4] at H
    have c4b0 : decide (a1 ≤ a0) = true := decide_eq_true c4
    clear c4
    obtain rfl := Option.some.inj H
    go_enter Try.func62, Try.ntmps62
    go_wp2
    go_ret
    exact ⟨by first | rfl | (simp; done) | (simp [*]; done), by repeat (first | exact Drawn0.refl _ | apply Drawn0.step)⟩
  · rw [if_neg c4] at H
    have c4b0 : decide (a1 ≤ a0) = false := decide_eq_false c4
    clear c4
    obtain rfl := Option.some.inj H
    go_enter Try.func62, Try.ntmps62
    go_wp2
    go_ret
    exact ⟨by first | rfl | (simp; done) | (simp [*]; done), by repeat (first | exact Drawn0.refl _ | apply Drawn0.step)⟩

end Go.Proofs.Ytibaiaenfeppcaa.Q

-- made by a patched copy of print.sh: this session's own
namespace Go.Proofs.Ytibaiaenfeppcaa.Q
open Go.RowKit Go.Proofs.YtibaiaenfeppcaaW.PrintWords Go.Proofs.YtibaiaenfeppcaaW.PrintLast Go.Proofs.YtibaiaenfeppcaaW.PrintMore
attribute [local go_sem] max2_int min2_int max_two min_two max_three min_three max_four min_four   -- for this text's walks alone
set_option linter.unusedVariables false
set_option linter.unusedSimpArgs false

/-! ### spec_l00Has: function 63 -/
def spec_l00Has.l0 : Nat → List Int → Int → Int → Option (Bool)
  | 0, _, _, _ => none
  | k + 1, x0, x1, x5 => if x5 < (x0.length : Int) then (if 0 ≤ x5 then (if (rd x0 x5) = x1 then (some true) else (spec_l00Has.l0 k x0 x1 (wrap64 (x5 + 1)))) else (none)) else (some false)
def spec_l00Has.f (k : Nat) (l0 : List Int) (a1 : Int) : Option (Bool) := spec_l00Has.l0 k l0 a1 0
set_option maxHeartbeats 8000000 in
set_option maxRecDepth 100000 in
theorem spec_l00Has.calls (k : Nat) (A0 : Option Addr) (c0 : Nat) (l0 : List Int) (a1 : Int) (r : Bool) (w : World) (hr0 : Kd.C (Kd.int .i64) w A0 l0.length l0) (hc0 : l0.length ≤ c0) (h : spec_l00Has.f k l0 a1 = some r) :
    Calls Try.prog 63 #[.slice A0 l0.length c0, .int .i64 a1] w fun e w' => e = .returned (.bool r) ∧ Drawn0 w w' := by
  have HR0 := Aside0.mk hr0
  have HC0 := Aside0.mk hc0
  clear hr0 hc0
  have H : (spec_l00Has.l0 k l0 a1 0) = some r := h
  clear h
  have H' := Aside0.mk H
  clear H
  go_enter Try.func63, Try.ntmps63
  go_wp2
  go_loopg [5] k (fun kq v5 w' => ∃ (x5_1 : Int), v5 = .int .i64 x5_1 ∧ Aside0 (spec_l00Has.l0 kq l0 a1 x5_1 = some r) ∧ Aside0 (kq ≤ k) ∧ Drawn0 w w')
  case atStart => exact ⟨(0), (by first | rfl | (simp; done) | (simp [*]; done)), H', ⟨Nat.le_refl _⟩, by repeat (first | exact Drawn0.refl _ | apply Drawn0.step)⟩
  case round =>
    clear H'
    try clear p2
    obtain ⟨x5_1, rfl, HA, HK1, ⟨m1, rfl⟩⟩ := hrel
    cases gk with
    | zero => exact absurd HA.out (by simp [spec_l00Has.l0])
    | succ k1 =>
      have H := HA.out
      clear HA
      simp only [spec_l00Has.l0] at H
      by_cases c3 : x5_1 < (l0.length : Int)
      · rw [if_pos c3] at H
        have c3b0 : decide (x5_1 < (l0.length : Int)) = true := decide_eq_true c3
        clear c3
        by_cases c4 : 0 ≤ x5_1
        · rw [if_pos c4] at H
          have c4b0 : decide (0 ≤ x5_1) = true := decide_eq_true c4
          clear c4
          by_cases c5 : (rd l0 x5_1) = a1
          · rw [if_pos c5] at H
            have c5b0 : ((rd l0 x5_1) == a1) = true := beq_iff_eq.mpr c5
            have c5b1 : ((rd l0 x5_1) != a1) = false := bne_eq_false_iff_eq.mpr c5
            clear c5
            obtain rfl := Option.some.inj H
            have p105 : 0 ≤ (x5_1 : Int) := of_decide_eq_true (by first | (with_reducible assumption) | assumption)
            have q105 : x5_1 < (l0.length : Int) := of_decide_eq_true (by first | (with_reducible assumption) | assumption)
            obtain ⟨ad105, e105, hx105_0⟩ := Kd.at_int HR0.out x5_1 p105 q105
            cases e105
            replace p105 := eq_true p105
            replace q105 := eq_true q105
            go_wp2
            go_ret
            exact ⟨by first | rfl | (simp; done) | (simp [*]; done), by repeat (first | exact Drawn0.refl _ | apply Drawn0.step)⟩
          · rw [if_neg c5] at H
            have c5b0 : ((rd l0 x5_1) == a1) = false := beq_eq_false_iff_ne.mpr c5
            have c5b1 : ((rd l0 x5_1) != a1) = true := bne_iff_ne.mpr c5
            have H' := Aside0.mk H
            clear H
            have p105 : 0 ≤ (x5_1 : Int) := of_decide_eq_true (by first | (with_reducible assumption) | assumption)
            have q105 : x5_1 < (l0.length : Int) := of_decide_eq_true (by first | (with_reducible assumption) | assumption)
            obtain ⟨ad105, e105, hx105_0⟩ := Kd.at_int HR0.out x5_1 p105 q105
            cases e105
            replace p105 := eq_true p105
            replace q105 := eq_true q105
            go_wp2
            go_roundg k1
            case measure => have := HK1.out; omega
            case rel => exact ⟨(wrap64 (x5_1 + 1)), (by first | rfl | (simp; done) | (simp [*]; done)), H', ⟨by have := HK1.out; omega⟩, by repeat (first | exact Drawn0.refl _ | apply Drawn0.step)⟩
        · rw [if_neg c4] at H
          exact absurd H (by simp)
      · rw [if_neg c3] at H
        have c3b0 : decide (x5_1 < (l0.length : Int)) = false := decide_eq_false c3
        clear c3
        obtain rfl := Option.some.inj H
        go_wp2
        go_ret
        exact ⟨by first | rfl | (simp; done) | (simp [*]; done), by repeat (first | exact Drawn0.refl _ | apply Drawn0.step)⟩

end Go.Proofs.Ytibaiaenfeppcaa.Q

-- made by a patched copy of print.sh: this session's own
namespace Go.Proofs.Ytibaiaenfeppcaa.Q
open Go.RowKit Go.Proofs.YtibaiaenfeppcaaW.PrintWords Go.Proofs.YtibaiaenfeppcaaW.PrintLast Go.Proofs.YtibaiaenfeppcaaW.PrintMore
attribute [local go_sem] max2_int min2_int max_two min_two max_three min_three max_four min_four   -- for this text's walks alone
set_option linter.unusedVariables false
set_option linter.unusedSimpArgs false

/-- A state of type 27 at block g of W; what its slices lead to came in by w0. -/
def IsS27 (w0 W : World) (g : Nat) (f0 : Int) (f1 : List (List Int)) : Prop := ∃ A1 c1, W.heap[g]? = some (.cells #[.int .i64 f0, .slice A1 f1.length c1] 27 (0, 0)) ∧ w0.heap.size ≤ g ∧ Kd.C (Kd.slice 2 (Kd.int .i64)) w0 A1 f1.length f1
theorem IsS27.grown {w0 W : World} {g : Nat} {f0 : Int} {f1 : List (List Int)} {W1 : World} {row : Option Nat} (h : IsS27 w0 W g f0 f1) (hw : W.grownBy W1 row) (hne : some g ≠ row) : IsS27 w0 W1 g f0 f1 := by
  obtain ⟨A1, c1, hb, hg, hr1⟩ := h
  exact ⟨A1, c1, blk_grown hb hw hne, hg, hr1⟩
theorem IsS27.kept {w0 W : World} {g : Nat} {f0 : Int} {f1 : List (List Int)} {W1 : World} {S : Nat → Prop} (h : IsS27 w0 W g f0 f1) (hk : Kept W W1 S) (hne : ¬ S g) : IsS27 w0 W1 g f0 f1 := by
  obtain ⟨A1, c1, hb, hg, hr1⟩ := h
  exact ⟨A1, c1, blk_kept hb hk hne, hg, hr1⟩
theorem IsS27.below {w0 W : World} {g : Nat} {f0 : Int} {f1 : List (List Int)} {W1 : World} (h : IsS27 w0 W g f0 f1) (hw : Below W.heap.size W W1) : IsS27 w0 W1 g f0 f1 := h.grown (grown_of_below hw none) (by simp)
theorem IsS27.alloc {w0 W : World} {g : Nat} {f0 : Int} {f1 : List (List Int)} (h : IsS27 w0 W g f0 f1) (o : Obj) : IsS27 w0 (W.alloc o) g f0 f1 := h.below (below_alloc (Below.refl _ _) o)
theorem IsS27.drewN {w0 W : World} {g : Nat} {f0 : Int} {f1 : List (List Int)} (h : IsS27 w0 W g f0 f1) (m : Nat) : IsS27 w0 (W.drewN m) g f0 f1 := h
theorem IsS27.drew {w0 W : World} {g : Nat} {f0 : Int} {f1 : List (List Int)} (h : IsS27 w0 W g f0 f1) : IsS27 w0 W.drew g f0 f1 := h
theorem IsS27.at_ {w0 W : World} {g : Nat} {f0 : Int} {f1 : List (List Int)} {w' : World} {m : Nat} (hq : W.drewN m = w') (h : IsS27 w0 W g f0 f1) : IsS27 w0 w' g f0 f1 := by subst hq; exact IsS27.drewN h m
theorem IsS27.apart {w0 W : World} {g : Nat} {f0 : Int} {f1 : List (List Int)} {α : Type} {d : Kd α} {e : Nat} {base : Nat} {ok : Nat → Prop} {v : Value} {xs : List α} (h : IsS27 w0 W g f0 f1) (ho : d.R e W base ok v xs) (ht : ∀ q, q ∈ e :: d.E → q ≠ 27) : d.R e W base (fun k => ok k ∧ k ≠ g) v xs := by
  obtain ⟨A1, c1, hb, hg, hr1⟩ := h
  exact Kd.R_types ho hb ht
theorem IsS27.own_ne {w0 W : World} {g : Nat} {f0 : Int} {f1 : List (List Int)} {α : Type} {d : Kd α} {e : Nat} {base : Nat} {ok : Nat → Prop} {v : Value} {xs : List α} (h : IsS27 w0 W g f0 f1) (ho : d.R e W base ok v xs) (ht : e ≠ 27) : some g ≠ v.ownBlock := by
  obtain ⟨A1, c1, hb, hg, hr1⟩ := h
  exact Kd.R_ne ho hb ht
theorem IsS27.apartS {w0 W : World} {g : Nat} {f0 : Int} {f1 : List (List Int)} {α : Type} {d : Kd α} {e : Nat} {base : Nat} {ok : Nat → Prop} {v : Value} {xs : List α} (h : IsS27 w0 W g f0 f1) (ho : d.S e W base ok v xs) (ht : ∀ q, q ∈ e :: d.E → q ≠ 27) : d.S e W base (fun k => ok k ∧ k ≠ g) v xs := by
  obtain ⟨A1, c1, hb, hg, hr1⟩ := h
  exact Kd.S_types ho hb ht
theorem IsS27.own_neS {w0 W : World} {g : Nat} {f0 : Int} {f1 : List (List Int)} {α : Type} {d : Kd α} {e : Nat} {base : Nat} {ok : Nat → Prop} {v : Value} {xs : List α} (h : IsS27 w0 W g f0 f1) (ho : d.S e W base ok v xs) (ht : e ≠ 27) : some g ≠ v.ownBlock := by
  obtain ⟨A1, c1, hb, hg, hr1⟩ := h
  exact Kd.S_ne ho hb ht
theorem IsS27.lt {w0 W : World} {g : Nat} {f0 : Int} {f1 : List (List Int)} (h : IsS27 w0 W g f0 f1) : g < W.heap.size := by
  obtain ⟨A1, c1, hb, hg, hr1⟩ := h
  exact blk_lt hb
theorem IsS27.ge {w0 W : World} {g : Nat} {f0 : Int} {f1 : List (List Int)} (h : IsS27 w0 W g f0 f1) : w0.heap.size ≤ g := by
  obtain ⟨A1, c1, hb, hg, hr1⟩ := h
  exact hg
theorem IsS27.ne_blk {w0 W : World} {g : Nat} {f0 : Int} {f1 : List (List Int)} {a : Nat} {cs : Array Value} {t : TypeId} {fr : Nat × Nat} (h : IsS27 w0 W g f0 f1) (hb2 : W.heap[a]? = some (.cells cs t fr)) (ht : t ≠ 27) : g ≠ a := by
  obtain ⟨A1, c1, hb, hg, hr1⟩ := h
  rintro rfl
  rw [hb] at hb2
  injection hb2 with hb2
  injection hb2 with _ ht2
  exact ht ht2.symm
theorem IsS27.far {w0 W : World} {g : Nat} {f0 : Int} {f1 : List (List Int)} {p : Addr} (h : IsS27 w0 W g f0 f1) (hne : g ≠ p.block) (u : Value) : IsS27 w0 (W.setCell p u) g f0 f1 := by
  obtain ⟨A1, c1, hb, hg, hr1⟩ := h
  exact ⟨A1, c1, blk_far hb hne u, hg, hr1⟩
theorem IsS27.new (w0 W : World) (A1 : Option Addr) (c1 : Nat) (f0 : Int) (f1 : List (List Int)) (hB : Below w0.heap.size w0 W) (hr1 : Kd.C (Kd.slice 2 (Kd.int .i64)) w0 A1 f1.length f1) : IsS27 w0 (W.alloc (.cells #[.int .i64 f0, .slice A1 f1.length c1] 27)) W.heap.size f0 f1 := ⟨A1, c1, by simpa using heap_alloc_new W _, hB.size, hr1⟩

/-! ### spec_l09Yard: function 38 -/
mutual
def spec_l09Yard.j0 : Nat → Bool → Int → List (List Int) → Option (Bool × Int)
  | 0, _, _, _ => none
  | k + 1, x28, x1000, x1001 => if x28 = true then (some (false, x1000)) else (spec_l09Yard.l0 k (([] : List Int)) 0 x1000 x1001)
def spec_l09Yard.l0 : Nat → List Int → Int → Int → List (List Int) → Option (Bool × Int)
  | 0, _, _, _, _ => none
  | k + 1, x3, x4, x1000, x1001 => if x4 < (x1001.length : Int) then (if 0 ≤ x4 then (if ((rd_L1 x1001 x4).length : Int) > x1000 then (some (false, x1000)) else (spec_l09Yard.l1 k x3 x4 0 x1000 x1001)) else (none)) else (some (decide ((x3.length : Int) ≤ 7), x1000))
def spec_l09Yard.l1 : Nat → List Int → Int → Int → Int → List (List Int) → Option (Bool × Int)
  | 0, _, _, _, _, _ => none
  | k + 1, x3, x4, x5, x1000, x1001 => if 0 ≤ x4 then (if x4 < (x1001.length : Int) then (if x5 < ((rd_L1 x1001 x4).length : Int) then (if 0 ≤ x5 then ((spec_l00In.f (rd (rd_L1 x1001 x4) x5) 0 99).bind fun t114 => (if t114 = true then ((spec_l00Has.f k x3 (rd (rd_L1 x1001 x4) x5)).bind fun t115 => (if t115 = true then (some (false, x1000)) else (if x3.length < 17592186044416 then (spec_l09Yard.l1 k (x3 ++ [rd (rd_L1 x1001 x4) x5]) x4 (wrap64 (x5 + 1)) x1000 x1001) else (none)))) else (some (false, x1000)))) else (none)) else (spec_l09Yard.l0 k x3 (wrap64 (x4 + 1)) x1000 x1001)) else (none)) else (none)
end
def spec_l09Yard.f (k : Nat) (s0_0 : Int) (s0_1 : List (List Int)) : Option (Bool × Int) := (spec_l00In.f s0_0 1 4).bind fun t106 => (if t106 = true then (if (s0_1.length : Int) < 1 then (spec_l09Yard.j0 k true s0_0 s0_1) else (spec_l09Yard.j0 k (decide ((s0_1.length : Int) > 4)) s0_0 s0_1)) else (spec_l09Yard.j0 k true s0_0 s0_1))
end Go.Proofs.Ytibaiaenfeppcaa.Q

-- mended

/- Plain: what the laws' own helpers compute on yards, and the reference's valid yards. -/
namespace Go.Proofs.Ytibaiaenfeppcaa.PuY
open Go.RowKit Go.Proofs.YtibaiaenfeppcaaW.PrintWords Go.Proofs.Ytibaiaenfeppcaa.Q
theorem wrap_id {x : Int} (h1 : -9223372036854775808 ≤ x) (h2 : x ≤ 9223372036854775807) : wrap64 x = x := by unfold wrap64; omega
theorem wrap_succ (i : Nat) (h : i < 9000000000000000000) : wrap64 ((i : Int) + 1) = ((i + 1 : Nat) : Int) := by unfold wrap64; omega
theorem rd_at (l : List Int) (i : Nat) (h : i < l.length) : rd l (i : Int) = l[i] := by simp [rd, h]
theorem rdL_at (l : List (List Int)) (i : Nat) (h : i < l.length) : rd_L1 l (i : Int) = l[i] := by simp [rd_L1, h]
/-! sizes -/
/-- Few rows, none long, few numbers in all. -/
def Small (xs : List (List Int)) : Prop := xs.length ≤ 1048576 ∧ xs.flatten.length ≤ 1048576 ∧ ∀ r ∈ xs, r.length ≤ 1048576
/-! copies -/
/-! equality -/
/-! the reference's valid yards -/
theorem in_eq (n a b : Int) : spec_l00In.f n a b = some (Ha.inB a b n) := by
  unfold spec_l00In.f Ha.inB
  by_cases h : n ≥ a
  · rw [if_pos h]; simp; omega
  · rw [if_neg h]; simp; omega
theorem has_loop (l : List Int) (x : Int) (hl : l.length ≤ 1000000) : ∀ (d k i : Nat), i + d = l.length → d < k → spec_l00Has.l0 k l x (i : Int) = some ((l.drop i).contains x) := by
  intro d
  induction d with
  | zero =>
    intro k i hi hk
    obtain ⟨k, rfl⟩ : ∃ m, k = m + 1 := ⟨k - 1, by omega⟩
    simp only [spec_l00Has.l0]
    rw [if_neg (by omega), List.drop_eq_nil_of_le (by omega)]; rfl
  | succ d ih =>
    intro k i hi hk
    obtain ⟨k, rfl⟩ : ∃ m, k = m + 1 := ⟨k - 1, by omega⟩
    have hlt : i < l.length := by omega
    simp only [spec_l00Has.l0]
    rw [if_pos (by omega), if_pos (by omega), rd_at l i hlt, List.drop_eq_getElem_cons hlt]
    by_cases e : l[i] = x
    · rw [if_pos e]; simp [e]
    · rw [if_neg e, wrap_id (by omega) (by omega), show (i : Int) + 1 = ((i + 1 : Nat) : Int) by omega, ih k (i + 1) (by omega) (by omega), List.contains_cons]
      have : (x == l[i]) = false := beq_eq_false_iff_ne.2 (fun h => e h.symm)
      rw [this, Bool.false_or]
theorem has_eq (l : List Int) (x : Int) (hl : l.length ≤ 1000000) (k : Nat) (hk : l.length < k) : spec_l00Has.f k l x = some (l.contains x) := by
  have := has_loop l x hl l.length k 0 (by omega) hk
  simpa [spec_l00Has.f] using this
/-- What is left of a yard is good, the lots seen being these. -/
def goodB (h : Int) (lots : List Int) (rest : List (List Int)) : Bool :=
  rest.all (fun s => decide ((s.length : Int) ≤ h)) && (Ha.areIn rest.flatten 0 99 && (decide (rest.flatten.Nodup ∧ ∀ x ∈ rest.flatten, x ∉ lots) && decide (((lots ++ rest.flatten).length : Int) ≤ 7)))
end Go.Proofs.Ytibaiaenfeppcaa.PuY

/- Words of the yard's laws: what was made between two block numbers lives on while others are made or marked; marking a yard. -/
namespace Go.Proofs.Ytibaiaenfeppcaa.Lw
set_option linter.unusedVariables false
open Go Go.RowKit Go.Proofs.YtibaiaenfeppcaaW.PrintWords Go.Proofs.YtibaiaenfeppcaaW.PrintLast Go.Proofs.YtibaiaenfeppcaaW.PrintMore Go.Proofs.Ytibaiaenfeppcaa.Q Go.Proofs.Ytibaiaenfeppcaa.PuY
abbrev dR : Kd (List Int) := Kd.slice 2 (Kd.int .i64)
/-- A list of rows that was made between two block numbers. -/
structure YS (lo hi : Nat) (w : World) (v : Value) (xs : List (List Int)) : Prop where
  s : Kd.S dR 31 w lo (fun k => lo ≤ k ∧ k < hi) v xs
  le : hi ≤ w.heap.size
/-- A list of numbers that was made between two block numbers. -/
structure ZS (lo hi : Nat) (w : World) (v : Value) (xs : List Int) : Prop where
  r : Kd.R (Kd.int .i64) 2 w lo (fun k => lo ≤ k ∧ k < hi) v xs
  le : hi ≤ w.heap.size
theorem YS.make {w w' : World} {v : Value} {xs : List (List Int)} (h : Kd.S dR 31 w' w.heap.size (fun _ => True) v xs) : YS w.heap.size w'.heap.size w' v xs := ⟨Kd.S_mono (Kd.S_bound h) (fun _ hk => ⟨hk.2.1, hk.2.2.1⟩), Nat.le_refl _⟩
theorem ZS.make {w w' : World} {v : Value} {xs : List Int} (h : Kd.R (Kd.int .i64) 2 w' w.heap.size (fun _ => True) v xs) : ZS w.heap.size w'.heap.size w' v xs := ⟨Kd.R_mono (Kd.R_bound h) (fun _ hk => ⟨hk.2.1, hk.2.2.1⟩), Nat.le_refl _⟩
theorem YS.below {lo hi : Nat} {w w' : World} {v : Value} {xs : List (List Int)} (h : YS lo hi w v xs) (hb : Below w.heap.size w w') : YS lo hi w' v xs := ⟨Kd.S_below h.s hb, Nat.le_trans h.le hb.size⟩
theorem ZS.below {lo hi : Nat} {w w' : World} {v : Value} {xs : List Int} (h : ZS lo hi w v xs) (hb : Below w.heap.size w w') : ZS lo hi w' v xs := ⟨Kd.R_below h.r hb, Nat.le_trans h.le hb.size⟩
theorem YS.kept {lo hi : Nat} {w w' : World} {v : Value} {xs : List (List Int)} {T : Nat → Prop} (h : YS lo hi w v xs) (hk : Kept w w' T) (hT : ∀ k, lo ≤ k → k < hi → ¬ T k) : YS lo hi w' v xs :=
  ⟨Kd.S_kept (S := T) h.s hk (fun k hk => hT k hk.1 hk.2), Nat.le_trans h.le hk.1⟩
theorem ZS.kept {lo hi : Nat} {w w' : World} {v : Value} {xs : List Int} {T : Nat → Prop} (h : ZS lo hi w v xs) (hk : Kept w w' T) (hT : ∀ k, lo ≤ k → k < hi → ¬ T k) : ZS lo hi w' v xs :=
  ⟨Kd.R_kept (S := T) h.r hk (fun k hk => hT k hk.1 hk.2), Nat.le_trans h.le hk.1⟩
theorem YS.reads {lo hi : Nat} {w : World} {v : Value} {xs : List (List Int)} (h : YS lo hi w v xs) : ∃ A c, v = .slice A xs.length c ∧ xs.length ≤ c ∧ Kd.C dR w A xs.length xs := Kd.S_reads h.s
theorem ZS.reads {lo hi : Nat} {w : World} {v : Value} {xs : List Int} (h : ZS lo hi w v xs) : ∃ A c, v = .slice A xs.length c ∧ xs.length ≤ c ∧ Kd.C (Kd.int .i64) w A xs.length xs := Kd.R_reads h.r
theorem YS.c {lo hi : Nat} {w : World} {A : Option Addr} {c n : Nat} {xs : List (List Int)} (h : YS lo hi w (.slice A n c) xs) : Kd.C dR w A xs.length xs := (Kd.S_reads' h.s).2.2
theorem ZS.c {lo hi : Nat} {w : World} {A : Option Addr} {c n : Nat} {xs : List Int} (h : ZS lo hi w (.slice A n c) xs) : Kd.C (Kd.int .i64) w A xs.length xs := (Kd.R_reads' h.r).2.2
/-! marking -/
def upTo (a : Int) (n : Nat) : List Int := (List.range n).map fun (i : Nat) => a + (i : Int)
/-- The rows' numbers, one row behind the other. -/
def markL : List (List Int) → Int → List (List Int)
  | [], _ => []
  | r :: rs, a => upTo a r.length :: markL rs (a + (r.length : Int))
/-- The first rows have their numbers. -/
def markTo (l : List (List Int)) (j : Nat) : List (List Int) := markL (l.take j) 1 ++ l.drop j
end Go.Proofs.Ytibaiaenfeppcaa.Lw

/- Rows of the call's own whose capacity may have been cut: a kind of their own, and what is known of them. -/
namespace Go.Proofs.Ytibaiaenfeppcaa.Ow
open Go Go.RowKit Go.Proofs.YtibaiaenfeppcaaW.PrintWords Go.Proofs.YtibaiaenfeppcaaW.PrintLast Go.Proofs.YtibaiaenfeppcaaW.PrintMore Go.Proofs.Ytibaiaenfeppcaa.Q Go.Proofs.Ytibaiaenfeppcaa.PuY Go.Proofs.Ytibaiaenfeppcaa.Lw
set_option linter.unusedVariables false
/-- A row of the call's own; its block may be longer than its capacity tells. -/
def RowW (w : World) (base : Nat) (ok : Nat → Prop) (v : Value) (xs : List Int) : Prop :=
  (v = .slice none 0 0 ∧ xs = []) ∨ ∃ g cap cur, v = .slice (some ⟨g, 0, none⟩) xs.length cap ∧ base ≤ g ∧ ok g ∧ w.heap[g]? = some (.cells cur 2 (0, 0)) ∧ xs.length ≤ cap ∧ cap ≤ maxLen ∧ cap ≤ cur.size ∧ cur.toList.take xs.length = nums .i64 xs
theorem RowW.cells {w : World} {base : Nat} {ok : Nat → Prop} {xs : List Int} {g cap : Nat} {cur : Array Value} (hh : w.heap[g]? = some (.cells cur 2 (0, 0))) (hc : xs.length ≤ cur.size) (ht : cur.toList.take xs.length = nums .i64 xs) (j : Nat) (hj : j < xs.length) : w.cell? ⟨g, j, none⟩ = some (.int .i64 (xs.getD j 0)) := by
  have h1 : (cur.toList.take xs.length)[j]? = (nums .i64 xs)[j]? := by rw [ht]
  rw [List.getElem?_take_of_lt hj] at h1
  simp only [World.cell?, hh]
  simp only [nums, List.getElem?_map, List.getElem?_eq_getElem hj, Option.map_some, Array.getElem?_toList] at h1
  rw [List.getD_eq_getElem?_getD, List.getElem?_eq_getElem hj]
  simpa using h1
theorem RowW.reads {w : World} {base : Nat} {ok : Nat → Prop} {v : Value} {xs : List Int} (h : RowW w base ok v xs) : ∃ A c, v = .slice A xs.length c ∧ xs.length ≤ c ∧ Kd.C (Kd.int .i64) w A xs.length xs := by
  rcases h with ⟨rfl, rfl⟩ | ⟨g, cap, cur, rfl, hb, ho, hh, h1, h2, h3, h4⟩
  · exact ⟨none, 0, rfl, Nat.le_refl _, Kd.C_nil _ _⟩
  · refine ⟨_, cap, rfl, h1, Kd.C_of_reads (d := (0 : Int)) (h1 := fun _ => rfl) ⟨rfl, by unfold maxLen at h2; omega, fun hn => ⟨_, rfl, fun j hj => ?_⟩⟩⟩
    rw [add_plain]
    exact RowW.cells (base := base) (ok := ok) (cap := cap) hh (by omega) h4 j hj
def dW : Kd (List Int) where
  sz := 1
  E := [2]
  K := dR.K
  M := fun w base ok xs cs => ∃ v, cs = [v] ∧ RowW w base ok v xs
  K_len := dR.K_len
  K_one := dR.K_one
  K_below := dR.K_below
  K_of_M := by
    rintro w base ok x cs ⟨v, rfl, h⟩
    obtain ⟨A, c, rfl, hl, hr⟩ := h.reads
    exact ⟨A, c, rfl, hl, hr⟩
  M_mono := by
    rintro w base ok ok' x cs hok ⟨v, rfl, h⟩
    refine ⟨v, rfl, ?_⟩
    rcases h with h | ⟨g, cap, cur, hv, hb, ho, r⟩
    · exact .inl h
    · exact .inr ⟨g, cap, cur, hv, hb, hok g ho, r⟩
  M_bound := by
    rintro w base ok x cs ⟨v, rfl, h⟩
    refine ⟨v, rfl, ?_⟩
    rcases h with h | ⟨g, cap, cur, hv, hb, ho, hh, r⟩
    · exact .inl h
    · exact .inr ⟨g, cap, cur, hv, hb, ⟨ho, hb, (Array.getElem?_eq_some_iff.1 hh).1, _, List.mem_singleton.2 rfl, _, hh⟩, hh, r⟩
  M_move := by
    rintro w w1 base ok x cs hm ⟨v, rfl, h⟩
    refine ⟨v, rfl, ?_⟩
    rcases h with h | ⟨g, cap, cur, hv, hb, ho, hh, r⟩
    · exact .inl h
    · exact .inr ⟨g, cap, cur, hv, hb, ho, (hm g ho).trans hh, r⟩
  M_lower := by
    rintro w base base' ok x cs hb' ⟨v, rfl, h⟩
    refine ⟨v, rfl, ?_⟩
    rcases h with h | ⟨g, cap, cur, hv, hb, r⟩
    · exact .inl h
    · exact .inr ⟨g, cap, cur, hv, Nat.le_trans hb' hb, r⟩
/-- A row of the usual make is one. -/
theorem rowW_of_R {w : World} {base : Nat} {ok : Nat → Prop} {v : Value} {xs : List Int} (h : Kd.R (Kd.int .i64) 2 w base ok v xs) : RowW w base ok v xs := by
  have hk := h.1
  have h := Kd.own_of_R h
  rcases h.2 with ⟨rfl, hz⟩ | ⟨g, cap, cur, rfl, hb, hh, h1, h2, h3, h4⟩
  · exact .inl ⟨rfl, List.eq_nil_of_length_eq_zero hz⟩
  · exact .inr ⟨g, cap, cur, rfl, hb, hk g rfl, hh, h1, h2, by omega, by rw [Nat.mul_one] at h4; exact h4⟩
theorem mW_of_mR {w : World} {base : Nat} {ok : Nat → Prop} {xs : List Int} {cs : List Value} (h : dR.M w base ok xs cs) : dW.M w base ok xs cs := by
  obtain ⟨v, rfl, h⟩ := h
  exact ⟨v, rfl, rowW_of_R h⟩
theorem sW_of_sR {w : World} {base : Nat} {ok : Nat → Prop} {v : Value} {xs : List (List Int)} (h : Kd.S dR 31 w base ok v xs) : Kd.S dW 31 w base ok v xs := by
  obtain ⟨f, h0, inner, ho, hr⟩ := h
  exact ⟨f, h0, inner, ho, hr.1, fun j p hp => mW_of_mR (hr.2 j p hp)⟩
/-- A row cut short: 'r[:n:n]'. -/
theorem rowW_cut {w : World} {base : Nat} {ok : Nat → Prop} {A : Option Addr} {c m : Nat} {xs : List Int} (h : RowW w base ok (.slice A xs.length c) xs) (hm : m ≤ xs.length) : RowW w base ok (.slice A m m) (xs.take m) := by
  rcases h with ⟨hv, rfl⟩ | ⟨g, cap, cur, hv, hb, ho, hh, h1, h2, h3, h4⟩
  · injection hv with a1 a2 a3
    subst a1
    simp at hm; subst hm
    exact .inl ⟨rfl, rfl⟩
  · injection hv with a1 a2 a3
    subst a1; subst a3
    have hl : (xs.take m).length = m := by rw [List.length_take]; omega
    refine .inr ⟨g, m, cur, by rw [hl], hb, ho, hh, by omega, by omega, by omega, ?_⟩
    rw [hl]
    have : (cur.toList.take xs.length).take m = (nums .i64 xs).take m := by rw [h4]
    rw [List.take_take, Nat.min_eq_left hm] at this
    rw [this]; simp [nums, List.map_take]
end Go.Proofs.Ytibaiaenfeppcaa.Ow

/- A yard of the call's own behind a pointer: its words. -/
namespace Go.Proofs.Ytibaiaenfeppcaa.Yo
open Go Go.RowKit Go.Proofs.YtibaiaenfeppcaaW.PrintWords Go.Proofs.YtibaiaenfeppcaaW.PrintLast Go.Proofs.YtibaiaenfeppcaaW.PrintMore Go.Proofs.Ytibaiaenfeppcaa.Q Go.Proofs.Ytibaiaenfeppcaa.PuY Go.Proofs.Ytibaiaenfeppcaa.Lw Go.Proofs.Ytibaiaenfeppcaa.Ow
set_option linter.unusedVariables false
/-- Block g is a yard's; what it leads to is the call's own from block lo on. -/
def YO (lo : Nat) (W : World) (g : Nat) (h : Int) (xs : List (List Int)) : Prop :=
  ∃ A c, W.heap[g]? = some (.cells #[.int .i64 h, .slice A xs.length c] 27 (0, 0)) ∧ lo ≤ g ∧ lo ≤ W.heap.size ∧ Kd.S dR 31 W lo (fun k => k ≠ g) (.slice A xs.length c) xs
/-- Element i of a row of rows, taken out and put back as another one. -/
theorem row_out {d : Kd (List Int)} (hsz : d.sz = 1) {W : World} {lo n cap gs : Nat} {ok : Nat → Prop} {xs : List (List Int)} (h : Kd.S d 31 W lo ok (.slice (some ⟨gs, 0, none⟩) n cap) xs) (i : Nat) (hi : i < n) (hx : i < xs.length) (hnew : ∀ k, W.heap.size ≤ k → ok k) :
    ∃ (oki : Nat → Prop) (c : List Value), d.M W lo oki xs[i] c ∧ c.length = 1 ∧ (∀ u, c[0]? = some u → W.cell? ⟨gs, i, none⟩ = some u) ∧ (∀ k, oki k → ok k ∧ k ≠ gs) ∧
      ∀ (w2 : World) (v' : Value) (x' : List Int), W.heap.size ≤ w2.heap.size → (∀ k, k < W.heap.size → ¬ oki k → w2.heap[k]? = W.heap[k]?) → d.M w2 lo (fun k => oki k ∨ W.heap.size ≤ k) x' [v'] →
        Kd.S d 31 (w2.setCell ⟨gs, i, none⟩ v') lo ok (.slice (some ⟨gs, 0, none⟩) n cap) (xs.set i x') ∧ w2.grownBy (w2.setCell ⟨gs, i, none⟩ v') (some gs) := by
  obtain ⟨oki, c, hcl, hM, hcc, hoki, hH⟩ := Kd.S_lend h [] (i : Int) (by omega) (by omega)
  have e : xs.getD (i : Int).toNat [] = xs[i] := by rw [Int.toNat_natCast, List.getD_eq_getElem?_getD, List.getElem?_eq_getElem hx]; rfl
  rw [e] at hM
  refine ⟨oki, c, hM, by rw [hcl, hsz], fun u hu => ?_, hoki, fun w2 v' x' hs hk hM' => ?_⟩
  · have := hcc 0 u hu
    rw [Int.toNat_natCast, hsz, Nat.mul_one, Nat.add_zero] at this
    exact this
  · have h1 := Kd.H_step (Kd.H_widen hH) (w1 := w2) (fun k hk1 hn hlt => hk k hlt (fun ho => hn (.inl ho)))
    have h2 : Kd.H d 31 w2 lo (fun k => ok k ∧ ¬ False) (.slice (some ⟨gs, 0, none⟩) n cap) xs (i : Int) (fun k => oki k ∨ ok k ∧ W.heap.size ≤ k) c := Kd.H_mono h1 (fun k hk => ⟨hk, fun f => f⟩)
    have hMM : d.M w2 lo (fun k => oki k ∨ W.heap.size ≤ k) x' (c.take 0 ++ [v'] ++ c.drop (0 + [v'].length)) := by
      rw [List.drop_eq_nil_of_le (by rw [hcl, hsz]; simp)]
      simpa using hM'
    have h3 := Kd.S_seg (okg := fun _ => False) h2 (by omega) (by omega) (seg := [v']) (j := 0) (by rw [hsz]; simp) hMM (fun k hk => .inl (hk.elim .inl (fun h => .inr ⟨hnew k h, h⟩))) (fun _ hk => hk.elim)
    rw [Int.toNat_natCast, hsz, Nat.mul_one, Nat.add_zero] at h3
    exact h3
/-- Each row of a row of rows: its value, its blocks told apart from those of the others. -/
theorem rows_f {W : World} {lo n cap gs : Nat} {ok : Nat → Prop} {xs : List (List Int)} (h : Kd.S dR 31 W lo ok (.slice (some ⟨gs, 0, none⟩) n cap) xs) :
    ∃ f : Nat → Nat, ∀ i : Nat, ∀ hi : i < xs.length, ∃ v, W.cell? ⟨gs, i, none⟩ = some v ∧ W.frozen? ⟨gs, i, none⟩ = false ∧ Kd.R (Kd.int .i64) 2 W lo (fun k => (ok k ∧ k ≠ gs) ∧ f k = i) v xs[i] := by
  have hn := (Kd.S_reads' h).1
  obtain ⟨f, hR⟩ := h
  refine ⟨f, fun i hi => ?_⟩
  obtain ⟨c, hcl, hM, hcc, hfr⟩ := Kd.R_elem hR ([], 0) (i : Int) (by omega) (by omega)
  have e : xs.zipIdx.getD (i : Int).toNat ([], 0) = (xs[i], i) := by
    rw [Int.toNat_natCast, List.getD_eq_getElem?_getD, Kd.zip_at (List.getElem?_eq_getElem hi)]; rfl
  rw [e] at hM
  obtain ⟨v, rfl, hv⟩ := hM
  have h0 := hcc 0 v rfl
  have h1 := hfr 0
  rw [Int.toNat_natCast] at h0 h1
  refine ⟨v, by simpa [Kd.tag, dR, Kd.slice] using h0, by simpa [Kd.tag, dR, Kd.slice] using h1, Kd.R_mono hv (fun k hk => ?_)⟩
  exact ⟨⟨hk.1.1, hk.1.2⟩, hk.2⟩
theorem infoI : (Try.prog.info? 2).map (fun i => (i.zero, i.size, i.bytes)) = some (some (.int .i64 0), 1, 8) := by kernel_rfl
theorem cutm_run (A : Option Addr) (n c : Nat) (q : Int) (h0 : 0 ≤ q) (h1 : q ≤ n) (hc : n ≤ c) : ∀ W : World, (Instr.slice 31 (.slice A n c) none (some (.int .i64 q)) (some (.int .i64 q))).run Try.prog W = .ok (.slice A q.toNat q.toNat) W := by
  intro W
  obtain ⟨i0, hi0, _, hsz, _⟩ := info_parts infoI
  have hel : Try.prog.elem 31 = 2 := by simp [Program.elem, Try.underlying31]
  have hu : Try.prog.underlying 31 = some (.slice (Try.prog.elem 31)) := by rw [hel]; exact Try.underlying31
  rw [run_slice_hm W 31 A n c hu .i64 .i64 q q h0 (Int.le_refl _) (by omega), hel]
  cases A <;> simp [sizeOf, typeInfo, hi0, hsz, sliced, Result.andThen, Addr.add]
/-- The yard's rows are apart from its block: their sizes, its cells. -/
theorem YO.blk {lo : Nat} {W : World} {g : Nat} {h : Int} {xs : List (List Int)} (y : YO lo W g h xs) : ∃ A c, W.heap[g]? = some (.cells #[.int .i64 h, .slice A xs.length c] 27 (0, 0)) := ⟨_, _, y.choose_spec.choose_spec.1⟩
theorem YO.below {lo : Nat} {W W' : World} {g : Nat} {h : Int} {xs : List (List Int)} (y : YO lo W g h xs) (hb : Below W.heap.size W W') : YO lo W' g h xs := by
  obtain ⟨A, c, h1, h2, h3, h4⟩ := y
  exact ⟨A, c, blk_below h1 hb, h2, Nat.le_trans h3 hb.size, Kd.S_below h4 hb⟩
end Go.Proofs.Ytibaiaenfeppcaa.Yo

-- made by a patched copy of print.sh: this session's own
namespace Go.Proofs.Ytibaiaenfeppcaa.Q
open Go.RowKit Go.Proofs.YtibaiaenfeppcaaW.PrintWords Go.Proofs.YtibaiaenfeppcaaW.PrintLast Go.Proofs.YtibaiaenfeppcaaW.PrintMore
attribute [local go_sem] max2_int min2_int max_two min_two max_three min_three max_four min_four   -- for this text's walks alone
set_option linter.unusedVariables false
set_option linter.unusedSimpArgs false

/-! ### spec_l00Own: function 76 -/
def spec_l00Own.f (l0 : List Int) : Option (List Int) := (some (([] : List Int) : List Int)).bind fun y564 => (if y564.length + l0.length < 17592186044416 then (some (y564 ++ l0)) else (none))
end Go.Proofs.Ytibaiaenfeppcaa.Q

/- The reference's l09Own: a yard in memory of its own. -/
namespace Go.Proofs.Ytibaiaenfeppcaa.Yn
open Go Go.RowKit Go.Proofs.YtibaiaenfeppcaaW.PrintWords Go.Proofs.YtibaiaenfeppcaaW.PrintLast Go.Proofs.YtibaiaenfeppcaaW.PrintMore Go.Proofs.Ytibaiaenfeppcaa.Q Go.Proofs.Ytibaiaenfeppcaa.PuY Go.Proofs.Ytibaiaenfeppcaa.Lw Go.Proofs.Ytibaiaenfeppcaa.Ow Go.Proofs.Ytibaiaenfeppcaa.Yo
set_option linter.unusedVariables false
set_option linter.unusedSimpArgs false
theorem blk_new' (w : World) (o o' : Obj) : ((w.alloc o).alloc o').heap[w.heap.size + 1]? = some o' := by
  have := blk_new (w.alloc o) o'
  rwa [World.size_alloc] at this
theorem C_rows {W : World} {A : Option Addr} {xs : List (List Int)} (h : Kd.C dR W A xs.length xs) (j : Nat) (hj : j < xs.length) : ∃ ad Ar cr, A = some ad ∧ W.cell? (ad.add j) = some (.slice Ar xs[j].length cr) ∧ xs[j].length ≤ cr ∧ Kd.C (Kd.int .i64) W Ar xs[j].length xs[j] := by
  obtain ⟨ad, A0, c0, e, h1, h2, h3⟩ := at_L1 h (j : Int) (by omega) (by omega)
  rw [rdL_at xs j hj] at h1 h2 h3
  rw [Int.toNat_natCast] at h1
  exact ⟨ad, A0, c0, e, h1, h2, h3⟩
end Go.Proofs.Ytibaiaenfeppcaa.Yn

-- made by a patched copy of print.sh: this session's own
namespace Go.Proofs.Ytibaiaenfeppcaa.Q
open Go.RowKit Go.Proofs.YtibaiaenfeppcaaW.PrintWords Go.Proofs.YtibaiaenfeppcaaW.PrintLast Go.Proofs.YtibaiaenfeppcaaW.PrintMore
attribute [local go_sem] max2_int min2_int max_two min_two max_three min_three max_four min_four   -- for this text's walks alone
set_option linter.unusedVariables false
set_option linter.unusedSimpArgs false

/-! ### spec_l09Next: function 60 -/
mutual
def spec_l09Next.l0 : Nat → Int → Int → Int → Int → List (List Int) → Option (Int × Int)
  | 0, _, _, _, _, _ => none
  | k + 1, x3, x4, x5, x1000, x1001 => if x5 < (x1001.length : Int) then (spec_l09Next.l1 k x3 x4 x5 0 x1000 x1001) else (some (x3, x1000))
def spec_l09Next.l1 : Nat → Int → Int → Int → Int → Int → List (List Int) → Option (Int × Int)
  | 0, _, _, _, _, _, _ => none
  | k + 1, x3, x4, x5, x6, x1000, x1001 => if 0 ≤ x5 then (if x5 < (x1001.length : Int) then (if x6 < ((rd_L1 x1001 x5).length : Int) then (if 0 ≤ x6 then (if (rd (rd_L1 x1001 x5) x6) < x4 then (spec_l09Next.l1 k x5 (rd (rd_L1 x1001 x5) x6) x5 (wrap64 (x6 + 1)) x1000 x1001) else (spec_l09Next.l1 k x3 x4 x5 (wrap64 (x6 + 1)) x1000 x1001)) else (none)) else (spec_l09Next.l0 k x3 x4 (wrap64 (x5 + 1)) x1000 x1001)) else (none)) else (none)
end
def spec_l09Next.f (k : Nat) (s0_0 : Int) (s0_1 : List (List Int)) : Option (Int × Int) := spec_l09Next.l0 k (-1) 100 0 s0_0 s0_1
end Go.Proofs.Ytibaiaenfeppcaa.Q

-- mended

/- spec_l09Next at a block that may lie ahead of what its slices hold (made out of the printed contract). -/
namespace Go.Proofs.Ytibaiaenfeppcaa.Q
open Go.RowKit Go.Proofs.YtibaiaenfeppcaaW.PrintWords Go.Proofs.YtibaiaenfeppcaaW.PrintLast Go.Proofs.YtibaiaenfeppcaaW.PrintMore
attribute [local go_sem] max2_int min2_int max_two min_two max_three min_three max_four min_four   -- for this text's walks alone
set_option linter.unusedVariables false
set_option linter.unusedSimpArgs false
def IsT27 (w0 W : World) (g : Nat) (f0 : Int) (f1 : List (List Int)) : Prop := ∃ A1 c1, W.heap[g]? = some (.cells #[.int .i64 f0, .slice A1 f1.length c1] 27 (0, 0)) ∧ True ∧ Kd.C (Kd.slice 2 (Kd.int .i64)) w0 A1 f1.length f1
theorem IsT27.grown {w0 W : World} {g : Nat} {f0 : Int} {f1 : List (List Int)} {W1 : World} {row : Option Nat} (h : IsT27 w0 W g f0 f1) (hw : W.grownBy W1 row) (hne : some g ≠ row) : IsT27 w0 W1 g f0 f1 := by
  obtain ⟨A1, c1, hb, hg, hr1⟩ := h
  exact ⟨A1, c1, blk_grown hb hw hne, hg, hr1⟩
theorem IsT27.below {w0 W : World} {g : Nat} {f0 : Int} {f1 : List (List Int)} {W1 : World} (h : IsT27 w0 W g f0 f1) (hw : Below W.heap.size W W1) : IsT27 w0 W1 g f0 f1 := h.grown (grown_of_below hw none) (by simp)
theorem IsT27.alloc {w0 W : World} {g : Nat} {f0 : Int} {f1 : List (List Int)} (h : IsT27 w0 W g f0 f1) (o : Obj) : IsT27 w0 (W.alloc o) g f0 f1 := h.below (below_alloc (Below.refl _ _) o)
theorem IsT27.drewN {w0 W : World} {g : Nat} {f0 : Int} {f1 : List (List Int)} (h : IsT27 w0 W g f0 f1) (m : Nat) : IsT27 w0 (W.drewN m) g f0 f1 := h
theorem IsT27.drew {w0 W : World} {g : Nat} {f0 : Int} {f1 : List (List Int)} (h : IsT27 w0 W g f0 f1) : IsT27 w0 W.drew g f0 f1 := h
theorem IsT27.far {w0 W : World} {g : Nat} {f0 : Int} {f1 : List (List Int)} {p : Addr} (h : IsT27 w0 W g f0 f1) (hne : g ≠ p.block) (u : Value) : IsT27 w0 (W.setCell p u) g f0 f1 := by
  obtain ⟨A1, c1, hb, hg, hr1⟩ := h
  exact ⟨A1, c1, blk_far hb hne u, hg, hr1⟩
theorem IsT27.lt {w0 W : World} {g : Nat} {f0 : Int} {f1 : List (List Int)} (h : IsT27 w0 W g f0 f1) : g < W.heap.size := by
  obtain ⟨A1, c1, hb, hg, hr1⟩ := h
  exact blk_lt hb
end Go.Proofs.Ytibaiaenfeppcaa.Q

/- The reference's l09Take on a yard of its own. -/
namespace Go.Proofs.Ytibaiaenfeppcaa.Yk
open Go Go.RowKit Go.Proofs.YtibaiaenfeppcaaW.PrintWords Go.Proofs.YtibaiaenfeppcaaW.PrintLast Go.Proofs.YtibaiaenfeppcaaW.PrintMore Go.Proofs.Ytibaiaenfeppcaa.Q Go.Proofs.Ytibaiaenfeppcaa.PuY Go.Proofs.Ytibaiaenfeppcaa.Lw Go.Proofs.Ytibaiaenfeppcaa.Ow Go.Proofs.Ytibaiaenfeppcaa.Yo
set_option linter.unusedVariables false
set_option linter.unusedSimpArgs false
/-- Some lot of a stack is less than its topmost one. -/
def lowB (r : List Int) : Bool := (r.take (r.length - 1)).any fun x => decide (x < rd r ((r.length : Int) - 1))
theorem low_yes (r : List Int) (k : Nat) (hk : k < r.length - 1) (h : rd r (k : Int) < rd r ((r.length : Int) - 1)) : lowB r = true := by
  unfold lowB
  rw [List.any_eq_true]
  refine ⟨rd r (k : Int), ?_, by simpa using h⟩
  rw [rd_at r k (by omega)]
  exact List.mem_take_iff_getElem.2 ⟨k, by omega, rfl⟩
theorem low_no (r : List Int) (h : ∀ k : Nat, k < r.length - 1 → ¬ rd r (k : Int) < rd r ((r.length : Int) - 1)) : lowB r = false := by
  rw [Bool.eq_false_iff]
  intro hh
  unfold lowB at hh
  rw [List.any_eq_true] at hh
  obtain ⟨x, hx, hlt⟩ := hh
  obtain ⟨k, hk, rfl⟩ := List.mem_take_iff_getElem.1 hx
  have := h k (by omega)
  rw [rd_at r k (by omega)] at this
  exact this (by simpa using hlt)
/-- What taking leaves. -/
def Took (lo g : Nat) (h : Int) (xs : List (List Int)) (i : Nat) (ri : List Int) (W : World) (e : Ending) (w' : World) : Prop :=
  e = .returned (.bool (!lowB ri)) ∧ YO lo w' g h (if lowB ri = true then xs else xs.set i (ri.take (ri.length - 1))) ∧ Below lo W w'
end Go.Proofs.Ytibaiaenfeppcaa.Yk

/- The reference's l09Move on a yard of its own. -/
namespace Go.Proofs.Ytibaiaenfeppcaa.Yt
open Go Go.RowKit Go.Proofs.YtibaiaenfeppcaaW.PrintWords Go.Proofs.YtibaiaenfeppcaaW.PrintLast Go.Proofs.YtibaiaenfeppcaaW.PrintMore Go.Proofs.Ytibaiaenfeppcaa.Q Go.Proofs.Ytibaiaenfeppcaa.PuY Go.Proofs.Ytibaiaenfeppcaa.Lw Go.Proofs.Ytibaiaenfeppcaa.Ow Go.Proofs.Ytibaiaenfeppcaa.Yo
set_option linter.unusedVariables false
set_option linter.unusedSimpArgs false
/-- A topmost lot moved. -/
def moveRows (xs : List (List Int)) (i j : Nat) : List (List Int) := (xs.set j (xs.getD j [] ++ [rd (xs.getD i []) (((xs.getD i []).length : Int) - 1)])).set i ((xs.getD i []).take ((xs.getD i []).length - 1))
end Go.Proofs.Ytibaiaenfeppcaa.Yt

/- The reference's l09Move where it cannot be done. -/
namespace Go.Proofs.Ytibaiaenfeppcaa.Yx
open Go Go.RowKit Go.Proofs.YtibaiaenfeppcaaW.PrintWords Go.Proofs.YtibaiaenfeppcaaW.PrintLast Go.Proofs.YtibaiaenfeppcaaW.PrintMore Go.Proofs.Ytibaiaenfeppcaa.Q Go.Proofs.Ytibaiaenfeppcaa.PuY Go.Proofs.Ytibaiaenfeppcaa.Lw Go.Proofs.Ytibaiaenfeppcaa.Ow Go.Proofs.Ytibaiaenfeppcaa.Yo
set_option linter.unusedVariables false
set_option linter.unusedSimpArgs false
set_option maxRecDepth 100000 in
set_option maxHeartbeats 4000000 in
theorem no_from (lo g : Nat) (h : Int) (xs : List (List Int)) (hx4 : xs.length ≤ 100000) (f t : Int) (h1 : f < 0 ∨ (xs.length : Int) ≤ f) (W : World) (y : YO lo W g h xs) :
    Calls Try.prog 55 #[.pointer (some ⟨g, 0, none⟩), .int .i64 f, .int .i64 t] W fun e w' => e = .returned (.bool false) ∧ Below W.heap.size W w' := by
  obtain ⟨A, c, hb, -, -, hS⟩ := y
  obtain ⟨n, hn⟩ : ∃ n, n = xs.length := ⟨_, rfl⟩
  rw [← hn] at hb hS
  have bx0 : W.cell? ⟨g, 0, none⟩ = some (.int .i64 h) := (blk_cell hb 0).trans rfl
  have bx1 : W.cell? ⟨g, 1, none⟩ = some (.slice A n c) := (blk_cell hb 1).trans rfl
  obtain ⟨m, hm⟩ : ∃ m, IntKind.i64.wrap ((n : Int) - 1) = m := ⟨_, rfl⟩
  have hmv : m = (n : Int) - 1 := by rw [← hm, i64_w]; unfold wrap64; omega
  have hn4 : n ≤ 100000 := by omega
  have hq : Ha.inB 0 m f = false := by unfold Ha.inB; rw [hmv, hn]; rcases h1 with h1 | h1 <;> simp <;> omega
  have H1 := Aside0.mk (show spec_l00In.f f 0 m = some false by rw [in_eq, hq])
  have HMV := Aside0.mk hmv
  have HN := Aside0.mk hn
  clear hmv hn hb hS hq h1
  go_enter Try.func55, Try.ntmps55
  go_wp2_with (fail)
  go_quiet (first | (go_at_call 62; (with_reducible refine (spec_l00In.calls f 0 m false _ H1.out).mono ?_); rintro e w' ⟨rfl, ⟨nd, rfl⟩⟩; (try first | exact ⟨rfl, _, World.drewN_drewN _ _ _⟩ | exact ⟨rfl, _, Eq.trans (World.drewN_drewN _ _ _) (congrArg (World.drewN _) (Nat.add_assoc _ _ _))⟩)))
  go_wp2_with (fail)
  go_ret
  exact ⟨rfl, pw_below_drewN (Below.refl _ _) nq⟩
set_option maxRecDepth 100000 in
set_option maxHeartbeats 4000000 in
theorem no_to (lo g : Nat) (h : Int) (xs : List (List Int)) (hx4 : xs.length ≤ 100000) (i : Nat) (hi : i < xs.length) (t : Int) (h1 : t < 0 ∨ (xs.length : Int) ≤ t) (W : World) (y : YO lo W g h xs) :
    Calls Try.prog 55 #[.pointer (some ⟨g, 0, none⟩), .int .i64 (i : Int), .int .i64 t] W fun e w' => e = .returned (.bool false) ∧ Below W.heap.size W w' := by
  obtain ⟨A, c, hb, -, -, hS⟩ := y
  obtain ⟨n, hn⟩ : ∃ n, n = xs.length := ⟨_, rfl⟩
  rw [← hn] at hb hS
  have bx0 : W.cell? ⟨g, 0, none⟩ = some (.int .i64 h) := (blk_cell hb 0).trans rfl
  have bx1 : W.cell? ⟨g, 1, none⟩ = some (.slice A n c) := (blk_cell hb 1).trans rfl
  obtain ⟨m, hm⟩ : ∃ m, IntKind.i64.wrap ((n : Int) - 1) = m := ⟨_, rfl⟩
  have hmv : m = (n : Int) - 1 := by rw [← hm, i64_w]; unfold wrap64; omega
  have hn4 : n ≤ 100000 := by omega
  have H1 := Aside0.mk (show spec_l00In.f (i : Int) 0 m = some true by rw [in_eq]; unfold Ha.inB; rw [hmv]; simp; omega)
  have hq : Ha.inB 0 m t = false := by unfold Ha.inB; rw [hmv, hn]; rcases h1 with h1 | h1 <;> simp <;> omega
  have H2 := Aside0.mk (show spec_l00In.f t 0 m = some false by rw [in_eq, hq])
  have HMV := Aside0.mk hmv
  have HN := Aside0.mk hn
  clear hmv hn hb hS hq h1
  go_enter Try.func55, Try.ntmps55
  go_wp2_with (fail)
  go_quiet (first | (go_at_call 62; (with_reducible refine (spec_l00In.calls (i : Int) 0 m true _ H1.out).mono ?_); rintro e w' ⟨rfl, ⟨nd, rfl⟩⟩; (try first | exact ⟨rfl, _, World.drewN_drewN _ _ _⟩ | exact ⟨rfl, _, Eq.trans (World.drewN_drewN _ _ _) (congrArg (World.drewN _) (Nat.add_assoc _ _ _))⟩)) | (go_at_call 62; (with_reducible refine (spec_l00In.calls t 0 m false _ H2.out).mono ?_); rintro e w' ⟨rfl, ⟨nd, rfl⟩⟩; (try first | exact ⟨rfl, _, World.drewN_drewN _ _ _⟩ | exact ⟨rfl, _, Eq.trans (World.drewN_drewN _ _ _) (congrArg (World.drewN _) (Nat.add_assoc _ _ _))⟩)))
  go_wp2_with (fail)
  go_ret
  exact ⟨rfl, pw_below_drewN (Below.refl _ _) nq⟩
set_option maxRecDepth 100000 in
set_option maxHeartbeats 4000000 in
theorem no_same (lo g : Nat) (h : Int) (xs : List (List Int)) (hx4 : xs.length ≤ 100000) (i : Nat) (hi : i < xs.length) (W : World) (y : YO lo W g h xs) :
    Calls Try.prog 55 #[.pointer (some ⟨g, 0, none⟩), .int .i64 (i : Int), .int .i64 (i : Int)] W fun e w' => e = .returned (.bool false) ∧ Below W.heap.size W w' := by
  obtain ⟨A, c, hb, -, -, hS⟩ := y
  obtain ⟨n, hn⟩ : ∃ n, n = xs.length := ⟨_, rfl⟩
  rw [← hn] at hb hS
  have bx0 : W.cell? ⟨g, 0, none⟩ = some (.int .i64 h) := (blk_cell hb 0).trans rfl
  have bx1 : W.cell? ⟨g, 1, none⟩ = some (.slice A n c) := (blk_cell hb 1).trans rfl
  obtain ⟨m, hm⟩ : ∃ m, IntKind.i64.wrap ((n : Int) - 1) = m := ⟨_, rfl⟩
  have hmv : m = (n : Int) - 1 := by rw [← hm, i64_w]; unfold wrap64; omega
  have hn4 : n ≤ 100000 := by omega
  have H1 := Aside0.mk (show spec_l00In.f (i : Int) 0 m = some true by rw [in_eq]; unfold Ha.inB; rw [hmv]; simp; omega)
  have e1 : ((i : Int) == (i : Int)) = true := beq_self_eq_true _
  have HMV := Aside0.mk hmv
  have HN := Aside0.mk hn
  clear hmv hn hb hS
  go_enter Try.func55, Try.ntmps55
  go_wp2_with (fail)
  go_quiet (first | (go_at_call 62; (with_reducible refine (spec_l00In.calls (i : Int) 0 m true _ H1.out).mono ?_); rintro e w' ⟨rfl, ⟨nd, rfl⟩⟩; (try first | exact ⟨rfl, _, World.drewN_drewN _ _ _⟩ | exact ⟨rfl, _, Eq.trans (World.drewN_drewN _ _ _) (congrArg (World.drewN _) (Nat.add_assoc _ _ _))⟩)))
  go_wp2_with (fail)
  go_ret
  exact ⟨rfl, pw_below_drewN (Below.refl _ _) nq⟩
set_option maxRecDepth 100000 in
set_option maxHeartbeats 4000000 in
theorem no_lot (lo g : Nat) (h : Int) (xs : List (List Int)) (hx4 : xs.length ≤ 100000) (i j : Nat) (hi : i < xs.length) (hj : j < xs.length) (hij : i ≠ j) (h1 : xs[i].length = 0) (W : World) (y : YO lo W g h xs) :
    Calls Try.prog 55 #[.pointer (some ⟨g, 0, none⟩), .int .i64 (i : Int), .int .i64 (j : Int)] W fun e w' => e = .returned (.bool false) ∧ Below W.heap.size W w' := by
  obtain ⟨A, c, hb, -, -, hS⟩ := y
  obtain ⟨n, hn⟩ : ∃ n, n = xs.length := ⟨_, rfl⟩
  rw [← hn] at hb hS
  have bx0 : W.cell? ⟨g, 0, none⟩ = some (.int .i64 h) := (blk_cell hb 0).trans rfl
  have bx1 : W.cell? ⟨g, 1, none⟩ = some (.slice A n c) := (blk_cell hb 1).trans rfl
  obtain ⟨m, hm⟩ : ∃ m, IntKind.i64.wrap ((n : Int) - 1) = m := ⟨_, rfl⟩
  have hmv : m = (n : Int) - 1 := by rw [← hm, i64_w]; unfold wrap64; omega
  have hn4 : n ≤ 100000 := by omega
  have H1 := Aside0.mk (show spec_l00In.f (i : Int) 0 m = some true by rw [in_eq]; unfold Ha.inB; rw [hmv]; simp; omega)
  have H2 := Aside0.mk (show spec_l00In.f (j : Int) 0 m = some true by rw [in_eq]; unfold Ha.inB; rw [hmv]; simp; omega)
  have e1 : ((i : Int) == (j : Int)) = false := beq_eq_false_iff_ne.2 (by omega)
  obtain ⟨gs, rfl⟩ : ∃ gs, A = some ⟨gs, 0, none⟩ := by
    obtain ⟨gs, cap, he, _⟩ := Kd.S_form hS (by omega)
    injection he with he _ _
    exact ⟨gs, he⟩
  obtain ⟨f, hf⟩ := rows_f hS
  obtain ⟨urI, k1, -, k2⟩ := hf i hi
  obtain ⟨rI, hrrI⟩ : ∃ r, r = xs[i] := ⟨_, rfl⟩
  rw [← hrrI] at k2
  obtain ⟨AI, cI, rfl⟩ := Kd.R_slice k2
  have xI : W.cell? ⟨gs, i, none⟩ = some (.slice AI rI.length cI) := k1
  have lI := (Kd.R_reads' k2).2.2.2.1
  clear k1 k2
  rw [← hrrI] at h1
  have e2 : ((rI.length : Int) == 0) = true := beq_iff_eq.2 (by omega)
  have HRI := Aside0.mk hrrI
  have pi : (0 ≤ (i : Int)) = True := eq_true (by omega)
  have qi : ((i : Int) < (n : Int)) = True := eq_true (by omega)
  have HMV := Aside0.mk hmv
  have HN := Aside0.mk hn
  clear hmv hn hb hS hf hrrI h1 hij
  go_enter Try.func55, Try.ntmps55
  go_wp2_with (fail)
  go_quiet (first | (go_at_call 62; (with_reducible refine (spec_l00In.calls (i : Int) 0 m true _ H1.out).mono ?_); rintro e w' ⟨rfl, ⟨nd, rfl⟩⟩; (try first | exact ⟨rfl, _, World.drewN_drewN _ _ _⟩ | exact ⟨rfl, _, Eq.trans (World.drewN_drewN _ _ _) (congrArg (World.drewN _) (Nat.add_assoc _ _ _))⟩)) | (go_at_call 62; (with_reducible refine (spec_l00In.calls (j : Int) 0 m true _ H2.out).mono ?_); rintro e w' ⟨rfl, ⟨nd, rfl⟩⟩; (try first | exact ⟨rfl, _, World.drewN_drewN _ _ _⟩ | exact ⟨rfl, _, Eq.trans (World.drewN_drewN _ _ _) (congrArg (World.drewN _) (Nat.add_assoc _ _ _))⟩)))
  go_wp2_with (fail)
  go_ret
  exact ⟨rfl, pw_below_drewN (Below.refl _ _) nq⟩
set_option maxRecDepth 100000 in
set_option maxHeartbeats 4000000 in
theorem no_room (lo g : Nat) (h : Int) (xs : List (List Int)) (hx4 : xs.length ≤ 100000) (i j : Nat) (hi : i < xs.length) (hj : j < xs.length) (hij : i ≠ j) (h1 : 0 < xs[i].length) (h2 : h ≤ (xs[j].length : Int)) (W : World) (y : YO lo W g h xs) :
    Calls Try.prog 55 #[.pointer (some ⟨g, 0, none⟩), .int .i64 (i : Int), .int .i64 (j : Int)] W fun e w' => e = .returned (.bool false) ∧ Below W.heap.size W w' := by
  obtain ⟨A, c, hb, -, -, hS⟩ := y
  obtain ⟨n, hn⟩ : ∃ n, n = xs.length := ⟨_, rfl⟩
  rw [← hn] at hb hS
  have bx0 : W.cell? ⟨g, 0, none⟩ = some (.int .i64 h) := (blk_cell hb 0).trans rfl
  have bx1 : W.cell? ⟨g, 1, none⟩ = some (.slice A n c) := (blk_cell hb 1).trans rfl
  obtain ⟨m, hm⟩ : ∃ m, IntKind.i64.wrap ((n : Int) - 1) = m := ⟨_, rfl⟩
  have hmv : m = (n : Int) - 1 := by rw [← hm, i64_w]; unfold wrap64; omega
  have hn4 : n ≤ 100000 := by omega
  have H1 := Aside0.mk (show spec_l00In.f (i : Int) 0 m = some true by rw [in_eq]; unfold Ha.inB; rw [hmv]; simp; omega)
  have H2 := Aside0.mk (show spec_l00In.f (j : Int) 0 m = some true by rw [in_eq]; unfold Ha.inB; rw [hmv]; simp; omega)
  have e1 : ((i : Int) == (j : Int)) = false := beq_eq_false_iff_ne.2 (by omega)
  obtain ⟨gs, rfl⟩ : ∃ gs, A = some ⟨gs, 0, none⟩ := by
    obtain ⟨gs, cap, he, _⟩ := Kd.S_form hS (by omega)
    injection he with he _ _
    exact ⟨gs, he⟩
  obtain ⟨f, hf⟩ := rows_f hS
  obtain ⟨urI, k1, -, k2⟩ := hf i hi
  obtain ⟨rI, hrrI⟩ : ∃ r, r = xs[i] := ⟨_, rfl⟩
  rw [← hrrI] at k2
  obtain ⟨AI, cI, rfl⟩ := Kd.R_slice k2
  have xI : W.cell? ⟨gs, i, none⟩ = some (.slice AI rI.length cI) := k1
  have lI := (Kd.R_reads' k2).2.2.2.1
  clear k1 k2
  rw [← hrrI] at h1
  have e2 : ((rI.length : Int) == 0) = false := beq_eq_false_iff_ne.2 (by omega)
  have HRI := Aside0.mk hrrI
  obtain ⟨urJ, k1, -, k2⟩ := hf j hj
  obtain ⟨rJ, hrrJ⟩ : ∃ r, r = xs[j] := ⟨_, rfl⟩
  rw [← hrrJ] at k2
  obtain ⟨AJ, cJ, rfl⟩ := Kd.R_slice k2
  have xJ : W.cell? ⟨gs, j, none⟩ = some (.slice AJ rJ.length cJ) := k1
  have lJ := (Kd.R_reads' k2).2.2.2.1
  clear k1 k2
  rw [← hrrJ] at h2
  have e3 : decide (h ≤ (rJ.length : Int)) = true := decide_eq_true h2
  have HRJ := Aside0.mk hrrJ
  have pi : (0 ≤ (i : Int)) = True := eq_true (by omega)
  have qi : ((i : Int) < (n : Int)) = True := eq_true (by omega)
  have pj : (0 ≤ (j : Int)) = True := eq_true (by omega)
  have qj : ((j : Int) < (n : Int)) = True := eq_true (by omega)
  have HMV := Aside0.mk hmv
  have HN := Aside0.mk hn
  clear hmv hn hb hS hf hrrI hrrJ h1 h2 hij
  go_enter Try.func55, Try.ntmps55
  go_wp2_with (fail)
  go_quiet (first | (go_at_call 62; (with_reducible refine (spec_l00In.calls (i : Int) 0 m true _ H1.out).mono ?_); rintro e w' ⟨rfl, ⟨nd, rfl⟩⟩; (try first | exact ⟨rfl, _, World.drewN_drewN _ _ _⟩ | exact ⟨rfl, _, Eq.trans (World.drewN_drewN _ _ _) (congrArg (World.drewN _) (Nat.add_assoc _ _ _))⟩)) | (go_at_call 62; (with_reducible refine (spec_l00In.calls (j : Int) 0 m true _ H2.out).mono ?_); rintro e w' ⟨rfl, ⟨nd, rfl⟩⟩; (try first | exact ⟨rfl, _, World.drewN_drewN _ _ _⟩ | exact ⟨rfl, _, Eq.trans (World.drewN_drewN _ _ _) (congrArg (World.drewN _) (Nat.add_assoc _ _ _))⟩)))
  go_wp2_with (fail)
  go_ret
  exact ⟨rfl, pw_below_drewN (Below.refl _ _) nq⟩
end Go.Proofs.Ytibaiaenfeppcaa.Yx

-- made by a patched copy of print.sh: this session's own
namespace Go.Proofs.Ytibaiaenfeppcaa.Q
open Go.RowKit Go.Proofs.YtibaiaenfeppcaaW.PrintWords Go.Proofs.YtibaiaenfeppcaaW.PrintLast Go.Proofs.YtibaiaenfeppcaaW.PrintMore
attribute [local go_sem] max2_int min2_int max_two min_two max_three min_three max_four min_four   -- for this text's walks alone
set_option linter.unusedVariables false
set_option linter.unusedSimpArgs false

/-! ### impl_Yard_cloned: function 72 -/
def impl_Yard_cloned.l0 : Nat → List (List Int) → Int → Int → Int → List (List Int) → Option (Int × (List (List Int)))
  | 0, _, _, _, _, _ => none
  | k + 1, x10, x11, x12, x423000, x423001 => if x12 < x11 then (if 0 ≤ x12 then (if x12 < (x10.length : Int) then ((some (([] : List Int) : List Int)).bind fun y424 => (if y424.length + (rd_L1 x10 x12).length < 17592186044416 then (if x423001.length < 5864062014805 then (impl_Yard_cloned.l0 k x10 x11 (wrap64 (x12 + 1)) x423000 (x423001 ++ [(y424 ++ (rd_L1 x10 x12))])) else (none)) else (none))) else (none)) else (none)) else (some (x423000, x423001))
def impl_Yard_cloned.f (k : Nat) (a0_0 : Int) (l0_1 : List (List Int)) : Option (Int × (List (List Int))) := impl_Yard_cloned.l0 k l0_1 (l0_1.length : Int) 0 a0_0 ([] : List (List Int))
def impl_Yard_cloned.T5 : Bool × List (List Nat × List Nat) := (true, [([], []), ([0], [0]), ([], []), ([], []), ([2, 3], [2, 3]), ([4], [4]), ([1, 5, 4], [1, 5]), ([0, 1, 2, 3, 4, 5, 6], []), ([7, 6, 6, 0, 1, 2, 3, 4, 5, 6], [6, 7])])
def impl_Yard_cloned.B5 : List Nat := [0, 1, 0, 0, 12, 28, 63, 127, 255]
theorem impl_Yard_cloned.tab5 : rtab .any (opsOf Try.f72 5) = impl_Yard_cloned.T5 := by kernel_rfl
theorem impl_Yard_cloned.bits5 : waitsOk impl_Yard_cloned.T5.2 impl_Yard_cloned.B5 = true := by kernel_rfl
set_option maxHeartbeats 8000000 in
set_option maxRecDepth 100000 in
theorem impl_Yard_cloned.calls (k : Nat) (a0_0 : Int) (A0_1 : Option Addr) (c0_1 : Nat) (l0_1 : List (List Int)) (r1 : Int) (r2 : List (List Int)) (w : World) (hr0_1 : Kd.C (Kd.slice 2 (Kd.int .i64)) w A0_1 l0_1.length l0_1) (hc0_1 : l0_1.length ≤ c0_1) (h : impl_Yard_cloned.f k a0_0 l0_1 = some (r1, r2)) :
    Calls Try.prog 72 #[.agg #[.int .i64 a0_0, .slice A0_1 l0_1.length c0_1]] w fun e w' => ∃ v1_ : Value, e = .returned (.agg #[.int .i64 r1, v1_]) ∧ Kd.S (Kd.slice 2 (Kd.int .i64)) 31 w' w.heap.size (fun _ => True) v1_ r2 ∧ Below w.heap.size w w' := by
  have hu27 := Try.underlying27
  have HR0_1 := Aside0.mk hr0_1
  have HC0_1 := Aside0.mk hc0_1
  clear hr0_1 hc0_1
  have HB := Aside0.mk (Below.refl w.heap.size w)
  have H : (impl_Yard_cloned.l0 k l0_1 (l0_1.length : Int) 0 a0_0 ([] : List (List Int))) = some (r1, r2) := h
  clear h
  have H' := Aside0.mk H
  clear H
  go_enter Try.func72, Try.ntmps72
  go_wp2_with (first | ((with_reducible refine gate_dst (N := 1) rfl ?_); refine box_event ?hg (N := 1) ?hd (cs := #[.int .i64 a0_0, .slice A0_1 l0_1.length c0_1]) (t := 27) ?hr ?_; (case hd => rfl); (case hg => rfl); (case hr => first | (go_simp; done) | (go_simp; rfl)); intro gb420 hg w2 hbox hb; have n0_ := Aside0.mk (below_step (by repeat (first | (with_reducible first | exact HB.out | apply below_alloc | apply pw_below_drewN | apply below_drew1) | exact HB.out)) hb); have n1_ := Aside0.mk (hbox); have n2_ := Aside0.mk ((by rw [hg]; exact (below_size (by repeat (first | (with_reducible first | exact HB.out | apply below_alloc | apply pw_below_drewN | apply below_drew1) | exact HB.out))) : w.heap.size ≤ gb420)); have n3_ := Aside0.mk ((by rw [hg]; exact (below_size (by repeat (first | (with_reducible first | exact HB.out | apply below_alloc | apply pw_below_drewN | apply below_drew1) | exact HB.out))) : w.heap.size ≤ gb420)); clear HB; have HB := n0_; have BK420 := n1_; have GW420 := n2_; have GE420 := n3_; clear n0_ n1_ n2_ n3_; clear hb hbox hg) | ((with_reducible refine gate_dst (N := 2) rfl ?_); refine box_event ?hg (N := 2) ?hd (cs := #[.int .i64 0, .slice none 0 0]) (t := 27) ?hr ?_; (case hd => rfl); (case hg => rfl); (case hr => first | (go_simp; done) | (go_simp; rfl)); intro gb421 hg w3 hbox hb; have n0_ := Aside0.mk (blk_below (g := gb420) (o := .cells #[.int .i64 a0_0, .slice A0_1 l0_1.length c0_1] 27 (0, 0)) (by (with_reducible repeat (first | refine blk_drewN ?_ _ | refine blk_drew ?_ | refine blk_alloc ?_ _)); exact BK420.out) hb); have n1_ := Aside0.mk (below_step (by repeat (first | (with_reducible first | exact HB.out | apply below_alloc | apply pw_below_drewN | apply below_drew1 | refine below_set ?_ GE420.out) | exact HB.out)) hb); have n2_ := Aside0.mk (hbox); have n3_ := Aside0.mk ((by rw [hg]; exact (below_size (by repeat (first | (with_reducible first | exact HB.out | apply below_alloc | apply pw_below_drewN | apply below_drew1 | refine below_set ?_ GE420.out) | exact HB.out))) : w.heap.size ≤ gb421)); have n4_ := Aside0.mk ((by rw [hg]; exact (below_size (by repeat (first | (with_reducible first | exact HB.out | apply below_alloc | apply pw_below_drewN | apply below_drew1 | refine below_set ?_ GE420.out) | exact HB.out))) : w.heap.size ≤ gb421)); have n5_ := Aside0.mk ((by rw [hg]; exact Nat.ne_of_lt (blk_lt (g := gb420) (o := .cells #[.int .i64 a0_0, .slice A0_1 l0_1.length c0_1] 27 (0, 0)) (by (with_reducible repeat (first | refine blk_drewN ?_ _ | refine blk_drew ?_ | refine blk_alloc ?_ _)); exact BK420.out)) : gb420 ≠ gb421)); have n6_ := Aside0.mk ((by rw [hg]; exact Nat.ne_of_gt (blk_lt (g := gb420) (o := .cells #[.int .i64 a0_0, .slice A0_1 l0_1.length c0_1] 27 (0, 0)) (by (with_reducible repeat (first | refine blk_drewN ?_ _ | refine blk_drew ?_ | refine blk_alloc ?_ _)); exact BK420.out)) : gb421 ≠ gb420)); clear BK420; clear HB; have BK420 := n0_; have HB := n1_; have BK421 := n2_; have GW421 := n3_; have GE421 := n4_; have NB420_421 := n5_; have NB421_420 := n6_; clear n0_ n1_ n2_ n3_ n4_ n5_ n6_; clear hb hbox hg; have hnb4 := NB420_421.out; have hnc4 := NB421_420.out; have hcz5_0 : w3.cell? ⟨gb420, 0, none⟩ = some (.int .i64 a0_0) := (blk_cell BK420.out 0).trans rfl; have hcz5_1 : w3.cell? ⟨gb420, 1, none⟩ = some (.slice A0_1 l0_1.length c0_1) := (blk_cell BK420.out 1).trans rfl; have hfz5_0 := blk_frozen BK420.out 0; have hfz5_1 := blk_frozen BK420.out 1) | ((with_reducible refine gate_dst (N := 3) rfl ?_); refine box_event ?hg (N := 3) ?hd (cs := #[.int .i64 0, .slice none 0 0]) (t := 27) ?hr ?_; (case hd => rfl); (case hg => rfl); (case hr => first | (go_simp; done) | (go_simp; rfl)); intro gb422 hg w6 hbox hb; have n0_ := Aside0.mk (blk_below (g := gb420) (o := .cells #[.int .i64 a0_0, .slice A0_1 l0_1.length c0_1] 27 (0, 0)) (by (with_reducible repeat (first | refine blk_drewN ?_ _ | refine blk_drew ?_ | refine blk_alloc ?_ _)); exact BK420.out) hb); have n1_ := Aside0.mk (blk_below (g := gb421) (o := .cells #[.int .i64 0, .slice none 0 0] 27 (0, 0)) (by (with_reducible repeat (first | refine blk_drewN ?_ _ | refine blk_drew ?_ | refine blk_alloc ?_ _)); exact BK421.out) hb); have n2_ := Aside0.mk (below_step (by repeat (first | (with_reducible first | exact HB.out | apply below_alloc | apply pw_below_drewN | apply below_drew1 | refine below_set ?_ GE420.out | refine below_set ?_ GE421.out) | exact HB.out)) hb); have n3_ := Aside0.mk (hbox); have n4_ := Aside0.mk ((by rw [hg]; exact (below_size (by repeat (first | (with_reducible first | exact HB.out | apply below_alloc | apply pw_below_drewN | apply below_drew1 | refine below_set ?_ GE420.out | refine below_set ?_ GE421.out) | exact HB.out))) : w.heap.size ≤ gb422)); have n5_ := Aside0.mk ((by rw [hg]; exact (below_size (by repeat (first | (with_reducible first | exact HB.out | apply below_alloc | apply pw_below_drewN | apply below_drew1 | refine below_set ?_ GE420.out | refine below_set ?_ GE421.out) | exact HB.out))) : w.heap.size ≤ gb422)); have n6_ := Aside0.mk ((by rw [hg]; exact Nat.ne_of_lt (blk_lt (g := gb420) (o := .cells #[.int .i64 a0_0, .slice A0_1 l0_1.length c0_1] 27 (0, 0)) (by (with_reducible repeat (first | refine blk_drewN ?_ _ | refine blk_drew ?_ | refine blk_alloc ?_ _)); exact BK420.out)) : gb420 ≠ gb422)); have n7_ := Aside0.mk ((by rw [hg]; exact Nat.ne_of_gt (blk_lt (g := gb420) (o := .cells #[.int .i64 a0_0, .slice A0_1 l0_1.length c0_1] 27 (0, 0)) (by (with_reducible repeat (first | refine blk_drewN ?_ _ | refine blk_drew ?_ | refine blk_alloc ?_ _)); exact BK420.out)) : gb422 ≠ gb420)); have n8_ := Aside0.mk ((by rw [hg]; exact Nat.ne_of_lt (blk_lt (g := gb421) (o := .cells #[.int .i64 0, .slice none 0 0] 27 (0, 0)) (by (with_reducible repeat (first | refine blk_drewN ?_ _ | refine blk_drew ?_ | refine blk_alloc ?_ _)); exact BK421.out)) : gb421 ≠ gb422)); have n9_ := Aside0.mk ((by rw [hg]; exact Nat.ne_of_gt (blk_lt (g := gb421) (o := .cells #[.int .i64 0, .slice none 0 0] 27 (0, 0)) (by (with_reducible repeat (first | refine blk_drewN ?_ _ | refine blk_drew ?_ | refine blk_alloc ?_ _)); exact BK421.out)) : gb422 ≠ gb421)); clear BK420; clear BK421; clear HB; have BK420 := n0_; have BK421 := n1_; have HB := n2_; have BK422 := n3_; have GW422 := n4_; have GE422 := n5_; have NB420_422 := n6_; have NB422_420 := n7_; have NB421_422 := n8_; have NB422_421 := n9_; clear n0_ n1_ n2_ n3_ n4_ n5_ n6_ n7_ n8_ n9_; clear hb hbox hg; have hnb7 := NB422_420.out; have hnc7 := NB420_422.out; have hnb8 := NB422_421.out; have hnc8 := NB421_422.out; have hcz9_0 : w6.cell? ⟨gb422, 0, none⟩ = some (.int .i64 0) := (blk_cell BK422.out 0).trans rfl; have hcz9_1 : w6.cell? ⟨gb422, 1, none⟩ = some (.slice none 0 0) := (blk_cell BK422.out 1).trans rfl; have hfz9_0 := blk_frozen BK422.out 0; have hfz9_1 := blk_frozen BK422.out 1; have hcz10_0 : w6.cell? ⟨gb420, 0, none⟩ = some (.int .i64 a0_0) := (blk_cell BK420.out 0).trans rfl; have hcz10_1 : w6.cell? ⟨gb420, 1, none⟩ = some (.slice A0_1 l0_1.length c0_1) := (blk_cell BK420.out 1).trans rfl; have hfz10_0 := blk_frozen BK420.out 0; have hfz10_1 := blk_frozen BK420.out 1))
  go_loopg [12] k (fun kq v12 w' => ∃ (x12_1 : Int) (x423001_1 : List (List Int)) (u423001 : Value), v12 = .int .i64 x12_1 ∧ Aside0 (impl_Yard_cloned.l0 kq l0_1 (l0_1.length : Int) x12_1 a0_0 x423001_1 = some (r1, r2)) ∧ Aside0 (kq ≤ k) ∧ Aside0 (Kd.S (Kd.slice 2 (Kd.int .i64)) 31 w' w.heap.size (fun _ => True) u423001 x423001_1) ∧ Aside0 (w'.heap[gb420]? = some (.cells #[.int .i64 a0_0, (.slice A0_1 l0_1.length c0_1)] 27 (0, 0))) ∧ Aside0 (w'.heap[gb421]? = some (.cells #[.int .i64 0, (.slice none 0 0)] 27 (0, 0))) ∧ Aside0 (w'.heap[gb422]? = some (.cells #[.int .i64 a0_0, u423001] 27 (0, 0))) ∧ Aside0 (Below w.heap.size w w'))
  case atStart => exact ⟨(0), (([] : List (List Int))), (.slice none 0 0), (by first | rfl | (simp; done) | (simp [*]; done)), H', ⟨Nat.le_refl _⟩, ⟨by first | exact Kd.S_nil _ _ _ _ _ | exact Kd.N_nil _ _ _ _ _ | exact Kd.V_nil _ _ _ _ _ | exact Kd.Q_nil _ _ _ _ _ | exact Kd.R_nil _ _ _ _ _⟩, ⟨by (with_reducible repeat (first | refine blk_drewN ?_ _ | refine blk_drew ?_ | refine blk_alloc ?_ _)); refine blk_far ?_ NB420_422.out _; (with_reducible repeat (first | refine blk_drewN ?_ _ | refine blk_drew ?_ | refine blk_alloc ?_ _)); refine blk_far ?_ NB420_422.out _; (with_reducible repeat (first | refine blk_drewN ?_ _ | refine blk_drew ?_ | refine blk_alloc ?_ _)); exact BK420.out⟩, ⟨by (with_reducible repeat (first | refine blk_drewN ?_ _ | refine blk_drew ?_ | refine blk_alloc ?_ _)); refine blk_far ?_ NB421_422.out _; (with_reducible repeat (first | refine blk_drewN ?_ _ | refine blk_drew ?_ | refine blk_alloc ?_ _)); refine blk_far ?_ NB421_422.out _; (with_reducible repeat (first | refine blk_drewN ?_ _ | refine blk_drew ?_ | refine blk_alloc ?_ _)); exact BK421.out⟩, ⟨by (with_reducible repeat (first | refine blk_drewN ?_ _ | refine blk_drew ?_ | refine blk_alloc ?_ _)); refine blk_put (cs := #[.int .i64 a0_0, .slice none 0 0]) ?_ 1 _ rfl; (with_reducible repeat (first | refine blk_drewN ?_ _ | refine blk_drew ?_ | refine blk_alloc ?_ _)); refine blk_put (cs := #[.int .i64 0, .slice none 0 0]) ?_ 0 _ rfl; (with_reducible repeat (first | refine blk_drewN ?_ _ | refine blk_drew ?_ | refine blk_alloc ?_ _)); exact BK422.out⟩, ⟨by repeat (first | (with_reducible first | exact HB.out | apply below_alloc | apply pw_below_drewN | apply below_drew1 | refine below_set ?_ GE420.out | refine below_set ?_ GE421.out | refine below_set ?_ GE422.out) | exact HB.out)⟩⟩
  case round =>
    clear H'
    try clear p2
    try clear c4
    try clear c7
    try clear c8
    try clear hcz10_0
    try clear hcz10_1
    try clear hcz5_0
    try clear hcz5_1
    try clear hcz9_0
    try clear hcz9_1
    try clear hfz10_0
    try clear hfz10_1
    try clear hfz5_0
    try clear hfz5_1
    try clear hfz9_0
    try clear hfz9_1
    obtain ⟨x12_1, x423001_1, u423001, rfl, HA, HK1, HO_423001, BK420, BK421, BK422, HB⟩ := hrel
    cases gk with
    | zero => exact absurd HA.out (by simp [impl_Yard_cloned.l0])
    | succ k1 =>
      have H := HA.out
      clear HA
      simp only [impl_Yard_cloned.l0] at H
      by_cases c11 : x12_1 < (l0_1.length : Int)
      · rw [if_pos c11] at H
        have c11b0 : decide (x12_1 < (l0_1.length : Int)) = true := decide_eq_true c11
        clear c11
        by_cases c12 : 0 ≤ x12_1
        · rw [if_pos c12] at H
          have c12b0 : decide (0 ≤ x12_1) = true := decide_eq_true c12
          clear c12
          by_cases c13 : x12_1 < (l0_1.length : Int)
          · rw [if_pos c13] at H
            have c13b0 : decide (x12_1 < (l0_1.length : Int)) = true := decide_eq_true c13
            clear c13
            obtain ⟨y424, hy424⟩ : ∃ y_ : List Int, y_ = (([] : List Int)) := ⟨_, rfl⟩
            replace H : (if y424.length + (rd_L1 l0_1 x12_1).length < 17592186044416 then (if x423001_1.length < 5864062014805 then (impl_Yard_cloned.l0 k1 l0_1 (l0_1.length : Int) (wrap64 (x12_1 + 1)) a0_0 (x423001_1 ++ [(y424 ++ (rd_L1 l0_1 x12_1))])) else (none)) else (none)) = some (r1, r2) := by first | (rw [hy424]; with_reducible exact H) | (have H2_ := (Option.bind_some _ _).symm.trans H; rw [hy424]; with_reducible exact H2_) | (have H2_ := (Option.bind_some _ _).symm.trans H; with_reducible exact H2_) | with_reducible exact H | (rw [hy424]; exact H) | exact H
            have Ny424 := Aside0.mk hy424
            clear hy424
            by_cases c14 : y424.length + (rd_L1 l0_1 x12_1).length < 17592186044416
            · rw [if_pos c14] at H
              have LMc14 := Aside0.mk c14
              clear c14
              obtain ⟨y427, hy427⟩ : ∃ y_ : List Int, y_ = (y424 ++ (rd_L1 l0_1 x12_1)) := ⟨_, rfl⟩
              replace H : (if x423001_1.length < 5864062014805 then (impl_Yard_cloned.l0 k1 l0_1 (l0_1.length : Int) (wrap64 (x12_1 + 1)) a0_0 (x423001_1 ++ [y427])) else (none)) = some (r1, r2) := by first | (rw [hy427]; with_reducible exact H) | (have H2_ := (Option.bind_some _ _).symm.trans H; rw [hy427]; with_reducible exact H2_) | (have H2_ := (Option.bind_some _ _).symm.trans H; with_reducible exact H2_) | with_reducible exact H | (rw [hy427]; exact H) | exact H
              have Ny427 := Aside0.mk hy427
              clear hy427
              by_cases c15 : x423001_1.length < 5864062014805
              · rw [if_pos c15] at H
                have LMc15 := Aside0.mk c15
                clear c15
                obtain ⟨y430, hy430⟩ : ∃ y_ : List (List Int), y_ = (x423001_1 ++ [y427]) := ⟨_, rfl⟩
                replace H : (impl_Yard_cloned.l0 k1 l0_1 (l0_1.length : Int) (wrap64 (x12_1 + 1)) a0_0 y430) = some (r1, r2) := by first | (rw [hy430]; with_reducible exact H) | (have H2_ := (Option.bind_some _ _).symm.trans H; rw [hy430]; with_reducible exact H2_) | (have H2_ := (Option.bind_some _ _).symm.trans H; with_reducible exact H2_) | with_reducible exact H | (rw [hy430]; exact H) | exact H
                have Ny430 := Aside0.mk hy430
                clear hy430
                have H' := Aside0.mk H
                clear H
                have p423 : 0 ≤ (x12_1 : Int) := of_decide_eq_true (by first | (with_reducible assumption) | assumption)
                have q423 : x12_1 < (l0_1.length : Int) := of_decide_eq_true (by first | (with_reducible assumption) | assumption)
                obtain ⟨ad423, A423_0, c423_0, e423, hx423_0, hl423_0, hi423_0⟩ := at_L1 HR0_1.out x12_1 p423 q423
                cases e423
                replace hx423_0 := (HB.out.cell (World.block_lt_of_cell? w _ hx423_0)).trans hx423_0
                have HR423_0 := Aside0.mk hi423_0
                have HC423_0 := Aside0.mk hl423_0
                clear hi423_0 hl423_0
                replace p423 := eq_true p423
                replace q423 := eq_true q423
                try go_wp2
                have n0_ := Aside0.mk (Kd.S_drew HO_423001.out)
                have n1_ := Aside0.mk (blk_drew BK420.out)
                have n2_ := Aside0.mk (blk_drew BK421.out)
                have n3_ := Aside0.mk (blk_drew BK422.out)
                have n4_ := Aside0.mk (below_drew1 HB.out)
                clear HO_423001
                clear BK420
                clear BK421
                clear BK422
                clear HB
                have HO_423001 := n0_
                have BK420 := n1_
                have BK421 := n2_
                have BK422 := n3_
                have HB := n4_
                clear n0_ n1_ n2_ n3_ n4_
                refine start_ (n := 9) (S := fun w' => w'.cell? ⟨gb422, 0, none⟩ = some (.int .i64 a0_0) ∧ w'.cell? ⟨gb422, 1, none⟩ = some (u423001)) (ds := [8]) #[false, false, false, false, false, false, false, false, false] (by kernel_rfl) rfl rfl ⟨(blk_cell BK422.out 0).trans rfl, (blk_cell BK422.out 1).trans rfl⟩ (fun hHeld => ?_); refine with_tabW impl_Yard_cloned.tab5 impl_Yard_cloned.bits5 (fun HT_ HW_ => ?_)
                generalize wr.drew = w16 at HO_423001 BK420 BK421 BK422 HB hHeld ⊢
                refine pure_ (i := 0) (N := some 16) (v := ?_) (a' := ?_) #[true, false, false, false, false, false, false, false, false] rfl rfl (any_of HT_.out (by kernel_rfl)) (fun _ _ _ h => h) (Or.inl ⟨by rfl, ?_⟩) ?_ ?_
                rotate_left
                · intro w'
                  go_simp
                  with_reducible rfl
                rotate_left
                · simp only [Act.put, List.setIfInBounds_toArray, List.set_cons_zero, List.set_cons_succ, i64_w, i32_w]
                  rfl
                refine pure_ (i := 3) (N := some 19) (v := ?_) (a' := ?_) #[true, false, false, true, false, false, false, false, false] rfl rfl (any_of HT_.out (by kernel_rfl)) (fun _ _ _ h => h) (Or.inl ⟨by rfl, ?_⟩) ?_ ?_
                rotate_left
                · intro w'
                  go_simp
                  with_reducible rfl
                rotate_left
                · simp only [Act.put, List.setIfInBounds_toArray, List.set_cons_zero, List.set_cons_succ, i64_w, i32_w]
                  rfl
                refine take_ (i := 1) (N := some 17) (v := ?_) (a' := ?_) #[true, true, false, true, false, false, false, false, false] rfl rfl (take_ofW HT_.out HW_.out (by kernel_rfl)) (fun _ _ _ h => h) (Or.inl ⟨by rfl, ?_⟩) hHeld ?_ ?_
                rotate_left
                · rintro w' ⟨s0, s1⟩
                  go_simp
                  with_reducible rfl
                rotate_left
                · simp only [Act.put, List.setIfInBounds_toArray, List.set_cons_zero, List.set_cons_succ, i64_w, i32_w]
                  rfl
                refine one_ (i := 2) (N := some 18) #[true, true, true, true, false, false, false, false, false] rfl rfl (one_of HT_.out (by kernel_rfl)) (by decide) (fun K hK => ?_)
                refine Kd.R_lit_step (Kd.int .i64) _ 2 ?hg (N := 18) ?hd (xs := ([] : List Int)) (inner := []) (ok := fun _ => True) (okp := fun _ => True) ?hr ?hp (fun _ hk => hk) trivial (Below.refl _ _) (Nat.le_refl _) (by simp) ?_; (case hd => rfl); (case hg => rfl); (case hr => first | (go_simp; done) | (go_simp; rfl)); (case hp => exact (Reps.none _ _))
                intro v425 w17 ho18 hb hg_ hnew_
                clear hg_ hnew_
                (first | rw [← Ny424.out] at ho18 | (simp only [Int.reduceToNat] at ho18; rw [← Ny424.out] at ho18))
                have n0_ := Aside0.mk (Kd.S_elder' (by (with_reducible repeat (first | apply Kd.S_alloc | apply Kd.S_drewN | apply Kd.S_drew)); exact HO_423001.out) (Kd.R_base ho18) hb)
                have n1_ := Aside0.mk (Kd.R_lower ho18 (below_size (by repeat (first | (with_reducible first | exact HB.out | apply below_alloc | apply pw_below_drewN | apply below_drew1 | refine below_set ?_ GE420.out | refine below_set ?_ GE421.out | refine below_set ?_ GE422.out) | exact HB.out))))
                have n2_ := Aside0.mk (blk_below (g := gb420) (o := .cells #[.int .i64 a0_0, .slice (some ad423) l0_1.length c0_1] 27 (0, 0)) (by (with_reducible repeat (first | refine blk_drewN ?_ _ | refine blk_drew ?_ | refine blk_alloc ?_ _)); exact BK420.out) hb)
                have n3_ := Aside0.mk (blk_below (g := gb421) (o := .cells #[.int .i64 0, .slice none 0 0] 27 (0, 0)) (by (with_reducible repeat (first | refine blk_drewN ?_ _ | refine blk_drew ?_ | refine blk_alloc ?_ _)); exact BK421.out) hb)
                have n4_ := Aside0.mk (blk_below (g := gb422) (o := .cells #[.int .i64 a0_0, u423001] 27 (0, 0)) (by (with_reducible repeat (first | refine blk_drewN ?_ _ | refine blk_drew ?_ | refine blk_alloc ?_ _)); exact BK422.out) hb)
                have n5_ := Aside0.mk (below_step (by repeat (first | (with_reducible first | exact HB.out | apply below_alloc | apply pw_below_drewN | apply below_drew1 | refine below_set ?_ GE420.out | refine below_set ?_ GE421.out | refine below_set ?_ GE422.out) | exact HB.out)) hb)
                clear HO_423001
                clear BK420
                clear BK421
                clear BK422
                clear HB
                have HO_423001 := n0_
                have HO426 := n1_
                have BK420 := n2_
                have BK421 := n3_
                have BK422 := n4_
                have HB := n5_
                clear n0_ n1_ n2_ n3_ n4_ n5_
                clear hb ho18
                refine hK.out _ _ ⟨(blk_cell BK422.out 0).trans rfl, (blk_cell BK422.out 1).trans rfl⟩ (fun hHeld => ?_)
                clear hK K
                refine norm_ (a' := ?_) ?_ ?_
                rotate_left
                · show Act.put _ (some 18) _ = _
                  simp only [Act.put, List.setIfInBounds_toArray, List.set_cons_zero, List.set_cons_succ, i64_w, i32_w]
                  rfl
                refine one_ (i := 4) (N := some 20) #[true, true, true, true, true, false, false, false, false] rfl rfl (one_of HT_.out (by kernel_rfl)) (by decide) (fun K hK => ?_)
                refine Kd.R_append_rows_step (Kd.int .i64) (w0 := w) w.heap.size (by rfl) (.tmp 18) (.tmp 19) 31 2 (.int .i64 0) 8 rfl Try.underlying31 info2 rfl (by decide) (by omega) v425 y424 (rd_L1 l0_1 x12_1) _ _ _ (fun _ => True) (fun _ => False) rfl rfl ?aO ?aR (fun _ _ h => h) (fun _ h => h.elim) ?aF ?aB ?aS ?aL ?_
                (case aR => repeat (first | exact (Kd.C_below HR423_0.out HB.out) | (with_reducible refine Kd.C_alloc ?_ _) | (with_reducible refine Kd.C_drewN ?_ _) | (with_reducible refine Kd.C_drew ?_)))
                (case aB => exact (by repeat (first | (with_reducible first | exact HB.out | apply below_alloc | apply pw_below_drewN | apply below_drew1 | refine below_set ?_ GE420.out | refine below_set ?_ GE421.out | refine below_set ?_ GE422.out) | exact HB.out)))
                (case aF => exact (fun _ _ => trivial))
                (case aO => exact (by (with_reducible repeat (first | apply Kd.R_alloc | apply Kd.R_drewN | apply Kd.R_drew)); exact HO426.out))
                (case aS => exact (below_size (by repeat (first | (with_reducible first | exact HB.out | apply below_alloc | apply pw_below_drewN | apply below_drew1 | refine below_set ?_ GE420.out | refine below_set ?_ GE421.out | refine below_set ?_ GE422.out) | exact HB.out))))
                (case aL => have := LMc14.out; omega)
                intro v428 w19 ho hb hg hat
                rw [← Ny427.out] at ho
                have n0_ := Aside0.mk (Kd.S_after (ok := (fun _ => True)) (by (with_reducible repeat (first | apply Kd.S_alloc | apply Kd.S_drewN | apply Kd.S_drew)); exact HO_423001.out) hg hat)
                have n1_ := Aside0.mk (blk_grown (g := gb420) (o := .cells #[.int .i64 a0_0, .slice (some ad423) l0_1.length c0_1] 27 (0, 0)) (by (with_reducible repeat (first | refine blk_drewN ?_ _ | refine blk_drew ?_ | refine blk_alloc ?_ _)); exact BK420.out) hg (Kd.R_ne HO426.out BK420.out (by decide)))
                have n2_ := Aside0.mk (blk_grown (g := gb421) (o := .cells #[.int .i64 0, .slice none 0 0] 27 (0, 0)) (by (with_reducible repeat (first | refine blk_drewN ?_ _ | refine blk_drew ?_ | refine blk_alloc ?_ _)); exact BK421.out) hg (Kd.R_ne HO426.out BK421.out (by decide)))
                have n3_ := Aside0.mk (blk_grown (g := gb422) (o := .cells #[.int .i64 a0_0, u423001] 27 (0, 0)) (by (with_reducible repeat (first | refine blk_drewN ?_ _ | refine blk_drew ?_ | refine blk_alloc ?_ _)); exact BK422.out) hg (Kd.R_ne HO426.out BK422.out (by decide)))
                have n4_ := Aside0.mk (hb)
                have n5_ := Aside0.mk (ho)
                clear HO_423001
                clear BK420
                clear BK421
                clear BK422
                clear HB
                clear HO426
                have HO_423001 := n0_
                have BK420 := n1_
                have BK421 := n2_
                have BK422 := n3_
                have HB := n4_
                have HO429 := n5_
                clear n0_ n1_ n2_ n3_ n4_ n5_
                clear ho hb hg hat
                obtain ⟨Ao21, co21, eo21⟩ := Kd.R_slice HO429.out
                (first | subst eo21 | (injection eo21 with f1_ f2_ f3_; have f4_ := f1_.symm; have f5_ := f3_.symm; clear f1_ f2_ f3_; subst f4_; subst f5_))
                refine hK.out _ _ ⟨(blk_cell BK422.out 0).trans rfl, (blk_cell BK422.out 1).trans rfl⟩ (fun hHeld => ?_)
                clear hK K
                refine norm_ (a' := ?_) ?_ ?_
                rotate_left
                · show Act.put _ (some 20) _ = _
                  simp only [Act.put, List.setIfInBounds_toArray, List.set_cons_zero, List.set_cons_succ, i64_w, i32_w]
                  rfl
                refine one_ (i := 5) (N := some 21) #[true, true, true, true, true, true, false, false, false] rfl rfl (one_of HT_.out (by kernel_rfl)) (by decide) (fun K hK => ?_)
                refine value_ (w1 := ?_) (v := ?_) (by rfl) rfl ?_ ?_
                rotate_left 2
                · go_simp
                  constructor
                  · rfl
                  · rfl
                refine hK.out _ _ ⟨(blk_cell (blk_alloc BK422.out _) 0).trans rfl, (blk_cell (blk_alloc BK422.out _) 1).trans rfl⟩ (fun hHeld => ?_)
                clear hK K
                refine norm_ (a' := ?_) ?_ ?_
                rotate_left
                · show Act.put _ (some 21) _ = _
                  simp only [Act.put, List.setIfInBounds_toArray, List.set_cons_zero, List.set_cons_succ, i64_w, i32_w]
                  rfl
                refine one_ (i := 6) (N := some 22) #[true, true, true, true, true, true, true, false, false] rfl rfl (one_of HT_.out (by kernel_rfl)) (by decide) (fun K hK => ?_)
                refine Kd.S_append_step (Kd.slice 2 (Kd.int .i64)) (w0 := w) w.heap.size (by rfl) (.tmp 17) (.tmp 21) 22 31 (.slice none 0 0) 24 rfl Try.underlying22 info31 rfl (by decide) (by omega) u423001 x423001_1 y427 [.slice Ao21 y427.length co21] (fun _ => True) (fun k_ => some k_ = (.slice Ao21 y427.length co21 : Value).ownBlock) rfl rfl ?aP (fun k_ hk_ => ((Kd.R_mono (ok' := fun k_ => ((fun _ => True)) k_ ∧ some k_ ≠ (u423001 : Value).ownBlock) (Kd.R_apart' (HO429.out) (Kd.S_typed HO_423001.out) (by decide)) (fun k_ hk => ⟨trivial, hk.2⟩))).1 k_ hk_.symm) ?aF ?aO ?aB ?aS ?aL ?_
                (case aP => exact Kd.M_row (Kd.R_mono (Kd.R_tight rfl (Kd.R_mono (ok' := fun k_ => ((fun _ => True)) k_ ∧ some k_ ≠ (u423001 : Value).ownBlock) (Kd.R_apart' (HO429.out) (Kd.S_typed HO_423001.out) (by decide)) (fun k_ hk => ⟨trivial, hk.2⟩))) (fun _ h_ => h_)))
                (case aB => exact (by repeat (first | (with_reducible first | exact HB.out | apply below_alloc | apply pw_below_drewN | apply below_drew1 | refine below_set ?_ GE420.out | refine below_set ?_ GE421.out | refine below_set ?_ GE422.out) | exact HB.out)))
                (case aF => exact (fun _ _ => trivial))
                (case aO => exact (by (with_reducible repeat (first | apply Kd.S_alloc | apply Kd.S_drewN | apply Kd.S_drew)); exact Kd.S_mono HO_423001.out (fun k_ hk => ⟨trivial, fun e_ => hk.2 e_⟩)))
                (case aS => exact (below_size (by repeat (first | (with_reducible first | exact HB.out | apply below_alloc | apply pw_below_drewN | apply below_drew1 | refine below_set ?_ GE420.out | refine below_set ?_ GE421.out | refine below_set ?_ GE422.out) | exact HB.out))))
                (case aL => have := LMc15.out; omega)
                intro v431 w20 ho hb hg hat
                rw [← Ny430.out] at ho
                have n0_ := Aside0.mk (blk_grown (g := gb420) (o := .cells #[.int .i64 a0_0, .slice (some ad423) l0_1.length c0_1] 27 (0, 0)) (by (with_reducible repeat (first | refine blk_drewN ?_ _ | refine blk_drew ?_ | refine blk_alloc ?_ _)); exact BK420.out) hg (Kd.S_ne HO_423001.out BK420.out (by decide)))
                have n1_ := Aside0.mk (blk_grown (g := gb421) (o := .cells #[.int .i64 0, .slice none 0 0] 27 (0, 0)) (by (with_reducible repeat (first | refine blk_drewN ?_ _ | refine blk_drew ?_ | refine blk_alloc ?_ _)); exact BK421.out) hg (Kd.S_ne HO_423001.out BK421.out (by decide)))
                have n2_ := Aside0.mk (blk_grown (g := gb422) (o := .cells #[.int .i64 a0_0, u423001] 27 (0, 0)) (by (with_reducible repeat (first | refine blk_drewN ?_ _ | refine blk_drew ?_ | refine blk_alloc ?_ _)); exact BK422.out) hg (Kd.S_ne HO_423001.out BK422.out (by decide)))
                have n3_ := Aside0.mk (hb)
                have n4_ := Aside0.mk (ho)
                clear BK420
                clear BK421
                clear BK422
                clear HB
                clear HO_423001
                clear HO429
                have BK420 := n0_
                have BK421 := n1_
                have BK422 := n2_
                have HB := n3_
                have HO432 := n4_
                clear n0_ n1_ n2_ n3_ n4_
                clear ho hb hg hat
                obtain ⟨Ao22, co22, eo22⟩ := Kd.S_slice HO432.out
                (first | subst eo22 | (injection eo22 with f1_ f2_ f3_; have f4_ := f1_.symm; have f5_ := f3_.symm; clear f1_ f2_ f3_; subst f4_; subst f5_))
                refine hK.out _ _ ⟨(blk_cell BK422.out 0).trans rfl, (blk_cell BK422.out 1).trans rfl⟩ (fun hHeld => ?_)
                clear hK K
                refine norm_ (a' := ?_) ?_ ?_
                rotate_left
                · show Act.put _ (some 22) _ = _
                  simp only [Act.put, List.setIfInBounds_toArray, List.set_cons_zero, List.set_cons_succ, i64_w, i32_w]
                  rfl
                refine pure_ (i := 7) (N := some 23) (v := ?_) (a' := ?_) #[true, true, true, true, true, true, true, true, false] rfl rfl (any_of HT_.out (by kernel_rfl)) (fun _ _ _ h => h) (Or.inl ⟨by rfl, ?_⟩) ?_ ?_
                rotate_left
                · intro w'
                  go_simp
                  with_reducible rfl
                rotate_left
                · simp only [Act.put, List.setIfInBounds_toArray, List.set_cons_zero, List.set_cons_succ, i64_w, i32_w]
                  rfl
                refine last_ (i := 8) (N := none) #[true, true, true, true, true, true, true, true, true] rfl rfl (one_of HT_.out (by kernel_rfl)) (by decide) (fun K hK => ?_)
                have hs23 : w20.cell? ⟨gb422, 1, none⟩ = some (u423001) := (blk_cell BK422.out 1).trans rfl
                have hfs23 := blk_frozen BK422.out 1
                have hns23_0 := NB420_422.out
                have hns23_1 := NB421_422.out
                have hms23_0 := NB422_420.out
                have hms23_1 := NB422_421.out
                refine skip_ (w1 := ?_) (by rfl) rfl ?_ ?_
                rotate_left
                · go_simp
                  rfl
                refine hK.out _ _ ?_
                clear hK K
                refine done_ (done_of HT_.out (by kernel_rfl)) ?_
                try go_wp2
                go_roundg k1
                case measure => have := HK1.out; omega
                case rel => exact ⟨(wrap64 (x12_1 + 1)), (y430), (.slice Ao22 y430.length co22), (by first | rfl | (simp; done) | (simp [*]; done)), H', ⟨by have := HK1.out; omega⟩, ⟨by (with_reducible repeat (first | apply Kd.S_alloc | apply Kd.S_drewN | apply Kd.S_drew)); exact Kd.S_mono (Kd.S_far (p := ⟨gb422, 1, none⟩) (Kd.S_types HO432.out BK422.out (by decide)) (fun _ hk => hk.2) (.slice Ao22 y430.length co22)) (fun _ hk => trivial)⟩, ⟨by (with_reducible repeat (first | refine blk_drewN ?_ _ | refine blk_drew ?_ | refine blk_alloc ?_ _)); refine blk_far ?_ NB420_422.out _; (with_reducible repeat (first | refine blk_drewN ?_ _ | refine blk_drew ?_ | refine blk_alloc ?_ _)); exact BK420.out⟩, ⟨by (with_reducible repeat (first | refine blk_drewN ?_ _ | refine blk_drew ?_ | refine blk_alloc ?_ _)); refine blk_far ?_ NB421_422.out _; (with_reducible repeat (first | refine blk_drewN ?_ _ | refine blk_drew ?_ | refine blk_alloc ?_ _)); exact BK421.out⟩, ⟨by (with_reducible repeat (first | refine blk_drewN ?_ _ | refine blk_drew ?_ | refine blk_alloc ?_ _)); refine blk_put (cs := #[.int .i64 a0_0, u423001]) ?_ 1 _ rfl; (with_reducible repeat (first | refine blk_drewN ?_ _ | refine blk_drew ?_ | refine blk_alloc ?_ _)); exact BK422.out⟩, ⟨by repeat (first | (with_reducible first | exact HB.out | apply below_alloc | apply pw_below_drewN | apply below_drew1 | refine below_set ?_ GE420.out | refine below_set ?_ GE421.out | refine below_set ?_ GE422.out) | exact HB.out)⟩⟩
              · rw [if_neg c15] at H
                exact absurd H (by simp)
            · rw [if_neg c14] at H
              exact absurd H (by simp)
          · rw [if_neg c13] at H
            exact absurd H (by simp)
        · rw [if_neg c12] at H
          exact absurd H (by simp)
      · rw [if_neg c11] at H
        have c11b0 : decide (x12_1 < (l0_1.length : Int)) = false := decide_eq_false c11
        clear c11
        simp only [Option.some.injEq, Prod.mk.injEq] at H
        obtain ⟨rfl, rfl⟩ := H
        have hnb24 := NB422_420.out
        have hnc24 := NB420_422.out
        have hnb25 := NB422_421.out
        have hnc25 := NB421_422.out
        have hcz26_0 : wr.cell? ⟨gb422, 0, none⟩ = some (.int .i64 a0_0) := (blk_cell BK422.out 0).trans rfl
        have hcz26_1 : wr.cell? ⟨gb422, 1, none⟩ = some (u423001) := (blk_cell BK422.out 1).trans rfl
        have hfz26_0 := blk_frozen BK422.out 0
        have hfz26_1 := blk_frozen BK422.out 1
        have hnb27 := NB421_420.out
        have hnc27 := NB420_421.out
        have hcz28_0 : wr.cell? ⟨gb421, 0, none⟩ = some (.int .i64 0) := (blk_cell BK421.out 0).trans rfl
        have hcz28_1 : wr.cell? ⟨gb421, 1, none⟩ = some (.slice none 0 0) := (blk_cell BK421.out 1).trans rfl
        have hfz28_0 := blk_frozen BK421.out 0
        have hfz28_1 := blk_frozen BK421.out 1
        obtain ⟨Ao29, co29, eo29⟩ := Kd.S_slice HO_423001.out
        subst eo29
        go_wp2
        refine bodyPost_ret (results_cell_row rfl _ _ gb421 27 #[.int .i64 a0_0, .slice Ao29 x423001_1.length co29] (0, 0) _ rfl (by (with_reducible repeat (first | refine blk_drewN ?_ _ | refine blk_drew ?_ | refine blk_alloc ?_ _)); refine blk_put (cs := #[.int .i64 a0_0, .slice none 0 0]) ?_ 1 _ rfl; (with_reducible repeat (first | refine blk_drewN ?_ _ | refine blk_drew ?_ | refine blk_alloc ?_ _)); refine blk_put (cs := #[.int .i64 0, .slice none 0 0]) ?_ 0 _ rfl; (with_reducible repeat (first | refine blk_drewN ?_ _ | refine blk_drew ?_ | refine blk_alloc ?_ _)); exact BK421.out) Try.underlying27 rfl (by kernel_rfl)) rfl ?_
        exact ⟨_, by first | rfl | (simp [errW_none, errW_some] <;> rfl) | (simp [*, errW_none, errW_some] <;> rfl), by (with_reducible repeat (first | apply Kd.S_alloc | apply Kd.S_drewN | apply Kd.S_drew)); exact Kd.S_mono (Kd.S_far (p := ⟨gb421, 1, none⟩) (Kd.S_far (p := ⟨gb421, 0, none⟩) (Kd.S_types HO_423001.out BK421.out (by decide)) (fun _ hk => hk.2) (.int .i64 a0_0)) (fun _ hk => hk.2) (.slice Ao29 x423001_1.length co29)) (fun _ hk => trivial), by repeat (first | (with_reducible first | exact HB.out | apply below_alloc | apply pw_below_drewN | apply below_drew1 | refine below_set ?_ GE420.out | refine below_set ?_ GE421.out | refine below_set ?_ GE422.out) | exact HB.out)⟩

end Go.Proofs.Ytibaiaenfeppcaa.Q

-- made by a patched copy of print.sh: this session's own
namespace Go.Proofs.Ytibaiaenfeppcaa.Q
open Go.RowKit Go.Proofs.YtibaiaenfeppcaaW.PrintWords Go.Proofs.YtibaiaenfeppcaaW.PrintLast Go.Proofs.YtibaiaenfeppcaaW.PrintMore
attribute [local go_sem] max2_int min2_int max_two min_two max_three min_three max_four min_four   -- for this text's walks alone
set_option linter.unusedVariables false
set_option linter.unusedSimpArgs false

/-! ### impl_within: function 39 -/
def impl_within.f (a0 : Int) (a1 : Int) (a2 : Int) : Option (Bool) := if a1 ≤ a0 then (some (decide (a0 ≤ a2))) else (some false)
set_option maxHeartbeats 8000000 in
set_option maxRecDepth 100000 in
theorem impl_within.calls (a0 : Int) (a1 : Int) (a2 : Int) (r : Bool) (w : World) (h : impl_within.f a0 a1 a2 = some r) :
    Calls Try.prog 39 #[.int .i64 a0, .int .i64 a1, .int .i64 a2] w fun e w' => e = .returned (.bool r) ∧ Drawn0 w w' := by
  have H : (if a1 ≤ a0 then (some (decide (a0 ≤ a2))) else (some false)) = some r := h
  clear h
  by_cases c4 : a1 ≤ a0
  · rw [if_pos c4] at H
    have c4b0 : decide (a1 ≤ a0) = true := decide_eq_true c4
    clear c4
    obtain rfl := Option.some.inj H
    go_enter Try.func39, Try.ntmps39
    go_wp2
    go_ret
    exact ⟨by first | rfl | (simp; done) | (simp [*]; done), by repeat (first | exact Drawn0.refl _ | apply Drawn0.step)⟩
  · rw [if_neg c4] at H
    have c4b0 : decide (a1 ≤ a0) = false := decide_eq_false c4
    clear c4
    obtain rfl := Option.some.inj H
    go_enter Try.func39, Try.ntmps39
    go_wp2
    go_ret
    exact ⟨by first | rfl | (simp; done) | (simp [*]; done), by repeat (first | exact Drawn0.refl _ | apply Drawn0.step)⟩

end Go.Proofs.Ytibaiaenfeppcaa.Q

/- The program's (Yard).moved. -/
namespace Go.Proofs.Ytibaiaenfeppcaa.Ymv
open Go Go.RowKit Go.Proofs.YtibaiaenfeppcaaW.PrintWords Go.Proofs.YtibaiaenfeppcaaW.PrintLast Go.Proofs.YtibaiaenfeppcaaW.PrintMore Go.Proofs.Ytibaiaenfeppcaa.Q Go.Proofs.Ytibaiaenfeppcaa.PuY Go.Proofs.Ytibaiaenfeppcaa.Lw Go.Proofs.Ytibaiaenfeppcaa.Ow Go.Proofs.Ytibaiaenfeppcaa.Yo Go.Proofs.Ytibaiaenfeppcaa.Yn Go.Proofs.Ytibaiaenfeppcaa.Yt
set_option linter.unusedVariables false
set_option linter.unusedSimpArgs false
theorem within_eq (a b c : Int) : impl_within.f a b c = some (Ha.inB b c a) := by
  unfold impl_within.f Ha.inB; split <;> simp_all <;> (intros; omega)
theorem cloned_loop (h : Int) (xs : List (List Int)) (hl : xs.length ≤ 4) (hr : ∀ r ∈ xs, r.length ≤ 4) : ∀ (d k i : Nat), i + d = xs.length → d < k → impl_Yard_cloned.l0 k xs (xs.length : Int) (i : Int) h (xs.take i) = some (h, xs) := by
  intro d
  induction d with
  | zero =>
    intro k i hi hk
    obtain ⟨k, rfl⟩ : ∃ m, k = m + 1 := ⟨k - 1, by omega⟩
    simp only [impl_Yard_cloned.l0]
    rw [if_neg (by omega), List.take_of_length_le (by omega)]
  | succ d ih =>
    intro k i hi hk
    obtain ⟨k, rfl⟩ : ∃ m, k = m + 1 := ⟨k - 1, by omega⟩
    have hlt : i < xs.length := by omega
    have hx := hr xs[i] (List.getElem_mem hlt)
    simp only [impl_Yard_cloned.l0, Option.bind_some, List.nil_append, List.length_nil]
    rw [if_pos (by omega), if_pos (by omega), if_pos (by omega), rdL_at xs i hlt, if_pos (by omega), if_pos (by rw [List.length_take]; omega), wrap_succ i (by omega), ← List.take_succ_eq_append_getElem hlt]
    exact ih k (i + 1) (by omega) (by omega)
theorem cloned_eq (h : Int) (xs : List (List Int)) (hl : xs.length ≤ 4) (hr : ∀ r ∈ xs, r.length ≤ 4) : impl_Yard_cloned.f 1000 h xs = some (h, xs) := by
  have := cloned_loop h xs hl hr xs.length 1000 0 (by omega) (by omega)
  simpa [impl_Yard_cloned.f] using this
set_option maxRecDepth 100000 in
set_option maxHeartbeats 4000000 in
theorem no_from (h : Int) (xs : List (List Int)) (hx4 : xs.length ≤ 4) (h4 : h ≤ 4) (hr4 : ∀ r ∈ xs, r.length ≤ 4) (f t : Int) (h1 : f < 0 ∨ (xs.length : Int) ≤ f) (A : Option Addr) (c : Nat) (w : World) (hC : Kd.C dR w A xs.length xs) (hcl : xs.length ≤ c) :
    Calls Try.prog 50 #[.agg #[.int .i64 h, .slice A xs.length c], .int .i64 f, .int .i64 t] w fun e w' => e = .returned (.tuple #[.agg #[.int .i64 0, .slice none 0 0], .bool false]) ∧ Below w.heap.size w w' := by
  obtain ⟨n, hn⟩ : ∃ n, n = xs.length := ⟨_, rfl⟩
  have hu := Try.underlying27
  have hC0 := hC
  rw [← hn] at hC0 ⊢
  obtain ⟨m, hm⟩ : ∃ m, IntKind.i64.wrap ((n : Int) - 1) = m := ⟨_, rfl⟩
  have hmw : wrap64 ((n : Int) - 1) = m := by rw [← i64_w]; exact hm
  have hmv : m = (n : Int) - 1 := by rw [← hmw]; unfold wrap64; omega
  have hn4 : n ≤ 4 := by omega
  have hq : Ha.inB 0 m f = false := by unfold Ha.inB; rw [hmv, hn]; rcases h1 with h1 | h1 <;> simp <;> omega
  have H1 := Aside0.mk (show impl_within.f f 0 m = some false by rw [within_eq, hq])
  have HMV := Aside0.mk hmv
  have HN := Aside0.mk hn
  have HC := Aside0.mk hC
  have HR4 := Aside0.mk hr4
  clear hmv hn hC hC0 hr4 hq h1
  go_enter Try.func50, Try.ntmps50
  go_wp2_with (fail)
  go_quiet (first | (go_at_call 39; (with_reducible refine (impl_within.calls f 0 m false _ H1.out).mono ?_); rintro e w' ⟨rfl, ⟨nd, rfl⟩⟩; (try first | exact ⟨rfl, _, World.drewN_drewN _ _ _⟩ | exact ⟨rfl, _, Eq.trans (World.drewN_drewN _ _ _) (congrArg (World.drewN _) (Nat.add_assoc _ _ _))⟩)))
  go_wp2_with (fail)
  have hb := pw_below_drewN (below_alloc (below_alloc (Below.refl w.heap.size w) (.cells #[.int .i64 h, .slice A n c] 27)) (.cells #[.int .i64 0, .slice none 0 0] 27)) nq
  have b6 : (((w.alloc (.cells #[.int .i64 h, .slice A n c] 27)).alloc (.cells #[.int .i64 0, .slice none 0 0] 27)).drewN nq).heap[w.heap.size + 1]? = some (.cells #[.int .i64 0, .slice none 0 0] 27 (0, 0)) := blk_new' w _ _
  have b7 := blk_put (blk_put b6 0 (.int .i64 0) rfl) 1 (.slice none 0 0) rfl
  refine bodyPost_ret (results_ct rfl _ _ (w.heap.size + 1) 27 #[.int .i64 0, .slice none 0 0] (0, 0) _ rfl b7 Try.underlying27 rfl (by kernel_rfl)) rfl ?_
  exact ⟨rfl, (hb.setCell (p := ⟨w.heap.size + 1, 0, none⟩) (Nat.le_succ _) _).setCell (p := ⟨w.heap.size + 1, 1, none⟩) (Nat.le_succ _) _⟩
set_option maxRecDepth 100000 in
set_option maxHeartbeats 4000000 in
theorem no_to (h : Int) (xs : List (List Int)) (hx4 : xs.length ≤ 4) (h4 : h ≤ 4) (hr4 : ∀ r ∈ xs, r.length ≤ 4) (i : Nat) (hi : i < xs.length) (t : Int) (h1 : t < 0 ∨ (xs.length : Int) ≤ t) (A : Option Addr) (c : Nat) (w : World) (hC : Kd.C dR w A xs.length xs) (hcl : xs.length ≤ c) :
    Calls Try.prog 50 #[.agg #[.int .i64 h, .slice A xs.length c], .int .i64 (i : Int), .int .i64 t] w fun e w' => e = .returned (.tuple #[.agg #[.int .i64 0, .slice none 0 0], .bool false]) ∧ Below w.heap.size w w' := by
  obtain ⟨n, hn⟩ : ∃ n, n = xs.length := ⟨_, rfl⟩
  have hu := Try.underlying27
  have hC0 := hC
  rw [← hn] at hC0 ⊢
  obtain ⟨m, hm⟩ : ∃ m, IntKind.i64.wrap ((n : Int) - 1) = m := ⟨_, rfl⟩
  have hmw : wrap64 ((n : Int) - 1) = m := by rw [← i64_w]; exact hm
  have hmv : m = (n : Int) - 1 := by rw [← hmw]; unfold wrap64; omega
  have hn4 : n ≤ 4 := by omega
  have H1 := Aside0.mk (show impl_within.f (i : Int) 0 m = some true by rw [within_eq]; unfold Ha.inB; rw [hmv]; simp; omega)
  have hq : Ha.inB 0 m t = false := by unfold Ha.inB; rw [hmv, hn]; rcases h1 with h1 | h1 <;> simp <;> omega
  have H2 := Aside0.mk (show impl_within.f t 0 m = some false by rw [within_eq, hq])
  have HMV := Aside0.mk hmv
  have HN := Aside0.mk hn
  have HC := Aside0.mk hC
  have HR4 := Aside0.mk hr4
  clear hmv hn hC hC0 hr4 hq h1
  go_enter Try.func50, Try.ntmps50
  go_wp2_with (fail)
  go_quiet (first | (go_at_call 39; (with_reducible refine (impl_within.calls (i : Int) 0 m true _ H1.out).mono ?_); rintro e w' ⟨rfl, ⟨nd, rfl⟩⟩; (try first | exact ⟨rfl, _, World.drewN_drewN _ _ _⟩ | exact ⟨rfl, _, Eq.trans (World.drewN_drewN _ _ _) (congrArg (World.drewN _) (Nat.add_assoc _ _ _))⟩)) | (go_at_call 39; (with_reducible refine (impl_within.calls t 0 m false _ H2.out).mono ?_); rintro e w' ⟨rfl, ⟨nd, rfl⟩⟩; (try first | exact ⟨rfl, _, World.drewN_drewN _ _ _⟩ | exact ⟨rfl, _, Eq.trans (World.drewN_drewN _ _ _) (congrArg (World.drewN _) (Nat.add_assoc _ _ _))⟩)))
  go_wp2_with (fail)
  have hb := pw_below_drewN (below_alloc (below_alloc (Below.refl w.heap.size w) (.cells #[.int .i64 h, .slice A n c] 27)) (.cells #[.int .i64 0, .slice none 0 0] 27)) nq
  have b6 : (((w.alloc (.cells #[.int .i64 h, .slice A n c] 27)).alloc (.cells #[.int .i64 0, .slice none 0 0] 27)).drewN nq).heap[w.heap.size + 1]? = some (.cells #[.int .i64 0, .slice none 0 0] 27 (0, 0)) := blk_new' w _ _
  have b7 := blk_put (blk_put b6 0 (.int .i64 0) rfl) 1 (.slice none 0 0) rfl
  refine bodyPost_ret (results_ct rfl _ _ (w.heap.size + 1) 27 #[.int .i64 0, .slice none 0 0] (0, 0) _ rfl b7 Try.underlying27 rfl (by kernel_rfl)) rfl ?_
  exact ⟨rfl, (hb.setCell (p := ⟨w.heap.size + 1, 0, none⟩) (Nat.le_succ _) _).setCell (p := ⟨w.heap.size + 1, 1, none⟩) (Nat.le_succ _) _⟩
set_option maxRecDepth 100000 in
set_option maxHeartbeats 4000000 in
theorem no_same (h : Int) (xs : List (List Int)) (hx4 : xs.length ≤ 4) (h4 : h ≤ 4) (hr4 : ∀ r ∈ xs, r.length ≤ 4) (i : Nat) (hi : i < xs.length) (A : Option Addr) (c : Nat) (w : World) (hC : Kd.C dR w A xs.length xs) (hcl : xs.length ≤ c) :
    Calls Try.prog 50 #[.agg #[.int .i64 h, .slice A xs.length c], .int .i64 (i : Int), .int .i64 (i : Int)] w fun e w' => e = .returned (.tuple #[.agg #[.int .i64 0, .slice none 0 0], .bool false]) ∧ Below w.heap.size w w' := by
  obtain ⟨n, hn⟩ : ∃ n, n = xs.length := ⟨_, rfl⟩
  have hu := Try.underlying27
  have hC0 := hC
  rw [← hn] at hC0 ⊢
  obtain ⟨m, hm⟩ : ∃ m, IntKind.i64.wrap ((n : Int) - 1) = m := ⟨_, rfl⟩
  have hmw : wrap64 ((n : Int) - 1) = m := by rw [← i64_w]; exact hm
  have hmv : m = (n : Int) - 1 := by rw [← hmw]; unfold wrap64; omega
  have hn4 : n ≤ 4 := by omega
  have H1 := Aside0.mk (show impl_within.f (i : Int) 0 m = some true by rw [within_eq]; unfold Ha.inB; rw [hmv]; simp; omega)
  have e1 : ((i : Int) == (i : Int)) = true := beq_self_eq_true _
  have HMV := Aside0.mk hmv
  have HN := Aside0.mk hn
  have HC := Aside0.mk hC
  have HR4 := Aside0.mk hr4
  clear hmv hn hC hC0 hr4 
  go_enter Try.func50, Try.ntmps50
  go_wp2_with (fail)
  go_quiet (first | (go_at_call 39; (with_reducible refine (impl_within.calls (i : Int) 0 m true _ H1.out).mono ?_); rintro e w' ⟨rfl, ⟨nd, rfl⟩⟩; (try first | exact ⟨rfl, _, World.drewN_drewN _ _ _⟩ | exact ⟨rfl, _, Eq.trans (World.drewN_drewN _ _ _) (congrArg (World.drewN _) (Nat.add_assoc _ _ _))⟩)))
  go_wp2_with (fail)
  have hb := pw_below_drewN (below_alloc (below_alloc (Below.refl w.heap.size w) (.cells #[.int .i64 h, .slice A n c] 27)) (.cells #[.int .i64 0, .slice none 0 0] 27)) nq
  have b6 : (((w.alloc (.cells #[.int .i64 h, .slice A n c] 27)).alloc (.cells #[.int .i64 0, .slice none 0 0] 27)).drewN nq).heap[w.heap.size + 1]? = some (.cells #[.int .i64 0, .slice none 0 0] 27 (0, 0)) := blk_new' w _ _
  have b7 := blk_put (blk_put b6 0 (.int .i64 0) rfl) 1 (.slice none 0 0) rfl
  refine bodyPost_ret (results_ct rfl _ _ (w.heap.size + 1) 27 #[.int .i64 0, .slice none 0 0] (0, 0) _ rfl b7 Try.underlying27 rfl (by kernel_rfl)) rfl ?_
  exact ⟨rfl, (hb.setCell (p := ⟨w.heap.size + 1, 0, none⟩) (Nat.le_succ _) _).setCell (p := ⟨w.heap.size + 1, 1, none⟩) (Nat.le_succ _) _⟩
set_option maxRecDepth 100000 in
set_option maxHeartbeats 4000000 in
theorem no_lot (h : Int) (xs : List (List Int)) (hx4 : xs.length ≤ 4) (h4 : h ≤ 4) (hr4 : ∀ r ∈ xs, r.length ≤ 4) (i j : Nat) (hi : i < xs.length) (hj : j < xs.length) (hij : i ≠ j) (h1 : xs[i].length = 0) (A : Option Addr) (c : Nat) (w : World) (hC : Kd.C dR w A xs.length xs) (hcl : xs.length ≤ c) :
    Calls Try.prog 50 #[.agg #[.int .i64 h, .slice A xs.length c], .int .i64 (i : Int), .int .i64 (j : Int)] w fun e w' => e = .returned (.tuple #[.agg #[.int .i64 0, .slice none 0 0], .bool false]) ∧ Below w.heap.size w w' := by
  obtain ⟨n, hn⟩ : ∃ n, n = xs.length := ⟨_, rfl⟩
  have hu := Try.underlying27
  have hC0 := hC
  rw [← hn] at hC0 ⊢
  obtain ⟨m, hm⟩ : ∃ m, IntKind.i64.wrap ((n : Int) - 1) = m := ⟨_, rfl⟩
  have hmw : wrap64 ((n : Int) - 1) = m := by rw [← i64_w]; exact hm
  have hmv : m = (n : Int) - 1 := by rw [← hmw]; unfold wrap64; omega
  have hn4 : n ≤ 4 := by omega
  have H1 := Aside0.mk (show impl_within.f (i : Int) 0 m = some true by rw [within_eq]; unfold Ha.inB; rw [hmv]; simp; omega)
  have H2 := Aside0.mk (show impl_within.f (j : Int) 0 m = some true by rw [within_eq]; unfold Ha.inB; rw [hmv]; simp; omega)
  have e1 : ((i : Int) == (j : Int)) = false := beq_eq_false_iff_ne.2 (by omega)
  obtain ⟨adrI, AI, cI, eadrI, xI0, lrI, -⟩ := C_rows hC i hi
  cases eadrI
  obtain ⟨rI, hrrI⟩ : ∃ r, r = xs[i] := ⟨_, rfl⟩
  rw [← hrrI] at xI0 lrI
  have xI := pw_cell_below (below_alloc (below_alloc (Below.refl w.heap.size w) (.cells #[.int .i64 h, .slice (some adrI) n c] 27)) (.cells #[.int .i64 0, .slice none 0 0] 27)) xI0
  clear xI0
  rw [← hrrI] at h1
  have e2 : ((rI.length : Int) == 0) = true := beq_iff_eq.2 (by omega)
  have HRI := Aside0.mk hrrI
  have pi : (0 ≤ (i : Int)) = True := eq_true (by omega)
  have qi : ((i : Int) < (n : Int)) = True := eq_true (by omega)
  have HMV := Aside0.mk hmv
  have HN := Aside0.mk hn
  have HC := Aside0.mk hC
  have HR4 := Aside0.mk hr4
  clear hmv hn hC hC0 hr4 hrrI h1 hij
  go_enter Try.func50, Try.ntmps50
  go_wp2_with (fail)
  go_quiet (first | (go_at_call 39; (with_reducible refine (impl_within.calls (i : Int) 0 m true _ H1.out).mono ?_); rintro e w' ⟨rfl, ⟨nd, rfl⟩⟩; (try first | exact ⟨rfl, _, World.drewN_drewN _ _ _⟩ | exact ⟨rfl, _, Eq.trans (World.drewN_drewN _ _ _) (congrArg (World.drewN _) (Nat.add_assoc _ _ _))⟩)) | (go_at_call 39; (with_reducible refine (impl_within.calls (j : Int) 0 m true _ H2.out).mono ?_); rintro e w' ⟨rfl, ⟨nd, rfl⟩⟩; (try first | exact ⟨rfl, _, World.drewN_drewN _ _ _⟩ | exact ⟨rfl, _, Eq.trans (World.drewN_drewN _ _ _) (congrArg (World.drewN _) (Nat.add_assoc _ _ _))⟩)))
  go_wp2_with (fail)
  have hb := pw_below_drewN (below_alloc (below_alloc (Below.refl w.heap.size w) (.cells #[.int .i64 h, .slice (some adrI) n c] 27)) (.cells #[.int .i64 0, .slice none 0 0] 27)) nq
  have b6 : (((w.alloc (.cells #[.int .i64 h, .slice (some adrI) n c] 27)).alloc (.cells #[.int .i64 0, .slice none 0 0] 27)).drewN nq).heap[w.heap.size + 1]? = some (.cells #[.int .i64 0, .slice none 0 0] 27 (0, 0)) := blk_new' w _ _
  have b7 := blk_put (blk_put b6 0 (.int .i64 0) rfl) 1 (.slice none 0 0) rfl
  refine bodyPost_ret (results_ct rfl _ _ (w.heap.size + 1) 27 #[.int .i64 0, .slice none 0 0] (0, 0) _ rfl b7 Try.underlying27 rfl (by kernel_rfl)) rfl ?_
  exact ⟨rfl, (hb.setCell (p := ⟨w.heap.size + 1, 0, none⟩) (Nat.le_succ _) _).setCell (p := ⟨w.heap.size + 1, 1, none⟩) (Nat.le_succ _) _⟩
set_option maxRecDepth 100000 in
set_option maxHeartbeats 4000000 in
theorem no_room (h : Int) (xs : List (List Int)) (hx4 : xs.length ≤ 4) (h4 : h ≤ 4) (hr4 : ∀ r ∈ xs, r.length ≤ 4) (i j : Nat) (hi : i < xs.length) (hj : j < xs.length) (hij : i ≠ j) (h1 : 0 < xs[i].length) (h2 : (xs[j].length : Int) = h) (A : Option Addr) (c : Nat) (w : World) (hC : Kd.C dR w A xs.length xs) (hcl : xs.length ≤ c) :
    Calls Try.prog 50 #[.agg #[.int .i64 h, .slice A xs.length c], .int .i64 (i : Int), .int .i64 (j : Int)] w fun e w' => e = .returned (.tuple #[.agg #[.int .i64 0, .slice none 0 0], .bool false]) ∧ Below w.heap.size w w' := by
  obtain ⟨n, hn⟩ : ∃ n, n = xs.length := ⟨_, rfl⟩
  have hu := Try.underlying27
  have hC0 := hC
  rw [← hn] at hC0 ⊢
  obtain ⟨m, hm⟩ : ∃ m, IntKind.i64.wrap ((n : Int) - 1) = m := ⟨_, rfl⟩
  have hmw : wrap64 ((n : Int) - 1) = m := by rw [← i64_w]; exact hm
  have hmv : m = (n : Int) - 1 := by rw [← hmw]; unfold wrap64; omega
  have hn4 : n ≤ 4 := by omega
  have H1 := Aside0.mk (show impl_within.f (i : Int) 0 m = some true by rw [within_eq]; unfold Ha.inB; rw [hmv]; simp; omega)
  have H2 := Aside0.mk (show impl_within.f (j : Int) 0 m = some true by rw [within_eq]; unfold Ha.inB; rw [hmv]; simp; omega)
  have e1 : ((i : Int) == (j : Int)) = false := beq_eq_false_iff_ne.2 (by omega)
  obtain ⟨adrI, AI, cI, eadrI, xI0, lrI, -⟩ := C_rows hC i hi
  cases eadrI
  obtain ⟨rI, hrrI⟩ : ∃ r, r = xs[i] := ⟨_, rfl⟩
  rw [← hrrI] at xI0 lrI
  have xI := pw_cell_below (below_alloc (below_alloc (Below.refl w.heap.size w) (.cells #[.int .i64 h, .slice (some adrI) n c] 27)) (.cells #[.int .i64 0, .slice none 0 0] 27)) xI0
  clear xI0
  rw [← hrrI] at h1
  have e2 : ((rI.length : Int) == 0) = false := beq_eq_false_iff_ne.2 (by omega)
  have HRI := Aside0.mk hrrI
  obtain ⟨adrJ, AJ, cJ, eadrJ, xJ0, lrJ, -⟩ := C_rows hC j hj
  obtain rfl : adrI = adrJ := by injection eadrJ
  obtain ⟨rJ, hrrJ⟩ : ∃ r, r = xs[j] := ⟨_, rfl⟩
  rw [← hrrJ] at xJ0 lrJ
  have xJ := pw_cell_below (below_alloc (below_alloc (Below.refl w.heap.size w) (.cells #[.int .i64 h, .slice (some adrI) n c] 27)) (.cells #[.int .i64 0, .slice none 0 0] 27)) xJ0
  clear xJ0
  rw [← hrrJ] at h2
  have e3 : ((rJ.length : Int) == h) = true := beq_iff_eq.2 h2
  have HRJ := Aside0.mk hrrJ
  have pi : (0 ≤ (i : Int)) = True := eq_true (by omega)
  have qi : ((i : Int) < (n : Int)) = True := eq_true (by omega)
  have pj : (0 ≤ (j : Int)) = True := eq_true (by omega)
  have qj : ((j : Int) < (n : Int)) = True := eq_true (by omega)
  have HMV := Aside0.mk hmv
  have HN := Aside0.mk hn
  have HC := Aside0.mk hC
  have HR4 := Aside0.mk hr4
  clear hmv hn hC hC0 hr4 hrrI hrrJ h1 h2 hij
  go_enter Try.func50, Try.ntmps50
  go_wp2_with (fail)
  go_quiet (first | (go_at_call 39; (with_reducible refine (impl_within.calls (i : Int) 0 m true _ H1.out).mono ?_); rintro e w' ⟨rfl, ⟨nd, rfl⟩⟩; (try first | exact ⟨rfl, _, World.drewN_drewN _ _ _⟩ | exact ⟨rfl, _, Eq.trans (World.drewN_drewN _ _ _) (congrArg (World.drewN _) (Nat.add_assoc _ _ _))⟩)) | (go_at_call 39; (with_reducible refine (impl_within.calls (j : Int) 0 m true _ H2.out).mono ?_); rintro e w' ⟨rfl, ⟨nd, rfl⟩⟩; (try first | exact ⟨rfl, _, World.drewN_drewN _ _ _⟩ | exact ⟨rfl, _, Eq.trans (World.drewN_drewN _ _ _) (congrArg (World.drewN _) (Nat.add_assoc _ _ _))⟩)))
  go_wp2_with (fail)
  have hb := pw_below_drewN (below_alloc (below_alloc (Below.refl w.heap.size w) (.cells #[.int .i64 h, .slice (some adrI) n c] 27)) (.cells #[.int .i64 0, .slice none 0 0] 27)) nq
  have b6 : (((w.alloc (.cells #[.int .i64 h, .slice (some adrI) n c] 27)).alloc (.cells #[.int .i64 0, .slice none 0 0] 27)).drewN nq).heap[w.heap.size + 1]? = some (.cells #[.int .i64 0, .slice none 0 0] 27 (0, 0)) := blk_new' w _ _
  have b7 := blk_put (blk_put b6 0 (.int .i64 0) rfl) 1 (.slice none 0 0) rfl
  refine bodyPost_ret (results_ct rfl _ _ (w.heap.size + 1) 27 #[.int .i64 0, .slice none 0 0] (0, 0) _ rfl b7 Try.underlying27 rfl (by kernel_rfl)) rfl ?_
  exact ⟨rfl, (hb.setCell (p := ⟨w.heap.size + 1, 0, none⟩) (Nat.le_succ _) _).setCell (p := ⟨w.heap.size + 1, 1, none⟩) (Nat.le_succ _) _⟩
set_option maxRecDepth 100000 in
set_option maxHeartbeats 4000000 in
theorem yes (h : Int) (xs : List (List Int)) (hx4 : xs.length ≤ 4) (h4 : h ≤ 4) (hr4 : ∀ r ∈ xs, r.length ≤ 4) (i j : Nat) (hi : i < xs.length) (hj : j < xs.length) (hij : i ≠ j) (h1 : 0 < xs[i].length) (h2 : (xs[j].length : Int) < h) (A : Option Addr) (c : Nat) (w : World) (hC : Kd.C dR w A xs.length xs) (hcl : xs.length ≤ c) :
    Calls Try.prog 50 #[.agg #[.int .i64 h, .slice A xs.length c], .int .i64 (i : Int), .int .i64 (j : Int)] w fun e w' => ∃ v, e = .returned (.tuple #[.agg #[.int .i64 h, v], .bool true]) ∧ Kd.S dW 31 w' w.heap.size (fun _ => True) v (moveRows xs i j) ∧ Below w.heap.size w w' := by
  obtain ⟨n, hn⟩ : ∃ n, n = xs.length := ⟨_, rfl⟩
  have hu := Try.underlying27
  have hC0 := hC
  rw [← hn] at hC0 ⊢
  obtain ⟨m, hm⟩ : ∃ m, IntKind.i64.wrap ((n : Int) - 1) = m := ⟨_, rfl⟩
  have hmw : wrap64 ((n : Int) - 1) = m := by rw [← i64_w]; exact hm
  have hmv : m = (n : Int) - 1 := by rw [← hmw]; unfold wrap64; omega
  have hn4 : n ≤ 4 := by omega
  have H1 := Aside0.mk (show impl_within.f (i : Int) 0 m = some true by rw [within_eq]; unfold Ha.inB; rw [hmv]; simp; omega)
  have H2 := Aside0.mk (show impl_within.f (j : Int) 0 m = some true by rw [within_eq]; unfold Ha.inB; rw [hmv]; simp; omega)
  have e1 : ((i : Int) == (j : Int)) = false := beq_eq_false_iff_ne.2 (by omega)
  obtain ⟨adrI, AI0, cI0, eadrI, xI0, lrI, -⟩ := C_rows hC i hi
  cases eadrI
  obtain ⟨rI, hrrI⟩ : ∃ r, r = xs[i] := ⟨_, rfl⟩
  rw [← hrrI] at xI0 lrI
  have xI := pw_cell_below (below_alloc (below_alloc (Below.refl w.heap.size w) (.cells #[.int .i64 h, .slice (some adrI) n c] 27)) (.cells #[.int .i64 0, .slice none 0 0] 27)) xI0
  clear xI0
  rw [← hrrI] at h1
  have e2 : ((rI.length : Int) == 0) = false := beq_eq_false_iff_ne.2 (by omega)
  obtain ⟨adrJ, AJ0, cJ0, eadrJ, xJ0, lrJ, -⟩ := C_rows hC j hj
  obtain rfl : adrI = adrJ := by injection eadrJ
  obtain ⟨rJ, hrrJ⟩ : ∃ r, r = xs[j] := ⟨_, rfl⟩
  rw [← hrrJ] at xJ0 lrJ
  have xJ := pw_cell_below (below_alloc (below_alloc (Below.refl w.heap.size w) (.cells #[.int .i64 h, .slice (some adrI) n c] 27)) (.cells #[.int .i64 0, .slice none 0 0] 27)) xJ0
  clear xJ0
  rw [← hrrJ] at h2
  have e3 : ((rJ.length : Int) == h) = false := beq_eq_false_iff_ne.2 (by omega)
  have hrI4 : rI.length ≤ 4 := hr4 rI (by rw [hrrI]; exact List.getElem_mem hi)
  have hrJ4 : rJ.length ≤ 4 := hr4 rJ (by rw [hrrJ]; exact List.getElem_mem hj)
  have HRI := Aside0.mk hrrI
  have HRJ := Aside0.mk hrrJ
  have HIJ := Aside0.mk hij
  have hcn : n ≤ c := by omega
  have HCL := Aside0.mk hcl
  obtain ⟨q, hq⟩ : ∃ q, wrap64 ((rI.length : Int) - 1) = q := ⟨_, rfl⟩
  have hqv : q = (rI.length : Int) - 1 := by rw [← hq]; unfold wrap64; omega
  have hqw : IntKind.i64.wrap ((rI.length : Int) - 1) = q := by rw [i64_w]; exact hq
  have pq : (0 ≤ q) = True := eq_true (by omega)
  have qq : (q < (rI.length : Int)) = True := eq_true (by omega)
  have HQ := Aside0.mk hqv
  have HCLN := Aside0.mk (cloned_eq h xs hx4 hr4)
  have pi : (0 ≤ (i : Int)) = True := eq_true (by omega)
  have qi : ((i : Int) < (n : Int)) = True := eq_true (by omega)
  have pj : (0 ≤ (j : Int)) = True := eq_true (by omega)
  have qj : ((j : Int) < (n : Int)) = True := eq_true (by omega)
  have HMV := Aside0.mk hmv
  have HN := Aside0.mk hn
  have HC := Aside0.mk hC
  have HR4 := Aside0.mk hr4
  clear hmv hn hC hC0 hr4 hrrI hrrJ hij hcl hq hqv
  go_enter Try.func50, Try.ntmps50
  go_wp2_with (fail)
  go_quiet (first | (go_at_call 39; (with_reducible refine (impl_within.calls (i : Int) 0 m true _ H1.out).mono ?_); rintro e w' ⟨rfl, ⟨nd, rfl⟩⟩; (try first | exact ⟨rfl, _, World.drewN_drewN _ _ _⟩ | exact ⟨rfl, _, Eq.trans (World.drewN_drewN _ _ _) (congrArg (World.drewN _) (Nat.add_assoc _ _ _))⟩)) | (go_at_call 39; (with_reducible refine (impl_within.calls (j : Int) 0 m true _ H2.out).mono ?_); rintro e w' ⟨rfl, ⟨nd, rfl⟩⟩; (try first | exact ⟨rfl, _, World.drewN_drewN _ _ _⟩ | exact ⟨rfl, _, Eq.trans (World.drewN_drewN _ _ _) (congrArg (World.drewN _) (Nat.add_assoc _ _ _))⟩)))
  go_wp2_with (fail)
  have hcl2 := HCL.out
  rw [← HN.out] at hcl2
  have hcc := impl_Yard_cloned.calls 1000 h (some adrI) c xs h xs (((w.alloc (.cells #[.int .i64 h, .slice (some adrI) n c] 27)).alloc (.cells #[.int .i64 0, .slice none 0 0] 27)).drewN nq) (Kd.C_below HC.out (pw_below_drewN (below_alloc (below_alloc (Below.refl w.heap.size w) (.cells #[.int .i64 h, .slice (some adrI) n c] 27)) (.cells #[.int .i64 0, .slice none 0 0] 27)) nq)) HCL.out HCLN.out
  rw [← HN.out] at hcc
  refine hcc.mono ?_
  clear hcc
  rintro e w1 ⟨v, rfl, hS0, hb1⟩
  have HBL := Aside0.mk (below_step (pw_below_drewN (below_alloc (below_alloc (Below.refl w.heap.size w) (.cells #[.int .i64 h, .slice (some adrI) n c] 27)) (.cells #[.int .i64 0, .slice none 0 0] 27)) nq) hb1)
  have HB6 := Aside0.mk (blk_below (show (((w.alloc (.cells #[.int .i64 h, .slice (some adrI) n c] 27)).alloc (.cells #[.int .i64 0, .slice none 0 0] 27)).drewN nq).heap[w.heap.size + 1]? = some (.cells #[.int .i64 0, .slice none 0 0] 27 (0, 0)) from blk_new' w _ _) hb1)
  have HLO := Aside0.mk (show w.heap.size + 1 < w1.heap.size from blk_lt HB6.out)
  have hS1 : Kd.S dR 31 w1 (w.heap.size + 2) (fun k => k ≠ w1.heap.size) v xs := Kd.S_mono (Kd.S_elderB (Kd.S_lower hS0 (Nat.le_of_eq (show w.heap.size + 2 = ((w.alloc (.cells #[.int .i64 h, .slice (some adrI) n c] 27)).alloc (.cells #[.int .i64 0, .slice none 0 0] 27)).heap.size by simp))) w1.heap.size (Nat.le_refl _)) (fun k hk => hk.2)
  obtain ⟨Av, cv, hv⟩ := Kd.S_slice hS1
  rw [← HN.out] at hv
  subst hv
  have hS := Kd.S_alloc hS1 (.cells #[.int .i64 h, .slice Av n cv] 27)
  have hb : (w1.alloc (.cells #[.int .i64 h, .slice Av n cv] 27)).heap[w1.heap.size]? = some (.cells #[.int .i64 h, .slice Av n cv] 27 (0, 0)) := blk_new w1 _
  have HB6W := Aside0.mk (blk_alloc HB6.out (.cells #[.int .i64 h, .slice Av n cv] 27))
  have HBLW := Aside0.mk (below_alloc HBL.out (.cells #[.int .i64 h, .slice Av n cv] 27))
  have HSZ := Aside0.mk (show (w1.alloc (.cells #[.int .i64 h, .slice Av n cv] 27)).heap.size = w1.heap.size + 1 by simp)
  clear hS0 hb1 hS1 hcl2
  obtain ⟨gs, rfl⟩ : ∃ gs, Av = some ⟨gs, 0, none⟩ := by
    have := HN.out
    obtain ⟨gs, cap, he, _⟩ := Kd.S_form hS (by omega)
    injection he with he _ _
    exact ⟨gs, he⟩
  have hi' : i < n := by have := HN.out; omega
  have hj' : j < n := by have := HN.out; omega
  obtain ⟨okI, cI, hMI, hclI, hcI, hokI, hbackI⟩ := row_out (d := dR) rfl hS i hi' hi (fun k hk => by have := blk_lt hb; omega)
  obtain ⟨okJ, cJ, hMJ, hclJ, hcJ, hokJ, hbackJ⟩ := row_out (d := dR) rfl hS j hj' hj (fun k hk => by have := blk_lt hb; omega)
  obtain ⟨vI, rfl, hRI⟩ := hMI
  obtain ⟨vJ, rfl, hRJ⟩ := hMJ
  rw [← HRI.out] at hRI
  rw [← HRJ.out] at hRJ
  obtain ⟨AI, capI, rfl⟩ := Kd.R_slice hRI
  obtain ⟨AJ, capJ, rfl⟩ := Kd.R_slice hRJ
  have yI := hcI _ rfl
  have yJ := hcJ _ rfl
  have bx0 : (w1.alloc (.cells #[.int .i64 h, .slice (some ⟨gs, 0, none⟩) n cv] 27)).cell? ⟨w1.heap.size, 0, none⟩ = some (.int .i64 h) := (blk_cell hb 0).trans rfl
  have bx1 : (w1.alloc (.cells #[.int .i64 h, .slice (some ⟨gs, 0, none⟩) n cv] 27)).cell? ⟨w1.heap.size, 1, none⟩ = some (.slice (some ⟨gs, 0, none⟩) n cv) := (blk_cell hb 1).trans rfl
  obtain ⟨gI, eI, hxq⟩ := Kd.at_int (Kd.R_reads' hRI).2.2 q (by have := HQ.out; omega) (by have := HQ.out; omega)
  subst eI
  have HB := Aside0.mk hb
  have HGL := Aside0.mk (blk_lt hb)
  obtain ⟨f, hf⟩ := rows_f hS
  obtain ⟨uI, k1, -, k2⟩ := hf i hi
  obtain ⟨uJ, k3, k4, k5⟩ := hf j hj
  obtain rfl : uI = .slice (some gI) rI.length capI := by rw [yI] at k1; injection k1 with k1; exact k1.symm
  obtain rfl : uJ = .slice AJ rJ.length capJ := by rw [yJ] at k3; injection k3 with k3; exact k3.symm
  have HFR := Aside0.mk k4
  have hRJb := hRJ.1
  have HGS := Aside0.mk (show gs < (w1.alloc (.cells #[.int .i64 h, .slice (some ⟨gs, 0, none⟩) n cv] 27)).heap.size from World.block_lt_of_cell? _ _ yI)
  have HGI := Aside0.mk (show gI.block < (w1.alloc (.cells #[.int .i64 h, .slice (some ⟨gs, 0, none⟩) n cv] 27)).heap.size ∧ some gI.block ≠ (Value.slice AJ rJ.length capJ).ownBlock from ⟨by have := World.block_lt_of_cell? _ _ hxq; rwa [add_block] at this, fun e => by
    have a1 := (k2.1 gI.block rfl).2
    have a2 := (k5.1 gI.block e.symm).2
    have := HIJ.out
    omega⟩)
  have HGNE := Aside0.mk (show w1.heap.size ≠ gs from fun e => by
    obtain ⟨f0, hS0, _⟩ := hS
    exact hS0 gs (by simp [Value.ownBlock]) e.symm)
  have HGLO := Aside0.mk (show (w.heap.size + 2) ≤ gs from Kd.S_base hS gs (by simp [Value.ownBlock]))
  have HX := Aside0.mk (And.intro bx0 (And.intro bx1 (And.intro yI (And.intro yJ hxq))))
  have HBJ := Aside0.mk hbackJ
  have HRJR := Aside0.mk hRJ
  have HOK := Aside0.mk (And.intro hokI hokJ)
  clear hf k1 k2 k3 k4 k5 hbackI hbackJ hRI hRJ hokI hokJ hS hcI hcJ hclI hclJ hb
  go_wp2_with (fail)
  refine start_ (n := 20) (S := fun w' => w'.cell? ⟨w1.heap.size, 1, none⟩ = some (.slice (some ⟨gs, 0, none⟩) n cv) ∧ w'.cell? ⟨gs, j, none⟩ = some (.slice AJ rJ.length capJ) ∧ w'.cell? ⟨gs, i, none⟩ = some (.slice (some gI) rI.length capI) ∧ w'.cell? (gI.add q.toNat) = some (.int .i64 (rd rI q))) (ds := [19]) #[false, false, false, false, false, false, false, false, false, false, false, false, false, false, false, false, false, false, false, false] (by kernel_rfl) rfl rfl ⟨HX.out.2.1, HX.out.2.2.2.1, HX.out.2.2.1, HX.out.2.2.2.2⟩ (fun hHeld => ?_)
  have hV : Below (w1.alloc (.cells #[.int .i64 h, .slice (some ⟨gs, 0, none⟩) n cv] 27)).heap.size (w1.alloc (.cells #[.int .i64 h, .slice (some ⟨gs, 0, none⟩) n cv] 27)) (w1.alloc (.cells #[.int .i64 h, .slice (some ⟨gs, 0, none⟩) n cv] 27)).drew := below_drew (Below.refl _ _)
  have rV : Kd.R (Kd.int .i64) 2 (w1.alloc (.cells #[.int .i64 h, .slice (some ⟨gs, 0, none⟩) n cv] 27)).drew (w.heap.size + 2) (fun k => okJ k ∨ (w1.alloc (.cells #[.int .i64 h, .slice (some ⟨gs, 0, none⟩) n cv] 27)).heap.size ≤ k) (.slice AJ rJ.length capJ) rJ := Kd.R_mono (Kd.R_below HRJR.out hV) (fun k hk => .inl hk)
  generalize hw : (w1.alloc (.cells #[.int .i64 h, .slice (some ⟨gs, 0, none⟩) n cv] 27)).drew = V at hV rV hHeld ⊢
  have hVs : V.heap.size = (w1.alloc (.cells #[.int .i64 h, .slice (some ⟨gs, 0, none⟩) n cv] 27)).heap.size := by rw [← hw]; rfl
  clear hw
  refine pure_ (i := 0) (N := some 60) (v := ?_) (a' := ?_) #[true, false, false, false, false, false, false, false, false, false, false, false, false, false, false, false, false, false, false, false] rfl rfl (by kernel_rfl) (fun _ _ _ h => h) (Or.inl ⟨by rfl, ?_⟩) ?_ ?_
  rotate_left
  · intro w'
    go_simp
    with_reducible rfl
  rotate_left
  · simp only [Act.put, List.setIfInBounds_toArray, List.set_cons_zero, List.set_cons_succ, i64_w, i32_w]
    rfl
  refine pure_ (i := 2) (N := some 62) (v := ?_) (a' := ?_) #[true, false, true, false, false, false, false, false, false, false, false, false, false, false, false, false, false, false, false, false] rfl rfl (by kernel_rfl) (fun _ _ _ h => h) (Or.inl ⟨by rfl, ?_⟩) ?_ ?_
  rotate_left
  · intro w'
    go_simp
    with_reducible rfl
  rotate_left
  · simp only [Act.put, List.setIfInBounds_toArray, List.set_cons_zero, List.set_cons_succ, i64_w, i32_w]
    rfl
  refine pure_ (i := 3) (N := some 63) (v := ?_) (a' := ?_) #[true, false, true, true, false, false, false, false, false, false, false, false, false, false, false, false, false, false, false, false] rfl rfl (by kernel_rfl) (fun _ _ _ h => h) (Or.inl ⟨by rfl, ?_⟩) ?_ ?_
  rotate_left
  · intro w'
    go_simp
    with_reducible rfl
  rotate_left
  · simp only [Act.put, List.setIfInBounds_toArray, List.set_cons_zero, List.set_cons_succ, i64_w, i32_w]
    rfl
  refine pure_ (i := 5) (N := some 65) (v := ?_) (a' := ?_) #[true, false, true, true, false, true, false, false, false, false, false, false, false, false, false, false, false, false, false, false] rfl rfl (by kernel_rfl) (fun _ _ _ h => h) (Or.inl ⟨by rfl, ?_⟩) ?_ ?_
  rotate_left
  · intro w'
    go_simp
    with_reducible rfl
  rotate_left
  · simp only [Act.put, List.setIfInBounds_toArray, List.set_cons_zero, List.set_cons_succ, i64_w, i32_w]
    rfl
  refine pure_ (i := 8) (N := some 68) (v := ?_) (a' := ?_) #[true, false, true, true, false, true, false, false, true, false, false, false, false, false, false, false, false, false, false, false] rfl rfl (by kernel_rfl) (fun _ _ _ h => h) (Or.inl ⟨by rfl, ?_⟩) ?_ ?_
  rotate_left
  · intro w'
    go_simp
    with_reducible rfl
  rotate_left
  · simp only [Act.put, List.setIfInBounds_toArray, List.set_cons_zero, List.set_cons_succ, i64_w, i32_w]
    rfl
  refine pure_ (i := 10) (N := some 70) (v := ?_) (a' := ?_) #[true, false, true, true, false, true, false, false, true, false, true, false, false, false, false, false, false, false, false, false] rfl rfl (by kernel_rfl) (fun _ _ _ h => h) (Or.inl ⟨by rfl, ?_⟩) ?_ ?_
  rotate_left
  · intro w'
    go_simp
    with_reducible rfl
  rotate_left
  · simp only [Act.put, List.setIfInBounds_toArray, List.set_cons_zero, List.set_cons_succ, i64_w, i32_w]
    rfl
  refine pure_ (i := 13) (N := some 73) (v := ?_) (a' := ?_) #[true, false, true, true, false, true, false, false, true, false, true, false, false, true, false, false, false, false, false, false] rfl rfl (by kernel_rfl) (fun _ _ _ h => h) (Or.inl ⟨by rfl, ?_⟩) ?_ ?_
  rotate_left
  · intro w'
    go_simp
    with_reducible rfl
  rotate_left
  · simp only [Act.put, List.setIfInBounds_toArray, List.set_cons_zero, List.set_cons_succ, i64_w, i32_w]
    rfl
  refine take_ (i := 1) (N := some 61) (v := ?_) (a' := ?_) #[true, true, true, true, false, true, false, false, true, false, true, false, false, true, false, false, false, false, false, false] rfl rfl (by kernel_rfl) (fun _ _ _ h => h) (Or.inl ⟨by rfl, ?_⟩) hHeld ?_ ?_
  rotate_left
  · rintro w' ⟨s0, s1, s2, s3⟩
    go_simp
    with_reducible rfl
  rotate_left
  · simp only [Act.put, List.setIfInBounds_toArray, List.set_cons_zero, List.set_cons_succ, i64_w, i32_w]
    rfl
  refine take_ (i := 4) (N := some 64) (v := ?_) (a' := ?_) #[true, true, true, true, true, true, false, false, true, false, true, false, false, true, false, false, false, false, false, false] rfl rfl (by kernel_rfl) (fun _ _ _ h => h) (Or.inl ⟨by rfl, ?_⟩) hHeld ?_ ?_
  rotate_left
  · rintro w' ⟨s0, s1, s2, s3⟩
    go_simp
    with_reducible rfl
  rotate_left
  · simp only [Act.put, List.setIfInBounds_toArray, List.set_cons_zero, List.set_cons_succ, i64_w, i32_w]
    rfl
  refine pure_ (i := 6) (N := some 66) (v := ?_) (a' := ?_) #[true, true, true, true, true, true, true, false, true, false, true, false, false, true, false, false, false, false, false, false] rfl rfl (by kernel_rfl) (fun _ _ _ h => h) (Or.inl ⟨by rfl, ?_⟩) ?_ ?_
  rotate_left
  · intro w'
    go_simp
    with_reducible rfl
  rotate_left
  · simp only [Act.put, List.setIfInBounds_toArray, List.set_cons_zero, List.set_cons_succ, i64_w, i32_w]
    rfl
  refine take_ (i := 7) (N := some 67) (v := ?_) (a' := ?_) #[true, true, true, true, true, true, true, true, true, false, true, false, false, true, false, false, false, false, false, false] rfl rfl (by kernel_rfl) (fun _ _ _ h => h) (Or.inl ⟨by rfl, ?_⟩) hHeld ?_ ?_
  rotate_left
  · rintro w' ⟨s0, s1, s2, s3⟩
    go_simp
    with_reducible rfl
  rotate_left
  · simp only [Act.put, List.setIfInBounds_toArray, List.set_cons_zero, List.set_cons_succ, i64_w, i32_w]
    rfl
  refine take_ (i := 9) (N := some 69) (v := ?_) (a' := ?_) #[true, true, true, true, true, true, true, true, true, true, true, false, false, true, false, false, false, false, false, false] rfl rfl (by kernel_rfl) (fun _ _ _ h => h) (Or.inl ⟨by rfl, ?_⟩) hHeld ?_ ?_
  rotate_left
  · rintro w' ⟨s0, s1, s2, s3⟩
    go_simp
    with_reducible rfl
  rotate_left
  · simp only [Act.put, List.setIfInBounds_toArray, List.set_cons_zero, List.set_cons_succ, i64_w, i32_w]
    rfl
  refine pure_ (i := 11) (N := some 71) (v := ?_) (a' := ?_) #[true, true, true, true, true, true, true, true, true, true, true, true, false, true, false, false, false, false, false, false] rfl rfl (by kernel_rfl) (fun _ _ _ h => h) (Or.inl ⟨by rfl, ?_⟩) ?_ ?_
  rotate_left
  · intro w'
    go_simp
    with_reducible rfl
  rotate_left
  · simp only [Act.put, List.setIfInBounds_toArray, List.set_cons_zero, List.set_cons_succ, i64_w, i32_w]
    rfl
  refine take_ (i := 12) (N := some 72) (v := ?_) (a' := ?_) #[true, true, true, true, true, true, true, true, true, true, true, true, true, true, false, false, false, false, false, false] rfl rfl (by kernel_rfl) (fun _ _ _ h => h) (Or.inl ⟨by rfl, ?_⟩) hHeld ?_ ?_
  rotate_left
  · rintro w' ⟨s0, s1, s2, s3⟩
    go_simp
    with_reducible rfl
  rotate_left
  · simp only [Act.put, List.setIfInBounds_toArray, List.set_cons_zero, List.set_cons_succ, i64_w, i32_w]
    rfl
  refine pure_ (i := 14) (N := some 74) (v := ?_) (a' := ?_) #[true, true, true, true, true, true, true, true, true, true, true, true, true, true, true, false, false, false, false, false] rfl rfl (by kernel_rfl) (fun _ _ _ h => h) (Or.inl ⟨by rfl, ?_⟩) ?_ ?_
  rotate_left
  · intro w'
    go_simp
    with_reducible rfl
  rotate_left
  · simp only [Act.put, List.setIfInBounds_toArray, List.set_cons_zero, List.set_cons_succ, i64_w, i32_w]
    rfl
  refine take_ (i := 15) (N := some 75) (v := ?_) (a' := ?_) #[true, true, true, true, true, true, true, true, true, true, true, true, true, true, true, true, false, false, false, false] rfl rfl (by kernel_rfl) (fun _ _ _ h => h) (Or.inl ⟨by rfl, ?_⟩) hHeld ?_ ?_
  rotate_left
  · rintro w' ⟨s0, s1, s2, s3⟩
    go_simp
    with_reducible rfl
  rotate_left
  · simp only [Act.put, List.setIfInBounds_toArray, List.set_cons_zero, List.set_cons_succ, i64_w, i32_w]
    rfl
  refine one_ (i := 16) (N := some 76) #[true, true, true, true, true, true, true, true, true, true, true, true, true, true, true, true, true, false, false, false] rfl rfl (by kernel_rfl) (by decide) (fun K_ hK => ?_)
  refine value_ (v := .slice (some ⟨V.heap.size, 0, none⟩) 1 1) (w1 := V.alloc (.cells #[.int .i64 (rd rI q)] 2)) (by rfl) rfl ?_ ?_
  · go_simp
    first | done | exact ⟨rfl, rfl⟩ | rfl
  have hal := below_alloc (Below.refl V.heap.size V) (.cells #[.int .i64 (rd rI q)] 2)
  obtain ⟨t0, t1, t2, t3⟩ := hHeld
  refine hK.out _ _ ⟨pw_cell_below hal t0, pw_cell_below hal t1, pw_cell_below hal t2, pw_cell_below hal t3⟩ (fun hHeld => ?_)
  clear hK K_
  refine norm_ (a' := ?_) ?_ ?_
  rotate_left
  · show Act.put _ (some 76) _ = _
    simp only [Act.put, List.setIfInBounds_toArray, List.set_cons_zero, List.set_cons_succ, i64_w, i32_w]
    rfl
  refine one_ (i := 17) (N := some 77) #[true, true, true, true, true, true, true, true, true, true, true, true, true, true, true, true, true, true, false, false] rfl rfl (by kernel_rfl) (by decide) (fun K_ hK => ?_)
  refine Kd.R_append_step (Kd.int .i64) (w0 := (w1.alloc (.cells #[.int .i64 h, .slice (some ⟨gs, 0, none⟩) n cv] 27))) (w.heap.size + 2) (by rfl) (.tmp 67) (.tmp 76) 31 2 (.int .i64 0) 8 rfl Try.underlying31 infoI rfl (by decide) (by decide) (.slice AJ rJ.length capJ) rJ (rd rI q) [.int .i64 (rd rI q)] (fun k => okJ k ∨ (w1.alloc (.cells #[.int .i64 h, .slice (some ⟨gs, 0, none⟩) n cv] 27)).heap.size ≤ k) (fun _ => False) rfl rfl rfl (fun _ hk => hk.elim) (fun k hk => .inr (by omega)) rV (Below.mono hV (by have := HGLO.out; have := HGS.out; omega)) (by have := HGLO.out; have := HGS.out; omega) (by omega) ?_
  intro v1 w2 h1 Hb2 h3 h4
  obtain ⟨A1, c1, rfl⟩ := Kd.R_slice h1
  have h1L := h1
  rw [show (rJ ++ [rd rI q]).length = rJ.length + 1 by simp] at h1L
  have hs2 := h3.size
  have nb : ∀ k, ¬ okJ k → k < (w1.alloc (.cells #[.int .i64 h, .slice (some ⟨gs, 0, none⟩) n cv] 27)).heap.size → w2.heap[k]? = V.heap[k]? := fun k hn hk => h3.block k (by omega) (fun e => hn (hRJb k e.symm))
  have hgs := HGS.out
  have hgl := HGL.out
  have z0 : w2.cell? ⟨w1.heap.size, 1, none⟩ = some (.slice (some ⟨gs, 0, none⟩) n cv) := (World.cell?_of_block (w := V) (nb w1.heap.size (fun h => (HOK.out.2 _ h).1 rfl) hgl)).trans t0
  have z1 : w2.cell? ⟨gs, j, none⟩ = some (.slice AJ rJ.length capJ) := (World.cell?_of_block (w := V) (nb gs (fun h => (HOK.out.2 gs h).2 rfl) hgs)).trans t1
  have z2 : w2.cell? ⟨gs, i, none⟩ = some (.slice (some gI) rI.length capI) := (World.cell?_of_block (w := V) (nb gs (fun h => (HOK.out.2 gs h).2 rfl) hgs)).trans t2
  have z3 : w2.cell? (gI.add q.toNat) = some (.int .i64 (rd rI q)) := (World.cell?_of_block (w := V) (by rw [add_block]; exact h3.block gI.block (by have := HGI.out.1; omega) HGI.out.2)).trans t3
  have z4 : w2.frozen? ⟨gs, j, none⟩ = false := (World.frozen?_of_block (w := V) (nb gs (fun h => (HOK.out.2 gs h).2 rfl) hgs)).trans ((World.frozen?_of_block (w := (w1.alloc (.cells #[.int .i64 h, .slice (some ⟨gs, 0, none⟩) n cv] 27))) (hV.block gs hgs)).trans HFR.out)
  have hy3 := HBJ.out w2 (.slice A1 (rJ.length + 1) c1) (rJ ++ [rd rI q]) (by omega) (fun k hk hn => (nb k hn hk).trans (hV.block k hk)) ⟨_, rfl, h1L⟩
  have HY3 := Aside0.mk hy3
  have HB2 := Aside0.mk Hb2
  have HNB := Aside0.mk (show ∀ k, ¬ okJ k → k < (w1.alloc (.cells #[.int .i64 h, .slice (some ⟨gs, 0, none⟩) n cv] 27)).heap.size → w2.heap[k]? = (w1.alloc (.cells #[.int .i64 h, .slice (some ⟨gs, 0, none⟩) n cv] 27)).heap[k]? from fun k hn hk => (nb k hn hk).trans (hV.block k hk))
  clear h1L h1 Hb2 h3 h4 nb hy3 rV hVs hV t0 t1 t2 t3 hal hgs hgl
  refine hK.out _ _ ⟨z0, z1, z2, z3⟩ (fun hHeld => ?_)
  clear hK K_
  refine norm_ (a' := ?_) ?_ ?_
  rotate_left
  · show Act.put _ (some 77) _ = _
    simp only [Act.put, List.setIfInBounds_toArray, List.set_cons_zero, List.set_cons_succ, i64_w, i32_w]
    rfl
  refine pure_ (i := 18) (N := some 78) (v := ?_) (a' := ?_) #[true, true, true, true, true, true, true, true, true, true, true, true, true, true, true, true, true, true, true, false] rfl rfl (by kernel_rfl) (fun _ _ _ h => h) (Or.inl ⟨by rfl, ?_⟩) ?_ ?_
  rotate_left
  · intro w'
    go_simp
    with_reducible rfl
  rotate_left
  · simp only [Act.put, List.setIfInBounds_toArray, List.set_cons_zero, List.set_cons_succ, i64_w, i32_w]
    rfl
  refine last_ (i := 19) (N := none) #[true, true, true, true, true, true, true, true, true, true, true, true, true, true, true, true, true, true, true, true] rfl rfl (by kernel_rfl) (by decide) (fun K_ hK => ?_)
  refine skip_ (w1 := ?_) (by rfl) rfl ?_ ?_
  rotate_left
  · go_simp
    rfl
  refine hK.out _ _ ?_
  clear hK K_
  refine done_ (by kernel_rfl) ?_
  have hlo2 : (w.heap.size + 2) ≤ (w1.alloc (.cells #[.int .i64 h, .slice (some ⟨gs, 0, none⟩) n cv] 27)).heap.size := by have := HGLO.out; have := HGS.out; omega
  have hset : YO (w.heap.size + 2) (w2.setCell ⟨gs, j, none⟩ (.slice A1 (rJ.length + 1) c1)) w1.heap.size h (xs.set j (rJ ++ [rd rI q])) := by
    refine ⟨some ⟨gs, 0, none⟩, cv, ?_, by have := HLO.out; omega, ?_, ?_⟩
    · rw [List.length_set, ← HN.out, Below.heap_setCell _ _ _ _ HGNE.out, HNB.out w1.heap.size (fun h => (HOK.out.2 _ h).1 rfl) HGL.out]; exact HB.out
    · exact Nat.le_trans hlo2 (HB2.out.setCell (p := ⟨gs, j, none⟩) HGLO.out _).size
    · rw [List.length_set, ← HN.out]; exact HY3.out.1
  have hb3 : Below (w.heap.size + 2) (w1.alloc (.cells #[.int .i64 h, .slice (some ⟨gs, 0, none⟩) n cv] 27)) (w2.setCell ⟨gs, j, none⟩ (.slice A1 (rJ.length + 1) c1)) := HB2.out.setCell (p := ⟨gs, j, none⟩) HGLO.out _
  generalize hw3 : w2.setCell ⟨gs, j, none⟩ (.slice A1 (rJ.length + 1) c1) = w3 at hset hb3 ⊢
  clear hw3 z0 z1 z2 z3 z4 hHeld HY3 HB2 HNB bx0 bx1 yI yJ hxq
  have HB3 := Aside0.mk hb3
  have HB63 := Aside0.mk ((hb3.block (w.heap.size + 1) (by omega)).trans HB6W.out)
  clear hb3
  obtain ⟨A3, c3, hb3, -, hlo3, hS3⟩ := hset
  have hn' := HN.out
  have q0 := of_eq_true pq
  have q1 := of_eq_true qq
  have hl3 : (xs.set j (rJ ++ [rd rI q])).length = n := by rw [List.length_set, HN.out]
  rw [hl3] at hb3 hS3
  obtain ⟨gs3, rfl⟩ : ∃ gs3, A3 = some ⟨gs3, 0, none⟩ := by
    obtain ⟨gs3, cap, he, _⟩ := Kd.S_form hS3 (by omega)
    rw [hl3] at he
    injection he with he _ _
    exact ⟨gs3, he⟩
  obtain ⟨okK, cK, hMK, hclK, hcK, hokK, hbackK⟩ := row_out (d := dW) rfl (sW_of_sR hS3) i hi' (by omega) (fun k hk => by have := blk_lt hb3; omega)
  obtain ⟨vK, rfl, hRK⟩ := hMK
  have xK := hcK _ rfl
  have e4 : (xs.set j (rJ ++ [rd rI q]))[i]'(by omega) = rI := (List.getElem_set_ne (Ne.symm HIJ.out) _).trans HRI.out.symm
  rw [e4] at hRK
  obtain ⟨AK, capK, rfl, hcapK, -⟩ := hRK.reads
  have hcut := cutm_run AK rI.length capK q (by omega) (by omega) hcapK
  obtain ⟨f3, hf3⟩ := rows_f hS3
  obtain ⟨uK, k1, k2, -⟩ := hf3 i (by omega)
  obtain rfl : uK = .slice AK rI.length capK := by rw [xK] at k1; injection k1 with k1; exact k1.symm
  have yx1 : w3.cell? ⟨w1.heap.size, 1, none⟩ = some (.slice (some ⟨gs3, 0, none⟩) n c3) := (blk_cell hb3 1).trans rfl
  have HRK := Aside0.mk (rowW_cut (m := q.toNat) hRK (by omega))
  have HBK := Aside0.mk hbackK
  have HB3' := Aside0.mk hb3
  have HGN3 := Aside0.mk (show w1.heap.size ≠ gs3 from fun e => by
    obtain ⟨f0, hS0, _⟩ := hS3
    exact hS0 gs3 (by simp [Value.ownBlock]) e.symm)
  have HGL3 := Aside0.mk (show (w.heap.size + 2) ≤ gs3 from Kd.S_base hS3 gs3 (by simp [Value.ownBlock]))
  have HX3 := Aside0.mk (And.intro yx1 xK)
  clear hb3 hlo3 hS3 hcK hokK hbackK hRK e4 hf3 hl3 hclK hn' q0 q1 hcapK
  go_wp2_with (fail)
  refine start_ (n := 13) (S := fun w' => w'.cell? ⟨w1.heap.size, 1, none⟩ = some (.slice (some ⟨gs3, 0, none⟩) n c3) ∧ w'.cell? ⟨gs3, i, none⟩ = some (.slice AK rI.length capK)) (ds := [12]) #[false, false, false, false, false, false, false, false, false, false, false, false, false] (by kernel_rfl) rfl rfl HX3.out (fun hHeld => ?_)
  refine pure_ (i := 0) (N := some 79) (v := ?_) (a' := ?_) #[true, false, false, false, false, false, false, false, false, false, false, false, false] rfl rfl (by kernel_rfl) (fun _ _ _ h => h) (Or.inl ⟨by rfl, ?_⟩) ?_ ?_
  rotate_left
  · intro w'
    go_simp
    with_reducible rfl
  rotate_left
  · simp only [Act.put, List.setIfInBounds_toArray, List.set_cons_zero, List.set_cons_succ, i64_w, i32_w]
    rfl
  refine pure_ (i := 2) (N := some 81) (v := ?_) (a' := ?_) #[true, false, true, false, false, false, false, false, false, false, false, false, false] rfl rfl (by kernel_rfl) (fun _ _ _ h => h) (Or.inl ⟨by rfl, ?_⟩) ?_ ?_
  rotate_left
  · intro w'
    go_simp
    with_reducible rfl
  rotate_left
  · simp only [Act.put, List.setIfInBounds_toArray, List.set_cons_zero, List.set_cons_succ, i64_w, i32_w]
    rfl
  refine pure_ (i := 3) (N := some 82) (v := ?_) (a' := ?_) #[true, false, true, true, false, false, false, false, false, false, false, false, false] rfl rfl (by kernel_rfl) (fun _ _ _ h => h) (Or.inl ⟨by rfl, ?_⟩) ?_ ?_
  rotate_left
  · intro w'
    go_simp
    with_reducible rfl
  rotate_left
  · simp only [Act.put, List.setIfInBounds_toArray, List.set_cons_zero, List.set_cons_succ, i64_w, i32_w]
    rfl
  refine pure_ (i := 5) (N := some 84) (v := ?_) (a' := ?_) #[true, false, true, true, false, true, false, false, false, false, false, false, false] rfl rfl (by kernel_rfl) (fun _ _ _ h => h) (Or.inl ⟨by rfl, ?_⟩) ?_ ?_
  rotate_left
  · intro w'
    go_simp
    with_reducible rfl
  rotate_left
  · simp only [Act.put, List.setIfInBounds_toArray, List.set_cons_zero, List.set_cons_succ, i64_w, i32_w]
    rfl
  refine pure_ (i := 8) (N := some 87) (v := ?_) (a' := ?_) #[true, false, true, true, false, true, false, false, true, false, false, false, false] rfl rfl (by kernel_rfl) (fun _ _ _ h => h) (Or.inl ⟨by rfl, ?_⟩) ?_ ?_
  rotate_left
  · intro w'
    go_simp
    with_reducible rfl
  rotate_left
  · simp only [Act.put, List.setIfInBounds_toArray, List.set_cons_zero, List.set_cons_succ, i64_w, i32_w]
    rfl
  refine pure_ (i := 9) (N := some 88) (v := ?_) (a' := ?_) #[true, false, true, true, false, true, false, false, true, true, false, false, false] rfl rfl (by kernel_rfl) (fun _ _ _ h => h) (Or.inl ⟨by rfl, ?_⟩) ?_ ?_
  rotate_left
  · intro w'
    go_simp
    with_reducible rfl
  rotate_left
  · simp only [Act.put, List.setIfInBounds_toArray, List.set_cons_zero, List.set_cons_succ, i64_w, i32_w]
    rfl
  refine take_ (i := 1) (N := some 80) (v := ?_) (a' := ?_) #[true, true, true, true, false, true, false, false, true, true, false, false, false] rfl rfl (by kernel_rfl) (fun _ _ _ h => h) (Or.inl ⟨by rfl, ?_⟩) hHeld ?_ ?_
  rotate_left
  · rintro w' ⟨s0, s1⟩
    go_simp
    with_reducible rfl
  rotate_left
  · simp only [Act.put, List.setIfInBounds_toArray, List.set_cons_zero, List.set_cons_succ, i64_w, i32_w]
    rfl
  refine take_ (i := 4) (N := some 83) (v := ?_) (a' := ?_) #[true, true, true, true, true, true, false, false, true, true, false, false, false] rfl rfl (by kernel_rfl) (fun _ _ _ h => h) (Or.inl ⟨by rfl, ?_⟩) hHeld ?_ ?_
  rotate_left
  · rintro w' ⟨s0, s1⟩
    go_simp
    with_reducible rfl
  rotate_left
  · simp only [Act.put, List.setIfInBounds_toArray, List.set_cons_zero, List.set_cons_succ, i64_w, i32_w]
    rfl
  refine pure_ (i := 6) (N := some 85) (v := ?_) (a' := ?_) #[true, true, true, true, true, true, true, false, true, true, false, false, false] rfl rfl (by kernel_rfl) (fun _ _ _ h => h) (Or.inl ⟨by rfl, ?_⟩) ?_ ?_
  rotate_left
  · intro w'
    go_simp
    with_reducible rfl
  rotate_left
  · simp only [Act.put, List.setIfInBounds_toArray, List.set_cons_zero, List.set_cons_succ, i64_w, i32_w]
    rfl
  refine take_ (i := 7) (N := some 86) (v := ?_) (a' := ?_) #[true, true, true, true, true, true, true, true, true, true, false, false, false] rfl rfl (by kernel_rfl) (fun _ _ _ h => h) (Or.inl ⟨by rfl, ?_⟩) hHeld ?_ ?_
  rotate_left
  · rintro w' ⟨s0, s1⟩
    go_simp
    with_reducible rfl
  rotate_left
  · simp only [Act.put, List.setIfInBounds_toArray, List.set_cons_zero, List.set_cons_succ, i64_w, i32_w]
    rfl
  refine pure_ (i := 10) (N := some 89) (v := ?_) (a' := ?_) #[true, true, true, true, true, true, true, true, true, true, true, false, false] rfl rfl (by kernel_rfl) (fun _ _ _ h => h) (Or.inl ⟨by rfl, ?_⟩) ?_ ?_
  rotate_left
  · intro w'
    go_simp
    with_reducible rfl
  rotate_left
  · simp only [Act.put, List.setIfInBounds_toArray, List.set_cons_zero, List.set_cons_succ, i64_w, i32_w]
    rfl
  refine pure_ (i := 11) (N := some 90) (v := ?_) (a' := ?_) #[true, true, true, true, true, true, true, true, true, true, true, true, false] rfl rfl (by kernel_rfl) (fun _ _ _ h => h) (Or.inl ⟨by rfl, ?_⟩) ?_ ?_
  rotate_left
  · intro w'
    go_simp
    with_reducible rfl
  rotate_left
  · simp only [Act.put, List.setIfInBounds_toArray, List.set_cons_zero, List.set_cons_succ, i64_w, i32_w]
    rfl
  refine last_ (i := 12) (N := none) #[true, true, true, true, true, true, true, true, true, true, true, true, true] rfl rfl (by kernel_rfl) (by decide) (fun K_ hK => ?_)
  refine skip_ (w1 := ?_) (by rfl) rfl ?_ ?_
  rotate_left
  · go_simp
    rfl
  refine hK.out _ _ ?_
  clear hK K_
  refine done_ (by kernel_rfl) ?_
  obtain ⟨p1, p2⟩ := HBK.out w3 (.slice AK q.toNat q.toNat) (rI.take q.toNat) (Nat.le_refl _) (fun _ _ _ => rfl) ⟨_, rfl, by
    have := HRK.out
    rcases this with h | ⟨g1, cap1, cur1, hv, hb', ho, r1⟩
    · exact .inl h
    · exact .inr ⟨g1, cap1, cur1, hv, hb', .inl ho, r1⟩⟩
  have b5 : (w3.setCell ⟨gs3, i, none⟩ (.slice AK q.toNat q.toNat)).drew.heap[w1.heap.size]? = some (.cells #[.int .i64 h, .slice (some ⟨gs3, 0, none⟩) n c3] 27 (0, 0)) := by
    show (w3.setCell ⟨gs3, i, none⟩ (.slice AK q.toNat q.toNat)).heap[w1.heap.size]? = _
    rw [Below.heap_setCell _ _ _ _ HGN3.out]; exact HB3'.out
  have b6 : (w3.setCell ⟨gs3, i, none⟩ (.slice AK q.toNat q.toNat)).drew.heap[w.heap.size + 1]? = some (.cells #[.int .i64 0, .slice none 0 0] 27 (0, 0)) := by
    show (w3.setCell ⟨gs3, i, none⟩ (.slice AK q.toNat q.toNat)).heap[w.heap.size + 1]? = _
    rw [Below.heap_setCell _ _ _ _ (show w.heap.size + 1 ≠ gs3 by have := HGL3.out; omega)]; exact HB63.out
  have p3 := Kd.S_drew p1
  have p4 : Below (w.heap.size + 2) (w1.alloc (.cells #[.int .i64 h, .slice (some ⟨gs, 0, none⟩) n cv] 27)) (w3.setCell ⟨gs3, i, none⟩ (.slice AK q.toNat q.toNat)).drew := below_drew (HB3.out.setCell (p := ⟨gs3, i, none⟩) HGL3.out _)
  generalize hw5 : (w3.setCell ⟨gs3, i, none⟩ (.slice AK q.toNat q.toNat)).drew = w5 at b5 b6 p3 p4 ⊢
  have y0 : w5.cell? ⟨w1.heap.size, 0, none⟩ = some (.int .i64 h) := (blk_cell b5 0).trans rfl
  have y1 : w5.cell? ⟨w1.heap.size, 1, none⟩ = some (.slice (some ⟨gs3, 0, none⟩) n c3) := (blk_cell b5 1).trans rfl
  have g0 : w5.cell? ⟨w.heap.size + 1, 0, none⟩ = some (.int .i64 0) := (blk_cell b6 0).trans rfl
  have g1 : w5.cell? ⟨w.heap.size + 1, 1, none⟩ = some (.slice none 0 0) := (blk_cell b6 1).trans rfl
  have g2 := blk_frozen b6 0
  have g3 := blk_frozen b6 1
  have B6 := Aside0.mk b6
  have P3 := Aside0.mk p3
  have P4 := Aside0.mk p4
  have HNE5 := Aside0.mk (show w1.heap.size ≠ w.heap.size + 1 by have := HLO.out; omega)
  clear hw5 p1 p2 p3 p4 b5 b6 hHeld yx1 xK k1 k2
  go_wp2_with (fail)
  have b7 := blk_put (blk_put B6.out 0 (.int .i64 h) rfl) 1 (.slice (some ⟨gs3, 0, none⟩) n c3) rfl
  have hm' : moveRows xs i j = (xs.set j (rJ ++ [rd rI q])).set i (rI.take q.toNat) := by
    have a1 := HQ.out
    have a2 : xs.getD i [] = rI := by rw [List.getD_eq_getElem?_getD, List.getElem?_eq_getElem hi, HRI.out]; rfl
    have a3 : xs.getD j [] = rJ := by rw [List.getD_eq_getElem?_getD, List.getElem?_eq_getElem hj, HRJ.out]; rfl
    unfold moveRows
    rw [a2, a3, ← a1, show q.toNat = rI.length - 1 by omega]
  refine bodyPost_ret (results_ct rfl _ _ (w.heap.size + 1) 27 #[.int .i64 h, .slice (some ⟨gs3, 0, none⟩) n c3] (0, 0) _ rfl b7 Try.underlying27 rfl (by kernel_rfl)) rfl ?_
  refine ⟨_, rfl, ?_, ?_⟩
  · rw [hm']
    exact Kd.S_mono (Kd.S_far (p := ⟨w.heap.size + 1, 1, none⟩) (Kd.S_far (p := ⟨w.heap.size + 1, 0, none⟩) (Kd.S_lower (Kd.S_bound P3.out) (by omega : w.heap.size ≤ (w.heap.size + 2))) (fun k hk => by have := hk.2.1; show k ≠ w.heap.size + 1; omega) _) (fun k hk => by have := hk.2.1; show k ≠ w.heap.size + 1; omega) _) (fun _ _ => trivial)
  · exact ((HBLW.out.trans (P4.out.mono (by omega))).setCell (p := ⟨w.heap.size + 1, 0, none⟩) (Nat.le_succ _) _).setCell (p := ⟨w.heap.size + 1, 1, none⟩) (Nat.le_succ _) _
end Go.Proofs.Ytibaiaenfeppcaa.Ymv

-- made by a patched copy of print.sh: this session's own
namespace Go.Proofs.Ytibaiaenfeppcaa.Q
open Go.RowKit Go.Proofs.YtibaiaenfeppcaaW.PrintWords Go.Proofs.YtibaiaenfeppcaaW.PrintLast Go.Proofs.YtibaiaenfeppcaaW.PrintMore
attribute [local go_sem] max2_int min2_int max_two min_two max_three min_three max_four min_four   -- for this text's walks alone
set_option linter.unusedVariables false
set_option linter.unusedSimpArgs false

/-! ### impl_Yard_lots: function 42 -/
def impl_Yard_lots.f (a0_0 : Int) (l0_1 : List (List Int)) : Option (List Int) := if l0_1.length ≤ 1000000 ∧ l0_1.flatten.length ≤ 1000000 then some l0_1.flatten else none
theorem impl_Yard_lots.calls (a0_0 : Int) (A0_1 : Option Addr) (c0_1 : Nat) (l0_1 : List (List Int)) (r : List Int) (w : World) (hr0_1 : Kd.C (Kd.slice 2 (Kd.int .i64)) w A0_1 l0_1.length l0_1) (hc0_1 : l0_1.length ≤ c0_1) (h : impl_Yard_lots.f a0_0 l0_1 = some r) :
    Calls Try.prog 42 #[.agg #[.int .i64 a0_0, .slice A0_1 l0_1.length c0_1]] w fun e w' => ∃ v0_ : Value, e = .returned (v0_) ∧ Kd.R (Kd.int .i64) 2 w' w.heap.size (fun _ => True) v0_ r ∧ Below w.heap.size w w' := by
  unfold impl_Yard_lots.f at h
  split at h
  · rename_i hh
    obtain rfl := Option.some.inj h
    exact Yv.lots_any a0_0 A0_1 c0_1 l0_1 hh.1 hh.2 w hr0_1
  · cases h

end Go.Proofs.Ytibaiaenfeppcaa.Q

-- made by a patched copy of print.sh: this session's own
namespace Go.Proofs.Ytibaiaenfeppcaa.Q
open Go.RowKit Go.Proofs.YtibaiaenfeppcaaW.PrintWords Go.Proofs.YtibaiaenfeppcaaW.PrintLast Go.Proofs.YtibaiaenfeppcaaW.PrintMore
attribute [local go_sem] max2_int min2_int max_two min_two max_three min_three max_four min_four   -- for this text's walks alone
set_option linter.unusedVariables false
set_option linter.unusedSimpArgs false

/-! ### slices_Min_int64_int64: function 46 -/
def slices_Min_int64_int64.f (l0 : List Int) : Option (Int) := if 0 < l0.length then some (Yv.minOf l0) else none
theorem slices_Min_int64_int64.calls (A0 : Option Addr) (c0 : Nat) (l0 : List Int) (r : Int) (w : World) (hr0 : Kd.C (Kd.int .i64) w A0 l0.length l0) (hc0 : l0.length ≤ c0) (h : slices_Min_int64_int64.f l0 = some r) :
    Calls Try.prog 46 #[.slice A0 l0.length c0] w fun e w' => e = .returned (.int .i64 r) ∧ Below w.heap.size w w' := by
  unfold slices_Min_int64_int64.f at h
  split at h
  · obtain rfl := Option.some.inj h
    refine (Yv.min_any A0 c0 l0 ‹_› w hr0).mono ?_
    rintro e w' ⟨rfl, rfl⟩
    exact ⟨rfl, Below.refl _ _⟩
  · cases h

end Go.Proofs.Ytibaiaenfeppcaa.Q

-- made by a patched copy of print.sh: this session's own
namespace Go.Proofs.Ytibaiaenfeppcaa.Q
open Go.RowKit Go.Proofs.YtibaiaenfeppcaaW.PrintWords Go.Proofs.YtibaiaenfeppcaaW.PrintLast Go.Proofs.YtibaiaenfeppcaaW.PrintMore
attribute [local go_sem] max2_int min2_int max_two min_two max_three min_three max_four min_four   -- for this text's walks alone
set_option linter.unusedVariables false
set_option linter.unusedSimpArgs false

/-! ### slices_Index_int64_int64: function 73 -/
def slices_Index_int64_int64.l0 : Nat → List Int → Int → Int → Int → Option (Int)
  | 0, _, _, _, _ => none
  | k + 1, x0, x1, x7, x8 => if x8 < x7 then (if 0 ≤ x8 then (if x8 < (x0.length : Int) then (if x1 = (rd x0 x8) then (some x8) else (slices_Index_int64_int64.l0 k x0 x1 x7 (wrap64 (x8 + 1)))) else (none)) else (none)) else (some (-1))
def slices_Index_int64_int64.f (k : Nat) (l0 : List Int) (a1 : Int) : Option (Int) := slices_Index_int64_int64.l0 k l0 a1 (l0.length : Int) 0
set_option maxHeartbeats 8000000 in
set_option maxRecDepth 100000 in
theorem slices_Index_int64_int64.calls (k : Nat) (A0 : Option Addr) (c0 : Nat) (l0 : List Int) (a1 : Int) (r : Int) (w : World) (hr0 : Kd.C (Kd.int .i64) w A0 l0.length l0) (hc0 : l0.length ≤ c0) (h : slices_Index_int64_int64.f k l0 a1 = some r) :
    Calls Try.prog 73 #[.slice A0 l0.length c0, .int .i64 a1] w fun e w' => e = .returned (.int .i64 r) ∧ Drawn0 w w' := by
  have HR0 := Aside0.mk hr0
  have HC0 := Aside0.mk hc0
  clear hr0 hc0
  have H : (slices_Index_int64_int64.l0 k l0 a1 (l0.length : Int) 0) = some r := h
  clear h
  have H' := Aside0.mk H
  clear H
  go_enter Try.func73, Try.ntmps73
  go_wp2
  go_loopg [8] k (fun kq v8 w' => ∃ (x8_1 : Int), v8 = .int .i64 x8_1 ∧ Aside0 (slices_Index_int64_int64.l0 kq l0 a1 (l0.length : Int) x8_1 = some r) ∧ Aside0 (kq ≤ k) ∧ Drawn0 w w')
  case atStart => exact ⟨(0), (by first | rfl | (simp; done) | (simp [*]; done)), H', ⟨Nat.le_refl _⟩, by repeat (first | exact Drawn0.refl _ | apply Drawn0.step)⟩
  case round =>
    clear H'
    try clear p2
    obtain ⟨x8_1, rfl, HA, HK1, ⟨m1, rfl⟩⟩ := hrel
    cases gk with
    | zero => exact absurd HA.out (by simp [slices_Index_int64_int64.l0])
    | succ k1 =>
      have H := HA.out
      clear HA
      simp only [slices_Index_int64_int64.l0] at H
      by_cases c3 : x8_1 < (l0.length : Int)
      · rw [if_pos c3] at H
        have c3b0 : decide (x8_1 < (l0.length : Int)) = true := decide_eq_true c3
        clear c3
        by_cases c4 : 0 ≤ x8_1
        · rw [if_pos c4] at H
          have c4b0 : decide (0 ≤ x8_1) = true := decide_eq_true c4
          clear c4
          by_cases c5 : x8_1 < (l0.length : Int)
          · rw [if_pos c5] at H
            have c5b0 : decide (x8_1 < (l0.length : Int)) = true := decide_eq_true c5
            clear c5
            by_cases c6 : a1 = (rd l0 x8_1)
            · rw [if_pos c6] at H
              have c6b0 : (a1 == (rd l0 x8_1)) = true := beq_iff_eq.mpr c6
              have c6b1 : (a1 != (rd l0 x8_1)) = false := bne_eq_false_iff_eq.mpr c6
              clear c6
              obtain rfl := Option.some.inj H
              have p412 : 0 ≤ (x8_1 : Int) := of_decide_eq_true (by first | (with_reducible assumption) | assumption)
              have q412 : x8_1 < (l0.length : Int) := of_decide_eq_true (by first | (with_reducible assumption) | assumption)
              obtain ⟨ad412, e412, hx412_0⟩ := Kd.at_int HR0.out x8_1 p412 q412
              cases e412
              replace p412 := eq_true p412
              replace q412 := eq_true q412
              go_wp2
              go_ret
              exact ⟨by first | rfl | (simp; done) | (simp [*]; done), by repeat (first | exact Drawn0.refl _ | apply Drawn0.step)⟩
            · rw [if_neg c6] at H
              have c6b0 : (a1 == (rd l0 x8_1)) = false := beq_eq_false_iff_ne.mpr c6
              have c6b1 : (a1 != (rd l0 x8_1)) = true := bne_iff_ne.mpr c6
              have H' := Aside0.mk H
              clear H
              have p412 : 0 ≤ (x8_1 : Int) := of_decide_eq_true (by first | (with_reducible assumption) | assumption)
              have q412 : x8_1 < (l0.length : Int) := of_decide_eq_true (by first | (with_reducible assumption) | assumption)
              obtain ⟨ad412, e412, hx412_0⟩ := Kd.at_int HR0.out x8_1 p412 q412
              cases e412
              replace p412 := eq_true p412
              replace q412 := eq_true q412
              go_wp2
              go_roundg k1
              case measure => have := HK1.out; omega
              case rel => exact ⟨(wrap64 (x8_1 + 1)), (by first | rfl | (simp; done) | (simp [*]; done)), H', ⟨by have := HK1.out; omega⟩, by repeat (first | exact Drawn0.refl _ | apply Drawn0.step)⟩
          · rw [if_neg c5] at H
            exact absurd H (by simp)
        · rw [if_neg c4] at H
          exact absurd H (by simp)
      · rw [if_neg c3] at H
        have c3b0 : decide (x8_1 < (l0.length : Int)) = false := decide_eq_false c3
        clear c3
        obtain rfl := Option.some.inj H
        go_wp2
        go_ret
        exact ⟨by first | rfl | (simp; done) | (simp [*]; done), by repeat (first | exact Drawn0.refl _ | apply Drawn0.step)⟩

end Go.Proofs.Ytibaiaenfeppcaa.Q

-- made by a patched copy of print.sh: this session's own
namespace Go.Proofs.Ytibaiaenfeppcaa.Q
open Go.RowKit Go.Proofs.YtibaiaenfeppcaaW.PrintWords Go.Proofs.YtibaiaenfeppcaaW.PrintLast Go.Proofs.YtibaiaenfeppcaaW.PrintMore
attribute [local go_sem] max2_int min2_int max_two min_two max_three min_three max_four min_four   -- for this text's walks alone
set_option linter.unusedVariables false
set_option linter.unusedSimpArgs false

/-! ### impl_Yard_holder: function 49 -/
def impl_Yard_holder.l0 : Nat → Int → List (List Int) → Int → Int → Option (Int × Bool)
  | 0, _, _, _, _ => none
  | k + 1, x5, x17, x18, x19 => if x19 < x18 then (if 0 ≤ x19 then (if x19 < (x17.length : Int) then ((slices_Index_int64_int64.f k (rd_L1 x17 x19) x5).bind fun t419 => (if t419 ≥ 0 then (some (x19, (t419 == (wrap64 (((rd_L1 x17 x19).length : Int) - 1))))) else (impl_Yard_holder.l0 k x5 x17 x18 (wrap64 (x19 + 1))))) else (none)) else (none)) else (some ((-1), false))
def impl_Yard_holder.f (k : Nat) (a0_0 : Int) (l0_1 : List (List Int)) : Option (Int × Bool) := (impl_Yard_lots.f a0_0 l0_1).bind fun t414 => (if (t414.length : Int) = 0 then (some ((-1), false)) else ((slices_Min_int64_int64.f t414).bind fun t417 => (impl_Yard_holder.l0 k t417 l0_1 (l0_1.length : Int) 0)))
set_option maxHeartbeats 8000000 in
set_option maxRecDepth 100000 in
theorem impl_Yard_holder.calls (k : Nat) (a0_0 : Int) (A0_1 : Option Addr) (c0_1 : Nat) (l0_1 : List (List Int)) (r1 : Int) (r2 : Bool) (w : World) (hr0_1 : Kd.C (Kd.slice 2 (Kd.int .i64)) w A0_1 l0_1.length l0_1) (hc0_1 : l0_1.length ≤ c0_1) (h : impl_Yard_holder.f k a0_0 l0_1 = some (r1, r2)) :
    Calls Try.prog 49 #[.agg #[.int .i64 a0_0, .slice A0_1 l0_1.length c0_1]] w fun e w' => e = .returned (.tuple #[.int .i64 r1, .bool r2]) ∧ Below w.heap.size w w' := by
  have hu27 := Try.underlying27
  have HR0_1 := Aside0.mk hr0_1
  have HC0_1 := Aside0.mk hc0_1
  clear hr0_1 hc0_1
  have HB := Aside0.mk (Below.refl w.heap.size w)
  have H : ((impl_Yard_lots.f a0_0 l0_1).bind fun t414 => (if (t414.length : Int) = 0 then (some ((-1), false)) else ((slices_Min_int64_int64.f t414).bind fun t417 => (impl_Yard_holder.l0 k t417 l0_1 (l0_1.length : Int) 0)))) = some (r1, r2) := h
  clear h
  replace H := Option.bind_eq_some_iff.mp H
  obtain ⟨t414, A20, H⟩ := H
  replace H : (if (t414.length : Int) = 0 then (some ((-1), false)) else ((slices_Min_int64_int64.f t414).bind fun t417 => (impl_Yard_holder.l0 k t417 l0_1 (l0_1.length : Int) 0))) = some (r1, r2) := H
  have A2 := Aside0.mk A20
  clear A20
  by_cases c3 : (t414.length : Int) = 0
  · rw [if_pos c3] at H
    have c3b0 : ((t414.length : Int) == 0) = true := beq_iff_eq.mpr c3
    have c3b1 : ((t414.length : Int) != 0) = false := bne_eq_false_iff_eq.mpr c3
    clear c3
    simp only [Option.some.injEq, Prod.mk.injEq] at H
    obtain ⟨rfl, rfl⟩ := H
    go_enter Try.func49, Try.ntmps49
    go_wp2_with (first | ((with_reducible refine gate_dst (N := 1) rfl ?_); refine box_event ?hg (N := 1) ?hd (cs := #[.int .i64 a0_0, .slice A0_1 l0_1.length c0_1]) (t := 27) ?hr ?_; (case hd => rfl); (case hg => rfl); (case hr => first | (go_simp; done) | (go_simp; rfl)); intro gb413 hg w4 hbox hb; have n0_ := Aside0.mk (below_step (by repeat (first | (with_reducible first | exact HB.out | apply below_alloc | apply pw_below_drewN | apply below_drew1) | exact HB.out)) hb); have n1_ := Aside0.mk (hbox); have n2_ := Aside0.mk ((by rw [hg]; exact (below_size (by repeat (first | (with_reducible first | exact HB.out | apply below_alloc | apply pw_below_drewN | apply below_drew1) | exact HB.out))) : w.heap.size ≤ gb413)); have n3_ := Aside0.mk ((by rw [hg]; exact (below_size (by repeat (first | (with_reducible first | exact HB.out | apply below_alloc | apply pw_below_drewN | apply below_drew1) | exact HB.out))) : w.heap.size ≤ gb413)); clear HB; have HB := n0_; have BK413 := n1_; have GW413 := n2_; have GE413 := n3_; clear n0_ n1_ n2_ n3_; clear hb hbox hg; have hcz5_0 : w4.cell? ⟨gb413, 0, none⟩ = some (.int .i64 a0_0) := (blk_cell BK413.out 0).trans rfl; have hcz5_1 : w4.cell? ⟨gb413, 1, none⟩ = some (.slice A0_1 l0_1.length c0_1) := (blk_cell BK413.out 1).trans rfl; have hfz5_0 := blk_frozen BK413.out 0; have hfz5_1 := blk_frozen BK413.out 1) | ((with_reducible refine gate_callee (f := 42) rfl ?_); refine goesL_ (some 10) rfl rfl Try.func42 (by kernel_rfl) rfl #[.agg #[.int .i64 a0_0, .slice A0_1 l0_1.length c0_1]] rfl (by (try simp only [List.map_toArray, List.map_cons, List.map_nil]); first | done | rfl | (simp only [List.length_drop, List.length_take]; rfl)) ?_; (with_reducible refine (impl_Yard_lots.calls a0_0 _ _ l0_1 t414 _ ?side1 ?side2 A2.out).mono ?_); (case side1 => repeat (first | exact (Kd.C_below HR0_1.out HB.out) | (with_reducible refine Kd.C_alloc ?_ _) | (with_reducible refine Kd.C_drewN ?_ _) | (with_reducible refine Kd.C_drew ?_))); (case side2 => exact HC0_1.out); rintro e w6 ⟨v415, rfl, ho0, hb⟩; refine ⟨_, rfl, ?_⟩; have n0_ := Aside0.mk (Kd.R_lower ho0 (below_size (by repeat (first | (with_reducible first | exact HB.out | apply below_alloc | apply pw_below_drewN | apply below_drew1 | refine below_set ?_ GE413.out) | exact HB.out)))); have n1_ := Aside0.mk (blk_below (g := gb413) (o := .cells #[.int .i64 a0_0, .slice A0_1 l0_1.length c0_1] 27 (0, 0)) (by (with_reducible repeat (first | refine blk_drewN ?_ _ | refine blk_drew ?_ | refine blk_alloc ?_ _)); exact BK413.out) hb); have n2_ := Aside0.mk (below_step (by repeat (first | (with_reducible first | exact HB.out | apply below_alloc | apply pw_below_drewN | apply below_drew1 | refine below_set ?_ GE413.out) | exact HB.out)) hb); clear BK413; clear HB; have HO416 := n0_; have BK413 := n1_; have HB := n2_; clear n0_ n1_ n2_; (try clear hb); (try clear hb2); (try clear hk); (try clear hi); (try clear ho0); obtain ⟨Ao7, co7, eo7⟩ := Kd.R_slice HO416.out; subst eo7))
    go_ret2
    exact ⟨by first | rfl | (simp [errW_none, errW_some] <;> rfl) | (simp [*, errW_none, errW_some] <;> rfl), by repeat (first | (with_reducible first | exact HB.out | apply below_alloc | apply pw_below_drewN | apply below_drew1 | refine below_set ?_ GE413.out) | exact HB.out)⟩
  · rw [if_neg c3] at H
    have c3b0 : ((t414.length : Int) == 0) = false := beq_eq_false_iff_ne.mpr c3
    have c3b1 : ((t414.length : Int) != 0) = true := bne_iff_ne.mpr c3
    have c3b2 : ¬ (t414 = []) := fun h_ => c3 (by rw [h_]; rfl)
    replace H := Option.bind_eq_some_iff.mp H
    obtain ⟨t417, A80, H⟩ := H
    replace H : (impl_Yard_holder.l0 k t417 l0_1 (l0_1.length : Int) 0) = some (r1, r2) := H
    have A8 := Aside0.mk A80
    clear A80
    have H' := Aside0.mk H
    clear H
    go_enter Try.func49, Try.ntmps49
    go_wp2_with (first | ((with_reducible refine gate_dst (N := 1) rfl ?_); refine box_event ?hg (N := 1) ?hd (cs := #[.int .i64 a0_0, .slice A0_1 l0_1.length c0_1]) (t := 27) ?hr ?_; (case hd => rfl); (case hg => rfl); (case hr => first | (go_simp; done) | (go_simp; rfl)); intro gb413 hg w9 hbox hb; have n0_ := Aside0.mk (below_step (by repeat (first | (with_reducible first | exact HB.out | apply below_alloc | apply pw_below_drewN | apply below_drew1) | exact HB.out)) hb); have n1_ := Aside0.mk (hbox); have n2_ := Aside0.mk ((by rw [hg]; exact (below_size (by repeat (first | (with_reducible first | exact HB.out | apply below_alloc | apply pw_below_drewN | apply below_drew1) | exact HB.out))) : w.heap.size ≤ gb413)); have n3_ := Aside0.mk ((by rw [hg]; exact (below_size (by repeat (first | (with_reducible first | exact HB.out | apply below_alloc | apply pw_below_drewN | apply below_drew1) | exact HB.out))) : w.heap.size ≤ gb413)); clear HB; have HB := n0_; have BK413 := n1_; have GW413 := n2_; have GE413 := n3_; clear n0_ n1_ n2_ n3_; clear hb hbox hg; have hcz10_0 : w9.cell? ⟨gb413, 0, none⟩ = some (.int .i64 a0_0) := (blk_cell BK413.out 0).trans rfl; have hcz10_1 : w9.cell? ⟨gb413, 1, none⟩ = some (.slice A0_1 l0_1.length c0_1) := (blk_cell BK413.out 1).trans rfl; have hfz10_0 := blk_frozen BK413.out 0; have hfz10_1 := blk_frozen BK413.out 1) | ((with_reducible refine gate_callee (f := 42) rfl ?_); refine goesL_ (some 10) rfl rfl Try.func42 (by kernel_rfl) rfl #[.agg #[.int .i64 a0_0, .slice A0_1 l0_1.length c0_1]] rfl (by (try simp only [List.map_toArray, List.map_cons, List.map_nil]); first | done | rfl | (simp only [List.length_drop, List.length_take]; rfl)) ?_; (with_reducible refine (impl_Yard_lots.calls a0_0 _ _ l0_1 t414 _ ?side1 ?side2 A2.out).mono ?_); (case side1 => repeat (first | exact (Kd.C_below HR0_1.out HB.out) | (with_reducible refine Kd.C_alloc ?_ _) | (with_reducible refine Kd.C_drewN ?_ _) | (with_reducible refine Kd.C_drew ?_))); (case side2 => exact HC0_1.out); rintro e w11 ⟨v415, rfl, ho0, hb⟩; refine ⟨_, rfl, ?_⟩; have n0_ := Aside0.mk (Kd.R_lower ho0 (below_size (by repeat (first | (with_reducible first | exact HB.out | apply below_alloc | apply pw_below_drewN | apply below_drew1 | refine below_set ?_ GE413.out) | exact HB.out)))); have n1_ := Aside0.mk (blk_below (g := gb413) (o := .cells #[.int .i64 a0_0, .slice A0_1 l0_1.length c0_1] 27 (0, 0)) (by (with_reducible repeat (first | refine blk_drewN ?_ _ | refine blk_drew ?_ | refine blk_alloc ?_ _)); exact BK413.out) hb); have n2_ := Aside0.mk (below_step (by repeat (first | (with_reducible first | exact HB.out | apply below_alloc | apply pw_below_drewN | apply below_drew1 | refine below_set ?_ GE413.out) | exact HB.out)) hb); clear BK413; clear HB; have HO416 := n0_; have BK413 := n1_; have HB := n2_; clear n0_ n1_ n2_; (try clear hb); (try clear hb2); (try clear hk); (try clear hi); (try clear ho0); obtain ⟨Ao12, co12, eo12⟩ := Kd.R_slice HO416.out; subst eo12) | ((with_reducible refine gate_callee (f := 46) rfl ?_); refine goesL_ (some 15) rfl rfl Try.func46 (by kernel_rfl) rfl #[.slice Ao12 t414.length co12] rfl (by (try simp only [List.map_toArray, List.map_cons, List.map_nil]); first | done | rfl | (simp only [List.length_drop, List.length_take]; rfl)) ?_; (with_reducible refine (slices_Min_int64_int64.calls _ _ t414 t417 _ ?side1 ?side2 A8.out).mono ?_); (case side1 => repeat (first | exact (Kd.R_reads' HO416.out).2.2 | (with_reducible refine Kd.C_alloc ?_ _) | (with_reducible refine Kd.C_drewN ?_ _) | (with_reducible refine Kd.C_drew ?_))); (case side2 => exact (Kd.R_reads' HO416.out).2.1); rintro e w13 ⟨rfl, hb⟩; refine ⟨_, rfl, ?_⟩; have n0_ := Aside0.mk (Kd.R_below (by (with_reducible repeat (first | apply Kd.R_alloc | apply Kd.R_drewN | apply Kd.R_drew)); exact HO416.out) hb); have n1_ := Aside0.mk (blk_below (g := gb413) (o := .cells #[.int .i64 a0_0, .slice A0_1 l0_1.length c0_1] 27 (0, 0)) (by (with_reducible repeat (first | refine blk_drewN ?_ _ | refine blk_drew ?_ | refine blk_alloc ?_ _)); exact BK413.out) hb); have n2_ := Aside0.mk (below_step (by repeat (first | (with_reducible first | exact HB.out | apply below_alloc | apply pw_below_drewN | apply below_drew1 | refine below_set ?_ GE413.out) | exact HB.out)) hb); clear HO416; clear BK413; clear HB; have HO416 := n0_; have BK413 := n1_; have HB := n2_; clear n0_ n1_ n2_; (try clear hb); (try clear hb2); (try clear hk); (try clear hi); have hcz14_0 : w13.cell? ⟨gb413, 0, none⟩ = some (.int .i64 a0_0) := (blk_cell BK413.out 0).trans rfl; have hcz14_1 : w13.cell? ⟨gb413, 1, none⟩ = some (.slice A0_1 l0_1.length c0_1) := (blk_cell BK413.out 1).trans rfl; have hfz14_0 := blk_frozen BK413.out 0; have hfz14_1 := blk_frozen BK413.out 1))
    go_loopg [19] k (fun kq v19 w' => ∃ (x19_1 : Int), v19 = .int .i64 x19_1 ∧ Aside0 (impl_Yard_holder.l0 kq t417 l0_1 (l0_1.length : Int) x19_1 = some (r1, r2)) ∧ Aside0 (kq ≤ k) ∧ Aside0 (w'.heap[gb413]? = some (.cells #[.int .i64 a0_0, (.slice A0_1 l0_1.length c0_1)] 27 (0, 0))) ∧ Aside0 (Below w.heap.size w w'))
    case atStart => exact ⟨(0), (by first | rfl | (simp; done) | (simp [*]; done)), H', ⟨Nat.le_refl _⟩, ⟨by (with_reducible repeat (first | refine blk_drewN ?_ _ | refine blk_drew ?_ | refine blk_alloc ?_ _)); exact BK413.out⟩, ⟨by repeat (first | (with_reducible first | exact HB.out | apply below_alloc | apply pw_below_drewN | apply below_drew1 | refine below_set ?_ GE413.out) | exact HB.out)⟩⟩
    case round =>
      clear H'
      try clear p2
      try clear c3
      try clear c3b0
      try clear c3b1
      try clear c3b2
      try clear c4
      try clear hcz10_0
      try clear hcz10_1
      try clear hcz14_0
      try clear hcz14_1
      try clear hcz5_0
      try clear hcz5_1
      try clear hfz10_0
      try clear hfz10_1
      try clear hfz14_0
      try clear hfz14_1
      try clear hfz5_0
      try clear hfz5_1
      obtain ⟨x19_1, rfl, HA, HK1, BK413, HB⟩ := hrel
      cases gk with
      | zero => exact absurd HA.out (by simp [impl_Yard_holder.l0])
      | succ k1 =>
        have H := HA.out
        clear HA
        simp only [impl_Yard_holder.l0] at H
        by_cases c15 : x19_1 < (l0_1.length : Int)
        · rw [if_pos c15] at H
          have c15b0 : decide (x19_1 < (l0_1.length : Int)) = true := decide_eq_true c15
          clear c15
          by_cases c16 : 0 ≤ x19_1
          · rw [if_pos c16] at H
            have c16b0 : decide (0 ≤ x19_1) = true := decide_eq_true c16
            clear c16
            by_cases c17 : x19_1 < (l0_1.length : Int)
            · rw [if_pos c17] at H
              have c17b0 : decide (x19_1 < (l0_1.length : Int)) = true := decide_eq_true c17
              clear c17
              replace H := Option.bind_eq_some_iff.mp H
              obtain ⟨t419, A180, H⟩ := H
              replace H : (if t419 ≥ 0 then (some (x19_1, (t419 == (wrap64 (((rd_L1 l0_1 x19_1).length : Int) - 1))))) else (impl_Yard_holder.l0 k1 t417 l0_1 (l0_1.length : Int) (wrap64 (x19_1 + 1)))) = some (r1, r2) := H
              have A18 := Aside0.mk A180
              clear A180
              by_cases c19 : t419 ≥ 0
              · rw [if_pos c19] at H
                have c19b0 : decide (0 ≤ t419) = true := decide_eq_true c19
                clear c19
                simp only [Option.some.injEq, Prod.mk.injEq] at H
                obtain ⟨rfl, rfl⟩ := H
                have p418 : 0 ≤ (x19_1 : Int) := of_decide_eq_true (by first | (with_reducible assumption) | assumption)
                have q418 : x19_1 < (l0_1.length : Int) := of_decide_eq_true (by first | (with_reducible assumption) | assumption)
                obtain ⟨ad418, A418_0, c418_0, e418, hx418_0, hl418_0, hi418_0⟩ := at_L1 HR0_1.out x19_1 p418 q418
                cases e418
                replace hx418_0 := (HB.out.cell (World.block_lt_of_cell? w _ hx418_0)).trans hx418_0
                have HR418_0 := Aside0.mk hi418_0
                have HC418_0 := Aside0.mk hl418_0
                clear hi418_0 hl418_0
                replace p418 := eq_true p418
                replace q418 := eq_true q418
                go_wp2_with (first | ((with_reducible refine gate_callee (f := 73) rfl ?_); refine goesL_ (some 26) rfl rfl Try.func73 (by kernel_rfl) rfl #[.slice A418_0 (rd_L1 l0_1 x19_1).length c418_0, .int .i64 t417] rfl (by (try simp only [List.map_toArray, List.map_cons, List.map_nil]); first | done | rfl | (simp only [List.length_drop, List.length_take]; rfl)) ?_; (with_reducible refine (slices_Index_int64_int64.calls k1 _ _ (rd_L1 l0_1 x19_1) t417 t419 _ ?side1 ?side2 A18.out).mono ?_); (case side1 => repeat (first | exact (Kd.C_below HR418_0.out HB.out) | (with_reducible refine Kd.C_alloc ?_ _) | (with_reducible refine Kd.C_drewN ?_ _) | (with_reducible refine Kd.C_drew ?_))); (case side2 => exact HC418_0.out); rintro e w' ⟨rfl, ⟨nd, rfl⟩⟩; refine ⟨_, rfl, ?_⟩))
                go_ret2
                exact ⟨by first | rfl | (simp [errW_none, errW_some] <;> rfl) | (simp [*, errW_none, errW_some] <;> rfl), by repeat (first | (with_reducible first | exact HB.out | apply below_alloc | apply pw_below_drewN | apply below_drew1 | refine below_set ?_ GE413.out) | exact HB.out)⟩
              · rw [if_neg c19] at H
                have c19b0 : decide (0 ≤ t419) = false := decide_eq_false c19
                clear c19
                have H' := Aside0.mk H
                clear H
                have p418 : 0 ≤ (x19_1 : Int) := of_decide_eq_true (by first | (with_reducible assumption) | assumption)
                have q418 : x19_1 < (l0_1.length : Int) := of_decide_eq_true (by first | (with_reducible assumption) | assumption)
                obtain ⟨ad418, A418_0, c418_0, e418, hx418_0, hl418_0, hi418_0⟩ := at_L1 HR0_1.out x19_1 p418 q418
                cases e418
                replace hx418_0 := (HB.out.cell (World.block_lt_of_cell? w _ hx418_0)).trans hx418_0
                have HR418_0 := Aside0.mk hi418_0
                have HC418_0 := Aside0.mk hl418_0
                clear hi418_0 hl418_0
                replace p418 := eq_true p418
                replace q418 := eq_true q418
                go_wp2_with (first | ((with_reducible refine gate_callee (f := 73) rfl ?_); refine goesL_ (some 26) rfl rfl Try.func73 (by kernel_rfl) rfl #[.slice A418_0 (rd_L1 l0_1 x19_1).length c418_0, .int .i64 t417] rfl (by (try simp only [List.map_toArray, List.map_cons, List.map_nil]); first | done | rfl | (simp only [List.length_drop, List.length_take]; rfl)) ?_; (with_reducible refine (slices_Index_int64_int64.calls k1 _ _ (rd_L1 l0_1 x19_1) t417 t419 _ ?side1 ?side2 A18.out).mono ?_); (case side1 => repeat (first | exact (Kd.C_below HR418_0.out HB.out) | (with_reducible refine Kd.C_alloc ?_ _) | (with_reducible refine Kd.C_drewN ?_ _) | (with_reducible refine Kd.C_drew ?_))); (case side2 => exact HC418_0.out); rintro e w' ⟨rfl, ⟨nd, rfl⟩⟩; refine ⟨_, rfl, ?_⟩))
                go_roundg k1
                case measure => have := HK1.out; omega
                case rel => exact ⟨(wrap64 (x19_1 + 1)), (by first | rfl | (simp; done) | (simp [*]; done)), H', ⟨by have := HK1.out; omega⟩, ⟨by (with_reducible repeat (first | refine blk_drewN ?_ _ | refine blk_drew ?_ | refine blk_alloc ?_ _)); exact BK413.out⟩, ⟨by repeat (first | (with_reducible first | exact HB.out | apply below_alloc | apply pw_below_drewN | apply below_drew1 | refine below_set ?_ GE413.out) | exact HB.out)⟩⟩
            · rw [if_neg c17] at H
              exact absurd H (by simp)
          · rw [if_neg c16] at H
            exact absurd H (by simp)
        · rw [if_neg c15] at H
          have c15b0 : decide (x19_1 < (l0_1.length : Int)) = false := decide_eq_false c15
          clear c15
          simp only [Option.some.injEq, Prod.mk.injEq] at H
          obtain ⟨rfl, rfl⟩ := H
          go_wp2
          go_ret2
          exact ⟨by first | rfl | (simp [errW_none, errW_some] <;> rfl) | (simp [*, errW_none, errW_some] <;> rfl), by repeat (first | (with_reducible first | exact HB.out | apply below_alloc | apply pw_below_drewN | apply below_drew1 | refine below_set ?_ GE413.out) | exact HB.out)⟩

end Go.Proofs.Ytibaiaenfeppcaa.Q

/- The program's (Yard).taken. -/
namespace Go.Proofs.Ytibaiaenfeppcaa.Ytn
open Go Go.RowKit Go.Proofs.Ytibaiaenfeppcaa.Ymv Go.Proofs.YtibaiaenfeppcaaW.PrintWords Go.Proofs.YtibaiaenfeppcaaW.PrintLast Go.Proofs.YtibaiaenfeppcaaW.PrintMore Go.Proofs.Ytibaiaenfeppcaa.Q Go.Proofs.Ytibaiaenfeppcaa.PuY Go.Proofs.Ytibaiaenfeppcaa.Lw Go.Proofs.Ytibaiaenfeppcaa.Ow Go.Proofs.Ytibaiaenfeppcaa.Yo Go.Proofs.Ytibaiaenfeppcaa.Yn Go.Proofs.Ytibaiaenfeppcaa.Yt
set_option linter.unusedVariables false
set_option linter.unusedSimpArgs false
set_option maxRecDepth 100000 in
set_option maxHeartbeats 4000000 in
theorem no (h : Int) (xs : List (List Int)) (hx4 : xs.length ≤ 4) (h4 : h ≤ 4) (hr4 : ∀ r ∈ xs, r.length ≤ 4) (k : Nat) (r : Int) (hho : impl_Yard_holder.f k h xs = some (r, false)) (A : Option Addr) (c : Nat) (w : World) (hC : Kd.C dR w A xs.length xs) (hcl : xs.length ≤ c) :
    Calls Try.prog 51 #[.agg #[.int .i64 h, .slice A xs.length c]] w fun e w' => e = .returned (.tuple #[.agg #[.int .i64 0, .slice none 0 0], .bool false]) ∧ Below w.heap.size w w' := by
  obtain ⟨n, hn⟩ : ∃ n, n = xs.length := ⟨_, rfl⟩
  have hu := Try.underlying27
  have HN := Aside0.mk hn
  have HC := Aside0.mk hC
  have HR4 := Aside0.mk hr4
  have HCL := Aside0.mk hcl
  have HHO := Aside0.mk hho
  have HCLN := Aside0.mk (cloned_eq h xs hx4 hr4)
  have hn4 : n ≤ 4 := by omega
  rw [← hn]
  clear hn hC hr4 hcl hho hx4
  go_enter Try.func51, Try.ntmps51
  go_wp2_with (fail)
  have hcc := impl_Yard_holder.calls k h A c xs r false ((w.alloc (.cells #[.int .i64 h, .slice A n c] 27)).alloc (.cells #[.int .i64 0, .slice none 0 0] 27)) (Kd.C_below HC.out (below_alloc (below_alloc (Below.refl w.heap.size w) (.cells #[.int .i64 h, .slice A n c] 27)) (.cells #[.int .i64 0, .slice none 0 0] 27))) HCL.out HHO.out
  rw [← HN.out] at hcc
  refine hcc.mono ?_
  clear hcc
  rintro e w0 ⟨rfl, hb⟩
  have HB0 := Aside0.mk (below_step (below_alloc (below_alloc (Below.refl w.heap.size w) (.cells #[.int .i64 h, .slice A n c] 27)) (.cells #[.int .i64 0, .slice none 0 0] 27)) hb)
  have HK0 := Aside0.mk (blk_below (show ((w.alloc (.cells #[.int .i64 h, .slice A n c] 27)).alloc (.cells #[.int .i64 0, .slice none 0 0] 27)).heap[w.heap.size + 1]? = some (.cells #[.int .i64 0, .slice none 0 0] 27 (0, 0)) from blk_new' w _ _) hb)
  have HP0 := Aside0.mk (blk_below (show ((w.alloc (.cells #[.int .i64 h, .slice A n c] 27)).alloc (.cells #[.int .i64 0, .slice none 0 0] 27)).heap[w.heap.size]? = some (.cells #[.int .i64 h, .slice A n c] 27 (0, 0)) from blk_alloc (blk_new w _) _) hb)
  clear hb
  have g0 : w0.cell? ⟨w.heap.size + 1, 0, none⟩ = some (.int .i64 0) := (blk_cell HK0.out 0).trans rfl
  have g1 : w0.cell? ⟨w.heap.size + 1, 1, none⟩ = some (.slice none 0 0) := (blk_cell HK0.out 1).trans rfl
  have g2 := blk_frozen HK0.out 0
  have g3 := blk_frozen HK0.out 1
  go_wp2_with (fail)
  have b7 := blk_put (blk_put HK0.out 0 (.int .i64 0) rfl) 1 (.slice none 0 0) rfl
  refine bodyPost_ret (results_ct rfl _ _ (w.heap.size + 1) 27 #[.int .i64 0, .slice none 0 0] (0, 0) _ rfl b7 Try.underlying27 rfl (by kernel_rfl)) rfl ?_
  exact ⟨rfl, (HB0.out.setCell (p := ⟨w.heap.size + 1, 0, none⟩) (Nat.le_succ _) _).setCell (p := ⟨w.heap.size + 1, 1, none⟩) (Nat.le_succ _) _⟩
set_option maxRecDepth 100000 in
set_option maxHeartbeats 4000000 in
theorem yes (h : Int) (xs : List (List Int)) (hx4 : xs.length ≤ 4) (h4 : h ≤ 4) (hr4 : ∀ r ∈ xs, r.length ≤ 4) (k : Nat) (i : Nat) (hi : i < xs.length) (h1 : 0 < xs[i].length) (hho : impl_Yard_holder.f k h xs = some ((i : Int), true)) (A : Option Addr) (c : Nat) (w : World) (hC : Kd.C dR w A xs.length xs) (hcl : xs.length ≤ c) :
    Calls Try.prog 51 #[.agg #[.int .i64 h, .slice A xs.length c]] w fun e w' => ∃ v, e = .returned (.tuple #[.agg #[.int .i64 h, v], .bool true]) ∧ Kd.S dW 31 w' w.heap.size (fun _ => True) v (xs.set i ((xs.getD i []).take ((xs.getD i []).length - 1))) ∧ Below w.heap.size w w' := by
  obtain ⟨n, hn⟩ : ∃ n, n = xs.length := ⟨_, rfl⟩
  have hu := Try.underlying27
  have HN := Aside0.mk hn
  have HC := Aside0.mk hC
  have HR4 := Aside0.mk hr4
  have HCL := Aside0.mk hcl
  have HHO := Aside0.mk hho
  have HCLN := Aside0.mk (cloned_eq h xs hx4 hr4)
  have hn4 : n ≤ 4 := by omega
  obtain ⟨rI, hrI⟩ : ∃ r, r = xs[i] := ⟨_, rfl⟩
  rw [← hrI] at h1
  have hrI4 : rI.length ≤ 4 := hr4 rI (by rw [hrI]; exact List.getElem_mem hi)
  have HRI := Aside0.mk hrI
  have hcn : n ≤ c := by omega
  have hi' : i < n := by omega
  obtain ⟨q, hq⟩ : ∃ q, wrap64 ((rI.length : Int) - 1) = q := ⟨_, rfl⟩
  have hqv : q = (rI.length : Int) - 1 := by rw [← hq]; unfold wrap64; omega
  have hqw : IntKind.i64.wrap ((rI.length : Int) - 1) = q := by rw [i64_w]; exact hq
  have pq : (0 ≤ q) = True := eq_true (by omega)
  have qq : (q < (rI.length : Int)) = True := eq_true (by omega)
  have HQ := Aside0.mk hqv
  have pi : (0 ≤ (i : Int)) = True := eq_true (by omega)
  have qi : ((i : Int) < (n : Int)) = True := eq_true (by omega)
  rw [← hn]
  clear hn hC hr4 hcl hho hrI hq hqv
  go_enter Try.func51, Try.ntmps51
  go_wp2_with (fail)
  have hcc := impl_Yard_holder.calls k h A c xs (i : Int) true ((w.alloc (.cells #[.int .i64 h, .slice A n c] 27)).alloc (.cells #[.int .i64 0, .slice none 0 0] 27)) (Kd.C_below HC.out (below_alloc (below_alloc (Below.refl w.heap.size w) (.cells #[.int .i64 h, .slice A n c] 27)) (.cells #[.int .i64 0, .slice none 0 0] 27))) HCL.out HHO.out
  rw [← HN.out] at hcc
  refine hcc.mono ?_
  clear hcc
  rintro e w0 ⟨rfl, hb⟩
  have HB0 := Aside0.mk (below_step (below_alloc (below_alloc (Below.refl w.heap.size w) (.cells #[.int .i64 h, .slice A n c] 27)) (.cells #[.int .i64 0, .slice none 0 0] 27)) hb)
  have HK0 := Aside0.mk (blk_below (show ((w.alloc (.cells #[.int .i64 h, .slice A n c] 27)).alloc (.cells #[.int .i64 0, .slice none 0 0] 27)).heap[w.heap.size + 1]? = some (.cells #[.int .i64 0, .slice none 0 0] 27 (0, 0)) from blk_new' w _ _) hb)
  have HP0 := Aside0.mk (blk_below (show ((w.alloc (.cells #[.int .i64 h, .slice A n c] 27)).alloc (.cells #[.int .i64 0, .slice none 0 0] 27)).heap[w.heap.size]? = some (.cells #[.int .i64 h, .slice A n c] 27 (0, 0)) from blk_alloc (blk_new w _) _) hb)
  clear hb
  have x0 : w0.cell? ⟨w.heap.size, 0, none⟩ = some (.int .i64 h) := (blk_cell HP0.out 0).trans rfl
  have x1 : w0.cell? ⟨w.heap.size, 1, none⟩ = some (.slice A n c) := (blk_cell HP0.out 1).trans rfl
  go_wp2_with (fail)
  have hcc := impl_Yard_cloned.calls 1000 h A c xs h xs w0 (Kd.C_below HC.out HB0.out) HCL.out HCLN.out
  rw [← HN.out] at hcc
  refine hcc.mono ?_
  clear hcc
  rintro e w1 ⟨v, rfl, hS0, hb1⟩
  have HBL := Aside0.mk (below_step HB0.out hb1)
  have HB6 := Aside0.mk (blk_below HK0.out hb1)
  have HLO := Aside0.mk (show w.heap.size + 1 < w1.heap.size from blk_lt HB6.out)
  have hS1 : Kd.S dR 31 w1 (w.heap.size + 2) (fun k => k ≠ w1.heap.size) v xs := Kd.S_mono (Kd.S_elderB (Kd.S_lower hS0 (by have := blk_lt HK0.out; omega)) w1.heap.size (Nat.le_refl _)) (fun k hk => hk.2)
  obtain ⟨Av, cv, hv⟩ := Kd.S_slice hS1
  rw [← HN.out] at hv
  subst hv
  have hS3 := Kd.S_alloc hS1 (.cells #[.int .i64 h, .slice Av n cv] 27)
  have hb3 : (w1.alloc (.cells #[.int .i64 h, .slice Av n cv] 27)).heap[w1.heap.size]? = some (.cells #[.int .i64 h, .slice Av n cv] 27 (0, 0)) := blk_new w1 _
  have HB6W := Aside0.mk (blk_alloc HB6.out (.cells #[.int .i64 h, .slice Av n cv] 27))
  have HBLW := Aside0.mk (below_alloc HBL.out (.cells #[.int .i64 h, .slice Av n cv] 27))
  have HB3 := Aside0.mk (Below.refl (w.heap.size + 2) (w1.alloc (.cells #[.int .i64 h, .slice Av n cv] 27)))
  have HB63 := HB6W
  clear hS0 hb1 hS1 x0 x1
  have hn' := HN.out
  have q0 := of_eq_true pq
  have q1 := of_eq_true qq
  have hl3 : xs.length = n := HN.out.symm
  have hlo3 := trivial
  obtain ⟨gs3, rfl⟩ : ∃ gs3, Av = some ⟨gs3, 0, none⟩ := by
    obtain ⟨gs3, cap, he, _⟩ := Kd.S_form hS3 (by omega)
    rw [hl3] at he
    injection he with he _ _
    exact ⟨gs3, he⟩
  obtain ⟨okK, cK, hMK, hclK, hcK, hokK, hbackK⟩ := row_out (d := dW) rfl (sW_of_sR hS3) i hi' (by omega) (fun k hk => by have := blk_lt hb3; omega)
  obtain ⟨vK, rfl, hRK⟩ := hMK
  have xK := hcK _ rfl
  have e4 : (xs)[i]'(by omega) = rI := HRI.out.symm
  rw [e4] at hRK
  obtain ⟨AK, capK, rfl, hcapK, -⟩ := hRK.reads
  have hcut := cutm_run AK rI.length capK q (by omega) (by omega) hcapK
  obtain ⟨f3, hf3⟩ := rows_f hS3
  obtain ⟨uK, k1, k2, -⟩ := hf3 i (by omega)
  obtain rfl : uK = .slice AK rI.length capK := by rw [xK] at k1; injection k1 with k1; exact k1.symm
  have yx1 : (w1.alloc (.cells #[.int .i64 h, .slice (some ⟨gs3, 0, none⟩) n cv] 27)).cell? ⟨w1.heap.size, 1, none⟩ = some (.slice (some ⟨gs3, 0, none⟩) n cv) := (blk_cell hb3 1).trans rfl
  have HRK := Aside0.mk (rowW_cut (m := q.toNat) hRK (by omega))
  have HBK := Aside0.mk hbackK
  have HB3' := Aside0.mk hb3
  have HGN3 := Aside0.mk (show w1.heap.size ≠ gs3 from fun e => by
    obtain ⟨f0, hS0, _⟩ := hS3
    exact hS0 gs3 (by simp [Value.ownBlock]) e.symm)
  have HGL3 := Aside0.mk (show (w.heap.size + 2) ≤ gs3 from Kd.S_base hS3 gs3 (by simp [Value.ownBlock]))
  have HX3 := Aside0.mk (And.intro yx1 xK)
  clear hb3 hlo3 hS3 hcK hokK hbackK hRK e4 hf3 hl3 hclK hn' q0 q1 hcapK
  go_wp2_with (fail)
  refine start_ (n := 13) (S := fun w' => w'.cell? ⟨w1.heap.size, 1, none⟩ = some (.slice (some ⟨gs3, 0, none⟩) n cv) ∧ w'.cell? ⟨gs3, i, none⟩ = some (.slice AK rI.length capK)) (ds := [12]) #[false, false, false, false, false, false, false, false, false, false, false, false, false] (by kernel_rfl) rfl rfl HX3.out (fun hHeld => ?_)
  refine pure_ (i := 0) (N := some 25) (v := ?_) (a' := ?_) #[true, false, false, false, false, false, false, false, false, false, false, false, false] rfl rfl (by kernel_rfl) (fun _ _ _ h => h) (Or.inl ⟨by rfl, ?_⟩) ?_ ?_
  rotate_left
  · intro w'
    go_simp
    with_reducible rfl
  rotate_left
  · simp only [Act.put, List.setIfInBounds_toArray, List.set_cons_zero, List.set_cons_succ, i64_w, i32_w]
    rfl
  refine pure_ (i := 2) (N := some 27) (v := ?_) (a' := ?_) #[true, false, true, false, false, false, false, false, false, false, false, false, false] rfl rfl (by kernel_rfl) (fun _ _ _ h => h) (Or.inl ⟨by rfl, ?_⟩) ?_ ?_
  rotate_left
  · intro w'
    go_simp
    with_reducible rfl
  rotate_left
  · simp only [Act.put, List.setIfInBounds_toArray, List.set_cons_zero, List.set_cons_succ, i64_w, i32_w]
    rfl
  refine pure_ (i := 3) (N := some 28) (v := ?_) (a' := ?_) #[true, false, true, true, false, false, false, false, false, false, false, false, false] rfl rfl (by kernel_rfl) (fun _ _ _ h => h) (Or.inl ⟨by rfl, ?_⟩) ?_ ?_
  rotate_left
  · intro w'
    go_simp
    with_reducible rfl
  rotate_left
  · simp only [Act.put, List.setIfInBounds_toArray, List.set_cons_zero, List.set_cons_succ, i64_w, i32_w]
    rfl
  refine pure_ (i := 5) (N := some 30) (v := ?_) (a' := ?_) #[true, false, true, true, false, true, false, false, false, false, false, false, false] rfl rfl (by kernel_rfl) (fun _ _ _ h => h) (Or.inl ⟨by rfl, ?_⟩) ?_ ?_
  rotate_left
  · intro w'
    go_simp
    with_reducible rfl
  rotate_left
  · simp only [Act.put, List.setIfInBounds_toArray, List.set_cons_zero, List.set_cons_succ, i64_w, i32_w]
    rfl
  refine pure_ (i := 8) (N := some 33) (v := ?_) (a' := ?_) #[true, false, true, true, false, true, false, false, true, false, false, false, false] rfl rfl (by kernel_rfl) (fun _ _ _ h => h) (Or.inl ⟨by rfl, ?_⟩) ?_ ?_
  rotate_left
  · intro w'
    go_simp
    with_reducible rfl
  rotate_left
  · simp only [Act.put, List.setIfInBounds_toArray, List.set_cons_zero, List.set_cons_succ, i64_w, i32_w]
    rfl
  refine pure_ (i := 9) (N := some 34) (v := ?_) (a' := ?_) #[true, false, true, true, false, true, false, false, true, true, false, false, false] rfl rfl (by kernel_rfl) (fun _ _ _ h => h) (Or.inl ⟨by rfl, ?_⟩) ?_ ?_
  rotate_left
  · intro w'
    go_simp
    with_reducible rfl
  rotate_left
  · simp only [Act.put, List.setIfInBounds_toArray, List.set_cons_zero, List.set_cons_succ, i64_w, i32_w]
    rfl
  refine take_ (i := 1) (N := some 26) (v := ?_) (a' := ?_) #[true, true, true, true, false, true, false, false, true, true, false, false, false] rfl rfl (by kernel_rfl) (fun _ _ _ h => h) (Or.inl ⟨by rfl, ?_⟩) hHeld ?_ ?_
  rotate_left
  · rintro w' ⟨s0, s1⟩
    go_simp
    with_reducible rfl
  rotate_left
  · simp only [Act.put, List.setIfInBounds_toArray, List.set_cons_zero, List.set_cons_succ, i64_w, i32_w]
    rfl
  refine take_ (i := 4) (N := some 29) (v := ?_) (a' := ?_) #[true, true, true, true, true, true, false, false, true, true, false, false, false] rfl rfl (by kernel_rfl) (fun _ _ _ h => h) (Or.inl ⟨by rfl, ?_⟩) hHeld ?_ ?_
  rotate_left
  · rintro w' ⟨s0, s1⟩
    go_simp
    with_reducible rfl
  rotate_left
  · simp only [Act.put, List.setIfInBounds_toArray, List.set_cons_zero, List.set_cons_succ, i64_w, i32_w]
    rfl
  refine pure_ (i := 6) (N := some 31) (v := ?_) (a' := ?_) #[true, true, true, true, true, true, true, false, true, true, false, false, false] rfl rfl (by kernel_rfl) (fun _ _ _ h => h) (Or.inl ⟨by rfl, ?_⟩) ?_ ?_
  rotate_left
  · intro w'
    go_simp
    with_reducible rfl
  rotate_left
  · simp only [Act.put, List.setIfInBounds_toArray, List.set_cons_zero, List.set_cons_succ, i64_w, i32_w]
    rfl
  refine take_ (i := 7) (N := some 32) (v := ?_) (a' := ?_) #[true, true, true, true, true, true, true, true, true, true, false, false, false] rfl rfl (by kernel_rfl) (fun _ _ _ h => h) (Or.inl ⟨by rfl, ?_⟩) hHeld ?_ ?_
  rotate_left
  · rintro w' ⟨s0, s1⟩
    go_simp
    with_reducible rfl
  rotate_left
  · simp only [Act.put, List.setIfInBounds_toArray, List.set_cons_zero, List.set_cons_succ, i64_w, i32_w]
    rfl
  refine pure_ (i := 10) (N := some 35) (v := ?_) (a' := ?_) #[true, true, true, true, true, true, true, true, true, true, true, false, false] rfl rfl (by kernel_rfl) (fun _ _ _ h => h) (Or.inl ⟨by rfl, ?_⟩) ?_ ?_
  rotate_left
  · intro w'
    go_simp
    with_reducible rfl
  rotate_left
  · simp only [Act.put, List.setIfInBounds_toArray, List.set_cons_zero, List.set_cons_succ, i64_w, i32_w]
    rfl
  refine pure_ (i := 11) (N := some 36) (v := ?_) (a' := ?_) #[true, true, true, true, true, true, true, true, true, true, true, true, false] rfl rfl (by kernel_rfl) (fun _ _ _ h => h) (Or.inl ⟨by rfl, ?_⟩) ?_ ?_
  rotate_left
  · intro w'
    go_simp
    with_reducible rfl
  rotate_left
  · simp only [Act.put, List.setIfInBounds_toArray, List.set_cons_zero, List.set_cons_succ, i64_w, i32_w]
    rfl
  refine last_ (i := 12) (N := none) #[true, true, true, true, true, true, true, true, true, true, true, true, true] rfl rfl (by kernel_rfl) (by decide) (fun K_ hK => ?_)
  refine skip_ (w1 := ?_) (by rfl) rfl ?_ ?_
  rotate_left
  · go_simp
    rfl
  refine hK.out _ _ ?_
  clear hK K_
  refine done_ (by kernel_rfl) ?_
  obtain ⟨p1, p2⟩ := HBK.out (w1.alloc (.cells #[.int .i64 h, .slice (some ⟨gs3, 0, none⟩) n cv] 27)) (.slice AK q.toNat q.toNat) (rI.take q.toNat) (Nat.le_refl _) (fun _ _ _ => rfl) ⟨_, rfl, by
    have := HRK.out
    rcases this with h | ⟨g1, cap1, cur1, hv, hb', ho, r1⟩
    · exact .inl h
    · exact .inr ⟨g1, cap1, cur1, hv, hb', .inl ho, r1⟩⟩
  have b5 : ((w1.alloc (.cells #[.int .i64 h, .slice (some ⟨gs3, 0, none⟩) n cv] 27)).setCell ⟨gs3, i, none⟩ (.slice AK q.toNat q.toNat)).drew.heap[w1.heap.size]? = some (.cells #[.int .i64 h, .slice (some ⟨gs3, 0, none⟩) n cv] 27 (0, 0)) := by
    show ((w1.alloc (.cells #[.int .i64 h, .slice (some ⟨gs3, 0, none⟩) n cv] 27)).setCell ⟨gs3, i, none⟩ (.slice AK q.toNat q.toNat)).heap[w1.heap.size]? = _
    rw [Below.heap_setCell _ _ _ _ HGN3.out]; exact HB3'.out
  have b6 : ((w1.alloc (.cells #[.int .i64 h, .slice (some ⟨gs3, 0, none⟩) n cv] 27)).setCell ⟨gs3, i, none⟩ (.slice AK q.toNat q.toNat)).drew.heap[w.heap.size + 1]? = some (.cells #[.int .i64 0, .slice none 0 0] 27 (0, 0)) := by
    show ((w1.alloc (.cells #[.int .i64 h, .slice (some ⟨gs3, 0, none⟩) n cv] 27)).setCell ⟨gs3, i, none⟩ (.slice AK q.toNat q.toNat)).heap[w.heap.size + 1]? = _
    rw [Below.heap_setCell _ _ _ _ (show w.heap.size + 1 ≠ gs3 by have := HGL3.out; omega)]; exact HB63.out
  have p3 := Kd.S_drew p1
  have p4 : Below (w.heap.size + 2) (w1.alloc (.cells #[.int .i64 h, .slice (some ⟨gs3, 0, none⟩) n cv] 27)) ((w1.alloc (.cells #[.int .i64 h, .slice (some ⟨gs3, 0, none⟩) n cv] 27)).setCell ⟨gs3, i, none⟩ (.slice AK q.toNat q.toNat)).drew := below_drew (HB3.out.setCell (p := ⟨gs3, i, none⟩) HGL3.out _)
  generalize hw5 : ((w1.alloc (.cells #[.int .i64 h, .slice (some ⟨gs3, 0, none⟩) n cv] 27)).setCell ⟨gs3, i, none⟩ (.slice AK q.toNat q.toNat)).drew = w5 at b5 b6 p3 p4 ⊢
  have y0 : w5.cell? ⟨w1.heap.size, 0, none⟩ = some (.int .i64 h) := (blk_cell b5 0).trans rfl
  have y1 : w5.cell? ⟨w1.heap.size, 1, none⟩ = some (.slice (some ⟨gs3, 0, none⟩) n cv) := (blk_cell b5 1).trans rfl
  have g0 : w5.cell? ⟨w.heap.size + 1, 0, none⟩ = some (.int .i64 0) := (blk_cell b6 0).trans rfl
  have g1 : w5.cell? ⟨w.heap.size + 1, 1, none⟩ = some (.slice none 0 0) := (blk_cell b6 1).trans rfl
  have g2 := blk_frozen b6 0
  have g3 := blk_frozen b6 1
  have B6 := Aside0.mk b6
  have P3 := Aside0.mk p3
  have P4 := Aside0.mk p4
  have HNE5 := Aside0.mk (show w1.heap.size ≠ w.heap.size + 1 by have := HLO.out; omega)
  clear hw5 p1 p2 p3 p4 b5 b6 hHeld yx1 xK k1 k2
  go_wp2_with (fail)
  have b7 := blk_put (blk_put B6.out 0 (.int .i64 h) rfl) 1 (.slice (some ⟨gs3, 0, none⟩) n cv) rfl
  have hm' : xs.set i ((xs.getD i []).take ((xs.getD i []).length - 1)) = xs.set i (rI.take q.toNat) := by
    have a1 := HQ.out
    have a2 : xs.getD i [] = rI := by rw [List.getD_eq_getElem?_getD, List.getElem?_eq_getElem hi, HRI.out]; rfl
    rw [a2, show q.toNat = rI.length - 1 by omega]
  refine bodyPost_ret (results_ct rfl _ _ (w.heap.size + 1) 27 #[.int .i64 h, .slice (some ⟨gs3, 0, none⟩) n cv] (0, 0) _ rfl b7 Try.underlying27 rfl (by kernel_rfl)) rfl ?_
  refine ⟨_, rfl, ?_, ?_⟩
  · rw [hm']
    exact Kd.S_mono (Kd.S_far (p := ⟨w.heap.size + 1, 1, none⟩) (Kd.S_far (p := ⟨w.heap.size + 1, 0, none⟩) (Kd.S_lower (Kd.S_bound P3.out) (by omega : w.heap.size ≤ (w.heap.size + 2))) (fun k hk => by have := hk.2.1; show k ≠ w.heap.size + 1; omega) _) (fun k hk => by have := hk.2.1; show k ≠ w.heap.size + 1; omega) _) (fun _ _ => trivial)
  · exact ((HBLW.out.trans (P4.out.mono (by omega))).setCell (p := ⟨w.heap.size + 1, 0, none⟩) (Nat.le_succ _) _).setCell (p := ⟨w.heap.size + 1, 1, none⟩) (Nat.le_succ _) _
end Go.Proofs.Ytibaiaenfeppcaa.Ytn

-- made by a patched copy of print.sh: this session's own
namespace Go.Proofs.Ytibaiaenfeppcaa.Q
open Go.RowKit Go.Proofs.YtibaiaenfeppcaaW.PrintWords Go.Proofs.YtibaiaenfeppcaaW.PrintLast Go.Proofs.YtibaiaenfeppcaaW.PrintMore
attribute [local go_sem] max2_int min2_int max_two min_two max_three min_three max_four min_four   -- for this text's walks alone
set_option linter.unusedVariables false
set_option linter.unusedSimpArgs false

/-! ### spec_TopsOf: function 15 -/
def spec_TopsOf.l0 : Nat → List Int → Int → Int → List (List Int) → Option (List Int × Bool)
  | 0, _, _, _, _ => none
  | k + 1, x4, x5, x288000, x288001 => if x5 < (x288001.length : Int) then (if 0 ≤ x5 then (if ((rd_L1 x288001 x5).length : Int) > 0 then (if 0 ≤ (wrap64 (((rd_L1 x288001 x5).length : Int) - 1)) then (if (wrap64 (((rd_L1 x288001 x5).length : Int) - 1)) < ((rd_L1 x288001 x5).length : Int) then (if x4.length < 17592186044416 then (spec_TopsOf.l0 k (x4 ++ [rd (rd_L1 x288001 x5) (wrap64 (((rd_L1 x288001 x5).length : Int) - 1))]) (wrap64 (x5 + 1)) x288000 x288001) else (none)) else (none)) else (none)) else (if x4.length < 17592186044416 then (spec_TopsOf.l0 k (x4 ++ [(-1)]) (wrap64 (x5 + 1)) x288000 x288001) else (none))) else (none)) else (some (x4, true))
def spec_TopsOf.f (k : Nat) (a0_0 : Int) (l0_1 : List (List Int)) : Option (List Int × Bool) := (spec_l09Yard.f k a0_0 l0_1).bind fun bt288 => (if bt288.1 = true then (spec_TopsOf.l0 k (([] : List Int)) 0 bt288.2 l0_1) else (some (([] : List Int), false)))
end Go.Proofs.Ytibaiaenfeppcaa.Q

-- mended

-- made by a patched copy of print.sh: this session's own
namespace Go.Proofs.Ytibaiaenfeppcaa.Q
open Go.RowKit Go.Proofs.YtibaiaenfeppcaaW.PrintWords Go.Proofs.YtibaiaenfeppcaaW.PrintLast Go.Proofs.YtibaiaenfeppcaaW.PrintMore
attribute [local go_sem] max2_int min2_int max_two min_two max_three min_three max_four min_four   -- for this text's walks alone
set_option linter.unusedVariables false
set_option linter.unusedSimpArgs false

/-! ### impl_ValidYard: function 13 -/
def impl_ValidYard.f (a0_0 : Int) (l0_1 : List (List Int)) : Option (Bool) := some (Yv.valid a0_0 l0_1)
theorem impl_ValidYard.calls (a0_0 : Int) (A0_1 : Option Addr) (c0_1 : Nat) (l0_1 : List (List Int)) (r : Bool) (w : World) (hr0_1 : Kd.C (Kd.slice 2 (Kd.int .i64)) w A0_1 l0_1.length l0_1) (hc0_1 : l0_1.length ≤ c0_1) (h : impl_ValidYard.f a0_0 l0_1 = some r) :
    Calls Try.prog 13 #[.agg #[.int .i64 a0_0, .slice A0_1 l0_1.length c0_1]] w fun e w' => e = .returned (.bool r) ∧ Below w.heap.size w w' := by
  obtain rfl := Option.some.inj h
  exact Yv.validYard_calls a0_0 A0_1 c0_1 l0_1 w hr0_1

end Go.Proofs.Ytibaiaenfeppcaa.Q

-- made by a patched copy of print.sh: this session's own
namespace Go.Proofs.Ytibaiaenfeppcaa.Q
open Go.RowKit Go.Proofs.YtibaiaenfeppcaaW.PrintWords Go.Proofs.YtibaiaenfeppcaaW.PrintLast Go.Proofs.YtibaiaenfeppcaaW.PrintMore
attribute [local go_sem] max2_int min2_int max_two min_two max_three min_three max_four min_four   -- for this text's walks alone
set_option linter.unusedVariables false
set_option linter.unusedSimpArgs false

/-! ### impl_TopsOf: function 16 -/
def impl_TopsOf.l0 : Nat → List Int → List (List Int) → Int → Int → Option (List Int × Bool)
  | 0, _, _, _, _ => none
  | k + 1, x4, x12, x13, x14 => if x14 < x13 then (if 0 ≤ x14 then (if x14 < (x12.length : Int) then (if ((rd_L1 x12 x14).length : Int) = 0 then (if x4.length < 17592186044416 then (impl_TopsOf.l0 k (x4 ++ [(-1)]) x12 x13 (wrap64 (x14 + 1))) else (none)) else (if 0 ≤ (wrap64 (((rd_L1 x12 x14).length : Int) - 1)) then (if (wrap64 (((rd_L1 x12 x14).length : Int) - 1)) < ((rd_L1 x12 x14).length : Int) then (if x4.length < 17592186044416 then (impl_TopsOf.l0 k (x4 ++ [rd (rd_L1 x12 x14) (wrap64 (((rd_L1 x12 x14).length : Int) - 1))]) x12 x13 (wrap64 (x14 + 1))) else (none)) else (none)) else (none))) else (none)) else (none)) else (some (x4, true))
def impl_TopsOf.f (k : Nat) (a0_0 : Int) (l0_1 : List (List Int)) : Option (List Int × Bool) := (impl_ValidYard.f a0_0 l0_1).bind fun t303 => (if t303 = true then (impl_TopsOf.l0 k (([] : List Int)) l0_1 (l0_1.length : Int) 0) else (some (([] : List Int), false)))
end Go.Proofs.Ytibaiaenfeppcaa.Q

-- made by a patched copy of print.sh: this session's own
namespace Go.Proofs.Ytibaiaenfeppcaa.Q
open Go.RowKit Go.Proofs.YtibaiaenfeppcaaW.PrintWords Go.Proofs.YtibaiaenfeppcaaW.PrintLast Go.Proofs.YtibaiaenfeppcaaW.PrintMore
attribute [local go_sem] max2_int min2_int max_two min_two max_three min_three max_four min_four   -- for this text's walks alone
set_option linter.unusedVariables false
set_option linter.unusedSimpArgs false

/-! ### spec_l00Put: function 74 -/
mutual
def spec_l00Put.l0 : Nat → List Int → Int → List Int → Bool → Int → Option (List Int)
  | 0, _, _, _, _, _ => none
  | k + 1, x0, x1, x5, x6, x7 => if x7 < (x0.length : Int) then (if x6 = true then (spec_l00Put.j1 k x0 x1 x5 x6 x7 false) else (if 0 ≤ x7 then (spec_l00Put.j1 k x0 x1 x5 x6 x7 (decide ((rd x0 x7) ≥ x1))) else (none))) else (if x6 = true then (some x5) else (if x5.length < 17592186044416 then (some (x5 ++ [x1])) else (none)))
def spec_l00Put.j1 : Nat → List Int → Int → List Int → Bool → Int → Bool → Option (List Int)
  | 0, _, _, _, _, _, _ => none
  | k + 1, x0, x1, x5, x6, x7, x24 => if x24 = true then (if 0 ≤ x7 then (if x7 < (x0.length : Int) then (if (rd x0 x7) > x1 then (if x5.length < 17592186044416 then ((some (x5 ++ [x1] : List Int)).bind fun y506 => (if y506.length < 17592186044416 then (spec_l00Put.l0 k x0 x1 (y506 ++ [rd x0 x7]) true (wrap64 (x7 + 1))) else (none))) else (none)) else (if x5.length < 17592186044416 then (spec_l00Put.l0 k x0 x1 (x5 ++ [rd x0 x7]) true (wrap64 (x7 + 1))) else (none))) else (none)) else (none)) else (if 0 ≤ x7 then (if x7 < (x0.length : Int) then (if x5.length < 17592186044416 then (spec_l00Put.l0 k x0 x1 (x5 ++ [rd x0 x7]) x6 (wrap64 (x7 + 1))) else (none)) else (none)) else (none))
end
def spec_l00Put.f (k : Nat) (l0 : List Int) (a1 : Int) : Option (List Int) := spec_l00Put.l0 k l0 a1 (([] : List Int)) false 0
end Go.Proofs.Ytibaiaenfeppcaa.Q

-- made by a patched copy of print.sh: this session's own
namespace Go.Proofs.Ytibaiaenfeppcaa.Q
open Go.RowKit Go.Proofs.YtibaiaenfeppcaaW.PrintWords Go.Proofs.YtibaiaenfeppcaaW.PrintLast Go.Proofs.YtibaiaenfeppcaaW.PrintMore
attribute [local go_sem] max2_int min2_int max_two min_two max_three min_three max_four min_four   -- for this text's walks alone
set_option linter.unusedVariables false
set_option linter.unusedSimpArgs false

/-! ### spec_l00Min: function 75 -/
def spec_l00Min.f (a0 : Int) (a1 : Int) : Option (Int) := if a0 < a1 then (some a0) else (some a1)
end Go.Proofs.Ytibaiaenfeppcaa.Q

-- made by a patched copy of print.sh: this session's own
namespace Go.Proofs.Ytibaiaenfeppcaa.Q
open Go.RowKit Go.Proofs.YtibaiaenfeppcaaW.PrintWords Go.Proofs.YtibaiaenfeppcaaW.PrintLast Go.Proofs.YtibaiaenfeppcaaW.PrintMore
attribute [local go_sem] max2_int min2_int max_two min_two max_three min_three max_four min_four   -- for this text's walks alone
set_option linter.unusedVariables false
set_option linter.unusedSimpArgs false

/-! ### spec_l09Blockers: function 53 -/
mutual
def spec_l09Blockers.l0 : Nat → List Int → Int → Int → List (List Int) → Option (List Int × Int)
  | 0, _, _, _, _ => none
  | k + 1, x3, x4, x1000, x1001 => if x4 < (x1001.length : Int) then (spec_l09Blockers.l1 k x3 x4 100 0 x1000 x1001) else (some (x3, x1000))
def spec_l09Blockers.l1 : Nat → List Int → Int → Int → Int → Int → List (List Int) → Option (List Int × Int)
  | 0, _, _, _, _, _, _ => none
  | k + 1, x3, x4, x5, x6, x1000, x1001 => if 0 ≤ x4 then (if x4 < (x1001.length : Int) then (if x6 < ((rd_L1 x1001 x4).length : Int) then (if 0 ≤ x6 then (if (rd (rd_L1 x1001 x4) x6) > x5 then ((spec_l00Put.f k x3 (rd (rd_L1 x1001 x4) x6)).bind fun t527 => ((spec_l00Min.f x5 (rd (rd_L1 x1001 x4) x6)).bind fun t530 => (spec_l09Blockers.l1 k t527 x4 t530 (wrap64 (x6 + 1)) x1000 x1001))) else ((spec_l00Min.f x5 (rd (rd_L1 x1001 x4) x6)).bind fun t531 => (spec_l09Blockers.l1 k x3 x4 t531 (wrap64 (x6 + 1)) x1000 x1001))) else (none)) else (spec_l09Blockers.l0 k x3 (wrap64 (x4 + 1)) x1000 x1001)) else (none)) else (none)
end
def spec_l09Blockers.f (k : Nat) (s0_0 : Int) (s0_1 : List (List Int)) : Option (List Int × Int) := spec_l09Blockers.l0 k (([] : List Int)) 0 s0_0 s0_1
end Go.Proofs.Ytibaiaenfeppcaa.Q

-- mended

