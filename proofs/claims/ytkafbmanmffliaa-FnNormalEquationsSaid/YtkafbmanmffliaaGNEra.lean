/- Parts of the proof that the law of this seat holds: Op, OpB, OpS. -/
import Derived.Test.YtkafbmanmffliaaGNEwa
import Derived.WalkKit
import Derived.ProofKit
import Derived.OpenShut
import Derived.ShutString
import Derived.ChangeOld
import Derived.Below
import Derived.SizedLaws
import Derived.Test.YtkafbmanmffliaaProg
import Derived.Test.YtkafbmanmffliaaGNEpa
set_option linter.unusedVariables false
set_option linter.unusedSimpArgs false
/- How a value that came in is told by the kinds (Kd): what its reading as data says of its cells. -/
namespace Go.Proofs.Ytkafbmanmffliaa.Op
open Go.RowKit Go.ChangeShapes Go.WideShapes Go.ChangeAt YtkafbmanmffliaaW.PrintWords
def Opens {α : Type} (P : Program) (w : World) (t : TypeId) (d : Kd α) (Ok : α → Prop) : Prop :=
 ∀ (H : Type) (enc : TypeId × Value → H) (fuel : Nat) (cs : List Value) (x : DataW H × List MemPlace), DataW.trod enc P w 0 (fun _ => true) true fuel t cs = some x → ∃ a, d.K w a cs ∧ Ok a
def In64 (n : Int) : Prop := -9223372036854775808 ≤ n ∧ n ≤ 9223372036854775807
variable {P : Program} {w : World} {t e : TypeId} {α β : Type} {d : Kd α} {d2 : Kd β} {Ok : α → Prop} {Ok2 : β → Prop}
theorem opens_i64 (ht : P.underlying t = some (.int .i64)) : Opens P w t (Kd.int .i64) In64 := by
 intro H enc fuel cs x h
 obtain ⟨n, rfl, _, hw⟩ := DataW.trod_int ht h
 refine ⟨n, rfl, ?_⟩
 have h2 := hw
 simp [Lit.wf, IntKind.min, IntKind.max, IntKind.signed, IntKind.bits] at h2
 exact h2
theorem mapM_cells {w : World} {a : Addr} : ∀ (n k : Nat) (cs : List Value), ((List.range' k n).mapM fun i => w.cell? (a.add i)) = some cs → cs.length = n ∧ ∀ i u, cs[i]? = some u → w.cell? (a.add (k + i)) = some u := by
 intro n
 induction n with
 | zero => intro k cs h; simp at h; subst h; simp
 | succ n ih =>
  intro k cs h
  rw [List.range'_succ, List.mapM_cons] at h
  simp only [bind, Option.bind_eq_some_iff, pure, Option.some.injEq] at h
  obtain ⟨u, hu, us, hus, rfl⟩ := h
  obtain ⟨h1, h2⟩ := ih (k + 1) us hus
  refine ⟨by simp [h1], ?_⟩
  intro i v hv
  cases i with
  | zero => simp at hv; subst hv; simpa using hu
  | succ i => rw [show k + (i + 1) = k + 1 + i by omega]; exact h2 i v (by simpa using hv)
theorem cells_get {w : World} {b n : Nat} {a : Addr} {cs : List Value} (h : w.cells? b a n = some cs) : cs.length = n ∧ ∀ i u, cs[i]? = some u → w.cell? (a.add i) = some u := by
 unfold World.cells? at h
 split at h
 ·rw [List.range_eq_range'] at h
  obtain ⟨h1, h2⟩ := mapM_cells n 0 cs h
  exact ⟨h1, fun i u hu => by have := h2 i u hu; rwa [Nat.zero_add] at this⟩
 ·simp at h
theorem choose_list {α : Type} {R : Nat → α → Prop} : ∀ n : Nat, (∀ j, j < n → ∃ a, R j a) → ∃ l : List α, l.length = n ∧ ∀ j a, l[j]? = some a → R j a := by
 intro n
 induction n with
 | zero => intro _; exact ⟨[], rfl, by simp⟩
 | succ n ih =>
  intro h
  obtain ⟨l, hl, hR⟩ := ih fun j hj => h j (by omega)
  obtain ⟨a, ha⟩ := h n (by omega)
  refine ⟨l ++ [a], by simp [hl], ?_⟩
  intro j b hb
  by_cases hj : j < n
  ·rw [List.getElem?_append_left (by omega)] at hb; exact hR j b hb
  ·rw [List.getElem?_append_right (by omega)] at hb
   have : j = n := by
    have := (List.getElem?_eq_some_iff.1 hb).1
    simp at this; omega
   subst this
   rw [hl, Nat.sub_self] at hb
   simp at hb; subst hb; exact ha
theorem add_add' (a : Addr) (i j : Nat) : (a.add i).add j = a.add (i + j) := by
 simp only [Addr.add]
 split <;> split <;> simp_all [Nat.add_assoc]
theorem opens_slice (ht : P.underlying t = some (.slice e)) (he : Opens P w e d Ok) (hs : d.sz = P.cellsOf e) : Opens P w t (Kd.slice e d) (fun xs => (∀ a ∈ xs, Ok a) ∧ xs.length ≤ maxLen) := by
 intro H enc fuel cs x h
 rcases DataW.trod_slice ht h with ⟨rfl, _⟩ | ⟨a, len, cap, elems, rest, n, _, rfl, _, _, hl, hm, hlen, hel, _, _⟩
 ·exact ⟨[], ⟨none, 0, rfl, Nat.le_refl _, Kd.C_nil _ _⟩, by simp, by simp⟩
 ·have each : ∀ j, j < len → ∃ b, (∃ c : List Value, c.length = d.sz ∧ d.K w b c ∧ ∀ i u, c[i]? = some u → w.cell? (a.add (j * d.sz + i)) = some u) ∧ Ok b := by
   intro j hj
   have h1 := hel j hj
   rw [List.getElem?_eq_getElem (by omega), Option.bind_eq_some_iff] at h1
   obtain ⟨c, hc, hx⟩ := h1
   obtain ⟨hcl, hcell⟩ := cells_get hc
   obtain ⟨b, hb, hok⟩ := he H enc n c _ hx
   refine ⟨b, ⟨c, by rw [hs, hcl], hb, fun i u hu => ?_⟩, hok⟩
   have := hcell i u hu
   rwa [add_add', ← hs] at this
  obtain ⟨l, hll, hR⟩ := choose_list len each
  have hm' : cap ≤ 9223372036854775807 := by unfold maxLen at hm; exact hm
  refine ⟨l, ⟨some a, cap, by rw [hll], by omega, by omega, by omega, fun _ => ⟨a, rfl, fun j p hp => (hR j p hp).1⟩⟩, fun b hb => ?_, by omega⟩
  obtain ⟨j, hj, rfl⟩ := List.getElem_of_mem hb
  exact (hR j _ (List.getElem?_eq_getElem hj)).2
def OpensL {α : Type} (P : Program) (w : World) (fs : List Field) (off : Nat) (d : Kd α) (Ok : α → Prop) : Prop :=
 ∀ (H : Type) (enc : TypeId × Value → H) (fuel : Nat) (cs : List Value), cs.length = off + d.sz → (∀ f ∈ fs, ∃ x, DataW.trod enc P w 0 (fun _ => true) true fuel f.type ((cs.drop f.offset).take (P.cellsOf f.type)) = some x) → ∃ a, d.K w a (cs.drop off) ∧ Ok a
theorem opensL_one {f : Field} {off : Nat} (hf : Opens P w f.type d Ok) (ho : f.offset = off) (hs : d.sz = P.cellsOf f.type) : OpensL P w [f] off d Ok := by
 intro H enc fuel cs hl h
 obtain ⟨x, hx⟩ := h f (by simp)
 rw [ho, List.take_of_length_le (by simp; omega)] at hx
 exact hf H enc fuel _ x hx
theorem opensL_cons {f : Field} {fs : List Field} {off : Nat} (hf : Opens P w f.type d Ok) (ho : f.offset = off) (hs : d.sz = P.cellsOf f.type) (hr : OpensL P w fs (off + d.sz) d2 Ok2) :
  OpensL P w (f :: fs) off (Kd.pair d d2) (fun x => Ok x.1 ∧ Ok2 x.2) := by
 intro H enc fuel cs hl h
 have hl' : cs.length = off + (d.sz + d2.sz) := hl
 obtain ⟨x, hx⟩ := h f (by simp)
 rw [ho, ← hs] at hx
 obtain ⟨a, ha, hoka⟩ := hf H enc fuel _ x hx
 obtain ⟨b, hb, hokb⟩ := hr H enc fuel cs (by omega) (fun g hg => h g (by simp [hg]))
 exact ⟨(a, b), ⟨(cs.drop off).take d.sz, cs.drop (off + d.sz), by rw [← List.drop_drop, List.take_append_drop], ha, hb⟩, hoka, hokb⟩
theorem opens_struct {fs : Array Field} (ht : P.underlying t = some (.struct fs)) (hs : d.sz = P.cellsOf t) (h : OpensL P w fs.toList 0 d Ok) : Opens P w t d Ok := by
 intro H enc fuel cs x hx
 obtain ⟨xs, n, _, _, hl, hxl, hf⟩ := DataW.trod_struct ht hx
 have := h H enc n cs (by omega) (fun f hfm => by
  obtain ⟨i, hi, rfl⟩ := List.getElem_of_mem hfm
  have hi' : i < fs.size := by simpa using hi
  have h1 := hf i fs[i] (Array.getElem?_eq_getElem hi')
  rw [List.getElem?_eq_getElem (by omega)] at h1
  exact ⟨_, by simpa using h1⟩)
 simpa using this
theorem opens_iso {f : β → α} (g : α → β) (hg : ∀ a, f (g a) = a) (h : Opens P w t d Ok) : Opens P w t (Kd.iso d f) (fun b => Ok (f b)) := by
 intro H enc fuel cs x hx
 obtain ⟨a, ha, hok⟩ := h H enc fuel cs x hx
 exact ⟨g a, by show d.K w (f (g a)) cs; rw [hg]; exact ha, by show Ok (f (g a)); rw [hg]; exact hok⟩
theorem opens_imp {Ok' : α → Prop} (h : Opens P w t d Ok) (hi : ∀ a, Ok a → Ok' a) : Opens P w t d Ok' := by
 intro H enc fuel cs x hx
 obtain ⟨a, ha, hok⟩ := h H enc fuel cs x hx
 exact ⟨a, ha, hi a hok⟩
theorem open_slice_arg {H : Type} {enc : TypeId × Value → H} {r : Reach} {base : Nat} {v : Value} {y : DataW H} {p : List MemPlace} {Ok' : List α → Prop} (ht : P.underlying t = some (.slice e)) (ho : Opens P w t (Kd.slice e d) Ok') (hv : Value.okWide P w r base t v)
  (h : DataW.Trod enc P w 0 (fun _ => true) true t v y p) : ∃ (A : Option Addr) (c : Nat) (l : List α), v = .slice A l.length c ∧ l.length ≤ c ∧ d.C w A l.length l ∧ Ok' l := by
 obtain ⟨a, len, cap, rfl⟩ := okWide_slice ht hv
 obtain ⟨fuel, hf⟩ := h
 obtain ⟨l, ⟨A, c, hc, hl, hr⟩, hok⟩ := ho H enc fuel _ _ hf
 simp [Value.cells] at hc
 obtain ⟨rfl, rfl, rfl⟩ := hc
 exact ⟨_, _, l, rfl, hl, hr, hok⟩
end Go.Proofs.Ytkafbmanmffliaa.Op

/- (a part of its own) A yard, and moves, that came in as arguments. -/
namespace Go.Proofs.Ytkafbmanmffliaa.Op
open Go.RowKit Go.ChangeShapes Go.WideShapes Go.ChangeAt YtkafbmanmffliaaW.PrintWords
theorem opens_u8 {P : Program} {w : World} {t : TypeId} (ht : P.underlying t = some (.int .u8)) : Opens P w t (Kd.int .u8) (fun n => 0 ≤ n ∧ n ≤ 255) := by
 intro H enc fuel cs x h
 obtain ⟨n, rfl, _, hw⟩ := DataW.trod_int ht h
 refine ⟨n, rfl, ?_⟩
 have h2 := hw
 simp [Lit.wf, IntKind.min, IntKind.max, IntKind.signed, IntKind.bits] at h2
 exact h2
theorem opens_bytes (w : World) : Opens Try.prog w 22 (Kd.slice 5 (Kd.int .u8)) (fun x => x.length ≤ maxLen ∧ ∀ b ∈ x, 0 ≤ b ∧ b ≤ 255) := by
 have l := opens_slice (d := Kd.int .u8) (w := w) Try.underlying22 (opens_u8 (w := w) Try.underlying5) (by kernel_rfl)
 exact opens_imp l (fun _ h => ⟨h.2, h.1⟩)
end Go.Proofs.Ytkafbmanmffliaa.Op

/- A survey that came in as an argument: its value and what its sights' cells hold. -/
namespace Go.Proofs.Ytkafbmanmffliaa.Op
open Go.RowKit Go.ChangeShapes Go.WideShapes Go.ChangeAt YtkafbmanmffliaaW.PrintWords Q
abbrev kSurvey : Kd (Int × List S121) := Kd.pair (Kd.int .i64) (Kd.slice 121 k121)
theorem opens_survey (w : World) : Opens Try.prog w 42 kSurvey (fun x => x.2.length ≤ maxLen) := by
 have i := opens_imp (opens_i64 (w := w) Try.underlying2) (Ok' := fun _ => True) (fun _ _ => trivial)
 have s := opens_iso (d := Kd.pair (Kd.int .i64) (Kd.pair (Kd.int .i64) (Kd.pair (Kd.int .i64) (Kd.int .i64)))) (f := fun x : S121 => (x.f0, x.f1, x.f2, x.f3)) (fun a => ⟨a.1, a.2.1, a.2.2.1, a.2.2.2⟩) (fun _ => rfl)
  (opens_struct (w := w) Try.underlying121 (by kernel_rfl) (opensL_cons i rfl (by kernel_rfl) (opensL_cons i rfl (by kernel_rfl) (opensL_cons i rfl (by kernel_rfl) (opensL_one i rfl (by kernel_rfl))))))
 have l := opens_slice (d := k121) (w := w) Try.underlying40 s (by kernel_rfl)
 exact opens_imp (opens_struct (w := w) Try.underlying42 (by kernel_rfl) (opensL_cons i rfl (by kernel_rfl) (opensL_one l rfl (by kernel_rfl)))) (fun _ h => h.2.2)
theorem survey_open {w : World} {x : Int × List S121} {cs : List Value} (h : kSurvey.K w x cs) : ∃ A c, cs = [.int .i64 x.1, .slice A x.2.length c] ∧ x.2.length ≤ c ∧ Kd.C k121 w A x.2.length x.2 := by
 obtain ⟨_, _, rfl, rfl, A, c, rfl, hl, hr⟩ := h
 exact ⟨A, c, rfl, hl, hr⟩
end Go.Proofs.Ytkafbmanmffliaa.Op

