/- Parts of the proof that the law of this seat holds: Q117, Q90, Q109, Q118, Q119, Q120, PuYTa, PuRy, PuRz, RyH, Op, Wt, Ts. -/
import Derived.Test.YtibaiaenfeppcaaGreatDoorGRYpa
import Derived.Test.YtibaiaenfeppcaaGreatDoorGRYpb
import Derived.Lib.Join
import Derived.Test.YtibaiaenfeppcaaGreatDoorGRYw
import Derived.WalkKit
import Derived.ProofKit
import Derived.OpenShut
import Derived.ShutString
import Derived.ChangeOld
import Derived.Below
import Derived.SizedLaws
import Derived.Lay
import Derived.Deep.DeepHandedRow
import Derived.Test.YtibaiaenfeppcaaGreatDoorRows
import Derived.Lib.LaidTab
import Derived.Stop.LaidErr
set_option linter.unusedVariables false
set_option linter.unusedSimpArgs false
-- made by a patched copy of print.sh: this session's own
namespace Go.Proofs.YtibaiaenfeppcaaGreatDoor.Q
open Go.RowKit Go.Proofs.YtibaiaenfeppcaaGreatDoorW.PrintWords Go.Proofs.YtibaiaenfeppcaaGreatDoorW.PrintLast Go.Proofs.YtibaiaenfeppcaaGreatDoorW.PrintMore
attribute [local go_sem] max2_int min2_int max_two min_two max_three min_three max_four min_four   -- for this text's walks alone
set_option linter.unusedVariables false
set_option linter.unusedSimpArgs false

/-! ### strings_Join: function 58 -/
def strings_Join.f (l0 : List (ByteArray)) (a1 : ByteArray) : Option (ByteArray) := if (Lib.join (l0.map (·.data.toList)) a1.data.toList).length ≤ 140737488355328 ∧ l0.length ≤ 140737488355328 then some ⟨(Lib.join (l0.map (·.data.toList)) a1.data.toList).toArray⟩ else none
end Go.Proofs.YtibaiaenfeppcaaGreatDoor.Q

-- made by a patched copy of print.sh: this session's own
namespace Go.Proofs.YtibaiaenfeppcaaGreatDoor.Q
open Go.RowKit Go.Proofs.YtibaiaenfeppcaaGreatDoorW.PrintWords Go.Proofs.YtibaiaenfeppcaaGreatDoorW.PrintLast Go.Proofs.YtibaiaenfeppcaaGreatDoorW.PrintMore
attribute [local go_sem] max2_int min2_int max_two min_two max_three min_three max_four min_four   -- for this text's walks alone
set_option linter.unusedVariables false
set_option linter.unusedSimpArgs false

/-! ### impl_areWithin: function 51 -/
def impl_areWithin.f (l0 : List Int) (a1 : Int) (a2 : Int) : Option (Bool) := some (Ha.areIn l0 a1 a2)
end Go.Proofs.YtibaiaenfeppcaaGreatDoor.Q

-- made by a patched copy of print.sh: this session's own
namespace Go.Proofs.YtibaiaenfeppcaaGreatDoor.Q
open Go.RowKit Go.Proofs.YtibaiaenfeppcaaGreatDoorW.PrintWords Go.Proofs.YtibaiaenfeppcaaGreatDoorW.PrintLast Go.Proofs.YtibaiaenfeppcaaGreatDoorW.PrintMore
attribute [local go_sem] max2_int min2_int max_two min_two max_three min_three max_four min_four   -- for this text's walks alone
set_option linter.unusedVariables false
set_option linter.unusedSimpArgs false

/-! ### impl_isList: function 73 -/
def impl_isList.f (l0 : List Int) : Option (Bool) := if (l0.length : Int) ≤ 64 then ((impl_areWithin.f l0 (-1000000000) 1000000000).bind fun t425 => (some t425)) else (some false)
end Go.Proofs.YtibaiaenfeppcaaGreatDoor.Q

-- made by a patched copy of print.sh: this session's own
namespace Go.Proofs.YtibaiaenfeppcaaGreatDoor.Q
open Go.RowKit Go.Proofs.YtibaiaenfeppcaaGreatDoorW.PrintWords Go.Proofs.YtibaiaenfeppcaaGreatDoorW.PrintLast Go.Proofs.YtibaiaenfeppcaaGreatDoorW.PrintMore
attribute [local go_sem] max2_int min2_int max_two min_two max_three min_three max_four min_four   -- for this text's walks alone
set_option linter.unusedVariables false
set_option linter.unusedSimpArgs false

/-! ### impl_decimals: function 74 -/
def impl_decimals.l0 : Nat → ByteArray → List ByteArray → List Int → Int → Int → Option (ByteArray)
  | 0, _, _, _, _, _ => none
  | k + 1, x1, x5, x9, x10, x11 => if x11 < x10 then (if 0 ≤ x11 then (if x11 < (x9.length : Int) then ((impl_Decimal.f (rd x9 x11)).bind fun t430 => (if x5.length < 8796093022208 then (impl_decimals.l0 k x1 (x5 ++ [t430]) x9 x10 (wrap64 (x11 + 1))) else (none))) else (none)) else (none)) else ((strings_Join.f x5 x1).bind fun t434 => (some t434))
def impl_decimals.f (k : Nat) (l0 : List Int) (a1 : ByteArray) : Option (ByteArray) := impl_decimals.l0 k a1 (([] : List ByteArray)) l0 (l0.length : Int) 0
end Go.Proofs.YtibaiaenfeppcaaGreatDoor.Q

-- made by a patched copy of print.sh: this session's own
namespace Go.Proofs.YtibaiaenfeppcaaGreatDoor.Q
open Go.RowKit Go.Proofs.YtibaiaenfeppcaaGreatDoorW.PrintWords Go.Proofs.YtibaiaenfeppcaaGreatDoorW.PrintLast Go.Proofs.YtibaiaenfeppcaaGreatDoorW.PrintMore
attribute [local go_sem] max2_int min2_int max_two min_two max_three min_three max_four min_four   -- for this text's walks alone
set_option linter.unusedVariables false
set_option linter.unusedSimpArgs false

/-! ### impl_ListText: function 56 -/
def impl_ListText.f (k : Nat) (l0 : List Int) : Option (ByteArray × Bool) := (impl_isList.f l0).bind fun t435 => (if t435 = true then (if (l0.length : Int) = 0 then (some ((⟨#[45]⟩ : ByteArray), true)) else ((impl_decimals.f k l0 (⟨#[44]⟩ : ByteArray)).bind fun t436 => (some (t436, true)))) else (some ((⟨#[]⟩ : ByteArray), false)))
end Go.Proofs.YtibaiaenfeppcaaGreatDoor.Q

-- made by a patched copy of print.sh: this session's own
namespace Go.Proofs.YtibaiaenfeppcaaGreatDoor.Q
open Go.RowKit Go.Proofs.YtibaiaenfeppcaaGreatDoorW.PrintWords Go.Proofs.YtibaiaenfeppcaaGreatDoorW.PrintLast Go.Proofs.YtibaiaenfeppcaaGreatDoorW.PrintMore
attribute [local go_sem] max2_int min2_int max_two min_two max_three min_three max_four min_four   -- for this text's walks alone
set_option linter.unusedVariables false
set_option linter.unusedSimpArgs false

/-! ### impl_yardText: function 34 -/
def impl_yardText.l0 : Nat → List ByteArray → List (List Int) → Int → Int → Int → List (List Int) → Option (ByteArray)
  | 0, _, _, _, _, _, _ => none
  | k + 1, x3, x10, x11, x12, x438000, x438001 => if x12 < x11 then (if 0 ≤ x12 then (if x12 < (x10.length : Int) then ((impl_ListText.f k (rd_L2 x10 x12)).bind fun bt442 => (if x3.length < 8796093022208 then (impl_yardText.l0 k (x3 ++ [bt442.1]) x10 x11 (wrap64 (x12 + 1)) x438000 x438001) else (none))) else (none)) else (none)) else ((impl_Decimal.f x438000).bind fun t447 => (if t447.size + 1 ≤ 9223372036854775807 then ((strings_Join.f x3 (⟨#[124]⟩ : ByteArray)).bind fun t448 => (if (t447 ++ (⟨#[58]⟩ : ByteArray)).size + t448.size ≤ 9223372036854775807 then (some ((t447 ++ (⟨#[58]⟩ : ByteArray)) ++ t448)) else (none))) else (none)))
def impl_yardText.f (k : Nat) (a0_0 : Int) (l0_1 : List (List Int)) : Option (ByteArray) := impl_yardText.l0 k (([] : List ByteArray)) l0_1 (l0_1.length : Int) 0 a0_0 l0_1
end Go.Proofs.YtibaiaenfeppcaaGreatDoor.Q

/- Plain: the text of a yard, by both sides. -/
namespace Go.Proofs.YtibaiaenfeppcaaGreatDoor.PuYT
open Go.RowKit Go.Proofs.YtibaiaenfeppcaaGreatDoorW.PrintWords Go.Proofs.YtibaiaenfeppcaaGreatDoor.Q Go.Proofs.YtibaiaenfeppcaaGreatDoor.PuY Go.Proofs.YtibaiaenfeppcaaGreatDoor.PuD
set_option linter.unusedSimpArgs false
def ok64 (n : Int) : Prop := -1000000000 ≤ n ∧ n ≤ 1000000000
theorem lit1 (a : UInt8) : (⟨#[a]⟩ : ByteArray) = txt [a] := rfl
theorem ilen (n : Int) (h : ok64 n) : (Lib.itoa n).length ≤ 20 := by unfold ok64 at h; exact itoa_len n (by omega) (by omega)
theorem ldec (n : Int) (h : ok64 n) (k : Nat) (hk : 22 ≤ k) : spec_l01Dec.f k n = some (txt (Lib.itoa n)) := by unfold ok64 at h; exact l01Dec_any n (by omega) (by omega) k hk
/-- The parts behind the first, each with its sign ahead. -/
def tailT (s : UInt8) (r : List (List UInt8)) : List UInt8 := (r.map ([s] ++ ·)).flatten
theorem join_cons (x : List UInt8) (r : List (List UInt8)) (s : UInt8) : Lib.join (x :: r) [s] = x ++ tailT s r := Lib.join_cons x r [s]
theorem tail_drop (s : UInt8) {α : Type} (f : α → List UInt8) (l : List α) (i : Nat) (h : i < l.length) : tailT s ((l.drop i).map f) = [s] ++ f l[i] ++ tailT s ((l.drop (i + 1)).map f) := by
  rw [List.drop_eq_getElem_cons h]; unfold tailT; simp only [List.map_cons, List.flatten_cons, List.append_assoc]
def numsT (l : List Int) : List UInt8 := if l.length = 0 then [45] else Lib.join (l.map Lib.itoa) [44]
def yardT (h : Int) (xs : List (List Int)) : List UInt8 := Lib.itoa h ++ [58] ++ Lib.join (xs.map numsT) [124]
theorem tail_len (s : UInt8) (n : Nat) : ∀ r : List (List UInt8), (∀ x ∈ r, x.length ≤ n) → (tailT s r).length ≤ (n + 1) * r.length := by
  intro r
  induction r with
  | nil => intro _; simp [tailT]
  | cons a t ih =>
    intro h
    have h1 := ih (fun x hx => h x (by simp [hx]))
    have h2 := h a (by simp)
    have e : tailT s (a :: t) = [s] ++ a ++ tailT s t := by simp [tailT]
    rw [e]
    simp only [List.length_append, List.length_cons, List.length_nil, Nat.mul_add, Nat.mul_one]
    omega
theorem nums_len (l : List Int) (hl : l.length ≤ 4) (ho : ∀ x ∈ l, ok64 x) : (numsT l).length ≤ 200 := by
  unfold numsT
  cases l with
  | nil => simp
  | cons a t =>
    rw [if_neg (by simp), List.map_cons, join_cons, List.length_append]
    have h1 := ilen a (ho a (by simp))
    have h2 := tail_len 44 20 (t.map Lib.itoa) (fun x hx => by obtain ⟨y, hy, rfl⟩ := List.mem_map.1 hx; exact ilen y (ho y (by simp [hy])))
    rw [List.length_map] at h2
    have h3 : t.length ≤ 3 := by simpa using hl
    omega
/-! the reference -/
theorem specNums_loop (l : List Int) (hl : l.length ≤ 4) (ho : ∀ x ∈ l, ok64 x) : ∀ (d k i : Nat) (acc : List UInt8), i + d = l.length → d + 22 < k → acc.length ≤ 100 * (i + 1) →
    spec_l01Text.l0 k l (txt acc) (i : Int) = some (txt (acc ++ tailT 44 ((l.drop i).map Lib.itoa))) := by
  intro d
  induction d with
  | zero =>
    intro k i acc hi hk ha
    obtain ⟨k, rfl⟩ : ∃ m, k = m + 1 := ⟨k - 1, by omega⟩
    simp only [spec_l01Text.l0]
    rw [if_neg (by omega), List.drop_eq_nil_of_le (by omega)]
    simp [tailT]
  | succ d ih =>
    intro k i acc hi hk ha
    obtain ⟨k, rfl⟩ : ∃ m, k = m + 1 := ⟨k - 1, by omega⟩
    have hlt : i < l.length := by omega
    have hx := ho l[i] (List.getElem_mem hlt)
    have hx2 := ilen _ hx
    simp only [spec_l01Text.l0]
    rw [if_pos (by omega), if_pos (by omega), rd_at l i hlt, ldec _ hx k (by omega), Option.bind_some, lit1, txt_append, txt_append, txt_size, txt_size, txt_size]
    rw [if_pos (by omega), if_pos (by simp only [List.length_append, List.length_singleton]; omega), wrap_succ i (by omega)]
    rw [ih k (i + 1) _ (by omega) (by omega) (by simp only [List.length_append, List.length_singleton]; omega), tail_drop 44 Lib.itoa l i hlt]
    simp only [List.append_assoc]
theorem specNums_eq (l : List Int) (hl : l.length ≤ 4) (ho : ∀ x ∈ l, ok64 x) (k : Nat) (hk : 40 ≤ k) : spec_l01Text.f k l = some (txt (numsT l)) := by
  unfold spec_l01Text.f numsT
  cases l with
  | nil => simp; rfl
  | cons a t =>
    rw [if_neg (by simp; omega), if_pos (by rw [List.length_cons]; omega), if_neg (by simp), show rd (a :: t) 0 = a from rfl, ldec a (ho a (by simp)) k (by omega), Option.bind_some]
    have ht3 : t.length ≤ 3 := by simpa using hl
    have := specNums_loop (a :: t) hl ho t.length k 1 (Lib.itoa a) (by rw [List.length_cons]; omega) (by omega) (by have := ilen a (ho a (by simp)); omega)
    rw [show ((1 : Nat) : Int) = 1 from rfl] at this
    rw [this, List.map_cons, join_cons]; rfl
theorem specRows_loop (h : Int) (xs : List (List Int)) (hl : xs.length ≤ 4) (hr : ∀ r ∈ xs, r.length ≤ 4 ∧ ∀ x ∈ r, ok64 x) : ∀ (d k i : Nat) (acc : List UInt8), 0 < i → i + d = xs.length → d + 50 < k → acc.length ≤ 1000 * (i + 1) →
    spec_l09Text.l0 k (txt acc) (i : Int) h xs = some (txt (acc ++ tailT 124 ((xs.drop i).map numsT)), h) := by
  intro d
  induction d with
  | zero =>
    intro k i acc h0 hi hk ha
    obtain ⟨k, rfl⟩ : ∃ m, k = m + 1 := ⟨k - 1, by omega⟩
    simp only [spec_l09Text.l0]
    rw [if_neg (by omega), List.drop_eq_nil_of_le (by omega)]
    simp [tailT]
  | succ d ih =>
    intro k i acc h0 hi hk ha
    obtain ⟨k, rfl⟩ : ∃ m, k = m + 1 := ⟨k - 1, by omega⟩
    have hlt : i < xs.length := by omega
    obtain ⟨q1, q2⟩ := hr xs[i] (List.getElem_mem hlt)
    have hx2 := nums_len _ q1 q2
    simp only [spec_l09Text.l0]
    rw [if_pos (by omega), if_pos (by omega), txt_size, if_pos (by omega), if_pos (by omega), rdL_at xs i hlt, specNums_eq _ q1 q2 k (by omega), Option.bind_some, lit1, txt_append, txt_append, txt_size, txt_size]
    rw [if_pos (by simp only [List.length_append, List.length_singleton]; omega), wrap_succ i (by omega)]
    rw [ih k (i + 1) _ (by omega) (by omega) (by omega) (by simp only [List.length_append, List.length_singleton]; omega), tail_drop 124 numsT xs i hlt]
    simp only [List.append_assoc]
theorem specYardText (h : Int) (hh : ok64 h) (xs : List (List Int)) (h0 : 0 < xs.length) (hl : xs.length ≤ 4) (hr : ∀ r ∈ xs, r.length ≤ 4 ∧ ∀ x ∈ r, ok64 x) (k : Nat) (hk : 100 ≤ k) : spec_l09Text.f k h xs = some (txt (yardT h xs), h) := by
  have hi := ilen h hh
  obtain ⟨k, rfl⟩ : ∃ m, k = m + 1 := ⟨k - 1, by omega⟩
  cases xs with
  | nil => simp at h0
  | cons a t =>
    obtain ⟨q1, q2⟩ := hr a (by simp)
    have hx2 := nums_len _ q1 q2
    have ht : t.length ≤ 3 := by simpa using hl
    unfold spec_l09Text.f
    rw [ldec h hh _ (by omega), Option.bind_some, txt_size, if_pos (by omega), lit1, txt_append]
    simp only [spec_l09Text.l0]
    rw [if_pos (by rw [List.length_cons]; omega), if_neg (by decide), if_pos (by decide), show rd_L2 (a :: t) 0 = a from rfl, specNums_eq a q1 q2 k (by omega), Option.bind_some, txt_append, txt_size, txt_size]
    rw [if_pos (by simp only [List.length_append, List.length_singleton]; omega), show wrap64 (0 + 1) = ((1 : Nat) : Int) by unfold wrap64; omega]
    rw [specRows_loop h (a :: t) hl hr t.length k 1 _ (by omega) (by rw [List.length_cons]; omega) (by omega) (by simp only [List.length_append, List.length_singleton]; omega)]
    unfold yardT
    rw [List.map_cons, join_cons]
    simp
/-! the program -/
/-! valid yards -/
theorem parts {h : Int} {xs : List (List Int)} (hv : Yv.valid h xs = true) : ok64 h ∧ 0 < xs.length ∧ xs.length ≤ 4 ∧ ∀ r ∈ xs, r.length ≤ 4 ∧ ∀ x ∈ r, ok64 x := by
  unfold Yv.valid Ha.inB Ha.areIn at hv
  simp only [Bool.and_eq_true, decide_eq_true_eq, List.all_eq_true] at hv
  obtain ⟨⟨a1, a2⟩, ⟨b1, b2⟩, c, d, e, f⟩ := hv
  refine ⟨⟨by omega, by omega⟩, by omega, by omega, fun r hr => ⟨by have := c r hr; omega, fun x hx => ?_⟩⟩
  have := f x (List.mem_flatten.2 ⟨r, hr, hx⟩)
  unfold Ha.inB at this
  simp at this
  unfold ok64; omega
end Go.Proofs.YtibaiaenfeppcaaGreatDoor.PuYT

/- Plain: both sides' readings of a yard are one: the byte lists' reading. -/
namespace Go.Proofs.YtibaiaenfeppcaaGreatDoor.PuRy
open Go.RowKit Go.Proofs.YtibaiaenfeppcaaGreatDoorW.PrintWords Go.Proofs.YtibaiaenfeppcaaGreatDoor.Q Go.Proofs.YtibaiaenfeppcaaGreatDoor.Sp Go.Proofs.YtibaiaenfeppcaaGreatDoor.PuD Go.Proofs.YtibaiaenfeppcaaGreatDoor.PuV Go.Proofs.YtibaiaenfeppcaaGreatDoor.PuYT
set_option linter.unusedSimpArgs false
set_option linter.unusedVariables false
theorem extract_t (l : List UInt8) (a b : Nat) : (txt l).extract a b = txt ((l.take b).drop a) := by
  apply ByteArray.ext
  rw [ByteArray.data_extract]
  apply Array.toList_inj.1
  rw [Array.toList_extract]
  show List.extract l a b = (l.take b).drop a
  rw [List.extract_eq_take_drop, List.drop_take]
theorem bt_t (l : List UInt8) (i : Nat) (h : i < l.length) : bt (txt l) (i : Int) = (l[i].toNat : Int) := by
  have h1 : (i : Int).toNat < (txt l).size := by rw [txt_size]; omega
  unfold bt
  rw [dif_pos h1]
  rfl
theorem ws (i : Nat) (h : i ≤ 2000000) : wrap64 ((i : Int) + 1) = ((i + 1 : Nat) : Int) := by unfold wrap64; omega
abbrev rd9 (w : List UInt8) : Int × Bool := readL w (-1000000000) 1000000000
/-! pieces -/
/-- The piece from a place to another. -/
def pc (L : List UInt8) (a b : Nat) : List UInt8 := (L.drop a).take (b - a)
theorem ex_pc (L : List UInt8) (a b : Nat) (x y : Int) (hx : x = (a : Int)) (hy : y = (b : Int)) (hab : a ≤ b) : (txt L).extract x.toNat y.toNat = txt (pc L a b) := by
  subst hx hy
  rw [Int.toNat_natCast, Int.toNat_natCast, extract_t]
  unfold pc
  rw [List.drop_take]
theorem pc_succ (L : List UInt8) (a b : Nat) (hab : a ≤ b) (hb : b < L.length) : pc L a (b + 1) = pc L a b ++ [L[b]] := by
  unfold pc
  rw [show b + 1 - a = (b - a) + 1 by omega, List.take_add_one]
  rw [List.getElem?_drop, show a + (b - a) = b by omega, List.getElem?_eq_getElem hb]; rfl
theorem pc_len (L : List UInt8) (a b : Nat) : (pc L a b).length ≤ L.length := by
  unfold pc; rw [List.length_take, List.length_drop]; omega
theorem pc_self (L : List UInt8) (a : Nat) : pc L a a = [] := by unfold pc; simp
theorem split_at (c : UInt8) (L : List UInt8) (a b : Nat) (hab : a ≤ b) (hb : b < L.length) (hc : L[b] = c) (hn : c ∉ pc L a b) : split1 c (L.drop a) = pc L a b :: split1 c (L.drop (b + 1)) := by
  have e : L.drop a = pc L a b ++ c :: L.drop (b + 1) := by
    unfold pc
    have h1 : (L.drop a).drop (b - a) = L.drop b := by rw [List.drop_drop]; congr 1; omega
    have h2 := List.take_append_drop (b - a) (L.drop a)
    rw [h1, List.drop_eq_getElem_cons hb, hc] at h2
    exact h2.symm
  rw [e, split1_some c _ _ hn]
theorem split_end (c : UInt8) (L : List UInt8) (a : Nat) (ha : a ≤ L.length) (hn : c ∉ pc L a L.length) : split1 c (L.drop a) = [pc L a L.length] := by
  have e : L.drop a = pc L a L.length := by unfold pc; rw [List.take_of_length_le (by rw [List.length_drop]; omega)]
  rw [e, split1_none c _ hn]
theorem split_ne (c : UInt8) (l : List UInt8) : split1 c l ≠ [] := by
  cases l with
  | nil => simp [split1]
  | cons b r =>
    unfold split1
    split
    · simp
    · split <;> simp
theorem join_split (c : UInt8) (l : List UInt8) : Lib.join (split1 c l) [c] = l := by
  induction l with
  | nil => simp [split1, Lib.join, List.intercalate]
  | cons b r ih =>
    unfold split1
    split
    · rename_i h
      subst h
      cases hs : split1 b r with
      | nil => exact absurd hs (split_ne b r)
      | cons w t =>
        rw [hs, PuYT.join_cons] at ih
        rw [PuYT.join_cons]
        unfold tailT at ih ⊢
        rw [List.map_cons, List.flatten_cons, ← ih]; simp
    · cases hs : split1 c r with
      | nil => exact absurd hs (split_ne c r)
      | cons w t =>
        rw [hs, PuYT.join_cons] at ih
        simp only
        rw [PuYT.join_cons, ← ih]; simp
theorem split_count (c : UInt8) (l : List UInt8) : (split1 c l).length ≤ l.length + 1 := by
  induction l with
  | nil => simp [split1]
  | cons b r ih =>
    unfold split1
    split
    · simp only [List.length_cons]; omega
    · split
      · simp
      · rename_i h; rw [h] at ih; simp only [List.length_cons] at ih ⊢; omega
theorem split_len (c : UInt8) (l : List UInt8) : ∀ w ∈ split1 c l, w.length ≤ l.length := by
  induction l with
  | nil => simp [split1]
  | cons b r ih =>
    unfold split1
    split
    · intro w hw
      rcases List.mem_cons.1 hw with rfl | h
      · simp
      · have := ih w h; simp only [List.length_cons]; omega
    · split
      · intro w hw
        obtain rfl : w = [b] := by simpa using hw
        simp
      · rename_i v vs h
        rw [h] at ih
        intro w hw
        rcases List.mem_cons.1 hw with rfl | h2
        · have := ih v (by simp); simp only [List.length_cons]; omega
        · have := ih w (by simp [h2]); simp only [List.length_cons]; omega
/-! a list's numbers -/
/-- The reference: no more than 64. -/
def go64 : List Int → List (List UInt8) → List Int × Bool
  | acc, [] => (acc, true)
  | acc, w :: r => if (rd9 w).2 = true then (if acc.length = 64 then ([], false) else go64 (acc ++ [(rd9 w).1]) r) else ([], false)
def goAll : List Int → List (List UInt8) → List Int × Bool
  | acc, [] => (acc, true)
  | acc, w :: r => if (rd9 w).2 = true then goAll (acc ++ [(rd9 w).1]) r else ([], false)
theorem goAll_len : ∀ (r : List (List UInt8)) (acc : List Int), (goAll acc r).2 = true → (goAll acc r).1.length = acc.length + r.length := by
  intro r
  induction r with
  | nil => intro acc _; simp [goAll]
  | cons w t ih =>
    intro acc h
    unfold goAll at h ⊢
    split at h
    · rename_i h1
      rw [if_pos h1, ih _ h]; simp; omega
    · cases h
theorem go64_all : ∀ (r : List (List UInt8)) (acc : List Int), acc.length ≤ 64 → go64 acc r = if (goAll acc r).2 = true then (if ((goAll acc r).1.length : Int) > 64 then ([], false) else ((goAll acc r).1, true)) else ([], false) := by
  intro r
  induction r with
  | nil =>
    intro acc h
    show (acc, true) = if true = true then (if (acc.length : Int) > 64 then (([] : List Int), false) else (acc, true)) else ([], false)
    rw [if_pos rfl, if_neg (by omega)]
  | cons w t ih =>
    intro acc h
    unfold go64
    by_cases h1 : (rd9 w).2 = true
    · rw [if_pos h1]
      by_cases h2 : acc.length = 64
      · rw [if_pos h2]
        by_cases h3 : (goAll acc (w :: t)).2 = true
        · have := goAll_len _ _ h3
          rw [if_pos h3, if_pos (by rw [this, List.length_cons]; omega)]
        · rw [if_neg h3]
      · rw [if_neg h2, ih _ (by simp; omega)]
        have e : goAll acc (w :: t) = goAll (acc ++ [(rd9 w).1]) t := by rw [goAll, if_pos h1]
        rw [e]
    · rw [if_neg h1]
      have e : goAll acc (w :: t) = ([], false) := by rw [goAll, if_neg h1]
      rw [e, if_neg (by decide)]
/-- The list of a word. -/
def listP (w : List UInt8) : List Int × Bool := if w = [45] then ([], true) else go64 [] (split1 44 w)
theorem toList_eq (a b : List UInt8) : ((txt a).toList = (txt b).toList) = (a = b) := by rw [ByteArray.toList_eq, ByteArray.toList_eq]; simp [txt]
theorem toList_lit (a b : List UInt8) : ((txt a).toList = b) = (a = b) := by rw [ByteArray.toList_eq]; simp [txt]
theorem numLoop (L : List UInt8) (hL : L.length ≤ 1048576) : ∀ (d k i from_ : Nat) (acc : List Int), i + d = L.length → from_ ≤ i → 44 ∉ pc L from_ i → acc.length ≤ 64 → 2 * d + 100 ≤ k →
    spec_l01Numbers.l0 k (txt L) acc (from_ : Int) (i : Int) = some (go64 acc (split1 44 (L.drop from_))) := by
  intro d
  induction d with
  | zero =>
    intro k i f acc hi hf hn ha hk
    obtain ⟨k, rfl⟩ : ∃ m, k = m + 1 + 1 := ⟨k - 2, by omega⟩
    obtain rfl : i = L.length := by omega
    have hv := value_eq (pc L f L.length) (by have := pc_len L f L.length; omega) k (by omega)
    simp only [spec_l01Numbers.l0, txt_size]
    rw [if_pos (by omega), if_neg (by omega)]
    simp only [spec_l01Numbers.j1, txt_size]
    rw [if_neg (by decide), if_pos (by omega), if_pos (by omega), if_pos (by omega), ex_pc L f L.length _ _ rfl rfl hf, hv, Option.bind_some, split_end 44 L f hf hn, go64]
    by_cases h1 : (rd9 (pc L f L.length)).2 = true
    · rw [if_pos h1, if_pos h1]
      by_cases h2 : acc.length = 64
      · rw [if_pos (by omega), if_pos h2]
      · rw [if_neg (by omega), if_neg h2, if_pos (by omega), ws _ (by omega)]
        obtain ⟨k, rfl⟩ : ∃ m, k = m + 1 := ⟨k - 1, by omega⟩
        simp only [spec_l01Numbers.l0, txt_size]
        rw [if_neg (by omega), go64]
    · rw [if_neg h1, if_neg h1]
  | succ d ih =>
    intro k i f acc hi hf hn ha hk
    obtain ⟨k, rfl⟩ : ∃ m, k = m + 1 + 1 := ⟨k - 2, by omega⟩
    have hlt : i < L.length := by omega
    simp only [spec_l01Numbers.l0, txt_size]
    rw [if_pos (by omega), if_pos (by omega), if_pos (by omega), bt_t L i hlt]
    by_cases hb : L[i] = 44
    · have e : (((L[i].toNat : Int)) != 44) = false := by rw [hb]; rfl
      have hv := value_eq (pc L f i) (by have := pc_len L f i; omega) k (by omega)
      rw [e]
      simp only [spec_l01Numbers.j1, txt_size]
      rw [if_neg (by decide), if_pos (by omega), if_pos (by omega), if_pos (by omega), ex_pc L f i _ _ rfl rfl hf, hv, Option.bind_some, split_at 44 L f i hf hlt hb hn, go64]
      by_cases h1 : (rd9 (pc L f i)).2 = true
      · rw [if_pos h1, if_pos h1]
        by_cases h2 : acc.length = 64
        · rw [if_pos (by omega), if_pos h2]
        · rw [if_neg (by omega), if_neg h2, if_pos (by omega), ws _ (by omega), ih k (i + 1) (i + 1) _ (by omega) (by omega) (by rw [pc_self]; simp) (by simp; omega) (by omega)]
      · rw [if_neg h1, if_neg h1]
    · have e : (((L[i].toNat : Int)) != 44) = true := by
        rw [bne_iff_ne]
        intro h
        exact hb (UInt8.toNat_inj.1 (by have : (44 : UInt8).toNat = 44 := rfl
                                        omega))
      rw [e]
      simp only [spec_l01Numbers.j1]
      rw [if_pos trivial, ws _ (by omega), ih k (i + 1) f acc (by omega) (by omega) (by rw [pc_succ L f i hf hlt]; simp [hn]; exact fun h => hb h.symm) ha (by omega)]
theorem specList (L : List UInt8) (hL : L.length ≤ 1048576) (k : Nat) (hk : 2 * L.length + 100 ≤ k) : spec_l01Numbers.f k (txt L) = some (listP L) := by
  unfold spec_l01Numbers.f listP
  have t := toList_lit L [45]
  by_cases h : L = [45]
  · rw [if_pos (Eq.mpr t h), if_pos h]
  · rw [if_neg (fun hh => h (Eq.mp t hh)), if_neg h]
    have := numLoop L hL L.length k 0 0 [] (by omega) (by omega) (by rw [pc_self]; simp) (by simp) hk
    rw [List.drop_zero] at this
    exact this
theorem readIn_eq (w : List UInt8) (h : w.length ≤ 1048576) (lo hi : Int) : impl_readIn.f (txt w) lo hi = some (readL w lo hi) := by
  unfold impl_readIn.f
  rw [txt_size, if_pos (by omega)]
  simp [txt]
theorem split_eq (c : UInt8) (L : List UInt8) (hL : L.length ≤ 1048576) : strings_Split.f (txt L) (⟨#[c]⟩ : ByteArray) = some ((split1 c L).map txt) := by
  unfold strings_Split.f
  simp only
  rw [txt_size, if_pos (by omega)]
  simp [txt]; exact fun _ _ => rfl
theorem cut_eq' (c : UInt8) (L : List UInt8) (hL : L.length ≤ 1048576) : strings_Cut.f (txt L) (⟨#[c]⟩ : ByteArray) = some (txt (cut1 c L).1, txt (cut1 c L).2.1, (cut1 c L).2.2) := by
  unfold strings_Cut.f
  simp only
  rw [txt_size, if_pos (by omega)]
  simp [txt]; exact ⟨rfl, rfl⟩
theorem rd_str (l : List (List UInt8)) (i : Nat) (h : i < l.length) : rdOf ByteArray.empty (l.map txt) (i : Int) = txt l[i] := by
  simp [rdOf, h]
theorem allLoop (l : List (List UInt8)) (hl : l.length ≤ 1048577) (hw : ∀ w ∈ l, w.length ≤ 1048576) : ∀ (d k i : Nat) (acc : List Int), i + d = l.length → d < k → acc.length ≤ i →
    impl_readAll.l0 k (-1000000000) 1000000000 acc (l.map txt) ((l.map txt).length : Int) (i : Int) = some (goAll acc (l.drop i)) := by
  intro d
  induction d with
  | zero =>
    intro k i acc hi hk ha
    obtain ⟨k, rfl⟩ : ∃ m, k = m + 1 := ⟨k - 1, by omega⟩
    simp only [impl_readAll.l0, List.length_map]
    rw [if_neg (by omega), List.drop_eq_nil_of_le (by omega), goAll]
  | succ d ih =>
    intro k i acc hi hk ha
    obtain ⟨k, rfl⟩ : ∃ m, k = m + 1 := ⟨k - 1, by omega⟩
    have hlt : i < l.length := by omega
    have ih' := fun acc' ha' => ih k (i + 1) acc' (by omega) (by omega) ha'
    simp only [List.length_map] at ih' ⊢
    simp only [impl_readAll.l0, List.length_map]
    rw [if_pos (by omega), if_pos (by omega), if_pos (by omega), rd_str l i hlt, readIn_eq _ (hw _ (List.getElem_mem hlt)), Option.bind_some, List.drop_eq_getElem_cons hlt, goAll]
    by_cases h1 : (rd9 l[i]).2 = true
    · rw [if_pos h1, if_pos h1, if_pos (by omega), ws _ (by omega), ih' _ (by simp; omega)]
    · rw [if_neg h1, if_neg h1]
theorem implList (L : List UInt8) (hL : L.length ≤ 1048576) (k : Nat) (hk : L.length + 100 ≤ k) : impl_ReadList.f k (txt L) = some (listP L) := by
  unfold impl_ReadList.f listP
  have t := toList_lit L [45]
  by_cases h : L = [45]
  · rw [if_pos (Eq.mpr t h), if_pos h]
  · rw [if_neg (fun hh => h (Eq.mp t hh)), if_neg h]
    have hc := split_count 44 L
    have := allLoop (split1 44 L) (by omega) (fun w hw => by have := split_len 44 L w hw; omega) (split1 44 L).length k 0 [] (by omega) (by omega) (by simp)
    rw [List.drop_zero, show ((0 : Nat) : Int) = 0 from rfl] at this
    unfold impl_readAll.f
    rw [split_eq 44 L hL, Option.bind_some, this, Option.bind_some, go64_all _ _ (by simp)]
    split
    · split <;> rfl
    · rfl
end Go.Proofs.YtibaiaenfeppcaaGreatDoor.PuRy

/- Plain: both sides' ReadYard hand back the same, and no more than little. -/
namespace Go.Proofs.YtibaiaenfeppcaaGreatDoor.PuRy
open Go.RowKit Go.Proofs.YtibaiaenfeppcaaGreatDoorW.PrintWords Go.Proofs.YtibaiaenfeppcaaGreatDoor.Q Go.Proofs.YtibaiaenfeppcaaGreatDoor.Sp Go.Proofs.YtibaiaenfeppcaaGreatDoor.PuY Go.Proofs.YtibaiaenfeppcaaGreatDoor.PuD Go.Proofs.YtibaiaenfeppcaaGreatDoor.PuV Go.Proofs.YtibaiaenfeppcaaGreatDoor.PuYT
set_option linter.unusedSimpArgs false
set_option linter.unusedVariables false
/-! rows -/
/-- The reference: no more than 4. -/
def goR : List (List Int) → List (List UInt8) → Option (List (List Int))
  | acc, [] => some acc
  | acc, w :: r => if (listP w).2 = true then (if acc.length = 4 then none else goR (acc ++ [(listP w).1]) r) else none
def goB : List (List Int) → List (List UInt8) → Option (List (List Int))
  | acc, [] => some acc
  | acc, w :: r => if (listP w).2 = true then goB (acc ++ [(listP w).1]) r else none
theorem goB_len : ∀ (r : List (List UInt8)) (acc xs : List (List Int)), goB acc r = some xs → xs.length = acc.length + r.length := by
  intro r
  induction r with
  | nil => intro acc xs h; simp only [goB, Option.some.injEq] at h; subst h; simp
  | cons w t ih =>
    intro acc xs h
    unfold goB at h
    split at h
    · rw [ih _ _ h]; simp; omega
    · cases h
theorem goR_eq : ∀ (r : List (List UInt8)) (acc : List (List Int)), acc.length ≤ 4 → goR acc r = (goB acc r).bind fun xs => if xs.length ≤ 4 then some xs else none := by
  intro r
  induction r with
  | nil => intro acc h; simp only [goR, goB, Option.bind_some]; rw [if_pos h]
  | cons w t ih =>
    intro acc h
    unfold goR
    by_cases h1 : (listP w).2 = true
    · have e : goB acc (w :: t) = goB (acc ++ [(listP w).1]) t := by rw [goB, if_pos h1]
      rw [if_pos h1, e]
      by_cases h2 : acc.length = 4
      · rw [if_pos h2]
        cases hg : goB (acc ++ [(listP w).1]) t with
        | none => rfl
        | some xs =>
          have := goB_len _ _ _ hg
          rw [List.length_append, List.length_singleton] at this
          rw [Option.bind_some, if_neg (by omega)]
      · rw [if_neg h2, ih _ (by simp; omega)]
    · have e : goB acc (w :: t) = none := by rw [goB, if_neg h1]
      rw [if_neg h1, e]; rfl
/-! numbers and words are one another's texts -/
theorem rd9_text {w : List UInt8} (h : (rd9 w).2 = true) : w = Lib.itoa (rd9 w).1 ∧ ok64 (rd9 w).1 := by
  rcases readL_cases w (-1000000000) 1000000000 with e | ⟨n, h1, e⟩
  · change rd9 w = _ at e; rw [e] at h; cases h
  · change rd9 w = _ at e; rw [e]; exact ⟨h1.1, h1.2⟩
theorem goAll_text : ∀ (r : List (List UInt8)) (acc : List Int), (goAll acc r).2 = true → (goAll acc r).1.map Lib.itoa = acc.map Lib.itoa ++ r := by
  intro r
  induction r with
  | nil => intro acc _; simp [goAll]
  | cons w t ih =>
    intro acc h
    unfold goAll at h ⊢
    split at h
    · rename_i h1
      rw [if_pos h1, ih _ h, List.map_append, List.map_cons, List.map_nil, ← (rd9_text h1).1]; simp
    · cases h
theorem listP_text {w : List UInt8} (h : (listP w).2 = true) : numsT (listP w).1 = w := by
  unfold listP at h ⊢
  by_cases h0 : w = [45]
  · rw [if_pos h0, h0]; rfl
  · rw [if_neg h0, go64_all _ _ (by simp)] at h ⊢
    by_cases h1 : (goAll [] (split1 44 w)).2 = true
    · have ht := goAll_text _ _ h1
      have hl := goAll_len _ _ h1
      rw [if_pos h1] at h ⊢
      by_cases h2 : ((goAll [] (split1 44 w)).1.length : Int) > 64
      · rw [if_pos h2] at h; cases h
      · rw [if_neg h2]
        unfold numsT
        have hn : 0 < (split1 44 w).length := by
          cases hs : split1 44 w with
          | nil => exact absurd hs (split_ne 44 w)
          | cons a t => simp
        rw [if_neg (show ¬ (goAll [] (split1 44 w)).1.length = 0 by simp only [List.length_nil] at hl; omega)]
        rw [List.map_nil, List.nil_append] at ht
        rw [ht, join_split]
    · rw [if_neg h1] at h; cases h
theorem goB_text : ∀ (r : List (List UInt8)) (acc xs : List (List Int)), goB acc r = some xs → xs.map numsT = acc.map numsT ++ r := by
  intro r
  induction r with
  | nil => intro acc xs h; simp only [goB, Option.some.injEq] at h; subst h; simp
  | cons w t ih =>
    intro acc xs h
    unfold goB at h
    split at h
    · rename_i h1
      rw [ih _ _ h, List.map_append, List.map_cons, List.map_nil, listP_text h1]; simp
    · cases h
/-! the program -/
/-- What the program hands back behind its loop. -/
def finB (f ok : Bool) (h : Int) (r : Option (List (List Int))) : Int × List (List Int) × Bool := match r with
  | none => (0, [], false)
  | some xs => if f = true ∧ ok = true ∧ Yv.valid h xs = true then (h, xs, true) else (0, [], false)
theorem implLoop (f ok : Bool) (h0 : Int) (l : List (List UInt8)) (hl : l.length ≤ 1048577) (hw : ∀ w ∈ l, w.length ≤ 1048576) : ∀ (d k i : Nat) (acc : List (List Int)), i + d = l.length → d + 2000000 < k → acc.length ≤ i →
    impl_ReadYard.l0 k f ok (l.map txt) ((l.map txt).length : Int) (i : Int) h0 acc = some (finB f ok h0 (goB acc (l.drop i))) := by
  intro d
  induction d with
  | zero =>
    intro k i acc hi hk ha
    obtain ⟨k, rfl⟩ : ∃ m, k = m + 1 := ⟨k - 1, by omega⟩
    simp only [impl_ReadYard.l0, List.length_map, impl_ValidYard.f, Option.bind_some]
    rw [if_neg (by omega), List.drop_eq_nil_of_le (by omega), goB]
    unfold finB
    cases f <;> cases ok <;> simp
    split <;> simp_all
  | succ d ih =>
    intro k i acc hi hk ha
    obtain ⟨k, rfl⟩ : ∃ m, k = m + 1 := ⟨k - 1, by omega⟩
    have hlt : i < l.length := by omega
    have hwl := hw l[i] (List.getElem_mem hlt)
    have ih' := fun acc' ha' => ih k (i + 1) acc' (by omega) (by omega) ha'
    simp only [List.length_map] at ih' ⊢
    simp only [impl_ReadYard.l0, List.length_map]
    rw [if_pos (by omega), if_pos (by omega), if_pos (by omega), rd_str l i hlt, implList _ hwl k (by omega), Option.bind_some, List.drop_eq_getElem_cons hlt, goB]
    by_cases h1 : (listP l[i]).2 = true
    · rw [if_pos h1, if_pos h1, if_pos (by omega), ws _ (by omega), ih' _ (by simp; omega)]
    · rw [if_neg h1, if_neg h1]; rfl
theorem implRead (L : List UInt8) (hL : L.length ≤ 1048576) (k : Nat) (hk : 4000000 ≤ k) :
    impl_ReadYard.f k (txt L) = some (finB (cut1 58 L).2.2 (rd9 (cut1 58 L).1).2 (rd9 (cut1 58 L).1).1 (goB [] (split1 124 (cut1 58 L).2.1))) := by
  have hc : (cut1 58 L).1.length ≤ 1048576 ∧ (cut1 58 L).2.1.length ≤ 1048576 := by
    by_cases h : (58 : UInt8) ∈ L
    · obtain ⟨p, q, rfl, hp⟩ := first_at 58 L h
      rw [cut1_some 58 p q hp]
      rw [List.length_append, List.length_cons] at hL
      exact ⟨by show p.length ≤ _; omega, by show q.length ≤ _; omega⟩
    · rw [cut1_none 58 L h]; exact ⟨hL, by simp⟩
  have hs := split_count 124 (cut1 58 L).2.1
  have := implLoop (cut1 58 L).2.2 (rd9 (cut1 58 L).1).2 (rd9 (cut1 58 L).1).1 (split1 124 (cut1 58 L).2.1) (by omega) (fun w hw => by have := split_len 124 _ w hw; omega) (split1 124 (cut1 58 L).2.1).length k 0 [] (by omega) (by omega) (by simp)
  rw [List.drop_zero, show ((0 : Nat) : Int) = 0 from rfl] at this
  unfold impl_ReadYard.f impl_ReadDecimal.f
  rw [cut_eq' 58 L hL, Option.bind_some]
  simp only
  rw [readIn_eq _ hc.1, Option.bind_some, Option.bind_some, split_eq 124 _ hc.2, Option.bind_some]
  exact this
/-! the reference -/
/-- What the reference hands back behind its loop. -/
def finS (L : List UInt8) (h : Int) (r : Option (List (List Int))) : Int × List (List Int) × Bool := match r with
  | none => (0, [], false)
  | some xs => if Yv.valid h xs = true ∧ yardT h xs = L then (h, xs, true) else (0, [], false)
theorem finS_some (L : List UInt8) (h : Int) (xs : List (List Int)) : finS L h (some xs) = if Yv.valid h xs = true ∧ yardT h xs = L then (h, xs, true) else (0, [], false) := rfl
theorem specEnd (L : List UInt8) (h : Int) (f : Int) (xs : List (List Int)) (hx : xs.length ≤ 4) (k : Nat) (hk : 300001 ≤ k) : spec_ReadYard.l1 k (txt L) f ((L.length + 1 : Nat) : Int) h xs = some (finS L h (some xs)) := by
  obtain ⟨k, rfl⟩ : ∃ m, k = m + 1 := ⟨k - 1, by omega⟩
  simp only [spec_ReadYard.l1, txt_size]
  rw [if_neg (by omega)]
  unfold yardB.f
  rw [finS_some, specYard_eq h xs (by omega) k (by omega), Option.bind_some, Option.bind_some]
  by_cases hv : Yv.valid h xs = true
  · obtain ⟨p1, p2, p3, p4⟩ := parts hv
    unfold yardT.f
    rw [if_pos hv, specYardText h p1 xs p2 p3 p4 k (by omega), Option.bind_some, Option.bind_some]
    have t := toList_eq (yardT h xs) L
    by_cases ht : yardT h xs = L
    · rw [if_pos (Eq.mpr t ht), if_pos ⟨hv, ht⟩]
    · rw [if_neg (fun hh => ht (Eq.mp t hh)), if_neg (fun hh => ht hh.2)]
  · rw [if_neg hv, if_neg (fun hh => hv hh.1)]
theorem rowLoop (L : List UInt8) (hL : L.length ≤ 1048576) (h : Int) : ∀ (d k i from_ : Nat) (acc : List (List Int)), i + d = L.length → from_ ≤ i → 124 ∉ pc L from_ i → acc.length ≤ 4 → 2 * d + 3000000 ≤ k →
    spec_ReadYard.l1 k (txt L) (from_ : Int) (i : Int) h acc = some (finS L h (goR acc (split1 124 (L.drop from_)))) := by
  intro d
  induction d with
  | zero =>
    intro k i f acc hi hf hn ha hk
    obtain ⟨k, rfl⟩ : ∃ m, k = m + 1 + 1 := ⟨k - 2, by omega⟩
    obtain rfl : i = L.length := by omega
    have hpl := pc_len L f L.length
    have hv := specList (pc L f L.length) (by omega) k (by omega)
    simp only [spec_ReadYard.l1, txt_size]
    rw [if_pos (by omega), if_neg (by omega)]
    simp only [spec_ReadYard.j3, txt_size]
    rw [if_neg (by decide), if_pos (by omega), if_pos (by omega), if_pos (by omega), ex_pc L f L.length _ _ rfl rfl hf, hv, Option.bind_some, split_end 124 L f hf hn, goR]
    by_cases h1 : (listP (pc L f L.length)).2 = true
    · rw [if_pos h1, if_pos h1]
      by_cases h2 : acc.length = 4
      · rw [if_pos (by omega), if_pos h2]; rfl
      · rw [if_neg (by omega), if_neg h2, if_pos (by omega), ws _ (by omega), specEnd L h _ _ (by simp; omega) k (by omega), goR]
    · rw [if_neg h1, if_neg h1]; rfl
  | succ d ih =>
    intro k i f acc hi hf hn ha hk
    obtain ⟨k, rfl⟩ : ∃ m, k = m + 1 + 1 := ⟨k - 2, by omega⟩
    have hlt : i < L.length := by omega
    simp only [spec_ReadYard.l1, txt_size]
    rw [if_pos (by omega), if_pos (by omega), if_pos (by omega), bt_t L i hlt]
    by_cases hb : L[i] = 124
    · have e : (((L[i].toNat : Int)) != 124) = false := by rw [hb]; rfl
      have hpl := pc_len L f i
      have hv := specList (pc L f i) (by omega) k (by omega)
      rw [e]
      simp only [spec_ReadYard.j3, txt_size]
      rw [if_neg (by decide), if_pos (by omega), if_pos (by omega), if_pos (by omega), ex_pc L f i _ _ rfl rfl hf, hv, Option.bind_some, split_at 124 L f i hf hlt hb hn, goR]
      by_cases h1 : (listP (pc L f i)).2 = true
      · rw [if_pos h1, if_pos h1]
        by_cases h2 : acc.length = 4
        · rw [if_pos (by omega), if_pos h2]; rfl
        · rw [if_neg (by omega), if_neg h2, if_pos (by omega), ws _ (by omega), ih k (i + 1) (i + 1) _ (by omega) (by omega) (by rw [pc_self]; simp) (by simp; omega) (by omega)]
      · rw [if_neg h1, if_neg h1]; rfl
    · have e : (((L[i].toNat : Int)) != 124) = true := by
        rw [bne_iff_ne]
        intro h
        exact hb (UInt8.toNat_inj.1 (by have : (124 : UInt8).toNat = 124 := rfl
                                        omega))
      rw [e]
      simp only [spec_ReadYard.j3]
      rw [if_pos trivial, ws _ (by omega), ih k (i + 1) f acc (by omega) (by omega) (by rw [pc_succ L f i hf hlt]; simp [hn]; exact fun h => hb h.symm) ha (by omega)]
/-- What the reference hands back of a text that is cut. -/
def resS (L : List UInt8) : Int × List (List Int) × Bool := if (cut1 58 L).2.2 = true then finS L (rd9 (cut1 58 L).1).1 (goR [] (split1 124 (cut1 58 L).2.1)) else (0, [], false)
theorem cutLoop (L : List UInt8) (hL : L.length ≤ 1048576) : ∀ (d k i : Nat), i + d = L.length → 58 ∉ L.take i → d + 6000000 ≤ k → spec_ReadYard.l0 k (txt L) (i : Int) = some (resS L) := by
  intro d
  induction d with
  | zero =>
    intro k i hi hn hk
    obtain ⟨k, rfl⟩ : ∃ m, k = m + 1 + 1 := ⟨k - 2, by omega⟩
    obtain rfl : i = L.length := by omega
    rw [List.take_length] at hn
    simp only [spec_ReadYard.l0, txt_size]
    rw [if_neg (by omega)]
    simp only [spec_ReadYard.j1, txt_size]
    rw [if_pos trivial]
    unfold resS
    rw [cut1_none 58 L hn, if_neg (show ¬ (false = true) by decide)]
  | succ d ih =>
    intro k i hi hn hk
    obtain ⟨k, rfl⟩ : ∃ m, k = m + 1 + 1 := ⟨k - 2, by omega⟩
    have hlt : i < L.length := by omega
    rw [spec_ReadYard.l0, txt_size, if_pos (by omega), if_pos (by omega), bt_t L i hlt]
    by_cases hb : L[i] = 58
    · have e : (L[i].toNat : Int) = 58 := by rw [hb]; rfl
      rw [if_pos e]
      simp only [spec_ReadYard.j1, txt_size]
      have hL2 : L = L.take i ++ 58 :: L.drop (i + 1) := by
        have h2 := List.take_append_drop i L
        rw [List.drop_eq_getElem_cons hlt, hb] at h2
        exact h2.symm
      have hcut : cut1 58 L = (L.take i, L.drop (i + 1), true) := by
        have := cut1_some 58 (L.take i) (L.drop (i + 1)) hn
        rw [← hL2] at this
        exact this
      have e0 : pc L 0 i = L.take i := by unfold pc; simp
      have hx := ex_pc L 0 i 0 (i : Int) rfl rfl (by omega)
      rw [show (0 : Int).toNat = 0 from rfl, e0] at hx
      have hv := value_eq (L.take i) (by rw [List.length_take]; omega) k (by omega)
      rw [if_neg (by omega), if_pos (by omega), if_pos (by omega), hx, hv, Option.bind_some, ws _ (by omega)]
      rw [rowLoop L hL _ (L.length - (i + 1)) k (i + 1) (i + 1) [] (by omega) (by omega) (by rw [pc_self]; simp) (by simp) (by omega)]
      unfold resS
      rw [hcut, if_pos rfl]
    · have hn2 : 58 ∉ L.take (i + 1) := by
        rw [List.take_add_one, List.getElem?_eq_getElem hlt]
        intro hm
        rcases List.mem_append.1 hm with h | h
        · exact hn h
        · have h2 : (58 : UInt8) = L[i] := by simpa using h
          exact hb h2.symm
      rw [if_neg (fun h => hb (UInt8.toNat_inj.1 (by have : (58 : UInt8).toNat = 58 := rfl
                                                     omega))), ws _ (by omega), ih (k + 1) (i + 1) (by omega) hn2 (by omega)]
theorem specRead (L : List UInt8) (hL : L.length ≤ 1048576) (k : Nat) (hk : 8000000 ≤ k) : spec_ReadYard.f k (txt L) = some (resS L) := by
  unfold spec_ReadYard.f
  exact cutLoop L hL L.length k 0 (by omega) (by simp) (by omega)
/-! one and the same -/
theorem same (L : List UInt8) : resS L = finB (cut1 58 L).2.2 (rd9 (cut1 58 L).1).2 (rd9 (cut1 58 L).1).1 (goB [] (split1 124 (cut1 58 L).2.1)) := by
  unfold resS
  by_cases h : (58 : UInt8) ∈ L
  · obtain ⟨p, q, rfl, hp⟩ := first_at 58 L h
    rw [cut1_some 58 p q hp, if_pos rfl, goR_eq _ _ (by simp)]
    show finS (p ++ 58 :: q) (rd9 p).1 ((goB [] (split1 124 q)).bind fun xs => if xs.length ≤ 4 then some xs else none) = finB true (rd9 p).2 (rd9 p).1 (goB [] (split1 124 q))
    cases hg : goB [] (split1 124 q) with
    | none => rfl
    | some xs =>
      rw [Option.bind_some]
      have ht := goB_text _ _ _ hg
      rw [List.map_nil, List.nil_append] at ht
      by_cases h4 : xs.length ≤ 4
      · rw [if_pos h4]
        unfold finS finB
        simp only
        by_cases hv : Yv.valid (rd9 p).1 xs = true
        · have hok : (rd9 p).2 = true := by
            rcases readL_cases p (-1000000000) 1000000000 with e | ⟨n, h1, e⟩
            · change rd9 p = _ at e
              rw [e] at hv
              unfold Yv.valid Ha.inB at hv
              simp at hv
            · change rd9 p = _ at e
              rw [e]
          have hy : yardT (rd9 p).1 xs = p ++ 58 :: q := by
            unfold yardT
            rw [ht, join_split, ← (rd9_text hok).1]; simp
          rw [if_pos ⟨hv, hy⟩, if_pos ⟨trivial, hok, hv⟩]
        · rw [if_neg (fun hh => hv hh.1), if_neg (fun hh => hv hh.2.2)]
      · rw [if_neg h4]
        unfold finS finB
        simp only
        rw [if_neg]
        rintro ⟨-, -, hv⟩
        exact h4 (parts hv).2.2.1
  · rw [cut1_none 58 L h, if_neg (show ¬ (false = true) by decide)]
    unfold finB
    cases goB [] (split1 124 (L, ([] : List UInt8), false).2.1) with
    | none => rfl
    | some xs => simp only; rw [if_neg (fun hh => by cases hh.1)]
theorem small (L : List UInt8) : Small (resS L).2.1 := by
  have key : ∀ h r, Small (finS L h r).2.1 := by
    intro h r
    unfold finS
    cases r with
    | none => exact ⟨by simp, by simp, fun r hr => by simp at hr⟩
    | some xs =>
      simp only
      by_cases hv : Yv.valid h xs = true ∧ yardT h xs = L
      · rw [if_pos hv]
        obtain ⟨p1, p2, p3, p4⟩ := parts hv.1
        have hf : xs.flatten.length ≤ 7 := by
          have := hv.1
          unfold Yv.valid Ha.inB Ha.areIn at this
          simp only [Bool.and_eq_true, decide_eq_true_eq, List.all_eq_true] at this
          obtain ⟨_, _, _, _, e, _⟩ := this
          omega
        exact ⟨by show xs.length ≤ _; omega, by show xs.flatten.length ≤ _; omega, fun r hr => by have := (p4 r hr).1; omega⟩
      · rw [if_neg hv]; exact ⟨by simp, by simp, fun r hr => by simp at hr⟩
  unfold resS
  split
  · exact key _ _
  · exact ⟨by simp, by simp, fun r hr => by simp at hr⟩
end Go.Proofs.YtibaiaenfeppcaaGreatDoor.PuRy

/- The law on ReadYard: both sides' hands, and the law for every text. -/
namespace Go.Proofs.YtibaiaenfeppcaaGreatDoor.RyH
open Go Go.RowKit Go.Proofs.YtibaiaenfeppcaaGreatDoorW.PrintWords Go.Proofs.YtibaiaenfeppcaaGreatDoor.Q Go.Proofs.YtibaiaenfeppcaaGreatDoor.PuD Go.Proofs.YtibaiaenfeppcaaGreatDoor.PuRy
theorem calls (a0 : ByteArray) (w : World) (hT : Tb.TC w) : Calls Tryz.prog 3 #[.string a0] w fun e w' => e = .returned (.bool true) ∧ Below w.heap.size w w' := by
  by_cases hs : (a0.size : Int) > 1048576
  · exact RyW.calls_big a0 hs w
  · have ha : a0 = txt a0.data.toList := by simp [txt]
    obtain ⟨L, hL⟩ : ∃ L, L = a0.data.toList := ⟨_, rfl⟩
    rw [← hL] at ha
    have hl : L.length ≤ 1048576 := by have := congrArg ByteArray.size ha; rw [txt_size] at this; omega
    have e1 := specRead L hl 8000000 (by decide)
    have e2 := implRead L hl 8000000 (by decide)
    have hsm := small L
    rw [← same L] at e2
    rw [← ha] at e1 e2
    obtain ⟨⟨h, ys, res⟩, hr⟩ : ∃ r, resS L = r := ⟨_, rfl⟩
    rw [hr] at e1 e2 hsm
    exact RyW.walk a0 h ys res w hT (spec_ReadYard.calls 8000000 a0 h ys res w e1) (fun W hW => impl_ReadYard.calls 8000000 a0 h ys res W hW e2) hsm hs
end Go.Proofs.YtibaiaenfeppcaaGreatDoor.RyH

/- How a value that came in is told by the kinds (Kd): what its reading as data says of its cells. -/
namespace Go.Proofs.YtibaiaenfeppcaaGreatDoor.Op
open Go.RowKit Go.ChangeShapes Go.WideShapes Go.ChangeAt Go.Proofs.YtibaiaenfeppcaaGreatDoorW.PrintWords

/-- Whatever can be read as a value of type t has cells that tell some a of kind d, of which Ok holds. -/
def Opens {α : Type} (P : Program) (w : World) (t : TypeId) (d : Kd α) (Ok : α → Prop) : Prop :=
  ∀ (H : Type) (enc : TypeId × Value → H) (fuel : Nat) (cs : List Value) (x : DataW H × List MemPlace), DataW.trod enc P w 0 (fun _ => true) true fuel t cs = some x → ∃ a, d.K w a cs ∧ Ok a

def In64 (n : Int) : Prop := -9223372036854775808 ≤ n ∧ n ≤ 9223372036854775807

variable {P : Program} {w : World} {t e : TypeId} {α β : Type} {d : Kd α} {d2 : Kd β} {Ok : α → Prop} {Ok2 : β → Prop}

theorem opens_i64 (ht : P.underlying t = some (.int .i64)) : Opens P w t (Kd.int .i64) In64 := by
  intro H enc fuel cs x h
  obtain ⟨n, rfl, _, hw⟩ := DataW.trod_int ht h
  refine ⟨n, rfl, ?_⟩
  have h2 := hw
  simp [Lit.wf, IntKind.min, IntKind.max, IntKind.signed, IntKind.bits] at h2
  exact h2

theorem opens_string (ht : P.underlying t = some .string) : Opens P w t Kd.string (fun s => s.size ≤ maxLen) := by
  intro H enc fuel cs x h
  obtain ⟨s, rfl, _, hw⟩ := DataW.trod_string ht h
  exact ⟨s, rfl, hw⟩

theorem mapM_cells {w : World} {a : Addr} : ∀ (n k : Nat) (cs : List Value), ((List.range' k n).mapM fun i => w.cell? (a.add i)) = some cs → cs.length = n ∧ ∀ i u, cs[i]? = some u → w.cell? (a.add (k + i)) = some u := by
  intro n
  induction n with
  | zero => intro k cs h; simp at h; subst h; simp
  | succ n ih =>
    intro k cs h
    rw [List.range'_succ, List.mapM_cons] at h
    simp only [bind, Option.bind_eq_some_iff, pure, Option.some.injEq] at h
    obtain ⟨u, hu, us, hus, rfl⟩ := h
    obtain ⟨h1, h2⟩ := ih (k + 1) us hus
    refine ⟨by simp [h1], ?_⟩
    intro i v hv
    cases i with
    | zero => simp at hv; subst hv; simpa using hu
    | succ i => rw [show k + (i + 1) = k + 1 + i by omega]; exact h2 i v (by simpa using hv)

theorem cells_get {w : World} {b n : Nat} {a : Addr} {cs : List Value} (h : w.cells? b a n = some cs) : cs.length = n ∧ ∀ i u, cs[i]? = some u → w.cell? (a.add i) = some u := by
  unfold World.cells? at h
  split at h
  · rw [List.range_eq_range'] at h
    obtain ⟨h1, h2⟩ := mapM_cells n 0 cs h
    exact ⟨h1, fun i u hu => by have := h2 i u hu; rwa [Nat.zero_add] at this⟩
  · simp at h

theorem choose_list {α : Type} {R : Nat → α → Prop} : ∀ n : Nat, (∀ j, j < n → ∃ a, R j a) → ∃ l : List α, l.length = n ∧ ∀ j a, l[j]? = some a → R j a := by
  intro n
  induction n with
  | zero => intro _; exact ⟨[], rfl, by simp⟩
  | succ n ih =>
    intro h
    obtain ⟨l, hl, hR⟩ := ih fun j hj => h j (by omega)
    obtain ⟨a, ha⟩ := h n (by omega)
    refine ⟨l ++ [a], by simp [hl], ?_⟩
    intro j b hb
    by_cases hj : j < n
    · rw [List.getElem?_append_left (by omega)] at hb; exact hR j b hb
    · rw [List.getElem?_append_right (by omega)] at hb
      have : j = n := by
        have := (List.getElem?_eq_some_iff.1 hb).1
        simp at this; omega
      subst this
      rw [hl, Nat.sub_self] at hb
      simp at hb; subst hb; exact ha

theorem add_add' (a : Addr) (i j : Nat) : (a.add i).add j = a.add (i + j) := by
  simp only [Addr.add]
  split <;> split <;> simp_all [Nat.add_assoc]

theorem opens_slice (ht : P.underlying t = some (.slice e)) (he : Opens P w e d Ok) (hs : d.sz = P.cellsOf e) : Opens P w t (Kd.slice e d) (fun xs => (∀ a ∈ xs, Ok a) ∧ xs.length ≤ maxLen) := by
  intro H enc fuel cs x h
  rcases DataW.trod_slice ht h with ⟨rfl, _⟩ | ⟨a, len, cap, elems, rest, n, _, rfl, _, _, hl, hm, hlen, hel, _, _⟩
  · exact ⟨[], ⟨none, 0, rfl, Nat.le_refl _, Kd.C_nil _ _⟩, by simp, by simp⟩
  · have each : ∀ j, j < len → ∃ b, (∃ c : List Value, c.length = d.sz ∧ d.K w b c ∧ ∀ i u, c[i]? = some u → w.cell? (a.add (j * d.sz + i)) = some u) ∧ Ok b := by
      intro j hj
      have h1 := hel j hj
      rw [List.getElem?_eq_getElem (by omega), Option.bind_eq_some_iff] at h1
      obtain ⟨c, hc, hx⟩ := h1
      obtain ⟨hcl, hcell⟩ := cells_get hc
      obtain ⟨b, hb, hok⟩ := he H enc n c _ hx
      refine ⟨b, ⟨c, by rw [hs, hcl], hb, fun i u hu => ?_⟩, hok⟩
      have := hcell i u hu
      rwa [add_add', ← hs] at this
    obtain ⟨l, hll, hR⟩ := choose_list len each
    have hm' : cap ≤ 9223372036854775807 := by unfold maxLen at hm; exact hm
    refine ⟨l, ⟨some a, cap, by rw [hll], by omega, by omega, by omega, fun _ => ⟨a, rfl, fun j p hp => (hR j p hp).1⟩⟩, fun b hb => ?_, by omega⟩
    obtain ⟨j, hj, rfl⟩ := List.getElem_of_mem hb
    exact (hR j _ (List.getElem?_eq_getElem hj)).2

/-- The same of a struct's fields from cell number off on. -/
def OpensL {α : Type} (P : Program) (w : World) (fs : List Field) (off : Nat) (d : Kd α) (Ok : α → Prop) : Prop :=
  ∀ (H : Type) (enc : TypeId × Value → H) (fuel : Nat) (cs : List Value), cs.length = off + d.sz → (∀ f ∈ fs, ∃ x, DataW.trod enc P w 0 (fun _ => true) true fuel f.type ((cs.drop f.offset).take (P.cellsOf f.type)) = some x) → ∃ a, d.K w a (cs.drop off) ∧ Ok a

theorem opensL_one {f : Field} {off : Nat} (hf : Opens P w f.type d Ok) (ho : f.offset = off) (hs : d.sz = P.cellsOf f.type) : OpensL P w [f] off d Ok := by
  intro H enc fuel cs hl h
  obtain ⟨x, hx⟩ := h f (by simp)
  rw [ho, List.take_of_length_le (by simp; omega)] at hx
  exact hf H enc fuel _ x hx

theorem opensL_cons {f : Field} {fs : List Field} {off : Nat} (hf : Opens P w f.type d Ok) (ho : f.offset = off) (hs : d.sz = P.cellsOf f.type) (hr : OpensL P w fs (off + d.sz) d2 Ok2) :
    OpensL P w (f :: fs) off (Kd.pair d d2) (fun x => Ok x.1 ∧ Ok2 x.2) := by
  intro H enc fuel cs hl h
  have hl' : cs.length = off + (d.sz + d2.sz) := hl
  obtain ⟨x, hx⟩ := h f (by simp)
  rw [ho, ← hs] at hx
  obtain ⟨a, ha, hoka⟩ := hf H enc fuel _ x hx
  obtain ⟨b, hb, hokb⟩ := hr H enc fuel cs (by omega) (fun g hg => h g (by simp [hg]))
  exact ⟨(a, b), ⟨(cs.drop off).take d.sz, cs.drop (off + d.sz), by rw [← List.drop_drop, List.take_append_drop], ha, hb⟩, hoka, hokb⟩

theorem opens_struct {fs : Array Field} (ht : P.underlying t = some (.struct fs)) (hs : d.sz = P.cellsOf t) (h : OpensL P w fs.toList 0 d Ok) : Opens P w t d Ok := by
  intro H enc fuel cs x hx
  obtain ⟨xs, n, _, _, hl, hxl, hf⟩ := DataW.trod_struct ht hx
  have := h H enc n cs (by omega) (fun f hfm => by
    obtain ⟨i, hi, rfl⟩ := List.getElem_of_mem hfm
    have hi' : i < fs.size := by simpa using hi
    have h1 := hf i fs[i] (Array.getElem?_eq_getElem hi')
    rw [List.getElem?_eq_getElem (by omega)] at h1
    exact ⟨_, by simpa using h1⟩)
  simpa using this

theorem opens_iso {f : β → α} (g : α → β) (hg : ∀ a, f (g a) = a) (h : Opens P w t d Ok) : Opens P w t (Kd.iso d f) (fun b => Ok (f b)) := by
  intro H enc fuel cs x hx
  obtain ⟨a, ha, hok⟩ := h H enc fuel cs x hx
  exact ⟨g a, by show d.K w (f (g a)) cs; rw [hg]; exact ha, by show Ok (f (g a)); rw [hg]; exact hok⟩

theorem opens_imp {Ok' : α → Prop} (h : Opens P w t d Ok) (hi : ∀ a, Ok a → Ok' a) : Opens P w t d Ok' := by
  intro H enc fuel cs x hx
  obtain ⟨a, ha, hok⟩ := h H enc fuel cs x hx
  exact ⟨a, ha, hi a hok⟩

/-- An argument that is a struct. -/
theorem open_struct_arg {H : Type} {enc : TypeId × Value → H} {fs : Array Field} {r : Reach} {base : Nat} {v : Value} {y : DataW H} {p : List MemPlace} (ht : P.underlying t = some (.struct fs)) (ho : Opens P w t d Ok) (hv : Value.okWide P w r base t v)
    (h : DataW.Trod enc P w 0 (fun _ => true) true t v y p) : ∃ a cs, v = .agg cs.toArray ∧ d.K w a cs ∧ Ok a := by
  obtain ⟨cs, rfl, _⟩ := okWide_struct ht hv
  obtain ⟨fuel, hf⟩ := h
  obtain ⟨a, ha, hok⟩ := ho H enc fuel _ _ hf
  exact ⟨a, cs.toList, by simp, by simpa [Value.cells] using ha, hok⟩
/-- An argument that is a slice. -/
theorem open_slice_arg {H : Type} {enc : TypeId × Value → H} {r : Reach} {base : Nat} {v : Value} {y : DataW H} {p : List MemPlace} {Ok' : List α → Prop} (ht : P.underlying t = some (.slice e)) (ho : Opens P w t (Kd.slice e d) Ok') (hv : Value.okWide P w r base t v)
    (h : DataW.Trod enc P w 0 (fun _ => true) true t v y p) : ∃ (A : Option Addr) (c : Nat) (l : List α), v = .slice A l.length c ∧ l.length ≤ c ∧ d.C w A l.length l ∧ Ok' l := by
  obtain ⟨a, len, cap, rfl⟩ := okWide_slice ht hv
  obtain ⟨fuel, hf⟩ := h
  obtain ⟨l, ⟨A, c, hc, hl, hr⟩, hok⟩ := ho H enc fuel _ _ hf
  simp [Value.cells] at hc
  obtain ⟨rfl, rfl, rfl⟩ := hc
  exact ⟨_, _, l, rfl, hl, hr, hok⟩
end Go.Proofs.YtibaiaenfeppcaaGreatDoor.Op

/- The witness of a row that lists variables, at a world whose shape is seen in one pass. -/
namespace Go.Proofs.YtibaiaenfeppcaaGreatDoor.Wt
open Go
theorem witness_row_zip {H : Type} {enc : TypeId × Value → H} {C : Checked} {os : Os} {f : FuncId} {fn : Func} {s : OpenSpec} {conds : List PathCond} {apart : Bool} {laid : List (String × DataW Unit)} (modest : Bool) (w0 : World) (args : Array Value) (hos : w0.os = os)
    (hv : (w0.forCall (fun _ _ => 0) ⟨#[], args, []⟩).variablesZipB C.prog = true)
    (hr : ((w0.forCall (fun _ _ => 0) ⟨#[], args, []⟩).heap.toList.drop C.prog.globals.size).take ((begin C.prog (fun _ _ => 0) default).world.heap.size - C.prog.globals.size) =
      (begin C.prog (fun _ _ => 0) default).world.heap.toList.drop C.prog.globals.size)
    (hok : Input.okWideB C.prog (w0.forCall (fun _ _ => 0) ⟨#[], args, []⟩) f ⟨#[], args, []⟩ = true)
    (hrow : s.preRow enc C.prog fn conds apart laid (w0.forCall (fun _ _ => 0) ⟨#[], args, []⟩).memory args) :
    ∃ (w : World) (tape : Tape) (i : Input), w.os = os ∧ (w.forCall tape i).Shaped C.prog ∧ i.vars = [] ∧ Input.okWide C.prog (w.forCall tape i) .any w.heap.size f i ∧
      s.preRow enc C.prog fn conds apart laid (w.forCall tape i).memory i.args ∧ ({ modest := modest } : Assume).holds C.prog (lone (Frame.enter C.prog f i.args .normal) [] (w.forCall tape i)) :=
  ⟨w0, fun _ _ => 0, ⟨#[], args, []⟩, hos, World.shaped_of_ZipB hv hr, (Input.okWide_of_okWideB (base := 0) hok).1, (Input.okWide_of_okWideB hok).2, hrow, by
    simp only [Assume.holds]
    exact ⟨by simp, by simp, fun _ => Modest.zero, by simp, by simp⟩⟩
end Go.Proofs.YtibaiaenfeppcaaGreatDoor.Wt

/- (with the errors) What a row's list of variables gives the walks. -/
namespace Go.Proofs.YtibaiaenfeppcaaGreatDoor.Ts
open Go.RowKit
theorem gPow : Tryz.prog.globalNamed "internal/strconv.uint64pow10" = some 5 := by kernel_rfl
theorem tb_of {a b : String × DataW Unit} {r : List (String × DataW Unit)} {W : World} (h : laidMet Tryz.prog (a :: b :: ("internal/strconv.uint64pow10", Rows.laid_internal_strconv_uint64pow10) :: r) W) (hsh : W.ShapedOpen Tryz.prog) : Tb.TB W := by
  refine ⟨?_, Tryz.laysM145.s1_3 W hsh⟩
  exact Lib.tabIs_of_head (rest := r) gPow (by kernel_rfl) Tryz.underlying163 Tryz.underlying76 (by kernel_rfl) (by kernel_rfl) h.tail.tail
theorem gSyn : Tryz.prog.globalNamed "strconv.ErrSyntax" = some 1 := by kernel_rfl
theorem gRan : Tryz.prog.globalNamed "strconv.ErrRange" = some 2 := by kernel_rfl
theorem gSynT : (Tryz.prog.globals[1]?).map (·.type) = some 88 := by kernel_rfl
theorem gRanT : (Tryz.prog.globals[2]?).map (·.type) = some 88 := by kernel_rfl
theorem star : "*" ++ "errors.errorString" = "*errors.errorString" := by decide
theorem rowE (u : TypeId) (h : Tryz.prog.typeName? 3 u = some "*errors.errorString") : u = 166 :=
  typeName_ptr_named (nm := "errors.errorString") (by rw [star]; kernel_rfl) (by kernel_rfl) (by decide) u (by rw [star]; exact h)
theorem tc_of {a b d : String × DataW Unit} {r : List (String × DataW Unit)} {W : World}
    (h : laidMet Tryz.prog (a :: b :: ("internal/strconv.uint64pow10", Rows.laid_internal_strconv_uint64pow10) :: d :: ("strconv.ErrRange", Rows.laid_strconv_ErrRange) :: ("strconv.ErrSyntax", Rows.laid_strconv_ErrSyntax) :: r) W) (hsh : W.ShapedOpen Tryz.prog) : Tb.TC W := by
  refine ⟨tb_of h hsh, ?_, ?_⟩
  · obtain ⟨a0, sa, hva, _, _, _⟩ := laid_sentinel h.tail.tail.tail.tail.tail gSyn gSynT Tryz.underlying88 rowE Tryz.underlying166 Tryz.underlying168 rfl rfl Tryz.underlying9 (by kernel_rfl) (by kernel_rfl)
    exact ⟨_, _, hva⟩
  · obtain ⟨a0, sa, hva, _, _, _⟩ := laid_sentinel h.tail.tail.tail.tail gRan gRanT Tryz.underlying88 rowE Tryz.underlying166 Tryz.underlying168 rfl rfl Tryz.underlying9 (by kernel_rfl) (by kernel_rfl)
    exact ⟨_, _, hva⟩
end Go.Proofs.YtibaiaenfeppcaaGreatDoor.Ts

