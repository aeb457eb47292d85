/- Parts of the proof that the law of this seat holds: Q0, Ha, Hb, Hc, Hd, Q22, Q34, Q35, Q36, Q14, Q16, Q27. -/
import Derived.Test.YtkkiagoacbhhjaaProg
import Derived.Below
import Derived.Deep.Draws
import Derived.Deep.AppendLies
import Derived.Maps.AppendAt
import Derived.OwnWalk
import Derived.Laws.BytesArg
import Derived.Laws.MakeOwn
import Derived.Laws.OwnMore
import Derived.Deep.OwnRows
import Derived.Tactics
import Derived.Lib.ConvBytes
import Derived.Laws.Slices
import Derived.WalkKit
import Derived.KernelRfl
import Derived.RowKit3
import Derived.Deep.LoopGhost
import Derived.Deep.QuietTactic
import Derived.BigQuiet
import Derived.WideLaws
import Derived.Deep.DeepCutAuto
import Derived.Deep.CutBlock
import Derived.Deep.RegionHeld3
import Derived.Laws.Rows
import Derived.Lib.AppendStr
import Derived.ArgAppend
import Derived.Laws.IdiomCopy
import Derived.OrdersHeld
import Derived.Laws.BitsLemmas
import Derived.RowKit
import Derived.Test.YtkkiagoacbhhjaaWWords
import Derived.Test.YtkkiagoacbhhjaaWLast
import Derived.Test.YtkkiagoacbhhjaaWTab
import Derived.Test.YtkkiagoacbhhjaaWFour
import Derived.Test.YtkkiagoacbhhjaaWQPut
import Derived.Test.YtkkiagoacbhhjaaWApart
import Derived.Test.YtkkiagoacbhhjaaWArr
import Derived.Test.YtkkiagoacbhhjaaWZeros
import Derived.Test.YtkkiagoacbhhjaaWFoot
import Derived.Test.YtkkiagoacbhhjaaWKept
import Derived.Test.YtkkiagoacbhhjaaWShare
import Derived.Test.YtkkiagoacbhhjaaWN
import Derived.Test.YtkkiagoacbhhjaaWFootNe
import Derived.Test.YtkkiagoacbhhjaaWAt
import Derived.Test.YtkkiagoacbhhjaaWEqStruct
import Derived.Test.YtkkiagoacbhhjaaWRepsOne
import Derived.Test.YtkkiagoacbhhjaaWInv
import Derived.Test.YtkkiagoacbhhjaaWInvWords
import Derived.Test.YtkkiagoacbhhjaaWGuard
import Derived.Test.YtkkiagoacbhhjaaWNEv
import Derived.Test.YtkkiagoacbhhjaaWMore
import Derived.Lib.Hide
import Derived.Outline
-- made by a patched copy of print.sh: this session's own
namespace Go.Proofs.Ytkkiagoacbhhjaa.Q
open Go.RowKit Go.Proofs.YtkkiagoacbhhjaaW.PrintWords Go.Proofs.YtkkiagoacbhhjaaW.PrintLast Go.Proofs.YtkkiagoacbhhjaaW.PrintMore
attribute [local go_sem] max2_int min2_int max_two min_two max_three min_three max_four min_four   -- for this text's walks alone
set_option linter.unusedVariables false
set_option linter.unusedSimpArgs false



def errW : Option Int → Value
  | none => .nilIface
  | some c => .iface 0 (.int .i64 c)
theorem errW_none : errW none = .nilIface := rfl
theorem errW_some (c : Int) : errW (some c) = .iface 0 (.int .i64 c) := rfl

theorem info2 : (Try.prog.info? 2).map (fun i => (i.zero, i.size, i.bytes)) = some (some (.int .i64 0), 1, 8) := by kernel_rfl
theorem info4 : (Try.prog.info? 4).map (fun i => (i.zero, i.size, i.bytes)) = some (some (.bool false), 1, 1) := by kernel_rfl
theorem info64 : (Try.prog.info? 64).map (fun i => (i.zero, i.size, i.bytes)) = some (some (.agg #[(.int .i64 0), (.int .i64 0), (.int .i64 0), (.int .i64 0)]), 4, 32) := by kernel_rfl
-- the values' own types
def rd_L1 (xs : List (List Int)) (i : Int) : (List Int) := xs.getD i.toNat ([] : List Int)
theorem at_L1 {w : World} {A : Option Addr} {n : Nat} {xs : List (List Int)} (h : Kd.C (Kd.slice 2 (Kd.int .i64)) w A n xs) (i : Int) (h0 : 0 ≤ i) (h1 : i < n) : ∃ ad A0 c0, A = some ad ∧ w.cell? (ad.add i.toNat) = some (.slice A0 (rd_L1 xs i).length c0) ∧ (rd_L1 xs i).length ≤ c0 ∧ (Kd.int .i64).C w A0 (rd_L1 xs i).length (rd_L1 xs i) := by
  obtain ⟨ad, c, e, _, hK, hc0⟩ := Kd.C_get h ([] : List Int) i h0 h1
  have hc : ∀ j u, c[j]? = some u → w.cell? (ad.add (i.toNat * 1 + j)) = some u := hc0
  obtain ⟨A0, c0, rfl, l0, g0⟩ := hK
  exact ⟨ad, A0, c0, e, by have hq := hc 0 _ rfl; rwa [Nat.mul_one, Nat.add_zero] at hq, l0, g0⟩

/-! #### struct type 78 -/
structure S78 where
  f0 : Int
  f1 : Int
  f2 : Int
  f3 : Int
def z78 : S78 := ⟨(0 : Int), (0 : Int), (0 : Int), (0 : Int)⟩
def k78 : Kd S78 := Kd.iso (Kd.pair (Kd.int .i64) (Kd.pair (Kd.int .i64) (Kd.pair (Kd.int .i64) (Kd.int .i64)))) (fun x : S78 => (x.f0, x.f1, x.f2, x.f3))
theorem k78_open {w : World} {x : S78} {cs : List Value} (h : k78.K w x cs) : cs = [.int .i64 x.f0, .int .i64 x.f1, .int .i64 x.f2, .int .i64 x.f3] := by
  obtain ⟨_, _, rfl, rfl, ⟨_, _, rfl, rfl, ⟨_, _, rfl, rfl, rfl⟩⟩⟩ := h
  exact rfl
theorem k78_openM {w : World} {base : Nat} {ok : Nat → Prop} {x : S78} {cs : List Value} (h : k78.M w base ok x cs) : cs = [.int .i64 x.f0, .int .i64 x.f1, .int .i64 x.f2, .int .i64 x.f3] := by
  obtain ⟨_, _, rfl, rfl, ⟨_, _, rfl, rfl, ⟨_, _, rfl, rfl, rfl⟩⟩⟩ := h
  exact rfl
theorem k78_mk (w : World) (x : S78)  : k78.K w x [.int .i64 x.f0, .int .i64 x.f1, .int .i64 x.f2, .int .i64 x.f3] := ⟨[.int .i64 x.f0], [.int .i64 x.f1, .int .i64 x.f2, .int .i64 x.f3], rfl, rfl, ⟨[.int .i64 x.f1], [.int .i64 x.f2, .int .i64 x.f3], rfl, rfl, ⟨[.int .i64 x.f2], [.int .i64 x.f3], rfl, rfl, rfl⟩⟩⟩
theorem k78_mkM (w : World) (base : Nat) (ok : Nat → Prop) (x : S78)  : k78.M w base ok x [.int .i64 x.f0, .int .i64 x.f1, .int .i64 x.f2, .int .i64 x.f3] := ⟨[.int .i64 x.f0], [.int .i64 x.f1, .int .i64 x.f2, .int .i64 x.f3], rfl, rfl, ⟨[.int .i64 x.f1], [.int .i64 x.f2, .int .i64 x.f3], rfl, rfl, ⟨[.int .i64 x.f2], [.int .i64 x.f3], rfl, rfl, rfl⟩⟩⟩
def rd_T78 (xs : List S78) (i : Int) : S78 := xs.getD i.toNat z78
theorem at_T78 {w : World} {A : Option Addr} {n : Nat} {xs : List S78} (h : Kd.C k78 w A n xs) (i : Int) (h0 : 0 ≤ i) (h1 : i < n) : ∃ ad , A = some ad ∧ w.cell? (ad.add (i.toNat * 4)) = some (.int .i64 (rd_T78 xs i).f0) ∧ w.cell? ⟨(ad.add (i.toNat * 4)).block, (ad.add (i.toNat * 4)).off + 1, none⟩ = some (.int .i64 (rd_T78 xs i).f1) ∧ w.cell? ⟨(ad.add (i.toNat * 4)).block, (ad.add (i.toNat * 4)).off + 2, none⟩ = some (.int .i64 (rd_T78 xs i).f2) ∧ w.cell? ⟨(ad.add (i.toNat * 4)).block, (ad.add (i.toNat * 4)).off + 3, none⟩ = some (.int .i64 (rd_T78 xs i).f3) := by
  obtain ⟨ad, c, e, _, hK, hc0⟩ := Kd.C_get h z78 i h0 h1
  have hc : ∀ j u, c[j]? = some u → w.cell? (ad.add (i.toNat * 4 + j)) = some u := hc0
  obtain rfl := k78_open hK
  exact ⟨ad, e, hc 0 _ rfl, by rw [← add_field _ _ 1 (by omega)]; exact hc 1 _ rfl, by rw [← add_field _ _ 2 (by omega)]; exact hc 2 _ rfl, by rw [← add_field _ _ 3 (by omega)]; exact hc 3 _ rfl⟩

/-! #### struct type 64 -/
structure S64 where
  f0 : Int
  f1 : Int
  f2 : Int
  f3 : Int
def z64 : S64 := ⟨(0 : Int), (0 : Int), (0 : Int), (0 : Int)⟩
def k64 : Kd S64 := Kd.iso (Kd.pair (Kd.int .i64) (Kd.pair (Kd.int .i64) (Kd.pair (Kd.int .i64) (Kd.int .i64)))) (fun x : S64 => (x.f0, x.f1, x.f2, x.f3))
theorem k64_open {w : World} {x : S64} {cs : List Value} (h : k64.K w x cs) : cs = [.int .i64 x.f0, .int .i64 x.f1, .int .i64 x.f2, .int .i64 x.f3] := by
  obtain ⟨_, _, rfl, rfl, ⟨_, _, rfl, rfl, ⟨_, _, rfl, rfl, rfl⟩⟩⟩ := h
  exact rfl
theorem k64_openM {w : World} {base : Nat} {ok : Nat → Prop} {x : S64} {cs : List Value} (h : k64.M w base ok x cs) : cs = [.int .i64 x.f0, .int .i64 x.f1, .int .i64 x.f2, .int .i64 x.f3] := by
  obtain ⟨_, _, rfl, rfl, ⟨_, _, rfl, rfl, ⟨_, _, rfl, rfl, rfl⟩⟩⟩ := h
  exact rfl
theorem k64_mk (w : World) (x : S64)  : k64.K w x [.int .i64 x.f0, .int .i64 x.f1, .int .i64 x.f2, .int .i64 x.f3] := ⟨[.int .i64 x.f0], [.int .i64 x.f1, .int .i64 x.f2, .int .i64 x.f3], rfl, rfl, ⟨[.int .i64 x.f1], [.int .i64 x.f2, .int .i64 x.f3], rfl, rfl, ⟨[.int .i64 x.f2], [.int .i64 x.f3], rfl, rfl, rfl⟩⟩⟩
theorem k64_mkM (w : World) (base : Nat) (ok : Nat → Prop) (x : S64)  : k64.M w base ok x [.int .i64 x.f0, .int .i64 x.f1, .int .i64 x.f2, .int .i64 x.f3] := ⟨[.int .i64 x.f0], [.int .i64 x.f1, .int .i64 x.f2, .int .i64 x.f3], rfl, rfl, ⟨[.int .i64 x.f1], [.int .i64 x.f2, .int .i64 x.f3], rfl, rfl, ⟨[.int .i64 x.f2], [.int .i64 x.f3], rfl, rfl, rfl⟩⟩⟩
def rd_T64 (xs : List S64) (i : Int) : S64 := xs.getD i.toNat z64
theorem at_T64 {w : World} {A : Option Addr} {n : Nat} {xs : List S64} (h : Kd.C k64 w A n xs) (i : Int) (h0 : 0 ≤ i) (h1 : i < n) : ∃ ad , A = some ad ∧ w.cell? (ad.add (i.toNat * 4)) = some (.int .i64 (rd_T64 xs i).f0) ∧ w.cell? ⟨(ad.add (i.toNat * 4)).block, (ad.add (i.toNat * 4)).off + 1, none⟩ = some (.int .i64 (rd_T64 xs i).f1) ∧ w.cell? ⟨(ad.add (i.toNat * 4)).block, (ad.add (i.toNat * 4)).off + 2, none⟩ = some (.int .i64 (rd_T64 xs i).f2) ∧ w.cell? ⟨(ad.add (i.toNat * 4)).block, (ad.add (i.toNat * 4)).off + 3, none⟩ = some (.int .i64 (rd_T64 xs i).f3) := by
  obtain ⟨ad, c, e, _, hK, hc0⟩ := Kd.C_get h z64 i h0 h1
  have hc : ∀ j u, c[j]? = some u → w.cell? (ad.add (i.toNat * 4 + j)) = some u := hc0
  obtain rfl := k64_open hK
  exact ⟨ad, e, hc 0 _ rfl, by rw [← add_field _ _ 1 (by omega)]; exact hc 1 _ rfl, by rw [← add_field _ _ 2 (by omega)]; exact hc 2 _ rfl, by rw [← add_field _ _ 3 (by omega)]; exact hc 3 _ rfl⟩

def rd_L4 (xs : List (List S64)) (i : Int) : (List S64) := xs.getD i.toNat ([] : List S64)
theorem at_L4 {w : World} {A : Option Addr} {n : Nat} {xs : List (List S64)} (h : Kd.C (Kd.slice 64 k64) w A n xs) (i : Int) (h0 : 0 ≤ i) (h1 : i < n) : ∃ ad A0 c0, A = some ad ∧ w.cell? (ad.add i.toNat) = some (.slice A0 (rd_L4 xs i).length c0) ∧ (rd_L4 xs i).length ≤ c0 ∧ k64.C w A0 (rd_L4 xs i).length (rd_L4 xs i) := by
  obtain ⟨ad, c, e, _, hK, hc0⟩ := Kd.C_get h ([] : List S64) i h0 h1
  have hc : ∀ j u, c[j]? = some u → w.cell? (ad.add (i.toNat * 1 + j)) = some u := hc0
  obtain ⟨A0, c0, rfl, l0, g0⟩ := hK
  exact ⟨ad, A0, c0, e, by have hq := hc 0 _ rfl; rwa [Nat.mul_one, Nat.add_zero] at hq, l0, g0⟩

end Go.Proofs.Ytkkiagoacbhhjaa.Q

namespace Go.Proofs.Ytkkiagoacbhhjaa.Ha
open Go.RowKit Go.Proofs.YtkkiagoacbhhjaaW.PrintWords Go.Proofs.YtkkiagoacbhhjaaW.PrintLast Go.Proofs.YtkkiagoacbhhjaaW.PrintMore

theorem ret_bool {a b : Bool} (h : a = b) : Ending.returned (.bool a) = .returned (.bool b) := by rw [h]
theorem ret_int {k : IntKind} {a b : Int} (h : a = b) : Ending.returned (.int k a) = .returned (.int k b) := by rw [h]

def inB (lo hi n : Int) : Bool := decide (lo ≤ n) && decide (n ≤ hi)

theorem within_any (n lo hi : Int) (w : World) :
    Calls Try.prog 39 #[.int .i64 n, .int .i64 lo, .int .i64 hi] w fun e w' => e = .returned (.bool (inB lo hi n)) ∧ w' = w := by
  by_cases h : lo ≤ n
  · go_enter Try.func39, Try.ntmps39
    go_wp2
    go_ret
    exact ⟨ret_bool (by simp [inB, h]), rfl⟩
  · have h' : decide (lo ≤ n) = false := by simpa using h
    go_enter Try.func39, Try.ntmps39
    go_wp2
    go_ret
    exact ⟨ret_bool (by simp [inB]; omega), rfl⟩

theorem lit1_any (n lo hi : Int) (b1 b2 : Nat) (w : World) (h1 : w.cell? ⟨b1, 0, none⟩ = some (.int .i64 lo)) (h2 : w.cell? ⟨b2, 0, none⟩ = some (.int .i64 hi)) :
    Calls Try.prog 61 #[.int .i64 n, .pointer (some ⟨b1, 0, none⟩), .pointer (some ⟨b2, 0, none⟩)] w fun e w' => e = .returned (.bool (!inB lo hi n)) ∧ w' = w := by
  go_enter Try.func61, Try.ntmps61
  go_wp2_with (go_at_call 39; refine (within_any _ _ _ _).mono ?_; rintro e w' ⟨rfl, rfl⟩)
  go_ret
  exact ⟨rfl, rfl⟩

def idxOf (p : Int → Bool) : List Int → Int → Int
  | [], _ => -1
  | x :: xs, k => if p x then k else idxOf p xs (k + 1)

theorem idx_any (lo hi : Int) (b1 b2 : Nat) (A : Option Addr) (c : Nat) (l : List Int) (w : World) (h1 : w.cell? ⟨b1, 0, none⟩ = some (.int .i64 lo)) (h2 : w.cell? ⟨b2, 0, none⟩ = some (.int .i64 hi))
    (hr : Kd.C (Kd.int .i64) w A l.length l) :
    Calls Try.prog 68 #[.slice A l.length c, .func (.func 61) #[] #[.pointer (some ⟨b1, 0, none⟩), .pointer (some ⟨b2, 0, none⟩)]] w fun e w' => e = .returned (.int .i64 (idxOf (fun n => !inB lo hi n) l 0)) ∧ w' = w := by
  have hlen : l.length ≤ 9223372036854775807 := hr.2.1
  go_enter Try.func68, Try.ntmps68
  go_wp2
  go_loop [8, 5] (fun i _ => ∃ k : Nat, k ≤ l.length ∧ i = .int .i64 k ∧ idxOf (fun n => !inB lo hi n) l 0 = idxOf (fun n => !inB lo hi n) (l.drop k) k) (fun i _ => l.length - (intOf i).toNat)
  case atStart => exact ⟨0, by omega, rfl, by simp⟩
  case round =>
    obtain ⟨k, hk, rfl, hi⟩ := hrel
    have HI := Lib.hid hi
    clear hi
    by_cases hlt : k < l.length
    · obtain ⟨ad, rfl, hc⟩ := Kd.at_int hr (k : Int) (by omega) (by omega)
      have hc' : w.cell? (ad.add k) = some (.int .i64 (rd l k)) := by simpa using hc
      have hd : l.drop k = rd l k :: l.drop (k + 1) := by rw [List.drop_eq_getElem_cons hlt]; simp [rd, hlt]
      have HD := Lib.hid hd
      clear hd
      by_cases hin : inB lo hi (rd l k) = true
      · go_wp2_with (go_at_call 61; refine (lit1_any _ _ _ _ _ _ h1 h2).mono ?_; rintro e w' ⟨rfl, rfl⟩)
        go_round
        case rel => exact ⟨k + 1, by omega, by go_num, by rw [HI.out, HD.out]; simp [idxOf, hin]⟩
        case measure => simp [intOf]; omega
      · have hin' : inB lo hi (rd l k) = false := by simpa using hin
        clear hin
        go_wp2_with (go_at_call 61; refine (lit1_any _ _ _ _ _ _ h1 h2).mono ?_; rintro e w' ⟨rfl, rfl⟩)
        go_ret
        exact ⟨ret_int (by rw [HI.out, HD.out]; simp [idxOf, hin']), rfl⟩
    · go_wp2
      go_ret
      have : k = l.length := by omega
      subst this
      exact ⟨ret_int (by rw [HI.out]; simp [idxOf]), rfl⟩

theorem idxOf_neg (p : Int → Bool) (l : List Int) (k : Int) (hk : 0 ≤ k) : decide (idxOf p l k ≥ 0) = l.any p := by
  induction l generalizing k with
  | nil => simp [idxOf]
  | cons x xs ih =>
    by_cases h : p x = true
    · simp [idxOf, h, hk]
    · simp only [idxOf, h]; simp [ih (k + 1) (by omega), h]

theorem contains_any (lo hi : Int) (b1 b2 : Nat) (A : Option Addr) (c : Nat) (l : List Int) (w : World) (h1 : w.cell? ⟨b1, 0, none⟩ = some (.int .i64 lo)) (h2 : w.cell? ⟨b2, 0, none⟩ = some (.int .i64 hi))
    (hr : Kd.C (Kd.int .i64) w A l.length l) :
    Calls Try.prog 60 #[.slice A l.length c, .func (.func 61) #[] #[.pointer (some ⟨b1, 0, none⟩), .pointer (some ⟨b2, 0, none⟩)]] w fun e w' => e = .returned (.bool (l.any fun n => !inB lo hi n)) ∧ w' = w := by
  have HR := Lib.hid (idxOf_neg (fun n => !inB lo hi n) l 0 (by omega))
  go_enter Try.func60, Try.ntmps60
  go_wp2_with (go_at_call 68; refine (idx_any _ _ _ _ _ _ _ _ h1 h2 hr).mono ?_; rintro e w' ⟨rfl, rfl⟩)
  go_ret
  exact ⟨ret_bool HR.out, rfl⟩

def areIn (l : List Int) (lo hi : Int) : Bool := l.all fun n => inB lo hi n

theorem areIn_any (l : List Int) (lo hi : Int) : (!l.any fun n => !inB lo hi n) = areIn l lo hi := by
  simp [areIn, List.any_eq_not_all_not]

theorem areWithin_any (A : Option Addr) (c : Nat) (l : List Int) (lo hi : Int) (w : World) (hr : Kd.C (Kd.int .i64) w A l.length l) :
    Calls Try.prog 41 #[.slice A l.length c, .int .i64 lo, .int .i64 hi] w fun e w' => e = .returned (.bool (areIn l lo hi)) ∧ Below w.heap.size w w' := by
  have HX := Lib.hid (areIn_any l lo hi)
  have hC := fun W hW h1 h2 => contains_any lo hi w.heap.size (w.heap.size + 1) A c l W h1 h2 hW
  go_enter Try.func41, Try.ntmps41
  go_wp2_with (go_at_call 60; refine (hC _ (Kd.C_alloc (Kd.C_alloc hr _) _) (by simp) (by simp)).mono ?_; rintro e w' ⟨rfl, rfl⟩)
  go_ret
  exact ⟨ret_bool HX.out, below_alloc (below_alloc (Below.refl _ _) _) _⟩
end Go.Proofs.Ytkkiagoacbhhjaa.Ha

namespace Go.Proofs.Ytkkiagoacbhhjaa.Hb
open Go.RowKit Go.Proofs.YtkkiagoacbhhjaaW.PrintWords Go.Proofs.YtkkiagoacbhhjaaW.PrintLast Go.Proofs.YtkkiagoacbhhjaaW.PrintMore Go.Proofs.Ytkkiagoacbhhjaa.Q Go.Proofs.Ytkkiagoacbhhjaa.Ha

theorem l00In_any (n lo hi : Int) (w : World) :
    Calls Try.prog 48 #[.int .i64 n, .int .i64 lo, .int .i64 hi] w fun e w' => e = .returned (.bool (inB lo hi n)) ∧ w' = w := by
  by_cases h : lo ≤ n
  · have h' : decide (lo ≤ n) = true := by simpa using h
    go_enter Try.func48, Try.ntmps48
    go_wp2
    go_ret
    exact ⟨ret_bool (by simp [inB, h]), rfl⟩
  · have h' : decide (lo ≤ n) = false := by simpa using h
    go_enter Try.func48, Try.ntmps48
    go_wp2
    go_ret
    exact ⟨ret_bool (by simp [inB]; omega), rfl⟩

/-- a sight is as the survey's rules ask. -/
def sightB (pts : Int) (s : S64) : Bool :=
  inB 0 (wrap64 (pts - 1)) s.f0 && inB 0 (wrap64 (pts - 1)) s.f1 && !(s.f0 == s.f1) && inB (-100) 100 s.f2 && inB 1 3 s.f3

def surveyB (pts : Int) (l : List S64) : Bool := inB 2 5 pts && decide ((l.length : Int) ≤ 8) && l.all (sightB pts)

theorem surveyB_no (pts : Int) (l : List S64) (k : Nat) (hk : k < l.length) (h : sightB pts (rd_T64 l k) = false) : surveyB pts l = false := by
  have hm : rd_T64 l k ∈ l := by simp only [rd_T64, Int.toNat_natCast]; rw [List.getD_eq_getElem?_getD, List.getElem?_eq_getElem hk]; simp
  have : l.all (sightB pts) = false := by
    rw [List.all_eq_false]; exact ⟨_, hm, by simp [h]⟩
  simp [surveyB, this]

theorem all_step (pts : Int) (l : List S64) (k : Nat) (hk : k < l.length) (hp : (l.take k).all (sightB pts) = true) (h : sightB pts (rd_T64 l k) = true) : (l.take (k + 1)).all (sightB pts) = true := by
  have : l.take (k + 1) = l.take k ++ [rd_T64 l k] := by
    rw [List.take_succ_eq_append_getElem hk]; simp [rd_T64, hk]
  rw [this, List.all_append, hp]; simp [h]

theorem l10Is_round (g : Nat) (pts : Int) (A : Option Addr) (c : Nat) (l : List S64) (w : World) (hb : w.heap[g]? = some (.cells #[.int .i64 pts, .slice A l.length c] 39 (0, 0))) (hr : Kd.C k64 w A l.length l)
    (h1 : inB 2 5 pts = true) (h2 : (l.length : Int) ≤ 8) :
    Calls Try.prog 43 #[.pointer (some ⟨g, 0, none⟩)] w fun e w' => e = .returned (.bool (surveyB pts l)) ∧ Below w.heap.size w w' := by
  have hu64 := Try.underlying64
  have hlen : l.length ≤ 9223372036854775807 := hr.2.1
  have hc0 : w.cell? ⟨g, 0, none⟩ = some (.int .i64 pts) := (blk_cell hb 0).trans rfl
  have hc1 : w.cell? ⟨g, 1, none⟩ = some (.slice A l.length c) := (blk_cell hb 1).trans rfl
  have HB := Aside0.mk hb
  have HR := Aside0.mk hr
  have HW := Aside0.mk (Below.refl w.heap.size w)
  clear hb hr
  have h2' : decide ((8 : Int) < (l.length : Int)) = false := by simpa using h2
  go_enter Try.func43, Try.ntmps43
  go_wp2_with (go_at_call 48; refine (l00In_any _ _ _ _).mono ?_; rintro e w' ⟨rfl, rfl⟩)
  go_loopw [3] (fun i wr => ∃ k : Nat, k ≤ l.length ∧ i = .int .i64 k ∧ Aside0 ((l.take k).all (sightB pts) = true) ∧ Aside0 (Below w'.heap.size w' wr)) (fun i _ => l.length - (intOf i).toNat)
  case atStart => exact ⟨0, by omega, rfl, ⟨by simp⟩, ⟨Below.refl _ _⟩⟩
  case round =>
    rename_i wr _
    obtain ⟨k, hk, rfl, hall, hbw⟩ := hrel
    clear hc0 hc1
    have HB1 := Aside0.mk (blk_below HB.out hbw.out)
    have hc0 : wr.cell? ⟨g, 0, none⟩ = some (.int .i64 pts) := (blk_cell HB1.out 0).trans rfl
    have hc1 : wr.cell? ⟨g, 1, none⟩ = some (.slice A l.length c) := (blk_cell HB1.out 1).trans rfl
    by_cases hlt : k < l.length
    · have hr1 := Kd.C_below HR.out hbw.out
      obtain ⟨ad, rfl, hx0, hx1, hx2, hx3⟩ := at_T64 hr1 (k : Int) (by omega) (by omega)
      clear hr1
      simp only [Int.toNat_natCast] at hx0 hx1 hx2 hx3
      go_wp2
      have hgl : g < wr.heap.size := blk_lt HB1.out
      have HA := Aside0.mk (hbw.out.alloc hbw.out.size (.cells #[.int .i64 (rd_T64 l ↑k).f0, .int .i64 (rd_T64 l ↑k).f1, .int .i64 (rd_T64 l ↑k).f2, .int .i64 (rd_T64 l ↑k).f3] 64))
      by_cases e0 : inB 0 (wrap64 (pts - 1)) (rd_T64 l k).f0 = true
      · by_cases e1 : inB 0 (wrap64 (pts - 1)) (rd_T64 l k).f1 = true
        · by_cases e2 : (rd_T64 l k).f0 = (rd_T64 l k).f1
          · have HF := Aside0.mk (show sightB pts (rd_T64 l k) = false by simp [sightB, e2])
            have e2' : ((rd_T64 l k).f0 == (rd_T64 l k).f1) = true := by simpa using e2
            clear e2
            go_quiet ((go_at_call 48; exact Calls.quiet_of_same (l00In_any _ _ _ _)))
            go_wp2
            go_ret
            exact ⟨ret_bool (surveyB_no pts l k hlt HF.out).symm, pw_below_drewN HA.out _⟩
          · have e2' : ((rd_T64 l k).f0 == (rd_T64 l k).f1) = false := by simpa using e2
            clear e2
            by_cases e3 : inB (-100) 100 (rd_T64 l k).f2 = true
            · by_cases e4 : inB 1 3 (rd_T64 l k).f3 = true
              · have HF := Aside0.mk (show sightB pts (rd_T64 l k) = true by simp [sightB, e0, e1, e2', e3, e4])
                go_quiet ((go_at_call 48; exact Calls.quiet_of_same (l00In_any _ _ _ _)))
                go_wp2
                go_roundw
                case rel => exact ⟨k + 1, by omega, by go_num, ⟨all_step pts l k hlt hall.out HF.out⟩, ⟨pw_below_drewN HA.out _⟩⟩
                case measure => simp [intOf]; omega
              · have e4 : inB 1 3 (rd_T64 l k).f3 = false := by simpa using e4
                have HF := Aside0.mk (show sightB pts (rd_T64 l k) = false by simp [sightB, e4])
                go_quiet ((go_at_call 48; exact Calls.quiet_of_same (l00In_any _ _ _ _)))
                go_wp2
                go_ret
                exact ⟨ret_bool (surveyB_no pts l k hlt HF.out).symm, pw_below_drewN HA.out _⟩
            · have e3 : inB (-100) 100 (rd_T64 l k).f2 = false := by simpa using e3
              have HF := Aside0.mk (show sightB pts (rd_T64 l k) = false by simp [sightB, e3])
              go_quiet ((go_at_call 48; exact Calls.quiet_of_same (l00In_any _ _ _ _)))
              go_wp2
              go_ret
              exact ⟨ret_bool (surveyB_no pts l k hlt HF.out).symm, pw_below_drewN HA.out _⟩
        · have e1 : inB 0 (wrap64 (pts - 1)) (rd_T64 l k).f1 = false := by simpa using e1
          have HF := Aside0.mk (show sightB pts (rd_T64 l k) = false by simp [sightB, e1])
          go_quiet ((go_at_call 48; exact Calls.quiet_of_same (l00In_any _ _ _ _)))
          go_wp2
          go_ret
          exact ⟨ret_bool (surveyB_no pts l k hlt HF.out).symm, pw_below_drewN HA.out _⟩
      · have e0 : inB 0 (wrap64 (pts - 1)) (rd_T64 l k).f0 = false := by simpa using e0
        have HF := Aside0.mk (show sightB pts (rd_T64 l k) = false by simp [sightB, e0])
        go_quiet ((go_at_call 48; exact Calls.quiet_of_same (l00In_any _ _ _ _)))
        go_wp2
        go_ret
        exact ⟨ret_bool (surveyB_no pts l k hlt HF.out).symm, pw_below_drewN HA.out _⟩
    · obtain rfl : k = l.length := by omega
      have HF := Aside0.mk (show surveyB pts l = true by have := hall.out; simp at this; simp [surveyB, h1, h2]; exact this)
      go_wp2
      go_ret
      exact ⟨ret_bool HF.out.symm, hbw.out⟩

theorem l10Is_any (g : Nat) (pts : Int) (A : Option Addr) (c : Nat) (l : List S64) (w : World) (hb : w.heap[g]? = some (.cells #[.int .i64 pts, .slice A l.length c] 39 (0, 0))) (hr : Kd.C k64 w A l.length l) :
    Calls Try.prog 43 #[.pointer (some ⟨g, 0, none⟩)] w fun e w' => e = .returned (.bool (surveyB pts l)) ∧ Below w.heap.size w w' := by
  by_cases h1 : inB 2 5 pts = true
  · by_cases h2 : (l.length : Int) ≤ 8
    · exact l10Is_round g pts A c l w hb hr h1 h2
    · have HF := Aside0.mk (show surveyB pts l = false by simp [surveyB]; omega)
      have hc0 : w.cell? ⟨g, 0, none⟩ = some (.int .i64 pts) := (blk_cell hb 0).trans rfl
      have hc1 : w.cell? ⟨g, 1, none⟩ = some (.slice A l.length c) := (blk_cell hb 1).trans rfl
      clear hb hr
      have h2' : decide ((8 : Int) < (l.length : Int)) = true := by simp; omega
      go_enter Try.func43, Try.ntmps43
      go_wp2_with (go_at_call 48; refine (l00In_any _ _ _ _).mono ?_; rintro e w' ⟨rfl, rfl⟩)
      go_ret
      exact ⟨ret_bool HF.out.symm, Below.refl _ _⟩
  · have h1 : inB 2 5 pts = false := by simpa using h1
    have HF := Aside0.mk (show surveyB pts l = false by simp [surveyB, h1])
    have hc0 : w.cell? ⟨g, 0, none⟩ = some (.int .i64 pts) := (blk_cell hb 0).trans rfl
    have hc1 : w.cell? ⟨g, 1, none⟩ = some (.slice A l.length c) := (blk_cell hb 1).trans rfl
    clear hb hr
    go_enter Try.func43, Try.ntmps43
    go_wp2_with (go_at_call 48; refine (l00In_any _ _ _ _).mono ?_; rintro e w' ⟨rfl, rfl⟩)
    go_ret
    exact ⟨ret_bool HF.out.symm, Below.refl _ _⟩
end Go.Proofs.Ytkkiagoacbhhjaa.Hb

/- Rows of int64 numbers that a call has made: small laws over the kinds; and a list that is rewritten from its beginning on. -/
namespace Go.Proofs.Ytkkiagoacbhhjaa.Hc
open Go.RowKit Go.Proofs.YtkkiagoacbhhjaaW.PrintWords Go.Proofs.YtkkiagoacbhhjaaW.PrintLast Go.Proofs.YtkkiagoacbhhjaaW.PrintMore Go.Proofs.Ytkkiagoacbhhjaa.Q

def T (B : Nat) (W : World) (v : Value) (xs : List Int) : Prop := (Kd.int .i64).R 2 W B (fun _ => True) v xs
def NE (u v : Value) : Prop := ∀ k, u.ownBlock = some k → v.ownBlock ≠ some k
theorem NE.symm {u v : Value} (h : NE u v) : NE v u := fun k hk hu => h k hu hk

variable {B : Nat} {W w1 : World} {u v v1 : Value} {xs ys : List Int}
theorem T.of {ok : Nat → Prop} (h : (Kd.int .i64).R 2 W B ok v xs) : T B W v xs := Kd.R_mono h (fun _ _ => trivial)
theorem T.lt (h : T B W v xs) {k : Nat} (hk : v.ownBlock = some k) : k < W.heap.size := Kd.R_lt h k hk
theorem T.grown (h : T B W u xs) (hg : W.grownBy w1 v.ownBlock) (hn : NE u v) : T B w1 u xs :=
  T.of (Kd.R_grown (Kd.R_tight rfl h) hg (fun k hk e => hn k hk.symm e.symm))
theorem T.below (h : T B W u xs) (hb : Below W.heap.size W w1) : T B w1 u xs := Kd.R_below h hb
theorem NE.after (hu : T B W u xs) (hn : NE u v) (hat : v1.ownBlock = v.ownBlock ∨ ∃ b, v1.ownBlock = some b ∧ W.heap.size ≤ b) : NE u v1 := by
  intro k hk h1
  rcases hat with e | ⟨b, e, hb⟩
  · exact hn k hk (e ▸ h1)
  · have := hu.lt hk
    rw [e] at h1; injection h1 with h1; omega
theorem NE.new (hu : T B W u xs) (hat : ∃ b, v1.ownBlock = some b ∧ W.heap.size ≤ b) : NE u v1 := by
  intro k hk h1
  obtain ⟨b, e, hb⟩ := hat
  have := hu.lt hk
  rw [e] at h1; injection h1 with h1; omega
theorem T.form (h : T B W v xs) (hp : 0 < xs.length) : ∃ g cap, v = .slice (some ⟨g, 0, none⟩) xs.length cap ∧ B ≤ g ∧ g < W.heap.size := by
  obtain ⟨g, cap, he, hb, hl, _⟩ := Kd.R_form h hp
  exact ⟨g, cap, he, hb, hl⟩
theorem T.cell {g n cap : Nat} (h : T B W (.slice (some ⟨g, 0, none⟩) n cap) xs) (i : Nat) (hi : i < n) : W.cell? ⟨g, i, none⟩ = some (.int .i64 (rd xs i)) ∧ W.frozen? ⟨g, i, none⟩ = false :=
  Kd.R_celln 0 h (i : Int) (by omega) (by omega)
theorem T.put {g n cap : Nat} (h : T B W (.slice (some ⟨g, 0, none⟩) n cap) xs) (i : Nat) (x : Int) : T B (W.setCell ⟨g, i, none⟩ (.int .i64 x)) (.slice (some ⟨g, 0, none⟩) n cap) (xs.set i x) ∧ W.grownBy (W.setCell ⟨g, i, none⟩ (.int .i64 x)) (some g) :=
  Kd.R_putg h (i : Int) x
theorem T.len {g n cap : Nat} (h : T B W (.slice (some ⟨g, 0, none⟩) n cap) xs) : n = xs.length := (Kd.R_reads' h).1

theorem T.nil_new (hB : B ≤ W.heap.size) : T B (W.alloc (.cells #[] 2)) (.slice (some ⟨W.heap.size, 0, none⟩) 0 0) [] := by
  have ho : (W.alloc (.cells #[] 2)).ownsRow B 2 1 (.slice (some ⟨W.heap.size, 0, none⟩) 0 0) ([] : List Int).length (encs (Value.int .i64) []) :=
    ⟨rfl, .inr ⟨W.heap.size, 0, #[], rfl, hB, by simpa using heap_alloc_new W _, Nat.le_refl _, by simp [maxLen], rfl, rfl⟩⟩
  exact Kd.R_of_own ho (fun _ _ => trivial)
theorem NE.of {a b : Nat} {n1 c1 n2 c2 : Nat} (h : a ≠ b) : NE (.slice (some ⟨a, 0, none⟩) n1 c1) (.slice (some ⟨b, 0, none⟩) n2 c2) := by
  intro k h1 h2
  simp [Value.ownBlock] at h1 h2
  omega
theorem NE.nil {v : Value} : NE (.slice none 0 0) v := by intro k h; simp [Value.ownBlock] at h
theorem T.nil : T B W (.slice none 0 0) [] := Kd.R_nil _ _ _ _ _

/-- append of one number to such a row. -/
theorem T.append {P : Program} {ops : Array Oper} {Q : Exit → Act → World → Prop} {rest : List Oper} {o : Oper} {a : Act} {w0 : World} (hP : P = Try.prog) (hgd : o.guard = none) (s x : Operand)
    (ho : o.op = .call { callee := .builtin .append, args := #[s, x], argTypes := #[47, 47] }) (p : Int) (hs : a.eval s = v) (hx : a.eval x = .slice (some ⟨W.heap.size, 0, none⟩) 1 1)
    (HO : T B W v xs) (HB : Below B w0 W) (hbase : B ≤ W.heap.size) (hl : xs.length ≤ 1048576)
    (h : ∀ v1 w1, T B w1 v1 (xs ++ [p]) → Below B w0 w1 → W.grownBy w1 v.ownBlock → (v1.ownBlock = v.ownBlock ∨ ∃ b, v1.ownBlock = some b ∧ W.heap.size ≤ b) → wpList P ops Q rest (a.put o.dst v1) w1) :
    wpList P ops Q (o :: rest) a (W.alloc (.cells #[.int .i64 p] 2)) := by
  subst hP
  exact Kd.R_append (Kd.int .i64) (w0 := w0) B hgd s x 47 2 (.int .i64 0) 8 ho Try.underlying47 info2 rfl (by decide) (by omega) v xs p [.int .i64 p] (fun _ => True) (fun _ => False) hs hx rfl (fun _ hk => hk.elim) (fun _ _ => trivial) HO HB hbase (by omega) h

/-- the same of bools. -/
def TB (B : Nat) (W : World) (v : Value) (xs : List Bool) : Prop := Kd.bool.R 4 W B (fun _ => True) v xs
section
variable {bs : List Bool}
theorem TB.of {ok : Nat → Prop} (h : Kd.bool.R 4 W B ok v bs) : TB B W v bs := Kd.R_mono h (fun _ _ => trivial)
theorem TB.lt (h : TB B W v bs) {k : Nat} (hk : v.ownBlock = some k) : k < W.heap.size := Kd.R_lt h k hk
theorem TB.grown (h : TB B W u bs) (hg : W.grownBy w1 v.ownBlock) (hn : NE u v) : TB B w1 u bs :=
  TB.of (Kd.R_grown (Kd.R_tight rfl h) hg (fun k hk e => hn k hk.symm e.symm))
theorem TB.below (h : TB B W u bs) (hb : Below W.heap.size W w1) : TB B w1 u bs := Kd.R_below h hb
theorem TB.form (h : TB B W v bs) (hp : 0 < bs.length) : ∃ g cap, v = .slice (some ⟨g, 0, none⟩) bs.length cap ∧ B ≤ g ∧ g < W.heap.size := by
  obtain ⟨g, cap, he, hb, hl, _⟩ := Kd.R_form h hp
  exact ⟨g, cap, he, hb, hl⟩
theorem TB.cell {g n cap : Nat} (h : TB B W (.slice (some ⟨g, 0, none⟩) n cap) bs) (i : Nat) (hi : i < n) : W.cell? ⟨g, i, none⟩ = some (.bool (rdOf false bs i)) ∧ W.frozen? ⟨g, i, none⟩ = false :=
  Kd.R_celln false h (i : Int) (by omega) (by omega)
theorem TB.put {g n cap : Nat} (h : TB B W (.slice (some ⟨g, 0, none⟩) n cap) bs) (i : Nat) (x : Bool) : TB B (W.setCell ⟨g, i, none⟩ (.bool x)) (.slice (some ⟨g, 0, none⟩) n cap) (bs.set i x) ∧ W.grownBy (W.setCell ⟨g, i, none⟩ (.bool x)) (some g) :=
  Kd.R_putg h (i : Int) x
theorem TB.len {g n cap : Nat} (h : TB B W (.slice (some ⟨g, 0, none⟩) n cap) bs) : n = bs.length := (Kd.R_reads' h).1
end

/-- the first k elements are new. -/
def upd {α : Type} (new old : List α) (k : Nat) : List α := new.take k ++ old.drop k
section
variable {α : Type} {new old : List α} {k : Nat}
theorem upd_zero : upd new old 0 = old := by simp [upd]
theorem upd_all (h : new.length = old.length) : upd new old old.length = new := by simp [upd, ← h]
theorem upd_len (h : new.length = old.length) (hk : k ≤ old.length) : (upd new old k).length = old.length := by simp [upd]; omega
theorem upd_get (h : new.length = old.length) (hk : k < old.length) : (upd new old k)[k]? = old[k]? := by
  rw [upd, List.getElem?_append_right (by simp; omega)]; simp [show min k new.length = k by omega]
theorem upd_set (h : new.length = old.length) (hk : k < old.length) : (upd new old k).set k (new[k]'(by omega)) = upd new old (k + 1) := by
  rw [upd, List.set_append_right _ _ (by simp; omega), List.length_take, show k - min k new.length = 0 by omega, List.drop_eq_getElem_cons hk, List.set_cons_zero, upd, List.take_succ_eq_append_getElem (by omega), List.append_assoc]; rfl
theorem upd_same (h : new.length = old.length) (hk : k < old.length) (he : new[k]'(by omega) = old[k]) : upd new old (k + 1) = upd new old k := by
  rw [upd, List.take_succ_eq_append_getElem (by omega), he, List.append_assoc, upd, List.drop_eq_getElem_cons hk]; rfl
end
theorem rd_upd {new old : List Int} {k : Nat} (h : new.length = old.length) (hk : k < old.length) : rd (upd new old k) k = rd old k := by
  simp only [rd, Int.toNat_natCast, List.getD_eq_getElem?_getD]; rw [upd_get h hk]
theorem rd_nat (l : List Int) (k : Nat) (h : k < l.length) : rd l k = l[k] := by simp [rd, List.getD_eq_getElem?_getD, h]
end Go.Proofs.Ytkkiagoacbhhjaa.Hc

/- The reference's l10Tree: the sights that connect points without loops, and the heights that follow. -/
namespace Go.Proofs.Ytkkiagoacbhhjaa.Hd
open Go.RowKit Go.Proofs.YtkkiagoacbhhjaaW.PrintWords Go.Proofs.YtkkiagoacbhhjaaW.PrintLast Go.Proofs.YtkkiagoacbhhjaaW.PrintMore Go.Proofs.Ytkkiagoacbhhjaa.Q Go.Proofs.Ytkkiagoacbhhjaa.Ha Go.Proofs.Ytkkiagoacbhhjaa.Hb Go.Proofs.Ytkkiagoacbhhjaa.Hc

def mxI (a b : Int) : Int := if b < a then a else b
def mnI (a b : Int) : Int := if a < b then a else b

theorem max_any (a b : Int) (w : World) : Calls Try.prog 66 #[.int .i64 a, .int .i64 b] w fun e w' => e = .returned (.int .i64 (mxI a b)) ∧ w' = w := by
  by_cases h : b < a
  · have h' : decide (b < a) = true := by simpa using h
    go_enter Try.func66, Try.ntmps66
    go_wp2
    go_ret
    exact ⟨ret_int (by simp [mxI, h]), rfl⟩
  · have h' : decide (b < a) = false := by simpa using h
    go_enter Try.func66, Try.ntmps66
    go_wp2
    go_ret
    exact ⟨ret_int (by simp [mxI]; omega), rfl⟩
theorem min_any (a b : Int) (w : World) : Calls Try.prog 67 #[.int .i64 a, .int .i64 b] w fun e w' => e = .returned (.int .i64 (mnI a b)) ∧ w' = w := by
  by_cases h : a < b
  · have h' : decide (a < b) = true := by simpa using h
    go_enter Try.func67, Try.ntmps67
    go_wp2
    go_ret
    exact ⟨ret_int (by simp [mnI, h]), rfl⟩
  · have h' : decide (a < b) = false := by simpa using h
    go_enter Try.func67, Try.ntmps67
    go_wp2
    go_ret
    exact ⟨ret_int (by simp [mnI]; omega), rfl⟩

structure St where
  out : List Int
  part : List Int
  hts : List Int
def liftOf (st : St) (s : S64) : Int :=
  let lf := wrap64 (wrap64 (rd st.hts s.f0 + s.f2) - rd st.hts s.f1)
  if rd st.part s.f1 < rd st.part s.f0 then wrap64 (-lf) else lf
def newPart (part : List Int) (a b : Int) : List Int := part.map fun v => if v = mxI a b then mnI a b else v
def newHts (part hts : List Int) (a b lf : Int) : List Int := List.zipWith (fun v h => if v = mxI a b then wrap64 (h + lf) else h) part hts
def step (st : St) (x : S64 × Nat) : St :=
  if rd st.part x.1.f0 = rd st.part x.1.f1 then st
  else ⟨st.out ++ [(x.2 : Int)], newPart st.part (rd st.part x.1.f0) (rd st.part x.1.f1), newHts st.part st.hts (rd st.part x.1.f0) (rd st.part x.1.f1) (liftOf st x.1)⟩
def start (pts : Int) : St := ⟨[], (List.range pts.toNat).map fun k : Nat => (k : Int), List.replicate pts.toNat 0⟩
def treeS (pts : Int) (l : List S64) : St := l.zipIdx.foldl step (start pts)

theorem newPart_len (part : List Int) (a b : Int) : (newPart part a b).length = part.length := by simp [newPart]
theorem newHts_len (part hts : List Int) (a b lf : Int) (h : part.length = hts.length) : (newHts part hts a b lf).length = hts.length := by simp [newHts, h]
theorem step_len (n : Nat) (st : St) (x : S64 × Nat) (h : st.part.length = n ∧ st.hts.length = n) : (step st x).part.length = n ∧ (step st x).hts.length = n := by
  unfold step
  split
  · exact h
  · exact ⟨by simp [newPart_len, h.1], by simp [newHts, h.1, h.2]⟩
theorem foldl_len (n : Nat) (l : List (S64 × Nat)) (st : St) (h : st.part.length = n ∧ st.hts.length = n) : (l.foldl step st).part.length = n ∧ (l.foldl step st).hts.length = n := by
  induction l generalizing st with
  | nil => exact h
  | cons x xs ih => exact ih _ (step_len n st x h)
theorem out_len (l : List (S64 × Nat)) (st : St) : (l.foldl step st).out.length ≤ st.out.length + l.length := by
  induction l generalizing st with
  | nil => simp
  | cons x xs ih =>
    have h1 := ih (step st x)
    have h2 : (step st x).out.length ≤ st.out.length + 1 := by unfold step; split <;> simp
    simp only [List.foldl_cons, List.length_cons]; omega

/-- the state ahead of sight number k. -/
def at_ (pts : Int) (l : List S64) (k : Nat) : St := (l.zipIdx.take k).foldl step (start pts)
theorem at_zero (pts : Int) (l : List S64) : at_ pts l 0 = start pts := by simp [at_]
theorem at_all (pts : Int) (l : List S64) : at_ pts l l.length = treeS pts l := by
  unfold at_ treeS; rw [List.take_of_length_le (by simp)]
theorem at_succ (pts : Int) (l : List S64) (k : Nat) (h : k < l.length) : at_ pts l (k + 1) = step (at_ pts l k) (rd_T64 l k, k) := by
  unfold at_
  rw [List.take_succ_eq_append_getElem (by simpa using h), List.foldl_append]
  simp [rd_T64, h, List.getElem_zipIdx]
theorem at_len (pts : Int) (l : List S64) (k : Nat) : (at_ pts l k).part.length = pts.toNat ∧ (at_ pts l k).hts.length = pts.toNat :=
  foldl_len _ _ _ (by simp [start])
theorem at_out (pts : Int) (l : List S64) (k : Nat) : (at_ pts l k).out.length ≤ k := by
  have := out_len (l.zipIdx.take k) (start pts)
  simp only [start, List.length_nil, List.length_take, List.length_zipIdx] at this
  unfold at_; simp only [start]; omega

theorem valid_pts {pts : Int} {l : List S64} (h : surveyB pts l = true) : 2 ≤ pts ∧ pts ≤ 5 ∧ l.length ≤ 8 := by
  simp [surveyB, inB] at h; omega
theorem valid_at {pts : Int} {l : List S64} (h : surveyB pts l = true) (k : Nat) (hk : k < l.length) : 0 ≤ (rd_T64 l k).f0 ∧ (rd_T64 l k).f0 < pts ∧ 0 ≤ (rd_T64 l k).f1 ∧ (rd_T64 l k).f1 < pts := by
  have hp := valid_pts h
  have hm : rd_T64 l k ∈ l := by simp only [rd_T64, Int.toNat_natCast]; rw [List.getD_eq_getElem?_getD, List.getElem?_eq_getElem hk]; simp
  have h1 : l.all (sightB pts) = true := by simp only [surveyB, Bool.and_eq_true] at h; exact h.2
  have h2 := List.all_eq_true.1 h1 _ hm
  have e : wrap64 (pts - 1) = pts - 1 := by unfold wrap64; omega
  simp [sightB, inB, e] at h2
  omega

section
variable {part hts : List Int} {a b lf : Int} {j : Nat}
theorem np_hit (hj : j < part.length) (h : rd part j = mxI a b) : (upd (newPart part a b) part j).set j (mnI a b) = upd (newPart part a b) part (j + 1) := by
  have e : (newPart part a b)[j]'(by simp [newPart_len, hj]) = mnI a b := by
    rw [rd_nat _ _ hj] at h; simp [newPart, h]
  rw [← upd_set (newPart_len ..) hj, e]
theorem np_miss (hj : j < part.length) (h : ¬ rd part j = mxI a b) : upd (newPart part a b) part (j + 1) = upd (newPart part a b) part j := by
  rw [rd_nat _ _ hj] at h
  exact upd_same (newPart_len ..) hj (by simp [newPart, h])
theorem nh_hit (hl : part.length = hts.length) (hj : j < hts.length) (h : rd part j = mxI a b) : (upd (newHts part hts a b lf) hts j).set j (wrap64 (rd hts j + lf)) = upd (newHts part hts a b lf) hts (j + 1) := by
  have e : (newHts part hts a b lf)[j]'(by simp [newHts, hl, hj]) = wrap64 (rd hts j + lf) := by
    rw [rd_nat _ _ (by omega)] at h; simp [newHts, h, rd_nat _ _ hj]
  rw [← upd_set (newHts_len _ _ _ _ _ hl) hj, e]
theorem nh_miss (hl : part.length = hts.length) (hj : j < hts.length) (h : ¬ rd part j = mxI a b) : upd (newHts part hts a b lf) hts (j + 1) = upd (newHts part hts a b lf) hts j := by
  rw [rd_nat _ _ (by omega)] at h
  exact upd_same (newHts_len _ _ _ _ _ hl) hj (by simp [newHts, h])
end

/-- what l10Tree hands back: values of slices and whether all points are connected. -/
def Ends (w : World) (pts : Int) (l : List S64) (e : Ending) (w' : World) : Prop :=
  ∃ v0 v1 : Value, ∃ ok : Bool, e = .returned (.tuple #[v0, v1, .bool ok]) ∧ ok = (treeS pts l).part.all (· == 0) ∧
    T w.heap.size w' v0 (if ok then (treeS pts l).out else []) ∧ T w.heap.size w' v1 (if ok then (treeS pts l).hts else []) ∧ NE v0 v1 ∧ Below w.heap.size w w'

set_option maxHeartbeats 4000000 in
set_option maxRecDepth 100000 in
theorem l10Tree_any (g : Nat) (pts : Int) (A : Option Addr) (c : Nat) (l : List S64) (w : World) (hb : w.heap[g]? = some (.cells #[.int .i64 pts, .slice A l.length c] 39 (0, 0))) (hr : Kd.C k64 w A l.length l) (hv : surveyB pts l = true) :
    Calls Try.prog 53 #[.pointer (some ⟨g, 0, none⟩)] w (Ends w pts l) := by
  obtain ⟨n, rfl⟩ : ∃ n : Nat, pts = (n : Int) := ⟨pts.toNat, by have := valid_pts hv; omega⟩
  have hn : 2 ≤ n ∧ n ≤ 5 ∧ l.length ≤ 8 := by have := valid_pts hv; omega
  obtain ⟨hn2, hn5, hl8⟩ := hn
  have HV := Aside0.mk hv
  have HBK := Aside0.mk hb
  have HR := Aside0.mk hr
  have hgl : g < w.heap.size := blk_lt hb
  have hc0 : w.cell? ⟨g, 0, none⟩ = some (.int .i64 n) := (blk_cell hb 0).trans rfl
  have hc1 : w.cell? ⟨g, 1, none⟩ = some (.slice A l.length c) := (blk_cell hb 1).trans rfl
  clear hb hr hv
  have hu64 := Try.underlying64
  have HB0 := Aside0.mk (Below.refl w.heap.size w)
  go_enter Try.func53, Try.ntmps53
  go_wp2_with (fail)
  go_loopw [6, 7, 8] (fun v6 v7 v8 wr => ∃ k : Nat, k ≤ n ∧ v8 = .int .i64 k ∧ Aside0 (T w.heap.size wr (.slice (some ⟨w.heap.size, 0, none⟩) 0 0) []) ∧ Aside0 (T w.heap.size wr v6 ((List.range k).map fun j : Nat => (j : Int))) ∧ Aside0 (T w.heap.size wr v7 (List.replicate k 0)) ∧
      Aside0 (NE (.slice (some ⟨w.heap.size, 0, none⟩) 0 0) v6) ∧ Aside0 (NE (.slice (some ⟨w.heap.size, 0, none⟩) 0 0) v7) ∧ Aside0 (NE v6 v7) ∧ Aside0 (Below w.heap.size w wr)) (fun _ _ i _ => n - (intOf i).toNat)
  case atStart =>
    have t0 := T.nil_new (B := w.heap.size) (W := w) (Nat.le_refl _)
    have t1 := T.nil_new (B := w.heap.size) (W := w.alloc (.cells #[] 2)) (by simp)
    have t2 := T.nil_new (B := w.heap.size) (W := (w.alloc (.cells #[] 2)).alloc (.cells #[] 2)) (by simp; omega)
    simp only [World.size_alloc] at t1 t2
    exact ⟨0, by omega, rfl, ⟨(t0.below (below_alloc (Below.refl _ _) _)).below (below_alloc (Below.refl _ _) _)⟩, ⟨t1.below (below_alloc (Below.refl _ _) _)⟩, ⟨t2⟩, ⟨NE.of (by omega)⟩, ⟨NE.of (by omega)⟩, ⟨NE.of (by omega)⟩, ⟨below_alloc (below_alloc (below_alloc (Below.refl _ _) _) _) _⟩⟩
  case round =>
    obtain ⟨k, hk, rfl, t5, t6, t7, n56, n57, n67, hbw⟩ := hrel
    clear hc0 hc1
    have hc0 : wr.cell? ⟨g, 0, none⟩ = some (.int .i64 n) := (blk_cell (blk_below HBK.out hbw.out) 0).trans rfl
    have hsz := hbw.out.size
    by_cases hlt : k < n
    · have hlt' : decide ((k : Int) < (n : Int)) = true := by simpa using hlt
      go_wp2_with (first
        | ((with_reducible refine gate_builtin (b := .append) (xs := #[.tmp 27, .tmp 29]) rfl ?_); at_builtin; refine T.append (w0 := w) rfl rfl (.tmp 27) (.tmp 29) rfl (k : Int) rfl rfl t6.out hbw.out hsz (by simp; omega) ?_; intro v1 w1 h1 h2 h3 h4; have t5' := Aside0.mk (t5.out.grown h3 n56.out); have t7' := Aside0.mk (t7.out.grown h3 n67.out.symm); have t6' := Aside0.mk h1; have n56' := Aside0.mk (NE.after t5.out n56.out h4); have n67' := Aside0.mk (NE.after t7.out n67.out.symm h4).symm; have hbw' := Aside0.mk h2; have hsz' := h2.size; clear t5 t6 t7 n56 n67 hbw hsz h1 h2 h3 h4)
        | ((with_reducible refine gate_builtin (b := .append) (xs := #[.tmp 31, .tmp 32]) rfl ?_); at_builtin; refine T.append (w0 := w) rfl rfl (.tmp 31) (.tmp 32) rfl 0 rfl rfl t7'.out hbw'.out hsz' (by simp; omega) ?_; intro v2 w2 h1 h2 h3 h4; have t5 := Aside0.mk (t5'.out.grown h3 n57.out); have t6 := Aside0.mk (t6'.out.grown h3 n67'.out); have t7 := Aside0.mk h1; have m57 := Aside0.mk (NE.after t5'.out n57.out h4); have n67 := Aside0.mk (NE.after t6'.out n67'.out h4); have hbw := Aside0.mk h2; clear t5' t6' t7' n57 n67' hbw' h1 h2 h3 h4))
      go_roundw
      case rel => exact ⟨k + 1, by omega, by go_num, t5, ⟨by rw [List.range_succ, List.map_append]; exact t6.out⟩, ⟨by rw [List.replicate_succ']; exact t7.out⟩, n56', m57, n67, hbw⟩
      case measure => simp [intOf]; omega
    · obtain rfl : k = n := by omega
      have hlt' : decide ((k : Int) < (k : Int)) = false := by simp
      go_wp2_with (fail)
      obtain ⟨g6, c6, e6, hB6, -⟩ := t6.out.form (by simp; omega)
      obtain ⟨g7, c7, e7, hB7, -⟩ := t7.out.form (by simp; omega)
      simp only [List.length_map, List.length_range, List.length_replicate] at e6 e7
      subst e6
      subst e7
      have hne : g6 ≠ g7 := fun e => n67.out g6 rfl (by rw [e]; rfl)
      have HL := Aside0.mk (at_len (k : Int) l)
      have HO := Aside0.mk (at_out (k : Int) l)
      clear hc0 hsz
      go_loopw [5, 9] (fun v5 v9 wz => ∃ i : Nat, i ≤ l.length ∧ v9 = .int .i64 i ∧ Aside0 (T w.heap.size wz v5 (at_ k l i).out) ∧ Aside0 (T w.heap.size wz (.slice (some ⟨g6, 0, none⟩) k c6) (at_ k l i).part) ∧ Aside0 (T w.heap.size wz (.slice (some ⟨g7, 0, none⟩) k c7) (at_ k l i).hts) ∧
          Aside0 (NE v5 (.slice (some ⟨g6, 0, none⟩) k c6)) ∧ Aside0 (NE v5 (.slice (some ⟨g7, 0, none⟩) k c7)) ∧ Aside0 (Below w.heap.size w wz)) (fun _ i _ => l.length - (intOf i).toNat)
      case atStart => exact ⟨0, by omega, rfl, ⟨by rw [at_zero]; exact t5.out⟩, ⟨by rw [at_zero]; exact t6.out⟩, ⟨by rw [at_zero]; exact t7.out⟩, n56, n57, hbw⟩
      case round =>
        clear t5 t6 t7 n56 n57 n67 hbw
        obtain ⟨i, hi, rfl, t5, t6, t7, n56, n57, hbw⟩ := hrel
        have HB1 := Aside0.mk (blk_below HBK.out hbw.out)
        have hc0 : wr.cell? ⟨g, 0, none⟩ = some (.int .i64 k) := (blk_cell HB1.out 0).trans rfl
        have hc1 : wr.cell? ⟨g, 1, none⟩ = some (.slice A l.length c) := (blk_cell HB1.out 1).trans rfl
        have hsz := hbw.out.size
        have hlp : (at_ k l i).part.length = k := by have := (HL.out i).1; simpa using this
        have hlh : (at_ k l i).hts.length = k := by have := (HL.out i).2; simpa using this
        have hol := HO.out i
        by_cases hlt : i < l.length
        · have hlt' : decide ((i : Int) < (l.length : Int)) = true := by simpa using hlt
          have hr1 := Kd.C_below HR.out hbw.out
          obtain ⟨ad, rfl, hx0, hx1, hx2, hx3⟩ := at_T64 hr1 (i : Int) (by omega) (by omega)
          clear hr1
          simp only [Int.toNat_natCast] at hx0 hx1 hx2 hx3
          obtain ⟨hs0, hs1, hs2, hs3⟩ := valid_at HV.out i hlt
          have HS := Aside0.mk (at_succ k l i hlt)
          obtain ⟨st, hst⟩ : ∃ st, st = at_ k l i := ⟨_, rfl⟩
          obtain ⟨s, hs⟩ : ∃ s, s = rd_T64 l i := ⟨_, rfl⟩
          rw [← hst] at t5 t6 t7 hlp hlh hol HS
          rw [← hs] at hx0 hx1 hx2 hx3 hs0 hs1 hs2 hs3 HS
          clear hst hs
          have hg6 : g6 < wr.heap.size := t6.out.lt rfl
          have hg7 : g7 < wr.heap.size := t7.out.lt rfl
          have hp0 := (Kd.R_celln 0 t6.out s.f0 hs0 hs1).1
          have hp1 := (Kd.R_celln 0 t6.out s.f1 hs2 hs3).1
          change wr.cell? ⟨g6, s.f0.toNat, none⟩ = some (.int .i64 (rd st.part s.f0)) at hp0
          change wr.cell? ⟨g6, s.f1.toNat, none⟩ = some (.int .i64 (rd st.part s.f1)) at hp1
          by_cases hab : rd st.part s.f0 = rd st.part s.f1
          · have hab' : (rd st.part s.f0 == rd st.part s.f1) = true := by simpa using hab
            have HE := Aside0.mk (show step st (s, i) = st by simp [step, hab])
            clear hab
            go_wp2_with (fail)
            go_roundw
            case rel =>
              have hbl := below_alloc (Below.refl wr.heap.size wr) (.cells #[.int .i64 s.f0, .int .i64 s.f1, .int .i64 s.f2, .int .i64 s.f3] 64)
              exact ⟨i + 1, by omega, by go_num, ⟨by rw [HS.out, HE.out]; exact t5.out.below hbl⟩, ⟨by rw [HS.out, HE.out]; exact t6.out.below hbl⟩, ⟨by rw [HS.out, HE.out]; exact t7.out.below hbl⟩, n56, n57, ⟨below_step hbw.out hbl⟩⟩
            case measure => simp [intOf]; omega
          · have hab' : (rd st.part s.f0 == rd st.part s.f1) = false := by simpa using hab
            have hbl := below_alloc (Below.refl wr.heap.size wr) (.cells #[.int .i64 s.f0, .int .i64 s.f1, .int .i64 s.f2, .int .i64 s.f3] 64)
            have a5 := Aside0.mk (t5.out.below hbl)
            have a6 := Aside0.mk (t6.out.below hbl)
            have a7 := Aside0.mk (t7.out.below hbl)
            have ab := Aside0.mk (below_step hbw.out hbl)
            have ax := Aside0.mk (heap_alloc_new wr (.cells #[.int .i64 s.f0, .int .i64 s.f1, .int .i64 s.f2, .int .i64 s.f3] 64))
            have a5x := Aside0.mk (fun e : some wr.heap.size = _ => Nat.lt_irrefl _ (t5.out.lt e.symm))
            have hsz1 : w.heap.size ≤ (wr.alloc (.cells #[.int .i64 s.f0, .int .i64 s.f1, .int .i64 s.f2, .int .i64 s.f3] 64)).heap.size := below_size ab.out
            clear hbl
            go_wp2_with (first
              | ((with_reducible refine gate_builtin (b := .append) (xs := #[.tmp 63, .tmp 65]) rfl ?_); at_builtin; refine T.append (w0 := w) rfl rfl (.tmp 63) (.tmp 65) rfl (i : Int) rfl ?hx a5.out ab.out hsz1 (by omega) ?_; (case hx => (go_simp; done)); intro v1 w1 h1 h2 h3 h4; have b5 := Aside0.mk h1; have b6 := Aside0.mk (a6.out.grown h3 n56.out.symm); have b7 := Aside0.mk (a7.out.grown h3 n57.out.symm); have m56 := Aside0.mk (NE.after a6.out n56.out.symm h4).symm; have m57 := Aside0.mk (NE.after a7.out n57.out.symm h4).symm; have bb := Aside0.mk h2; have bx := Aside0.mk (blk_grown ax.out h3 a5x.out); clear a5 a6 a7 n56 n57 ab h1 h2 h3 h4))
            have hy0 : w1.cell? ⟨wr.heap.size, 0, none⟩ = some (.int .i64 s.f0) := (blk_cell bx.out 0).trans rfl
            have hy1 : w1.cell? ⟨wr.heap.size, 1, none⟩ = some (.int .i64 s.f1) := (blk_cell bx.out 1).trans rfl
            have hy2 : w1.cell? ⟨wr.heap.size, 2, none⟩ = some (.int .i64 s.f2) := (blk_cell bx.out 2).trans rfl
            have hq0 := (Kd.R_celln 0 b7.out s.f0 hs0 hs1).1
            have hq1 := (Kd.R_celln 0 b7.out s.f1 hs2 hs3).1
            change w1.cell? ⟨g7, s.f0.toNat, none⟩ = some (.int .i64 (rd st.hts s.f0)) at hq0
            change w1.cell? ⟨g7, s.f1.toNat, none⟩ = some (.int .i64 (rd st.hts s.f1)) at hq1
            go_quiet (fail)
            have HST := Aside0.mk (show step st (s, i) = ⟨st.out ++ [(i : Int)], newPart st.part (rd st.part s.f0) (rd st.part s.f1), newHts st.part st.hts (rd st.part s.f0) (rd st.part s.f1) (liftOf st s)⟩ by simp [step, hab])
            have n67' := Aside0.mk (NE.of (n1 := k) (c1 := c6) (n2 := k) (c2 := c7) hne)
            clear hab
            by_cases hgt : rd st.part s.f1 < rd st.part s.f0
            · have hgt' : decide (rd st.part s.f1 < rd st.part s.f0) = true := by simpa using hgt
              have HLF := Aside0.mk (show liftOf st s = wrap64 (-wrap64 (wrap64 (rd st.hts s.f0 + s.f2) - rd st.hts s.f1)) by simp [liftOf, hgt])
              clear hgt
              go_wp2_with (fail)
              have hdn := pw_below_drewN (Below.refl w1.heap.size w1) nq
              go_loopw [14] (fun v14 wz => ∃ j : Nat, j ≤ k ∧ v14 = .int .i64 j ∧ Aside0 (T w.heap.size wz v1 (st.out ++ [(i : Int)])) ∧ Aside0 (T w.heap.size wz (.slice (some ⟨g6, 0, none⟩) k c6) (upd (newPart st.part (rd st.part s.f0) (rd st.part s.f1)) st.part j)) ∧
                  Aside0 (T w.heap.size wz (.slice (some ⟨g7, 0, none⟩) k c7) (upd (newHts st.part st.hts (rd st.part s.f0) (rd st.part s.f1) (wrap64 (-wrap64 (wrap64 (rd st.hts s.f0 + s.f2) - rd st.hts s.f1)))) st.hts j)) ∧ Aside0 (Below w.heap.size w wz)) (fun v _ => k - (intOf v).toNat)
              case atStart => exact ⟨0, by omega, rfl, ⟨b5.out.below hdn⟩, ⟨by rw [upd_zero]; exact b6.out.below hdn⟩, ⟨by rw [upd_zero]; exact b7.out.below hdn⟩, ⟨below_step bb.out hdn⟩⟩
              case round =>
                clear hx0 hx1 hx2 hx3 hy0 hy1 hy2 hq0 hq1 hp0 hp1 hc0 hc1 hdn
                clear hg6 hg7 b5 b6 b7 bb bx
                obtain ⟨j, hj, rfl, r5, r6, r7, rb⟩ := hrel
                have hc0 : wr.cell? ⟨g, 0, none⟩ = some (.int .i64 k) := (blk_cell (blk_below HBK.out rb.out) 0).trans rfl
                by_cases hjk : j < k
                · have hjk' : decide ((j : Int) < (k : Int)) = true := by simpa using hjk
                  have hpc := (r6.out.cell j hjk).1
                  rw [rd_upd (newPart_len ..) (by omega)] at hpc
                  by_cases hm : rd st.part j = mxI (rd st.part s.f0) (rd st.part s.f1)
                  · have hm' : (rd st.part j == mxI (rd st.part s.f0) (rd st.part s.f1)) = true := by simpa using hm
                    have HP := Aside0.mk (np_hit (a := rd st.part s.f0) (b := rd st.part s.f1) (by omega) hm)
                    have HH := Aside0.mk (nh_hit (hts := st.hts) (lf := wrap64 (-wrap64 (wrap64 (rd st.hts s.f0 + s.f2) - rd st.hts s.f1))) (a := rd st.part s.f0) (b := rd st.part s.f1) (by omega) (by omega) hm)
                    clear hm
                    go_wp2_with (fail)
                    go_quiet ((go_at_call 66; exact Calls.quiet_of_same (max_any _ _ _)))
                    have hdq := pw_below_drewN (Below.refl wr.heap.size wr) nq
                    have q5 := Aside0.mk (r5.out.below hdq)
                    have q6 := Aside0.mk (r6.out.below hdq)
                    have q7 := Aside0.mk (r7.out.below hdq)
                    have qb := Aside0.mk (below_step rb.out hdq)
                    clear hdq r5 r6 r7
                    have s6 := Aside0.mk (q6.out.put j (mnI (rd st.part s.f0) (rd st.part s.f1)))
                    have s7 := Aside0.mk (T.grown (v := .slice (some ⟨g6, 0, none⟩) k c6) q7.out s6.out.2 n67'.out.symm)
                    have s5 := Aside0.mk (T.grown (v := .slice (some ⟨g6, 0, none⟩) k c6) q5.out s6.out.2 m56.out)
                    obtain ⟨hz1, hz2⟩ := q6.out.cell j hjk
                    obtain ⟨hz3, hz4⟩ := s7.out.cell j hjk
                    rw [rd_upd (newHts_len _ _ _ _ _ (by omega)) (by omega)] at hz3
                    go_wp2_with (go_at_call 67; refine (min_any _ _ _).mono ?_; rintro e w' ⟨rfl, rfl⟩)
                    have z7 := Aside0.mk (s7.out.put j (wrap64 (rd st.hts j + (wrap64 (-wrap64 (wrap64 (rd st.hts s.f0 + s.f2) - rd st.hts s.f1))))))
                    go_roundw
                    case rel => exact ⟨j + 1, by omega, by go_num, ⟨T.grown (v := .slice (some ⟨g7, 0, none⟩) k c7) s5.out z7.out.2 m57.out⟩, ⟨by rw [← HP.out]; exact T.grown (v := .slice (some ⟨g7, 0, none⟩) k c7) s6.out.1 z7.out.2 n67'.out⟩, ⟨by rw [← HH.out]; exact z7.out.1⟩, ⟨(qb.out.setCell hB6 _).setCell hB7 _⟩⟩
                    case measure => simp [intOf]; omega
                  · have hm' : (rd st.part j == mxI (rd st.part s.f0) (rd st.part s.f1)) = false := by simpa using hm
                    have HP := Aside0.mk (np_miss (a := rd st.part s.f0) (b := rd st.part s.f1) (by omega) hm)
                    have HH := Aside0.mk (nh_miss (hts := st.hts) (lf := wrap64 (-wrap64 (wrap64 (rd st.hts s.f0 + s.f2) - rd st.hts s.f1))) (a := rd st.part s.f0) (b := rd st.part s.f1) (by omega) (by omega) hm)
                    clear hm
                    go_wp2_with (fail)
                    go_quiet ((go_at_call 66; exact Calls.quiet_of_same (max_any _ _ _)))
                    have hdq := pw_below_drewN (Below.refl wr.heap.size wr) nq
                    go_wp2_with (fail)
                    go_roundw
                    case rel => exact ⟨j + 1, by omega, by go_num, ⟨r5.out.below hdq⟩, ⟨by rw [HP.out]; exact r6.out.below hdq⟩, ⟨by rw [HH.out]; exact r7.out.below hdq⟩, ⟨below_step rb.out hdq⟩⟩
                    case measure => simp [intOf]; omega
                · obtain rfl : j = k := by omega
                  have hjk' : decide ((j : Int) < (j : Int)) = false := by simp
                  go_wp2_with (fail)
                  go_roundw
                  case rel => exact ⟨i + 1, by omega, by go_num, ⟨by rw [HS.out, HST.out]; exact r5.out⟩, ⟨by rw [HS.out, HST.out]; have h := r6.out; rw [← hlp, upd_all (newPart_len ..), hlp] at h; exact h⟩, ⟨by rw [HS.out, HST.out]; have h := r7.out; rw [← hlh, upd_all (newHts_len _ _ _ _ _ (by omega)), ← HLF.out, hlh] at h; exact h⟩, m56, m57, rb⟩
                  case measure => simp [intOf]; omega
            · have hgt' : decide (rd st.part s.f1 < rd st.part s.f0) = false := by simpa using hgt
              have HLF := Aside0.mk (show liftOf st s = wrap64 (wrap64 (rd st.hts s.f0 + s.f2) - rd st.hts s.f1) by simp [liftOf, hgt])
              clear hgt
              go_wp2_with (fail)
              have hdn := pw_below_drewN (Below.refl w1.heap.size w1) nq
              go_loopw [14] (fun v14 wz => ∃ j : Nat, j ≤ k ∧ v14 = .int .i64 j ∧ Aside0 (T w.heap.size wz v1 (st.out ++ [(i : Int)])) ∧ Aside0 (T w.heap.size wz (.slice (some ⟨g6, 0, none⟩) k c6) (upd (newPart st.part (rd st.part s.f0) (rd st.part s.f1)) st.part j)) ∧
                  Aside0 (T w.heap.size wz (.slice (some ⟨g7, 0, none⟩) k c7) (upd (newHts st.part st.hts (rd st.part s.f0) (rd st.part s.f1) (wrap64 (wrap64 (rd st.hts s.f0 + s.f2) - rd st.hts s.f1))) st.hts j)) ∧ Aside0 (Below w.heap.size w wz)) (fun v _ => k - (intOf v).toNat)
              case atStart => exact ⟨0, by omega, rfl, ⟨b5.out.below hdn⟩, ⟨by rw [upd_zero]; exact b6.out.below hdn⟩, ⟨by rw [upd_zero]; exact b7.out.below hdn⟩, ⟨below_step bb.out hdn⟩⟩
              case round =>
                clear hx0 hx1 hx2 hx3 hy0 hy1 hy2 hq0 hq1 hp0 hp1 hc0 hc1 hdn
                clear hg6 hg7 b5 b6 b7 bb bx
                obtain ⟨j, hj, rfl, r5, r6, r7, rb⟩ := hrel
                have hc0 : wr.cell? ⟨g, 0, none⟩ = some (.int .i64 k) := (blk_cell (blk_below HBK.out rb.out) 0).trans rfl
                by_cases hjk : j < k
                · have hjk' : decide ((j : Int) < (k : Int)) = true := by simpa using hjk
                  have hpc := (r6.out.cell j hjk).1
                  rw [rd_upd (newPart_len ..) (by omega)] at hpc
                  by_cases hm : rd st.part j = mxI (rd st.part s.f0) (rd st.part s.f1)
                  · have hm' : (rd st.part j == mxI (rd st.part s.f0) (rd st.part s.f1)) = true := by simpa using hm
                    have HP := Aside0.mk (np_hit (a := rd st.part s.f0) (b := rd st.part s.f1) (by omega) hm)
                    have HH := Aside0.mk (nh_hit (hts := st.hts) (lf := wrap64 (wrap64 (rd st.hts s.f0 + s.f2) - rd st.hts s.f1)) (a := rd st.part s.f0) (b := rd st.part s.f1) (by omega) (by omega) hm)
                    clear hm
                    go_wp2_with (fail)
                    go_quiet ((go_at_call 66; exact Calls.quiet_of_same (max_any _ _ _)))
                    have hdq := pw_below_drewN (Below.refl wr.heap.size wr) nq
                    have q5 := Aside0.mk (r5.out.below hdq)
                    have q6 := Aside0.mk (r6.out.below hdq)
                    have q7 := Aside0.mk (r7.out.below hdq)
                    have qb := Aside0.mk (below_step rb.out hdq)
                    clear hdq r5 r6 r7
                    have s6 := Aside0.mk (q6.out.put j (mnI (rd st.part s.f0) (rd st.part s.f1)))
                    have s7 := Aside0.mk (T.grown (v := .slice (some ⟨g6, 0, none⟩) k c6) q7.out s6.out.2 n67'.out.symm)
                    have s5 := Aside0.mk (T.grown (v := .slice (some ⟨g6, 0, none⟩) k c6) q5.out s6.out.2 m56.out)
                    obtain ⟨hz1, hz2⟩ := q6.out.cell j hjk
                    obtain ⟨hz3, hz4⟩ := s7.out.cell j hjk
                    rw [rd_upd (newHts_len _ _ _ _ _ (by omega)) (by omega)] at hz3
                    go_wp2_with (go_at_call 67; refine (min_any _ _ _).mono ?_; rintro e w' ⟨rfl, rfl⟩)
                    have z7 := Aside0.mk (s7.out.put j (wrap64 (rd st.hts j + (wrap64 (wrap64 (rd st.hts s.f0 + s.f2) - rd st.hts s.f1)))))
                    go_roundw
                    case rel => exact ⟨j + 1, by omega, by go_num, ⟨T.grown (v := .slice (some ⟨g7, 0, none⟩) k c7) s5.out z7.out.2 m57.out⟩, ⟨by rw [← HP.out]; exact T.grown (v := .slice (some ⟨g7, 0, none⟩) k c7) s6.out.1 z7.out.2 n67'.out⟩, ⟨by rw [← HH.out]; exact z7.out.1⟩, ⟨(qb.out.setCell hB6 _).setCell hB7 _⟩⟩
                    case measure => simp [intOf]; omega
                  · have hm' : (rd st.part j == mxI (rd st.part s.f0) (rd st.part s.f1)) = false := by simpa using hm
                    have HP := Aside0.mk (np_miss (a := rd st.part s.f0) (b := rd st.part s.f1) (by omega) hm)
                    have HH := Aside0.mk (nh_miss (hts := st.hts) (lf := wrap64 (wrap64 (rd st.hts s.f0 + s.f2) - rd st.hts s.f1)) (a := rd st.part s.f0) (b := rd st.part s.f1) (by omega) (by omega) hm)
                    clear hm
                    go_wp2_with (fail)
                    go_quiet ((go_at_call 66; exact Calls.quiet_of_same (max_any _ _ _)))
                    have hdq := pw_below_drewN (Below.refl wr.heap.size wr) nq
                    go_wp2_with (fail)
                    go_roundw
                    case rel => exact ⟨j + 1, by omega, by go_num, ⟨r5.out.below hdq⟩, ⟨by rw [HP.out]; exact r6.out.below hdq⟩, ⟨by rw [HH.out]; exact r7.out.below hdq⟩, ⟨below_step rb.out hdq⟩⟩
                    case measure => simp [intOf]; omega
                · obtain rfl : j = k := by omega
                  have hjk' : decide ((j : Int) < (j : Int)) = false := by simp
                  go_wp2_with (fail)
                  go_roundw
                  case rel => exact ⟨i + 1, by omega, by go_num, ⟨by rw [HS.out, HST.out]; exact r5.out⟩, ⟨by rw [HS.out, HST.out]; have h := r6.out; rw [← hlp, upd_all (newPart_len ..), hlp] at h; exact h⟩, ⟨by rw [HS.out, HST.out]; have h := r7.out; rw [← hlh, upd_all (newHts_len _ _ _ _ _ (by omega)), ← HLF.out, hlh] at h; exact h⟩, m56, m57, rb⟩
                  case measure => simp [intOf]; omega
        · obtain rfl : i = l.length := by omega
          rw [at_all] at t5 t6 t7 hlp hlh
          have hlt' : decide ((l.length : Int) < (l.length : Int)) = false := by simp
          have he5 := Aside0.mk (fun hh : (treeS (k : Int) l).part.all (· == 0) = true => (show Ends w k l (.returned (.tuple #[_, .slice (some ⟨g7, 0, none⟩) k c7, .bool true])) wr from ⟨_, _, true, rfl, hh.symm, t5.out, t7.out, n57.out, hbw.out⟩))
          have he0 := Aside0.mk (fun hh : (treeS (k : Int) l).part.all (· == 0) = false => (show Ends w k l (.returned (.tuple #[.slice none 0 0, .slice none 0 0, .bool false])) wr from ⟨_, _, false, rfl, hh.symm, T.nil, T.nil, NE.nil, hbw.out⟩))
          clear t5 t7 n56 n57 hbw HO HL hol hlh
          go_wp2_with (fail)
          go_loop [15] (fun v => ∃ j : Nat, j ≤ k ∧ v = .int .i64 j ∧ Aside0 (((treeS (k : Int) l).part.take j).all (· == 0) = true)) (fun v => k - (intOf v).toNat)
          case atStart => exact ⟨0, by omega, rfl, ⟨by simp⟩⟩
          case round =>
            obtain ⟨j, hj, rfl, ha⟩ := hrel
            by_cases hjk : j < k
            · have hjk' : decide ((j : Int) < (k : Int)) = true := by simpa using hjk
              have hpc := (t6.out.cell j hjk).1
              have ht := Aside0.mk (show (treeS (k : Int) l).part.take (j + 1) = (treeS (k : Int) l).part.take j ++ [rd (treeS (k : Int) l).part j] by rw [List.take_succ_eq_append_getElem (by omega), rd_nat _ _ (by omega)])
              by_cases h0 : rd (treeS (k : Int) l).part j = 0
              · have h0' : (rd (treeS (k : Int) l).part j != 0) = false := by simpa using h0
                have ha1 := Aside0.mk (show ((treeS (k : Int) l).part.take (j + 1)).all (· == 0) = true by rw [ht.out, List.all_append, ha.out]; simp [h0])
                clear h0
                go_wp2_with (fail)
                go_round
                case rel => exact ⟨j + 1, by omega, by go_num, ha1⟩
                case measure => simp [intOf]; omega
              · have h0' : (rd (treeS (k : Int) l).part j != 0) = true := by simpa using h0
                have hf := Aside0.mk (show (treeS (k : Int) l).part.all (· == 0) = false by rw [List.all_eq_false]; exact ⟨rd (treeS (k : Int) l).part j, by rw [rd_nat _ _ (by omega)]; exact List.getElem_mem _, by simpa using h0⟩)
                clear h0
                go_wp2_with (fail)
                go_ret3
                exact he0.out hf.out
            · obtain rfl : j = k := by omega
              have hjk' : decide ((j : Int) < (j : Int)) = false := by simp
              have hf := Aside0.mk (show (treeS (j : Int) l).part.all (· == 0) = true by have h := ha.out; rwa [List.take_of_length_le (by omega)] at h)
              go_wp2_with (fail)
              go_ret3
              exact he5.out hf.out
end Go.Proofs.Ytkkiagoacbhhjaa.Hd

-- made by a patched copy of print.sh: this session's own
namespace Go.Proofs.Ytkkiagoacbhhjaa.Q
open Go.RowKit Go.Proofs.YtkkiagoacbhhjaaW.PrintWords Go.Proofs.YtkkiagoacbhhjaaW.PrintLast Go.Proofs.YtkkiagoacbhhjaaW.PrintMore
attribute [local go_sem] max2_int min2_int max_two min_two max_three min_three max_four min_four   -- for this text's walks alone
set_option linter.unusedVariables false
set_option linter.unusedSimpArgs false

/-- A state of type 39 at block g of W; what its slices lead to came in by w0. -/
def IsS39 (w0 W : World) (g : Nat) (f0 : Int) (f1 : List (S64)) : Prop := ∃ A1 c1, W.heap[g]? = some (.cells #[.int .i64 f0, .slice A1 f1.length c1] 39 (0, 0)) ∧ w0.heap.size ≤ g ∧ Kd.C k64 w0 A1 f1.length f1
theorem IsS39.grown {w0 W : World} {g : Nat} {f0 : Int} {f1 : List (S64)} {W1 : World} {row : Option Nat} (h : IsS39 w0 W g f0 f1) (hw : W.grownBy W1 row) (hne : some g ≠ row) : IsS39 w0 W1 g f0 f1 := by
  obtain ⟨A1, c1, hb, hg, hr1⟩ := h
  exact ⟨A1, c1, blk_grown hb hw hne, hg, hr1⟩
theorem IsS39.own_neN {w0 W : World} {g : Nat} {f0 : Int} {f1 : List (S64)} {α : Type} {d : Kd α} {e : Nat} {base : Nat} {ok : Nat → Prop} {v : Value} {xs : List α} (h : IsS39 w0 W g f0 f1) (ho : Kd.N d e W base ok v xs) (ht : e ≠ 39) : some g ≠ v.ownBlock := by
  obtain ⟨A1, c1, hb, hg, hr1⟩ := h
  exact Kd.N_ne ho hb ht
theorem IsS39.fresh {w0 W : World} {g : Nat} {f0 : Int} {f1 : List (S64)} (h : IsS39 w0 W g f0 f1) : ∀ k, W.heap.size ≤ k → k ≠ g := by
  obtain ⟨A1, c1, hb, hg, hr1⟩ := h
  exact Kd.freshB hb
theorem IsS39.kept {w0 W : World} {g : Nat} {f0 : Int} {f1 : List (S64)} {W1 : World} {S : Nat → Prop} (h : IsS39 w0 W g f0 f1) (hk : Kept W W1 S) (hne : ¬ S g) : IsS39 w0 W1 g f0 f1 := by
  obtain ⟨A1, c1, hb, hg, hr1⟩ := h
  exact ⟨A1, c1, blk_kept hb hk hne, hg, hr1⟩
theorem IsS39.below {w0 W : World} {g : Nat} {f0 : Int} {f1 : List (S64)} {W1 : World} (h : IsS39 w0 W g f0 f1) (hw : Below W.heap.size W W1) : IsS39 w0 W1 g f0 f1 := h.grown (grown_of_below hw none) (by simp)
theorem IsS39.alloc {w0 W : World} {g : Nat} {f0 : Int} {f1 : List (S64)} (h : IsS39 w0 W g f0 f1) (o : Obj) : IsS39 w0 (W.alloc o) g f0 f1 := h.below (below_alloc (Below.refl _ _) o)
theorem IsS39.drewN {w0 W : World} {g : Nat} {f0 : Int} {f1 : List (S64)} (h : IsS39 w0 W g f0 f1) (m : Nat) : IsS39 w0 (W.drewN m) g f0 f1 := h
theorem IsS39.drew {w0 W : World} {g : Nat} {f0 : Int} {f1 : List (S64)} (h : IsS39 w0 W g f0 f1) : IsS39 w0 W.drew g f0 f1 := h
theorem IsS39.at_ {w0 W : World} {g : Nat} {f0 : Int} {f1 : List (S64)} {w' : World} {m : Nat} (hq : W.drewN m = w') (h : IsS39 w0 W g f0 f1) : IsS39 w0 w' g f0 f1 := by subst hq; exact IsS39.drewN h m
theorem IsS39.apart {w0 W : World} {g : Nat} {f0 : Int} {f1 : List (S64)} {α : Type} {d : Kd α} {e : Nat} {base : Nat} {ok : Nat → Prop} {v : Value} {xs : List α} (h : IsS39 w0 W g f0 f1) (ho : d.R e W base ok v xs) (ht : ∀ q, q ∈ e :: d.E → q ≠ 39) : d.R e W base (fun k => ok k ∧ k ≠ g) v xs := by
  obtain ⟨A1, c1, hb, hg, hr1⟩ := h
  exact Kd.R_types ho hb ht
theorem IsS39.own_ne {w0 W : World} {g : Nat} {f0 : Int} {f1 : List (S64)} {α : Type} {d : Kd α} {e : Nat} {base : Nat} {ok : Nat → Prop} {v : Value} {xs : List α} (h : IsS39 w0 W g f0 f1) (ho : d.R e W base ok v xs) (ht : e ≠ 39) : some g ≠ v.ownBlock := by
  obtain ⟨A1, c1, hb, hg, hr1⟩ := h
  exact Kd.R_ne ho hb ht
theorem IsS39.apartQ {w0 W : World} {g : Nat} {f0 : Int} {f1 : List (S64)} {α : Type} {d : Kd α} {e : Nat} {base : Nat} {ok : Nat → Prop} {v : Value} {xs : List α} (h : IsS39 w0 W g f0 f1) (ho : d.Q e W base ok v xs) (ht : ∀ q, q ∈ e :: d.E → q ≠ 39) : d.Q e W base (fun k => ok k ∧ k ≠ g) v xs := by
  obtain ⟨A1, c1, hb, hg, hr1⟩ := h
  exact Kd.Q_types ho hb ht
theorem IsS39.own_neQ {w0 W : World} {g : Nat} {f0 : Int} {f1 : List (S64)} {α : Type} {d : Kd α} {e : Nat} {base : Nat} {ok : Nat → Prop} {v : Value} {xs : List α} (h : IsS39 w0 W g f0 f1) (ho : d.Q e W base ok v xs) (ht : e ≠ 39) : some g ≠ v.ownBlock := by
  obtain ⟨A1, c1, hb, hg, hr1⟩ := h
  exact Kd.Q_ne ho hb ht
theorem IsS39.apartS {w0 W : World} {g : Nat} {f0 : Int} {f1 : List (S64)} {α : Type} {d : Kd α} {e : Nat} {base : Nat} {ok : Nat → Prop} {v : Value} {xs : List α} (h : IsS39 w0 W g f0 f1) (ho : d.S e W base ok v xs) (ht : ∀ q, q ∈ e :: d.E → q ≠ 39) : d.S e W base (fun k => ok k ∧ k ≠ g) v xs := by
  obtain ⟨A1, c1, hb, hg, hr1⟩ := h
  exact Kd.S_types ho hb ht
theorem IsS39.own_neS {w0 W : World} {g : Nat} {f0 : Int} {f1 : List (S64)} {α : Type} {d : Kd α} {e : Nat} {base : Nat} {ok : Nat → Prop} {v : Value} {xs : List α} (h : IsS39 w0 W g f0 f1) (ho : d.S e W base ok v xs) (ht : e ≠ 39) : some g ≠ v.ownBlock := by
  obtain ⟨A1, c1, hb, hg, hr1⟩ := h
  exact Kd.S_ne ho hb ht
theorem IsS39.lt {w0 W : World} {g : Nat} {f0 : Int} {f1 : List (S64)} (h : IsS39 w0 W g f0 f1) : g < W.heap.size := by
  obtain ⟨A1, c1, hb, hg, hr1⟩ := h
  exact blk_lt hb
theorem IsS39.ge {w0 W : World} {g : Nat} {f0 : Int} {f1 : List (S64)} (h : IsS39 w0 W g f0 f1) : w0.heap.size ≤ g := by
  obtain ⟨A1, c1, hb, hg, hr1⟩ := h
  exact hg
theorem IsS39.ne_blk {w0 W : World} {g : Nat} {f0 : Int} {f1 : List (S64)} {a : Nat} {cs : Array Value} {t : TypeId} {fr : Nat × Nat} (h : IsS39 w0 W g f0 f1) (hb2 : W.heap[a]? = some (.cells cs t fr)) (ht : t ≠ 39) : g ≠ a := by
  obtain ⟨A1, c1, hb, hg, hr1⟩ := h
  rintro rfl
  rw [hb] at hb2
  injection hb2 with hb2
  injection hb2 with _ ht2
  exact ht ht2.symm
theorem IsS39.far {w0 W : World} {g : Nat} {f0 : Int} {f1 : List (S64)} {p : Addr} (h : IsS39 w0 W g f0 f1) (hne : g ≠ p.block) (u : Value) : IsS39 w0 (W.setCell p u) g f0 f1 := by
  obtain ⟨A1, c1, hb, hg, hr1⟩ := h
  exact ⟨A1, c1, blk_far hb hne u, hg, hr1⟩
theorem cellS39_0 {W : World} {g : Nat} {A1 : Option Addr} {c1 : Nat} {f0 : Int} {f1 : List (S64)} (h : W.heap[g]? = some (.cells #[.int .i64 f0, .slice A1 f1.length c1] 39 (0, 0))) : W.cell? ⟨g, 0, none⟩ = some (.int .i64 f0) := (blk_cell h 0).trans rfl
theorem IsS39.set_0 {w0 W : World} {g : Nat} {f0 : Int} {f1 : List (S64)} (h : IsS39 w0 W g f0 f1) (x : Int) : IsS39 w0 (W.setCell ⟨g, 0, none⟩ (.int .i64 x)) g x f1 := by
  obtain ⟨A1, c1, hb, hg, hr1⟩ := h
  exact ⟨A1, c1, by simpa using blk_set hb 0 (.int .i64 x), hg, hr1⟩
theorem cellS39_1 {W : World} {g : Nat} {A1 : Option Addr} {c1 : Nat} {f0 : Int} {f1 : List (S64)} (h : W.heap[g]? = some (.cells #[.int .i64 f0, .slice A1 f1.length c1] 39 (0, 0))) : W.cell? ⟨g, 1, none⟩ = some (.slice A1 f1.length c1) := (blk_cell h 1).trans rfl
theorem IsS39.new (w0 W : World) (A1 : Option Addr) (c1 : Nat) (f0 : Int) (f1 : List (S64)) (hB : Below w0.heap.size w0 W) (hr1 : Kd.C k64 w0 A1 f1.length f1) : IsS39 w0 (W.alloc (.cells #[.int .i64 f0, .slice A1 f1.length c1] 39)) W.heap.size f0 f1 := ⟨A1, c1, by simpa using heap_alloc_new W _, hB.size, hr1⟩

/-! ### spec_l10Is: function 43 -/
def spec_l10Is.f (s0_0 : Int) (s0_1 : List (S64)) : Option (Bool × Int) := some (Hb.surveyB s0_0 s0_1, s0_0)
theorem spec_l10Is.calls (g : Nat) (s0_0 : Int) (s0_1 : List (S64)) (r1 : Bool) (r2 : Int) (w0 w : World) (hI : IsS39 w0 w g s0_0 s0_1) (hB : Below w0.heap.size w0 w) (h : spec_l10Is.f s0_0 s0_1 = some (r1, r2)) :
    Calls Try.prog 43 #[.pointer (some ⟨g, 0, none⟩)] w fun e w' => e = .returned (.bool r1) ∧ IsS39 w0 w' g r2 s0_1 ∧ Below w0.heap.size w0 w' ∧ KeepBut w w' g none := by
  simp only [spec_l10Is.f, Option.some.injEq, Prod.mk.injEq] at h
  obtain ⟨rfl, rfl⟩ := h
  obtain ⟨A1, c1, hb, hg, hr⟩ := hI
  refine (Hb.l10Is_any g s0_0 A1 c1 s0_1 w hb (Kd.C_below hr hB)).mono ?_
  rintro e w' ⟨rfl, hw⟩
  exact ⟨rfl, IsS39.below ⟨A1, c1, hb, hg, hr⟩ hw, below_then hB hB.size hw, KeepBut.of_below hw g none⟩

end Go.Proofs.Ytkkiagoacbhhjaa.Q

-- made by a patched copy of print.sh: this session's own
namespace Go.Proofs.Ytkkiagoacbhhjaa.Q
open Go.RowKit Go.Proofs.YtkkiagoacbhhjaaW.PrintWords Go.Proofs.YtkkiagoacbhhjaaW.PrintLast Go.Proofs.YtkkiagoacbhhjaaW.PrintMore
attribute [local go_sem] max2_int min2_int max_two min_two max_three min_three max_four min_four   -- for this text's walks alone
set_option linter.unusedVariables false
set_option linter.unusedSimpArgs false

/-! ### spec_l10Tree: function 53 -/
def spec_l10Tree.f (s0_0 : Int) (s0_1 : List (S64)) : Option (List Int × List Int × Bool × Int) :=
  if Hb.surveyB s0_0 s0_1 = true then (if (Hd.treeS s0_0 s0_1).part.all (· == 0) = true then some ((Hd.treeS s0_0 s0_1).out, (Hd.treeS s0_0 s0_1).hts, true, s0_0) else some ([], [], false, s0_0)) else none
theorem spec_l10Tree.calls (g : Nat) (s0_0 : Int) (s0_1 : List (S64)) (r1 : List Int) (r2 : List Int) (r3 : Bool) (r4 : Int) (w0 w : World) (hI : IsS39 w0 w g s0_0 s0_1) (hB : Below w0.heap.size w0 w) (h : spec_l10Tree.f s0_0 s0_1 = some (r1, r2, r3, r4)) :
    Calls Try.prog 53 #[.pointer (some ⟨g, 0, none⟩)] w fun e w' => ∃ v0_ v1_ : Value, e = .returned (.tuple #[v0_, v1_, .bool r3]) ∧ Kd.R (Kd.int .i64) 2 w' w.heap.size (fun k_ => some k_ ≠ (v1_ : Value).ownBlock) v0_ r1 ∧ Kd.R (Kd.int .i64) 2 w' w.heap.size (fun k_ => some k_ ≠ (v0_ : Value).ownBlock) v1_ r2 ∧ IsS39 w0 w' g r4 s0_1 ∧ Below w0.heap.size w0 w' ∧ KeepBut w w' g none := by
  unfold spec_l10Tree.f at h
  by_cases hv : Hb.surveyB s0_0 s0_1 = true
  · rw [if_pos hv] at h
    obtain ⟨A1, c1, hb, hg, hr⟩ := hI
    refine (Hd.l10Tree_any g s0_0 A1 c1 s0_1 w hb (Kd.C_below hr hB) hv).mono ?_
    rintro e w' ⟨v0, v1, ok, rfl, hok, t0, t1, ne, hw⟩
    have hres : r1 = (if ok then (Hd.treeS s0_0 s0_1).out else []) ∧ r2 = (if ok then (Hd.treeS s0_0 s0_1).hts else []) ∧ r3 = ok ∧ r4 = s0_0 := by
      subst hok
      by_cases ha : (Hd.treeS s0_0 s0_1).part.all (· == 0) = true
      · rw [if_pos ha] at h; simp only [Option.some.injEq, Prod.mk.injEq] at h; obtain ⟨rfl, rfl, rfl, rfl⟩ := h; simp [ha]
      · rw [if_neg ha] at h; simp only [Option.some.injEq, Prod.mk.injEq] at h; obtain ⟨rfl, rfl, rfl, rfl⟩ := h; simp [ha]
    obtain ⟨rfl, rfl, rfl, rfl⟩ := hres
    exact ⟨v0, v1, rfl, Kd.R_reok rfl t0 (fun k hk e => ne k hk e.symm), Kd.R_reok rfl t1 (fun k hk e => ne.symm k hk e.symm), IsS39.below ⟨A1, c1, hb, hg, hr⟩ hw, below_then hB hB.size hw, KeepBut.of_below hw g none⟩
  · rw [if_neg hv] at h; cases h

end Go.Proofs.Ytkkiagoacbhhjaa.Q

-- made by a patched copy of print.sh: this session's own
namespace Go.Proofs.Ytkkiagoacbhhjaa.Q
open Go.RowKit Go.Proofs.YtkkiagoacbhhjaaW.PrintWords Go.Proofs.YtkkiagoacbhhjaaW.PrintLast Go.Proofs.YtkkiagoacbhhjaaW.PrintMore
attribute [local go_sem] max2_int min2_int max_two min_two max_three min_three max_four min_four   -- for this text's walks alone
set_option linter.unusedVariables false
set_option linter.unusedSimpArgs false

/-! ### spec_l10Whole: function 46 -/
def spec_l10Whole.f (s0_0 : Int) (s0_1 : List (S64)) : Option (Bool × Int) := (spec_l10Is.f s0_0 s0_1).bind fun bt229 => (if bt229.1 = true then ((spec_l10Tree.f bt229.2 s0_1).bind fun bt231 => (some (bt231.2.2.1, bt231.2.2.2))) else (some (false, bt229.2)))
set_option maxHeartbeats 8000000 in
set_option maxRecDepth 100000 in
theorem spec_l10Whole.calls (g : Nat) (s0_0 : Int) (s0_1 : List (S64)) (r1 : Bool) (r2 : Int) (w0 w : World) (hI : IsS39 w0 w g s0_0 s0_1) (hB : Below w0.heap.size w0 w) (h : spec_l10Whole.f s0_0 s0_1 = some (r1, r2)) :
    Calls Try.prog 46 #[.pointer (some ⟨g, 0, none⟩)] w fun e w' => e = .returned (.bool r1) ∧ IsS39 w0 w' g r2 s0_1 ∧ Below w0.heap.size w0 w' ∧ KeepBut w w' g none := by
  have HI0 := Aside0.mk hI
  have HK := Aside0.mk (KeepBut.refl w g none)
  have HL := Aside0.mk hB.size
  clear hI
  have HW0 := Aside0.mk hB.size
  have HB := Aside0.mk hB
  clear hB
  have H : ((spec_l10Is.f s0_0 s0_1).bind fun bt229 => (if bt229.1 = true then ((spec_l10Tree.f bt229.2 s0_1).bind fun bt231 => (some (bt231.2.2.1, bt231.2.2.2))) else (some (false, bt229.2)))) = some (r1, r2) := h
  clear h
  replace H := Option.bind_eq_some_iff.mp H
  obtain ⟨⟨t229, t230⟩, A20, H⟩ := H
  replace H : (if t229 = true then ((spec_l10Tree.f t230 s0_1).bind fun bt231 => (some (bt231.2.2.1, bt231.2.2.2))) else (some (false, t230))) = some (r1, r2) := H
  have A2 := Aside0.mk A20
  clear A20
  by_cases c3 : t229 = true
  · subst c3
    have H1 : ((spec_l10Tree.f t230 s0_1).bind fun bt231 => (some (bt231.2.2.1, bt231.2.2.2))) = some (r1, r2) := by rw [if_pos rfl] at H; exact H
    clear H
    have H := H1
    clear H1
    replace H := Option.bind_eq_some_iff.mp H
    obtain ⟨⟨t231, t234, t237, t238⟩, A40, H⟩ := H
    replace H : (some (t237, t238)) = some (r1, r2) := H
    have A4 := Aside0.mk A40
    clear A40
    simp only [Option.some.injEq, Prod.mk.injEq] at H
    obtain ⟨rfl, rfl⟩ := H
    go_enter Try.func46, Try.ntmps46
    go_wp2_with (first | ((with_reducible refine gate_callee (f := 43) rfl ?_); refine goesL_ (some 7) rfl rfl Try.func43 (by kernel_rfl) rfl #[.pointer (some ⟨g, 0, none⟩)] rfl (by (try simp only [List.map_toArray, List.map_cons, List.map_nil]); first | done | rfl | (simp only [List.length_drop, List.length_take]; rfl)) ?_; (with_reducible refine (spec_l10Is.calls g s0_0 s0_1 true t230 w0 _ ?side1 ?side2 A2.out).mono ?_); (case side1 => repeat (first | (with_reducible first | exact HI0.out | apply IsS39.alloc | apply IsS39.drewN | apply IsS39.drew | apply IsS39.set_0) | exact HI0.out)); (case side2 => repeat (first | (with_reducible first | exact HB.out | apply below_alloc | apply pw_below_drewN | apply below_drew1 | refine below_set ?_ (IsS39.ge HI0.out)) | exact HB.out)); rintro e w5 ⟨rfl, hi, hb, hk⟩; refine ⟨_, rfl, ?_⟩; have n0_ := Aside0.mk (KeepBut.trans (by repeat (first | (with_reducible first | exact HK.out | apply KeepBut.set_ | apply keep_drewN | apply keep_drew | apply keep_alloc) | exact HK.out)) hk (.inl rfl)); have n1_ := Aside0.mk (hb); have n2_ := Aside0.mk (hi); clear HK; clear HB; clear HI0; have HK := n0_; have HB := n1_; have HI0 := n2_; clear n0_ n1_ n2_; (try clear hb); (try clear hb2); (try clear hk); (try clear hi)) | ((with_reducible refine gate_callee (f := 53) rfl ?_); refine goesL_ (some 11) rfl rfl Try.func53 (by kernel_rfl) rfl #[.pointer (some ⟨g, 0, none⟩)] rfl (by (try simp only [List.map_toArray, List.map_cons, List.map_nil]); first | done | rfl | (simp only [List.length_drop, List.length_take]; rfl)) ?_; (with_reducible refine (spec_l10Tree.calls g t230 s0_1 t231 t234 t237 t238 w0 _ ?side1 ?side2 A4.out).mono ?_); (case side1 => repeat (first | (with_reducible first | exact HI0.out | apply IsS39.alloc | apply IsS39.drewN | apply IsS39.drew | apply IsS39.set_0) | exact HI0.out)); (case side2 => repeat (first | (with_reducible first | exact HB.out | apply below_alloc | apply pw_below_drewN | apply below_drew1 | refine below_set ?_ (IsS39.ge HI0.out)) | exact HB.out)); rintro e w6 ⟨v232, v235, rfl, ho0, ho1, hi, hb, hk⟩; refine ⟨_, rfl, ?_⟩; have n0_ := Aside0.mk (Kd.R_lower ho0 (keep_size (w := w) (g := g) (row := none) (by repeat (first | (with_reducible first | exact HK.out | apply KeepBut.set_ | apply keep_drewN | apply keep_drew | apply keep_alloc) | exact HK.out)))); have n1_ := Aside0.mk (Kd.R_lower ho1 (keep_size (w := w) (g := g) (row := none) (by repeat (first | (with_reducible first | exact HK.out | apply KeepBut.set_ | apply keep_drewN | apply keep_drew | apply keep_alloc) | exact HK.out)))); have n2_ := Aside0.mk (KeepBut.trans (by repeat (first | (with_reducible first | exact HK.out | apply KeepBut.set_ | apply keep_drewN | apply keep_drew | apply keep_alloc) | exact HK.out)) hk (.inl rfl)); have n3_ := Aside0.mk (hb); have n4_ := Aside0.mk (hi); clear HK; clear HB; clear HI0; have HO233 := n0_; have HO236 := n1_; have HK := n2_; have HB := n3_; have HI0 := n4_; clear n0_ n1_ n2_ n3_ n4_; (try clear hb); (try clear hb2); (try clear hk); (try clear hi); (try clear ho0); (try clear ho1)))
    go_ret
    exact ⟨by first | rfl | (simp [errW_none, errW_some] <;> rfl) | (simp [*, errW_none, errW_some] <;> rfl), by repeat (first | (with_reducible first | exact HI0.out | apply IsS39.alloc | apply IsS39.drewN | apply IsS39.drew | apply IsS39.set_0) | exact HI0.out), by repeat (first | (with_reducible first | exact HB.out | apply below_alloc | apply pw_below_drewN | apply below_drew1 | refine below_set ?_ (IsS39.ge HI0.out)) | exact HB.out), by repeat (first | (with_reducible first | exact HK.out | apply KeepBut.set_ | apply keep_drewN | apply keep_drew | apply keep_alloc) | exact HK.out)⟩
  · replace c3 := Bool.eq_false_iff.mpr c3
    subst c3
    have H1 : (some (false, t230)) = some (r1, r2) := by rw [if_neg (show ¬ (false = true) by decide)] at H; exact H
    clear H
    have H := H1
    clear H1
    simp only [Option.some.injEq, Prod.mk.injEq] at H
    obtain ⟨rfl, rfl⟩ := H
    go_enter Try.func46, Try.ntmps46
    go_wp2_with (first | ((with_reducible refine gate_callee (f := 43) rfl ?_); refine goesL_ (some 7) rfl rfl Try.func43 (by kernel_rfl) rfl #[.pointer (some ⟨g, 0, none⟩)] rfl (by (try simp only [List.map_toArray, List.map_cons, List.map_nil]); first | done | rfl | (simp only [List.length_drop, List.length_take]; rfl)) ?_; (with_reducible refine (spec_l10Is.calls g s0_0 s0_1 false t230 w0 _ ?side1 ?side2 A2.out).mono ?_); (case side1 => repeat (first | (with_reducible first | exact HI0.out | apply IsS39.alloc | apply IsS39.drewN | apply IsS39.drew | apply IsS39.set_0) | exact HI0.out)); (case side2 => repeat (first | (with_reducible first | exact HB.out | apply below_alloc | apply pw_below_drewN | apply below_drew1 | refine below_set ?_ (IsS39.ge HI0.out)) | exact HB.out)); rintro e w7 ⟨rfl, hi, hb, hk⟩; refine ⟨_, rfl, ?_⟩; have n0_ := Aside0.mk (KeepBut.trans (by repeat (first | (with_reducible first | exact HK.out | apply KeepBut.set_ | apply keep_drewN | apply keep_drew | apply keep_alloc) | exact HK.out)) hk (.inl rfl)); have n1_ := Aside0.mk (hb); have n2_ := Aside0.mk (hi); clear HK; clear HB; clear HI0; have HK := n0_; have HB := n1_; have HI0 := n2_; clear n0_ n1_ n2_; (try clear hb); (try clear hb2); (try clear hk); (try clear hi)))
    go_ret
    exact ⟨by first | rfl | (simp [errW_none, errW_some] <;> rfl) | (simp [*, errW_none, errW_some] <;> rfl), by repeat (first | (with_reducible first | exact HI0.out | apply IsS39.alloc | apply IsS39.drewN | apply IsS39.drew | apply IsS39.set_0) | exact HI0.out), by repeat (first | (with_reducible first | exact HB.out | apply below_alloc | apply pw_below_drewN | apply below_drew1 | refine below_set ?_ (IsS39.ge HI0.out)) | exact HB.out), by repeat (first | (with_reducible first | exact HK.out | apply KeepBut.set_ | apply keep_drewN | apply keep_drew | apply keep_alloc) | exact HK.out)⟩

end Go.Proofs.Ytkkiagoacbhhjaa.Q

-- made by a patched copy of print.sh: this session's own
namespace Go.Proofs.Ytkkiagoacbhhjaa.Q
open Go.RowKit Go.Proofs.YtkkiagoacbhhjaaW.PrintWords Go.Proofs.YtkkiagoacbhhjaaW.PrintLast Go.Proofs.YtkkiagoacbhhjaaW.PrintMore
attribute [local go_sem] max2_int min2_int max_two min_two max_three min_three max_four min_four   -- for this text's walks alone
set_option linter.unusedVariables false
set_option linter.unusedSimpArgs false

/-! ### spec_IsConnected: function 19 -/
def spec_IsConnected.f (a0_0 : Int) (l0_1 : List (S64)) : Option (Bool) := (spec_l10Whole.f a0_0 l0_1).bind fun bt240 => (some bt240.1)
set_option maxHeartbeats 8000000 in
set_option maxRecDepth 100000 in
theorem spec_IsConnected.calls (a0_0 : Int) (A0_1 : Option Addr) (c0_1 : Nat) (l0_1 : List (S64)) (r : Bool) (w : World) (hr0_1 : Kd.C k64 w A0_1 l0_1.length l0_1) (hc0_1 : l0_1.length ≤ c0_1) (h : spec_IsConnected.f a0_0 l0_1 = some r) :
    Calls Try.prog 19 #[.agg #[.int .i64 a0_0, .slice A0_1 l0_1.length c0_1]] w fun e w' => e = .returned (.bool r) ∧ Below w.heap.size w w' := by
  have hu39 := Try.underlying39
  have HR0_1 := Aside0.mk hr0_1
  have HC0_1 := Aside0.mk hc0_1
  clear hr0_1 hc0_1
  have HB := Aside0.mk (Below.refl w.heap.size w)
  have H : ((spec_l10Whole.f a0_0 l0_1).bind fun bt240 => (some bt240.1)) = some r := h
  clear h
  replace H := Option.bind_eq_some_iff.mp H
  obtain ⟨⟨t240, t241⟩, A20, H⟩ := H
  replace H : (some t240) = some r := H
  have A2 := Aside0.mk A20
  clear A20
  obtain rfl := Option.some.inj H
  go_enter Try.func19, Try.ntmps19
  go_wp2_with (first | ((with_reducible refine gate_dst (N := 1) rfl ?_); refine box_event ?hg (N := 1) ?hd (cs := #[.int .i64 a0_0, .slice A0_1 l0_1.length c0_1]) (t := 39) ?hr ?_; (case hd => rfl); (case hg => rfl); (case hr => first | (go_simp; done) | (go_simp; rfl)); intro gb239 hg w3 hbox hb; have n0_ := Aside0.mk (below_step (by repeat (first | (with_reducible first | exact HB.out | apply below_alloc | apply pw_below_drewN | apply below_drew1) | exact HB.out)) hb); have n1_ := Aside0.mk ((by rw [hg]; exact (below_size (by repeat (first | (with_reducible first | exact HB.out | apply below_alloc | apply pw_below_drewN | apply below_drew1) | exact HB.out))) : w.heap.size ≤ gb239)); have n2_ := Aside0.mk ((by rw [hg]; exact (below_size (by repeat (first | (with_reducible first | exact HB.out | apply below_alloc | apply pw_below_drewN | apply below_drew1) | exact HB.out))) : w.heap.size ≤ gb239)); have n3_ := Aside0.mk ((⟨A0_1, c0_1, hbox, (by rw [hg]; exact (below_size (by repeat (first | (with_reducible first | exact HB.out | apply below_alloc | apply pw_below_drewN | apply below_drew1) | exact HB.out)))), HR0_1.out⟩ : IsS39 w w3 gb239 a0_0 l0_1)); clear HB; have HB := n0_; have GW239 := n1_; have GE239 := n2_; have HI239 := n3_; clear n0_ n1_ n2_ n3_; clear hb hbox hg) | ((with_reducible refine gate_callee (f := 46) rfl ?_); refine goesL_ (some 3) rfl rfl Try.func46 (by kernel_rfl) rfl #[.pointer (some ⟨gb239, 0, none⟩)] rfl (by (try simp only [List.map_toArray, List.map_cons, List.map_nil]); first | done | rfl | (simp only [List.length_drop, List.length_take]; rfl)) ?_; (with_reducible refine (spec_l10Whole.calls gb239 a0_0 l0_1 t240 t241 w _ ?side1 ?side2 A2.out).mono ?_); (case side1 => repeat (first | (with_reducible first | exact HI239.out | apply IsS39.alloc | apply IsS39.drewN | apply IsS39.drew | apply IsS39.set_0) | exact HI239.out)); (case side2 => repeat (first | (with_reducible first | exact HB.out | apply below_alloc | apply pw_below_drewN | apply below_drew1 | refine below_set ?_ (IsS39.ge HI239.out)) | exact HB.out)); rintro e w4 ⟨rfl, hi, hb, hk⟩; refine ⟨_, rfl, ?_⟩; have n0_ := Aside0.mk (hb); have n1_ := Aside0.mk (hi); clear HB; clear HI239; have HB := n0_; have HI239 := n1_; clear n0_ n1_; (try clear hb); (try clear hb2); (try clear hk); (try clear hi)))
  go_ret
  exact ⟨by first | rfl | (simp [errW_none, errW_some] <;> rfl) | (simp [*, errW_none, errW_some] <;> rfl), by repeat (first | (with_reducible first | exact HB.out | apply below_alloc | apply pw_below_drewN | apply below_drew1 | refine below_set ?_ (IsS39.ge HI239.out)) | exact HB.out)⟩

end Go.Proofs.Ytkkiagoacbhhjaa.Q

-- made by a patched copy of print.sh: this session's own
namespace Go.Proofs.Ytkkiagoacbhhjaa.Q
open Go.RowKit Go.Proofs.YtkkiagoacbhhjaaW.PrintWords Go.Proofs.YtkkiagoacbhhjaaW.PrintLast Go.Proofs.YtkkiagoacbhhjaaW.PrintMore
attribute [local go_sem] max2_int min2_int max_two min_two max_three min_three max_four min_four   -- for this text's walks alone
set_option linter.unusedVariables false
set_option linter.unusedSimpArgs false

/-! ### impl_areWithin: function 41 -/
def impl_areWithin.f (l0 : List Int) (a1 : Int) (a2 : Int) : Option (Bool) := some (Ha.areIn l0 a1 a2)
theorem impl_areWithin.calls (A0 : Option Addr) (c0 : Nat) (l0 : List Int) (a1 : Int) (a2 : Int) (r : Bool) (w : World) (hr0 : Kd.C (Kd.int .i64) w A0 l0.length l0) (hc0 : l0.length ≤ c0) (h : impl_areWithin.f l0 a1 a2 = some r) :
    Calls Try.prog 41 #[.slice A0 l0.length c0, .int .i64 a1, .int .i64 a2] w fun e w' => e = .returned (.bool r) ∧ Below w.heap.size w w' := by
  obtain rfl := Option.some.inj h
  exact Ha.areWithin_any A0 c0 l0 a1 a2 w hr0

end Go.Proofs.Ytkkiagoacbhhjaa.Q

-- made by a patched copy of print.sh: this session's own
namespace Go.Proofs.Ytkkiagoacbhhjaa.Q
open Go.RowKit Go.Proofs.YtkkiagoacbhhjaaW.PrintWords Go.Proofs.YtkkiagoacbhhjaaW.PrintLast Go.Proofs.YtkkiagoacbhhjaaW.PrintMore
attribute [local go_sem] max2_int min2_int max_two min_two max_three min_three max_four min_four   -- for this text's walks alone
set_option linter.unusedVariables false
set_option linter.unusedSimpArgs false

/-! ### impl_within: function 39 -/
def impl_within.f (a0 : Int) (a1 : Int) (a2 : Int) : Option (Bool) := if a1 ≤ a0 then (some (decide (a0 ≤ a2))) else (some false)
set_option maxHeartbeats 8000000 in
set_option maxRecDepth 100000 in
theorem impl_within.calls (a0 : Int) (a1 : Int) (a2 : Int) (r : Bool) (w : World) (h : impl_within.f a0 a1 a2 = some r) :
    Calls Try.prog 39 #[.int .i64 a0, .int .i64 a1, .int .i64 a2] w fun e w' => e = .returned (.bool r) ∧ Drawn0 w w' := by
  have H : (if a1 ≤ a0 then (some (decide (a0 ≤ a2))) else (some false)) = some r := h
  clear h
  by_cases c4 : a1 ≤ a0
  · rw [if_pos c4] at H
    have c4b0 : decide (a1 ≤ a0) = true := decide_eq_true c4
    clear c4
    obtain rfl := Option.some.inj H
    go_enter Try.func39, Try.ntmps39
    go_wp2
    go_ret
    exact ⟨by first | rfl | (simp; done) | (simp [*]; done), by repeat (first | exact Drawn0.refl _ | apply Drawn0.step)⟩
  · rw [if_neg c4] at H
    have c4b0 : decide (a1 ≤ a0) = false := decide_eq_false c4
    clear c4
    obtain rfl := Option.some.inj H
    go_enter Try.func39, Try.ntmps39
    go_wp2
    go_ret
    exact ⟨by first | rfl | (simp; done) | (simp [*]; done), by repeat (first | exact Drawn0.refl _ | apply Drawn0.step)⟩

end Go.Proofs.Ytkkiagoacbhhjaa.Q

-- made by a patched copy of print.sh: this session's own
namespace Go.Proofs.Ytkkiagoacbhhjaa.Q
open Go.RowKit Go.Proofs.YtkkiagoacbhhjaaW.PrintWords Go.Proofs.YtkkiagoacbhhjaaW.PrintLast Go.Proofs.YtkkiagoacbhhjaaW.PrintMore
attribute [local go_sem] max2_int min2_int max_two min_two max_three min_three max_four min_four   -- for this text's walks alone
set_option linter.unusedVariables false
set_option linter.unusedSimpArgs false

/-! ### impl_ValidSurvey: function 17 -/
def impl_ValidSurvey.l0 : Nat → List (S64) → Int → Int → Int → List (S64) → Option (Bool)
  | 0, _, _, _, _, _ => none
  | k + 1, x6, x7, x8, x194000, x194001 => if x8 < x7 then (if 0 ≤ x8 then (if x8 < (x6.length : Int) then ((impl_areWithin.f (([(rd_T64 x6 x8).f0, (rd_T64 x6 x8).f1] : List Int)) 0 (wrap64 (x194000 - 1))).bind fun t200 => (if t200 = true then (if ((rd_T64 x6 x8).f0) = ((rd_T64 x6 x8).f1) then (some false) else ((impl_within.f ((rd_T64 x6 x8).f2) (-100) 100).bind fun t201 => (if t201 = true then ((impl_within.f ((rd_T64 x6 x8).f3) 1 3).bind fun t202 => (if t202 = true then (impl_ValidSurvey.l0 k x6 x7 (wrap64 (x8 + 1)) x194000 x194001) else (some false))) else (some false)))) else (some false))) else (none)) else (none)) else ((impl_within.f x194000 2 5).bind fun t194 => (if t194 = true then (some (decide ((x194001.length : Int) ≤ 8))) else (some false)))
def impl_ValidSurvey.f (k : Nat) (a0_0 : Int) (l0_1 : List (S64)) : Option (Bool) := impl_ValidSurvey.l0 k l0_1 (l0_1.length : Int) 0 a0_0 l0_1
theorem impl_ValidSurvey.mono_l : ∀ k, (∀ y0 y1 y2 y3 y4, LeO (impl_ValidSurvey.l0 k y0 y1 y2 y3 y4) (impl_ValidSurvey.l0 (k + 1) y0 y1 y2 y3 y4))
  | 0 => fun _ _ _ _ _ r h => by simp [impl_ValidSurvey.l0] at h
  | k + 1 => by
    have ih0 := impl_ValidSurvey.mono_l k
    · intro y0 y1 y2 y3 y4
      unfold impl_ValidSurvey.l0
      repeat' first
      | (with_reducible exact ih0 _ _ _ _ _)
      | (with_reducible exact LeO.refl _)
      | (with_reducible exact LeO.none _)
      | (with_reducible refine LeO.ite ?_ ?_)
      | (with_reducible refine LeO.bind ?_ (fun _ => ?_))
      | exact ih0 _ _ _ _ _
      | exact LeO.none _
      | refine LeO.ite ?_ ?_
      | refine LeO.bind ?_ (fun _ => ?_)
theorem impl_ValidSurvey.mono : ∀ a0 a1 k, LeO (impl_ValidSurvey.f k a0 a1) (impl_ValidSurvey.f (k + 1) a0 a1) := by
  intro a0 a1 k
  have ih0 := impl_ValidSurvey.mono_l k
  unfold impl_ValidSurvey.f
  repeat' first
      | (with_reducible exact ih0 _ _ _ _ _)
      | (with_reducible exact LeO.refl _)
      | (with_reducible exact LeO.none _)
      | (with_reducible refine LeO.ite ?_ ?_)
      | (with_reducible refine LeO.bind ?_ (fun _ => ?_))
      | exact ih0 _ _ _ _ _
      | exact LeO.none _
      | refine LeO.ite ?_ ?_
      | refine LeO.bind ?_ (fun _ => ?_)
set_option maxHeartbeats 8000000 in
set_option maxRecDepth 100000 in
theorem impl_ValidSurvey.calls (k : Nat) (a0_0 : Int) (A0_1 : Option Addr) (c0_1 : Nat) (l0_1 : List (S64)) (r : Bool) (w : World) (hr0_1 : Kd.C k64 w A0_1 l0_1.length l0_1) (hc0_1 : l0_1.length ≤ c0_1) (h : impl_ValidSurvey.f k a0_0 l0_1 = some r) :
    Calls Try.prog 17 #[.agg #[.int .i64 a0_0, .slice A0_1 l0_1.length c0_1]] w fun e w' => e = .returned (.bool r) ∧ Below w.heap.size w w' := by
  have hu39 := Try.underlying39
  have hu64 := Try.underlying64
  have HR0_1 := Aside0.mk hr0_1
  have HC0_1 := Aside0.mk hc0_1
  clear hr0_1 hc0_1
  have HB := Aside0.mk (Below.refl w.heap.size w)
  have H : (impl_ValidSurvey.l0 k l0_1 (l0_1.length : Int) 0 a0_0 l0_1) = some r := h
  clear h
  have H' := Aside0.mk H
  clear H
  go_enter Try.func17, Try.ntmps17
  go_wp2_with (first | ((with_reducible refine gate_dst (N := 1) rfl ?_); (try (refine gate_guard (by rfl) ?_; dsimp only)); refine box_event ?hg (N := 1) ?hd (cs := #[.int .i64 a0_0, .slice A0_1 l0_1.length c0_1]) (t := 39) ?hr ?_; (case hd => rfl); (case hg => rfl); (case hr => first | (go_simp; done) | (go_simp; rfl)); intro gb193 hg w2 hbox hb; have n0_ := Aside0.mk (below_step (by repeat (first | (with_reducible first | exact HB.out | apply below_alloc | apply pw_below_drewN | apply below_drew1) | exact HB.out)) hb); have n1_ := Aside0.mk (hbox); have n2_ := Aside0.mk ((by rw [hg]; exact (below_size (by repeat (first | (with_reducible first | exact HB.out | apply below_alloc | apply pw_below_drewN | apply below_drew1) | exact HB.out))) : w.heap.size ≤ gb193)); have n3_ := Aside0.mk ((by rw [hg]; exact (below_size (by repeat (first | (with_reducible first | exact HB.out | apply below_alloc | apply pw_below_drewN | apply below_drew1) | exact HB.out))) : w.heap.size ≤ gb193)); clear HB; have HB := n0_; have BK193 := n1_; have GW193 := n2_; have GE193 := n3_; clear n0_ n1_ n2_ n3_; clear hb hbox hg; have hcz3_0 : w2.cell? ⟨gb193, 0, none⟩ = some (.int .i64 a0_0) := (blk_cell BK193.out 0).trans rfl; have hcz3_1 : w2.cell? ⟨gb193, 1, none⟩ = some (.slice A0_1 l0_1.length c0_1) := (blk_cell BK193.out 1).trans rfl; have hfz3_0 := blk_frozen BK193.out 0; have hfz3_1 := blk_frozen BK193.out 1))
  go_loopg [8] k (fun kq v8 w' => ∃ (x8_1 : Int), v8 = .int .i64 x8_1 ∧ Aside0 (impl_ValidSurvey.l0 kq l0_1 (l0_1.length : Int) x8_1 a0_0 l0_1 = some r) ∧ Aside0 (kq ≤ k) ∧ Aside0 (w'.heap[gb193]? = some (.cells #[.int .i64 a0_0, (.slice A0_1 l0_1.length c0_1)] 39 (0, 0))) ∧ Aside0 (Below w.heap.size w w'))
  case atStart => exact ⟨(0), (by first | rfl | (simp; done) | (simp [*]; done)), H', ⟨Nat.le_refl _⟩, ⟨by (with_reducible repeat (first | refine blk_drewN ?_ _ | refine blk_drew ?_ | refine blk_alloc ?_ _)); exact BK193.out⟩, ⟨by repeat (first | (with_reducible first | exact HB.out | apply below_alloc | apply pw_below_drewN | apply below_drew1 | refine below_set ?_ GE193.out) | exact HB.out)⟩⟩
  case round =>
    clear H'
    try clear c1
    try clear p2
    try clear hcz3_0
    try clear hcz3_1
    try clear hfz3_0
    try clear hfz3_1
    obtain ⟨x8_1, rfl, HA, HK1, BK193, HB⟩ := hrel
    cases gk with
    | zero => exact absurd HA.out (by simp [impl_ValidSurvey.l0])
    | succ k1 =>
      have H := HA.out
      clear HA
      simp only [impl_ValidSurvey.l0] at H
      by_cases c4 : x8_1 < (l0_1.length : Int)
      · rw [if_pos c4] at H
        have c4b0 : decide (x8_1 < (l0_1.length : Int)) = true := decide_eq_true c4
        clear c4
        by_cases c5 : 0 ≤ x8_1
        · rw [if_pos c5] at H
          have c5b0 : decide (0 ≤ x8_1) = true := decide_eq_true c5
          clear c5
          by_cases c6 : x8_1 < (l0_1.length : Int)
          · rw [if_pos c6] at H
            have c6b0 : decide (x8_1 < (l0_1.length : Int)) = true := decide_eq_true c6
            clear c6
            obtain ⟨y197, hy197⟩ : ∃ y_ : List Int, y_ = (([(rd_T64 l0_1 x8_1).f0, (rd_T64 l0_1 x8_1).f1] : List Int)) := ⟨_, rfl⟩
            replace H : ((impl_areWithin.f y197 0 (wrap64 (a0_0 - 1))).bind fun t200 => (if t200 = true then (if ((rd_T64 l0_1 x8_1).f0) = ((rd_T64 l0_1 x8_1).f1) then (some false) else ((impl_within.f ((rd_T64 l0_1 x8_1).f2) (-100) 100).bind fun t201 => (if t201 = true then ((impl_within.f ((rd_T64 l0_1 x8_1).f3) 1 3).bind fun t202 => (if t202 = true then (impl_ValidSurvey.l0 k1 l0_1 (l0_1.length : Int) (wrap64 (x8_1 + 1)) a0_0 l0_1) else (some false))) else (some false)))) else (some false))) = some r := by first | (rw [hy197]; with_reducible exact H) | (have H2_ := (Option.bind_some _ _).symm.trans H; rw [hy197]; with_reducible exact H2_) | (have H2_ := (Option.bind_some _ _).symm.trans H; with_reducible exact H2_) | with_reducible exact H | (rw [hy197]; exact H) | exact H
            have Ny197 := Aside0.mk hy197
            clear hy197
            replace H := Option.bind_eq_some_iff.mp H
            obtain ⟨t200, A70, H⟩ := H
            replace H : (if t200 = true then (if ((rd_T64 l0_1 x8_1).f0) = ((rd_T64 l0_1 x8_1).f1) then (some false) else ((impl_within.f ((rd_T64 l0_1 x8_1).f2) (-100) 100).bind fun t201 => (if t201 = true then ((impl_within.f ((rd_T64 l0_1 x8_1).f3) 1 3).bind fun t202 => (if t202 = true then (impl_ValidSurvey.l0 k1 l0_1 (l0_1.length : Int) (wrap64 (x8_1 + 1)) a0_0 l0_1) else (some false))) else (some false)))) else (some false)) = some r := H
            have A7 := Aside0.mk A70
            clear A70
            by_cases c8 : t200 = true
            · subst c8
              have H1 : (if ((rd_T64 l0_1 x8_1).f0) = ((rd_T64 l0_1 x8_1).f1) then (some false) else ((impl_within.f ((rd_T64 l0_1 x8_1).f2) (-100) 100).bind fun t201 => (if t201 = true then ((impl_within.f ((rd_T64 l0_1 x8_1).f3) 1 3).bind fun t202 => (if t202 = true then (impl_ValidSurvey.l0 k1 l0_1 (l0_1.length : Int) (wrap64 (x8_1 + 1)) a0_0 l0_1) else (some false))) else (some false)))) = some r := by rw [if_pos rfl] at H; exact H
              clear H
              have H := H1
              clear H1
              by_cases c9 : ((rd_T64 l0_1 x8_1).f0) = ((rd_T64 l0_1 x8_1).f1)
              · rw [if_pos c9] at H
                have c9b0 : (((rd_T64 l0_1 x8_1).f0) == ((rd_T64 l0_1 x8_1).f1)) = true := beq_iff_eq.mpr c9
                have c9b1 : (((rd_T64 l0_1 x8_1).f0) != ((rd_T64 l0_1 x8_1).f1)) = false := bne_eq_false_iff_eq.mpr c9
                clear c9
                obtain rfl := Option.some.inj H
                have p195 : 0 ≤ (x8_1 : Int) := of_decide_eq_true (by first | (with_reducible assumption) | assumption)
                have q195 : x8_1 < (l0_1.length : Int) := of_decide_eq_true (by first | (with_reducible assumption) | assumption)
                obtain ⟨ad195, e195, hx195_0, hx195_1, hx195_2, hx195_3⟩ := at_T64 HR0_1.out x8_1 p195 q195
                cases e195
                replace hx195_0 := (HB.out.cell (World.block_lt_of_cell? w _ hx195_0)).trans hx195_0
                replace hx195_1 := (HB.out.cell (World.block_lt_of_cell? w _ hx195_1)).trans hx195_1
                replace hx195_2 := (HB.out.cell (World.block_lt_of_cell? w _ hx195_2)).trans hx195_2
                replace hx195_3 := (HB.out.cell (World.block_lt_of_cell? w _ hx195_3)).trans hx195_3
                replace p195 := eq_true p195
                replace q195 := eq_true q195
                go_wp2_with (first | ((with_reducible refine gate_dst (N := 4) rfl ?_); (try (refine gate_guard (by rfl) ?_; dsimp only)); refine box_event ?hg (N := 4) ?hd (cs := #[.int .i64 0, .int .i64 0, .int .i64 0, .int .i64 0]) (t := 64) ?hr ?_; (case hd => rfl); (case hg => rfl); (case hr => first | (go_simp; done) | (go_simp; rfl)); intro gb196 hg w10 hbox hb; have n0_ := Aside0.mk (blk_below (g := gb193) (o := .cells #[.int .i64 a0_0, .slice (some ad195) l0_1.length c0_1] 39 (0, 0)) (by (with_reducible repeat (first | refine blk_drewN ?_ _ | refine blk_drew ?_ | refine blk_alloc ?_ _)); exact BK193.out) hb); have n1_ := Aside0.mk (below_step (by repeat (first | (with_reducible first | exact HB.out | apply below_alloc | apply pw_below_drewN | apply below_drew1 | refine below_set ?_ GE193.out) | exact HB.out)) hb); have n2_ := Aside0.mk (hbox); have n3_ := Aside0.mk ((by rw [hg]; exact (below_size (by repeat (first | (with_reducible first | exact HB.out | apply below_alloc | apply pw_below_drewN | apply below_drew1 | refine below_set ?_ GE193.out) | exact HB.out))) : w.heap.size ≤ gb196)); have n4_ := Aside0.mk ((by rw [hg]; exact (below_size (by repeat (first | (with_reducible first | exact HB.out | apply below_alloc | apply pw_below_drewN | apply below_drew1 | refine below_set ?_ GE193.out) | exact HB.out))) : w.heap.size ≤ gb196)); have n5_ := Aside0.mk ((by rw [hg]; exact Nat.ne_of_lt (blk_lt (g := gb193) (o := .cells #[.int .i64 a0_0, .slice (some ad195) l0_1.length c0_1] 39 (0, 0)) (by (with_reducible repeat (first | refine blk_drewN ?_ _ | refine blk_drew ?_ | refine blk_alloc ?_ _)); exact BK193.out)) : gb193 ≠ gb196)); have n6_ := Aside0.mk ((by rw [hg]; exact Nat.ne_of_gt (blk_lt (g := gb193) (o := .cells #[.int .i64 a0_0, .slice (some ad195) l0_1.length c0_1] 39 (0, 0)) (by (with_reducible repeat (first | refine blk_drewN ?_ _ | refine blk_drew ?_ | refine blk_alloc ?_ _)); exact BK193.out)) : gb196 ≠ gb193)); clear BK193; clear HB; have BK193 := n0_; have HB := n1_; have BK196 := n2_; have GW196 := n3_; have GE196 := n4_; have NB193_196 := n5_; have NB196_193 := n6_; clear n0_ n1_ n2_ n3_ n4_ n5_ n6_; clear hb hbox hg; have hnb11 := NB196_193.out; have hnc11 := NB193_196.out; have hcz12_0 : w10.cell? ⟨gb196, 0, none⟩ = some (.int .i64 0) := (blk_cell BK196.out 0).trans rfl; have hcz12_1 : w10.cell? ⟨gb196, 1, none⟩ = some (.int .i64 0) := (blk_cell BK196.out 1).trans rfl; have hcz12_2 : w10.cell? ⟨gb196, 2, none⟩ = some (.int .i64 0) := (blk_cell BK196.out 2).trans rfl; have hcz12_3 : w10.cell? ⟨gb196, 3, none⟩ = some (.int .i64 0) := (blk_cell BK196.out 3).trans rfl; have hfz12_0 := blk_frozen BK196.out 0; have hfz12_1 := blk_frozen BK196.out 1; have hfz12_2 := blk_frozen BK196.out 2; have hfz12_3 := blk_frozen BK196.out 3) | ((with_reducible refine gate_dst (N := 16) rfl ?_); (try (refine gate_guard (by rfl) ?_; dsimp only)); refine Kd.R_lit (Kd.int .i64) _ 2 ?hg (N := 16) ?hd (xs := ([(rd_T64 l0_1 x8_1).f0, (rd_T64 l0_1 x8_1).f1] : List Int)) (inner := [.int .i64 ((rd_T64 l0_1 x8_1).f0), .int .i64 ((rd_T64 l0_1 x8_1).f1)]) (ok := fun _ => True) (okp := fun _ => True) ?hr ?hp (fun _ hk => hk) trivial (Below.refl _ _) (Nat.le_refl _) (by simp) ?_; (case hd => rfl); (case hg => rfl); (case hr => first | (go_simp; done) | (go_simp; rfl)); (case hp => exact (Reps.one (show Kd.M (Kd.int .i64) _ _ _ ((rd_T64 l0_1 x8_1).f0) [.int .i64 ((rd_T64 l0_1 x8_1).f0)] from rfl) (Reps.one (show Kd.M (Kd.int .i64) _ _ _ ((rd_T64 l0_1 x8_1).f1) [.int .i64 ((rd_T64 l0_1 x8_1).f1)] from rfl) (Reps.none _ _)))); intro v198 w13 ho14 hb hg_ hnew_; clear hg_ hnew_; (first | rw [← Ny197.out] at ho14 | (simp only [Int.reduceToNat] at ho14; rw [← Ny197.out] at ho14)); have n0_ := Aside0.mk (Kd.R_lower ho14 (below_size (by repeat (first | (with_reducible first | exact HB.out | apply below_alloc | apply pw_below_drewN | apply below_drew1 | refine below_set ?_ GE193.out | refine below_set ?_ GE196.out) | exact HB.out)))); have n1_ := Aside0.mk (blk_below (g := gb193) (o := .cells #[.int .i64 a0_0, .slice (some ad195) l0_1.length c0_1] 39 (0, 0)) (by (with_reducible repeat (first | refine blk_drewN ?_ _ | refine blk_drew ?_ | refine blk_alloc ?_ _)); refine blk_far ?_ NB193_196.out _; (with_reducible repeat (first | refine blk_drewN ?_ _ | refine blk_drew ?_ | refine blk_alloc ?_ _)); refine blk_far ?_ NB193_196.out _; (with_reducible repeat (first | refine blk_drewN ?_ _ | refine blk_drew ?_ | refine blk_alloc ?_ _)); refine blk_far ?_ NB193_196.out _; (with_reducible repeat (first | refine blk_drewN ?_ _ | refine blk_drew ?_ | refine blk_alloc ?_ _)); refine blk_far ?_ NB193_196.out _; (with_reducible repeat (first | refine blk_drewN ?_ _ | refine blk_drew ?_ | refine blk_alloc ?_ _)); exact BK193.out) hb); have n2_ := Aside0.mk (blk_below (g := gb196) (o := .cells #[.int .i64 ((rd_T64 l0_1 x8_1).f0), .int .i64 ((rd_T64 l0_1 x8_1).f1), .int .i64 ((rd_T64 l0_1 x8_1).f2), .int .i64 ((rd_T64 l0_1 x8_1).f3)] 64 (0, 0)) (by (with_reducible repeat (first | refine blk_drewN ?_ _ | refine blk_drew ?_ | refine blk_alloc ?_ _)); refine blk_put (cs := #[.int .i64 ((rd_T64 l0_1 x8_1).f0), .int .i64 ((rd_T64 l0_1 x8_1).f1), .int .i64 ((rd_T64 l0_1 x8_1).f2), .int .i64 0]) ?_ 3 _ rfl; (with_reducible repeat (first | refine blk_drewN ?_ _ | refine blk_drew ?_ | refine blk_alloc ?_ _)); refine blk_put (cs := #[.int .i64 ((rd_T64 l0_1 x8_1).f0), .int .i64 ((rd_T64 l0_1 x8_1).f1), .int .i64 0, .int .i64 0]) ?_ 2 _ rfl; (with_reducible repeat (first | refine blk_drewN ?_ _ | refine blk_drew ?_ | refine blk_alloc ?_ _)); refine blk_put (cs := #[.int .i64 ((rd_T64 l0_1 x8_1).f0), .int .i64 0, .int .i64 0, .int .i64 0]) ?_ 1 _ rfl; (with_reducible repeat (first | refine blk_drewN ?_ _ | refine blk_drew ?_ | refine blk_alloc ?_ _)); refine blk_put (cs := #[.int .i64 0, .int .i64 0, .int .i64 0, .int .i64 0]) ?_ 0 _ rfl; (with_reducible repeat (first | refine blk_drewN ?_ _ | refine blk_drew ?_ | refine blk_alloc ?_ _)); exact BK196.out) hb); have n3_ := Aside0.mk (below_step (by repeat (first | (with_reducible first | exact HB.out | apply below_alloc | apply pw_below_drewN | apply below_drew1 | refine below_set ?_ GE193.out | refine below_set ?_ GE196.out) | exact HB.out)) hb); clear BK193; clear BK196; clear HB; have HO199 := n0_; have BK193 := n1_; have BK196 := n2_; have HB := n3_; clear n0_ n1_ n2_ n3_; clear hb ho14; have hcz15_0 : w13.cell? ⟨gb193, 0, none⟩ = some (.int .i64 a0_0) := (blk_cell BK193.out 0).trans rfl; have hcz15_1 : w13.cell? ⟨gb193, 1, none⟩ = some (.slice (some ad195) l0_1.length c0_1) := (blk_cell BK193.out 1).trans rfl; have hfz15_0 := blk_frozen BK193.out 0; have hfz15_1 := blk_frozen BK193.out 1; obtain ⟨Ao16, co16, eo16⟩ := Kd.R_slice HO199.out; subst eo16) | ((with_reducible refine gate_callee (f := 41) rfl ?_); refine goesL_ (some 20) rfl rfl Try.func41 (by kernel_rfl) rfl #[.slice Ao16 y197.length co16, .int .i64 0, .int .i64 (wrap64 (a0_0 - 1))] rfl (by (try simp only [List.map_toArray, List.map_cons, List.map_nil]); first | done | rfl | (simp only [List.length_drop, List.length_take]; rfl)) ?_; (with_reducible refine (impl_areWithin.calls _ _ y197 0 (wrap64 (a0_0 - 1)) true _ ?side1 ?side2 A7.out).mono ?_); (case side1 => repeat (first | exact (Kd.R_reads' HO199.out).2.2 | (with_reducible refine Kd.C_alloc ?_ _) | (with_reducible refine Kd.C_drewN ?_ _) | (with_reducible refine Kd.C_drew ?_))); (case side2 => exact (Kd.R_reads' HO199.out).2.1); rintro e w17 ⟨rfl, hb⟩; refine ⟨_, rfl, ?_⟩; have n0_ := Aside0.mk (Kd.R_below (by (with_reducible repeat (first | apply Kd.R_alloc | apply Kd.R_drewN | apply Kd.R_drew)); exact HO199.out) hb); have n1_ := Aside0.mk (blk_below (g := gb193) (o := .cells #[.int .i64 a0_0, .slice (some ad195) l0_1.length c0_1] 39 (0, 0)) (by (with_reducible repeat (first | refine blk_drewN ?_ _ | refine blk_drew ?_ | refine blk_alloc ?_ _)); exact BK193.out) hb); have n2_ := Aside0.mk (blk_below (g := gb196) (o := .cells #[.int .i64 ((rd_T64 l0_1 x8_1).f0), .int .i64 ((rd_T64 l0_1 x8_1).f1), .int .i64 ((rd_T64 l0_1 x8_1).f2), .int .i64 ((rd_T64 l0_1 x8_1).f3)] 64 (0, 0)) (by (with_reducible repeat (first | refine blk_drewN ?_ _ | refine blk_drew ?_ | refine blk_alloc ?_ _)); exact BK196.out) hb); have n3_ := Aside0.mk (below_step (by repeat (first | (with_reducible first | exact HB.out | apply below_alloc | apply pw_below_drewN | apply below_drew1 | refine below_set ?_ GE193.out | refine below_set ?_ GE196.out) | exact HB.out)) hb); clear HO199; clear BK193; clear BK196; clear HB; have HO199 := n0_; have BK193 := n1_; have BK196 := n2_; have HB := n3_; clear n0_ n1_ n2_ n3_; (try clear hb); (try clear hb2); (try clear hk); (try clear hi); have hcz18_0 : w17.cell? ⟨gb196, 0, none⟩ = some (.int .i64 ((rd_T64 l0_1 x8_1).f0)) := (blk_cell BK196.out 0).trans rfl; have hcz18_1 : w17.cell? ⟨gb196, 1, none⟩ = some (.int .i64 ((rd_T64 l0_1 x8_1).f1)) := (blk_cell BK196.out 1).trans rfl; have hcz18_2 : w17.cell? ⟨gb196, 2, none⟩ = some (.int .i64 ((rd_T64 l0_1 x8_1).f2)) := (blk_cell BK196.out 2).trans rfl; have hcz18_3 : w17.cell? ⟨gb196, 3, none⟩ = some (.int .i64 ((rd_T64 l0_1 x8_1).f3)) := (blk_cell BK196.out 3).trans rfl; have hfz18_0 := blk_frozen BK196.out 0; have hfz18_1 := blk_frozen BK196.out 1; have hfz18_2 := blk_frozen BK196.out 2; have hfz18_3 := blk_frozen BK196.out 3))
                go_ret
                exact ⟨by first | rfl | (simp [errW_none, errW_some] <;> rfl) | (simp [*, errW_none, errW_some] <;> rfl), by repeat (first | (with_reducible first | exact HB.out | apply below_alloc | apply pw_below_drewN | apply below_drew1 | refine below_set ?_ GE193.out | refine below_set ?_ GE196.out) | exact HB.out)⟩
              · rw [if_neg c9] at H
                have c9b0 : (((rd_T64 l0_1 x8_1).f0) == ((rd_T64 l0_1 x8_1).f1)) = false := beq_eq_false_iff_ne.mpr c9
                have c9b1 : (((rd_T64 l0_1 x8_1).f0) != ((rd_T64 l0_1 x8_1).f1)) = true := bne_iff_ne.mpr c9
                replace H := Option.bind_eq_some_iff.mp H
                obtain ⟨t201, A190, H⟩ := H
                replace H : (if t201 = true then ((impl_within.f ((rd_T64 l0_1 x8_1).f3) 1 3).bind fun t202 => (if t202 = true then (impl_ValidSurvey.l0 k1 l0_1 (l0_1.length : Int) (wrap64 (x8_1 + 1)) a0_0 l0_1) else (some false))) else (some false)) = some r := H
                have A19 := Aside0.mk A190
                clear A190
                by_cases c20 : t201 = true
                · subst c20
                  have H1 : ((impl_within.f ((rd_T64 l0_1 x8_1).f3) 1 3).bind fun t202 => (if t202 = true then (impl_ValidSurvey.l0 k1 l0_1 (l0_1.length : Int) (wrap64 (x8_1 + 1)) a0_0 l0_1) else (some false))) = some r := by rw [if_pos rfl] at H; exact H
                  clear H
                  have H := H1
                  clear H1
                  replace H := Option.bind_eq_some_iff.mp H
                  obtain ⟨t202, A210, H⟩ := H
                  replace H : (if t202 = true then (impl_ValidSurvey.l0 k1 l0_1 (l0_1.length : Int) (wrap64 (x8_1 + 1)) a0_0 l0_1) else (some false)) = some r := H
                  have A21 := Aside0.mk A210
                  clear A210
                  by_cases c22 : t202 = true
                  · subst c22
                    have H1 : (impl_ValidSurvey.l0 k1 l0_1 (l0_1.length : Int) (wrap64 (x8_1 + 1)) a0_0 l0_1) = some r := by rw [if_pos rfl] at H; exact H
                    clear H
                    have H := H1
                    clear H1
                    have H' := Aside0.mk H
                    clear H
                    have p195 : 0 ≤ (x8_1 : Int) := of_decide_eq_true (by first | (with_reducible assumption) | assumption)
                    have q195 : x8_1 < (l0_1.length : Int) := of_decide_eq_true (by first | (with_reducible assumption) | assumption)
                    obtain ⟨ad195, e195, hx195_0, hx195_1, hx195_2, hx195_3⟩ := at_T64 HR0_1.out x8_1 p195 q195
                    cases e195
                    replace hx195_0 := (HB.out.cell (World.block_lt_of_cell? w _ hx195_0)).trans hx195_0
                    replace hx195_1 := (HB.out.cell (World.block_lt_of_cell? w _ hx195_1)).trans hx195_1
                    replace hx195_2 := (HB.out.cell (World.block_lt_of_cell? w _ hx195_2)).trans hx195_2
                    replace hx195_3 := (HB.out.cell (World.block_lt_of_cell? w _ hx195_3)).trans hx195_3
                    replace p195 := eq_true p195
                    replace q195 := eq_true q195
                    go_wp2_with (first | ((with_reducible refine gate_dst (N := 4) rfl ?_); (try (refine gate_guard (by rfl) ?_; dsimp only)); refine box_event ?hg (N := 4) ?hd (cs := #[.int .i64 0, .int .i64 0, .int .i64 0, .int .i64 0]) (t := 64) ?hr ?_; (case hd => rfl); (case hg => rfl); (case hr => first | (go_simp; done) | (go_simp; rfl)); intro gb196 hg w23 hbox hb; have n0_ := Aside0.mk (blk_below (g := gb193) (o := .cells #[.int .i64 a0_0, .slice (some ad195) l0_1.length c0_1] 39 (0, 0)) (by (with_reducible repeat (first | refine blk_drewN ?_ _ | refine blk_drew ?_ | refine blk_alloc ?_ _)); exact BK193.out) hb); have n1_ := Aside0.mk (below_step (by repeat (first | (with_reducible first | exact HB.out | apply below_alloc | apply pw_below_drewN | apply below_drew1 | refine below_set ?_ GE193.out) | exact HB.out)) hb); have n2_ := Aside0.mk (hbox); have n3_ := Aside0.mk ((by rw [hg]; exact (below_size (by repeat (first | (with_reducible first | exact HB.out | apply below_alloc | apply pw_below_drewN | apply below_drew1 | refine below_set ?_ GE193.out) | exact HB.out))) : w.heap.size ≤ gb196)); have n4_ := Aside0.mk ((by rw [hg]; exact (below_size (by repeat (first | (with_reducible first | exact HB.out | apply below_alloc | apply pw_below_drewN | apply below_drew1 | refine below_set ?_ GE193.out) | exact HB.out))) : w.heap.size ≤ gb196)); have n5_ := Aside0.mk ((by rw [hg]; exact Nat.ne_of_lt (blk_lt (g := gb193) (o := .cells #[.int .i64 a0_0, .slice (some ad195) l0_1.length c0_1] 39 (0, 0)) (by (with_reducible repeat (first | refine blk_drewN ?_ _ | refine blk_drew ?_ | refine blk_alloc ?_ _)); exact BK193.out)) : gb193 ≠ gb196)); have n6_ := Aside0.mk ((by rw [hg]; exact Nat.ne_of_gt (blk_lt (g := gb193) (o := .cells #[.int .i64 a0_0, .slice (some ad195) l0_1.length c0_1] 39 (0, 0)) (by (with_reducible repeat (first | refine blk_drewN ?_ _ | refine blk_drew ?_ | refine blk_alloc ?_ _)); exact BK193.out)) : gb196 ≠ gb193)); clear BK193; clear HB; have BK193 := n0_; have HB := n1_; have BK196 := n2_; have GW196 := n3_; have GE196 := n4_; have NB193_196 := n5_; have NB196_193 := n6_; clear n0_ n1_ n2_ n3_ n4_ n5_ n6_; clear hb hbox hg; have hnb24 := NB196_193.out; have hnc24 := NB193_196.out; have hcz25_0 : w23.cell? ⟨gb196, 0, none⟩ = some (.int .i64 0) := (blk_cell BK196.out 0).trans rfl; have hcz25_1 : w23.cell? ⟨gb196, 1, none⟩ = some (.int .i64 0) := (blk_cell BK196.out 1).trans rfl; have hcz25_2 : w23.cell? ⟨gb196, 2, none⟩ = some (.int .i64 0) := (blk_cell BK196.out 2).trans rfl; have hcz25_3 : w23.cell? ⟨gb196, 3, none⟩ = some (.int .i64 0) := (blk_cell BK196.out 3).trans rfl; have hfz25_0 := blk_frozen BK196.out 0; have hfz25_1 := blk_frozen BK196.out 1; have hfz25_2 := blk_frozen BK196.out 2; have hfz25_3 := blk_frozen BK196.out 3) | ((with_reducible refine gate_dst (N := 16) rfl ?_); (try (refine gate_guard (by rfl) ?_; dsimp only)); refine Kd.R_lit (Kd.int .i64) _ 2 ?hg (N := 16) ?hd (xs := ([(rd_T64 l0_1 x8_1).f0, (rd_T64 l0_1 x8_1).f1] : List Int)) (inner := [.int .i64 ((rd_T64 l0_1 x8_1).f0), .int .i64 ((rd_T64 l0_1 x8_1).f1)]) (ok := fun _ => True) (okp := fun _ => True) ?hr ?hp (fun _ hk => hk) trivial (Below.refl _ _) (Nat.le_refl _) (by simp) ?_; (case hd => rfl); (case hg => rfl); (case hr => first | (go_simp; done) | (go_simp; rfl)); (case hp => exact (Reps.one (show Kd.M (Kd.int .i64) _ _ _ ((rd_T64 l0_1 x8_1).f0) [.int .i64 ((rd_T64 l0_1 x8_1).f0)] from rfl) (Reps.one (show Kd.M (Kd.int .i64) _ _ _ ((rd_T64 l0_1 x8_1).f1) [.int .i64 ((rd_T64 l0_1 x8_1).f1)] from rfl) (Reps.none _ _)))); intro v198 w26 ho27 hb hg_ hnew_; clear hg_ hnew_; (first | rw [← Ny197.out] at ho27 | (simp only [Int.reduceToNat] at ho27; rw [← Ny197.out] at ho27)); have n0_ := Aside0.mk (Kd.R_lower ho27 (below_size (by repeat (first | (with_reducible first | exact HB.out | apply below_alloc | apply pw_below_drewN | apply below_drew1 | refine below_set ?_ GE193.out | refine below_set ?_ GE196.out) | exact HB.out)))); have n1_ := Aside0.mk (blk_below (g := gb193) (o := .cells #[.int .i64 a0_0, .slice (some ad195) l0_1.length c0_1] 39 (0, 0)) (by (with_reducible repeat (first | refine blk_drewN ?_ _ | refine blk_drew ?_ | refine blk_alloc ?_ _)); refine blk_far ?_ NB193_196.out _; (with_reducible repeat (first | refine blk_drewN ?_ _ | refine blk_drew ?_ | refine blk_alloc ?_ _)); refine blk_far ?_ NB193_196.out _; (with_reducible repeat (first | refine blk_drewN ?_ _ | refine blk_drew ?_ | refine blk_alloc ?_ _)); refine blk_far ?_ NB193_196.out _; (with_reducible repeat (first | refine blk_drewN ?_ _ | refine blk_drew ?_ | refine blk_alloc ?_ _)); refine blk_far ?_ NB193_196.out _; (with_reducible repeat (first | refine blk_drewN ?_ _ | refine blk_drew ?_ | refine blk_alloc ?_ _)); exact BK193.out) hb); have n2_ := Aside0.mk (blk_below (g := gb196) (o := .cells #[.int .i64 ((rd_T64 l0_1 x8_1).f0), .int .i64 ((rd_T64 l0_1 x8_1).f1), .int .i64 ((rd_T64 l0_1 x8_1).f2), .int .i64 ((rd_T64 l0_1 x8_1).f3)] 64 (0, 0)) (by (with_reducible repeat (first | refine blk_drewN ?_ _ | refine blk_drew ?_ | refine blk_alloc ?_ _)); refine blk_put (cs := #[.int .i64 ((rd_T64 l0_1 x8_1).f0), .int .i64 ((rd_T64 l0_1 x8_1).f1), .int .i64 ((rd_T64 l0_1 x8_1).f2), .int .i64 0]) ?_ 3 _ rfl; (with_reducible repeat (first | refine blk_drewN ?_ _ | refine blk_drew ?_ | refine blk_alloc ?_ _)); refine blk_put (cs := #[.int .i64 ((rd_T64 l0_1 x8_1).f0), .int .i64 ((rd_T64 l0_1 x8_1).f1), .int .i64 0, .int .i64 0]) ?_ 2 _ rfl; (with_reducible repeat (first | refine blk_drewN ?_ _ | refine blk_drew ?_ | refine blk_alloc ?_ _)); refine blk_put (cs := #[.int .i64 ((rd_T64 l0_1 x8_1).f0), .int .i64 0, .int .i64 0, .int .i64 0]) ?_ 1 _ rfl; (with_reducible repeat (first | refine blk_drewN ?_ _ | refine blk_drew ?_ | refine blk_alloc ?_ _)); refine blk_put (cs := #[.int .i64 0, .int .i64 0, .int .i64 0, .int .i64 0]) ?_ 0 _ rfl; (with_reducible repeat (first | refine blk_drewN ?_ _ | refine blk_drew ?_ | refine blk_alloc ?_ _)); exact BK196.out) hb); have n3_ := Aside0.mk (below_step (by repeat (first | (with_reducible first | exact HB.out | apply below_alloc | apply pw_below_drewN | apply below_drew1 | refine below_set ?_ GE193.out | refine below_set ?_ GE196.out) | exact HB.out)) hb); clear BK193; clear BK196; clear HB; have HO199 := n0_; have BK193 := n1_; have BK196 := n2_; have HB := n3_; clear n0_ n1_ n2_ n3_; clear hb ho27; have hcz28_0 : w26.cell? ⟨gb193, 0, none⟩ = some (.int .i64 a0_0) := (blk_cell BK193.out 0).trans rfl; have hcz28_1 : w26.cell? ⟨gb193, 1, none⟩ = some (.slice (some ad195) l0_1.length c0_1) := (blk_cell BK193.out 1).trans rfl; have hfz28_0 := blk_frozen BK193.out 0; have hfz28_1 := blk_frozen BK193.out 1; obtain ⟨Ao29, co29, eo29⟩ := Kd.R_slice HO199.out; subst eo29) | ((with_reducible refine gate_callee (f := 41) rfl ?_); refine goesL_ (some 20) rfl rfl Try.func41 (by kernel_rfl) rfl #[.slice Ao29 y197.length co29, .int .i64 0, .int .i64 (wrap64 (a0_0 - 1))] rfl (by (try simp only [List.map_toArray, List.map_cons, List.map_nil]); first | done | rfl | (simp only [List.length_drop, List.length_take]; rfl)) ?_; (with_reducible refine (impl_areWithin.calls _ _ y197 0 (wrap64 (a0_0 - 1)) true _ ?side1 ?side2 A7.out).mono ?_); (case side1 => repeat (first | exact (Kd.R_reads' HO199.out).2.2 | (with_reducible refine Kd.C_alloc ?_ _) | (with_reducible refine Kd.C_drewN ?_ _) | (with_reducible refine Kd.C_drew ?_))); (case side2 => exact (Kd.R_reads' HO199.out).2.1); rintro e w30 ⟨rfl, hb⟩; refine ⟨_, rfl, ?_⟩; have n0_ := Aside0.mk (Kd.R_below (by (with_reducible repeat (first | apply Kd.R_alloc | apply Kd.R_drewN | apply Kd.R_drew)); exact HO199.out) hb); have n1_ := Aside0.mk (blk_below (g := gb193) (o := .cells #[.int .i64 a0_0, .slice (some ad195) l0_1.length c0_1] 39 (0, 0)) (by (with_reducible repeat (first | refine blk_drewN ?_ _ | refine blk_drew ?_ | refine blk_alloc ?_ _)); exact BK193.out) hb); have n2_ := Aside0.mk (blk_below (g := gb196) (o := .cells #[.int .i64 ((rd_T64 l0_1 x8_1).f0), .int .i64 ((rd_T64 l0_1 x8_1).f1), .int .i64 ((rd_T64 l0_1 x8_1).f2), .int .i64 ((rd_T64 l0_1 x8_1).f3)] 64 (0, 0)) (by (with_reducible repeat (first | refine blk_drewN ?_ _ | refine blk_drew ?_ | refine blk_alloc ?_ _)); exact BK196.out) hb); have n3_ := Aside0.mk (below_step (by repeat (first | (with_reducible first | exact HB.out | apply below_alloc | apply pw_below_drewN | apply below_drew1 | refine below_set ?_ GE193.out | refine below_set ?_ GE196.out) | exact HB.out)) hb); clear HO199; clear BK193; clear BK196; clear HB; have HO199 := n0_; have BK193 := n1_; have BK196 := n2_; have HB := n3_; clear n0_ n1_ n2_ n3_; (try clear hb); (try clear hb2); (try clear hk); (try clear hi); have hcz31_0 : w30.cell? ⟨gb196, 0, none⟩ = some (.int .i64 ((rd_T64 l0_1 x8_1).f0)) := (blk_cell BK196.out 0).trans rfl; have hcz31_1 : w30.cell? ⟨gb196, 1, none⟩ = some (.int .i64 ((rd_T64 l0_1 x8_1).f1)) := (blk_cell BK196.out 1).trans rfl; have hcz31_2 : w30.cell? ⟨gb196, 2, none⟩ = some (.int .i64 ((rd_T64 l0_1 x8_1).f2)) := (blk_cell BK196.out 2).trans rfl; have hcz31_3 : w30.cell? ⟨gb196, 3, none⟩ = some (.int .i64 ((rd_T64 l0_1 x8_1).f3)) := (blk_cell BK196.out 3).trans rfl; have hfz31_0 := blk_frozen BK196.out 0; have hfz31_1 := blk_frozen BK196.out 1; have hfz31_2 := blk_frozen BK196.out 2; have hfz31_3 := blk_frozen BK196.out 3) | (go_at_call 39; (with_reducible refine (impl_within.calls ((rd_T64 l0_1 x8_1).f2) (-100) 100 true _ A19.out).mono ?_); rintro e w' ⟨rfl, ⟨nd, rfl⟩⟩) | (go_at_call 39; (with_reducible refine (impl_within.calls ((rd_T64 l0_1 x8_1).f3) 1 3 true _ A21.out).mono ?_); rintro e w' ⟨rfl, ⟨nd, rfl⟩⟩))
                    go_roundg k1
                    case measure => have := HK1.out; omega
                    case rel => exact ⟨(wrap64 (x8_1 + 1)), (by first | rfl | (simp; done) | (simp [*]; done)), H', ⟨by have := HK1.out; omega⟩, ⟨by (with_reducible repeat (first | refine blk_drewN ?_ _ | refine blk_drew ?_ | refine blk_alloc ?_ _)); exact BK193.out⟩, ⟨by repeat (first | (with_reducible first | exact HB.out | apply below_alloc | apply pw_below_drewN | apply below_drew1 | refine below_set ?_ GE193.out | refine below_set ?_ GE196.out) | exact HB.out)⟩⟩
                  · replace c22 := Bool.eq_false_iff.mpr c22
                    subst c22
                    have H1 : (some false) = some r := by rw [if_neg (show ¬ (false = true) by decide)] at H; exact H
                    clear H
                    have H := H1
                    clear H1
                    obtain rfl := Option.some.inj H
                    have p195 : 0 ≤ (x8_1 : Int) := of_decide_eq_true (by first | (with_reducible assumption) | assumption)
                    have q195 : x8_1 < (l0_1.length : Int) := of_decide_eq_true (by first | (with_reducible assumption) | assumption)
                    obtain ⟨ad195, e195, hx195_0, hx195_1, hx195_2, hx195_3⟩ := at_T64 HR0_1.out x8_1 p195 q195
                    cases e195
                    replace hx195_0 := (HB.out.cell (World.block_lt_of_cell? w _ hx195_0)).trans hx195_0
                    replace hx195_1 := (HB.out.cell (World.block_lt_of_cell? w _ hx195_1)).trans hx195_1
                    replace hx195_2 := (HB.out.cell (World.block_lt_of_cell? w _ hx195_2)).trans hx195_2
                    replace hx195_3 := (HB.out.cell (World.block_lt_of_cell? w _ hx195_3)).trans hx195_3
                    replace p195 := eq_true p195
                    replace q195 := eq_true q195
                    go_wp2_with (first | ((with_reducible refine gate_dst (N := 4) rfl ?_); (try (refine gate_guard (by rfl) ?_; dsimp only)); refine box_event ?hg (N := 4) ?hd (cs := #[.int .i64 0, .int .i64 0, .int .i64 0, .int .i64 0]) (t := 64) ?hr ?_; (case hd => rfl); (case hg => rfl); (case hr => first | (go_simp; done) | (go_simp; rfl)); intro gb196 hg w32 hbox hb; have n0_ := Aside0.mk (blk_below (g := gb193) (o := .cells #[.int .i64 a0_0, .slice (some ad195) l0_1.length c0_1] 39 (0, 0)) (by (with_reducible repeat (first | refine blk_drewN ?_ _ | refine blk_drew ?_ | refine blk_alloc ?_ _)); exact BK193.out) hb); have n1_ := Aside0.mk (below_step (by repeat (first | (with_reducible first | exact HB.out | apply below_alloc | apply pw_below_drewN | apply below_drew1 | refine below_set ?_ GE193.out) | exact HB.out)) hb); have n2_ := Aside0.mk (hbox); have n3_ := Aside0.mk ((by rw [hg]; exact (below_size (by repeat (first | (with_reducible first | exact HB.out | apply below_alloc | apply pw_below_drewN | apply below_drew1 | refine below_set ?_ GE193.out) | exact HB.out))) : w.heap.size ≤ gb196)); have n4_ := Aside0.mk ((by rw [hg]; exact (below_size (by repeat (first | (with_reducible first | exact HB.out | apply below_alloc | apply pw_below_drewN | apply below_drew1 | refine below_set ?_ GE193.out) | exact HB.out))) : w.heap.size ≤ gb196)); have n5_ := Aside0.mk ((by rw [hg]; exact Nat.ne_of_lt (blk_lt (g := gb193) (o := .cells #[.int .i64 a0_0, .slice (some ad195) l0_1.length c0_1] 39 (0, 0)) (by (with_reducible repeat (first | refine blk_drewN ?_ _ | refine blk_drew ?_ | refine blk_alloc ?_ _)); exact BK193.out)) : gb193 ≠ gb196)); have n6_ := Aside0.mk ((by rw [hg]; exact Nat.ne_of_gt (blk_lt (g := gb193) (o := .cells #[.int .i64 a0_0, .slice (some ad195) l0_1.length c0_1] 39 (0, 0)) (by (with_reducible repeat (first | refine blk_drewN ?_ _ | refine blk_drew ?_ | refine blk_alloc ?_ _)); exact BK193.out)) : gb196 ≠ gb193)); clear BK193; clear HB; have BK193 := n0_; have HB := n1_; have BK196 := n2_; have GW196 := n3_; have GE196 := n4_; have NB193_196 := n5_; have NB196_193 := n6_; clear n0_ n1_ n2_ n3_ n4_ n5_ n6_; clear hb hbox hg; have hnb33 := NB196_193.out; have hnc33 := NB193_196.out; have hcz34_0 : w32.cell? ⟨gb196, 0, none⟩ = some (.int .i64 0) := (blk_cell BK196.out 0).trans rfl; have hcz34_1 : w32.cell? ⟨gb196, 1, none⟩ = some (.int .i64 0) := (blk_cell BK196.out 1).trans rfl; have hcz34_2 : w32.cell? ⟨gb196, 2, none⟩ = some (.int .i64 0) := (blk_cell BK196.out 2).trans rfl; have hcz34_3 : w32.cell? ⟨gb196, 3, none⟩ = some (.int .i64 0) := (blk_cell BK196.out 3).trans rfl; have hfz34_0 := blk_frozen BK196.out 0; have hfz34_1 := blk_frozen BK196.out 1; have hfz34_2 := blk_frozen BK196.out 2; have hfz34_3 := blk_frozen BK196.out 3) | ((with_reducible refine gate_dst (N := 16) rfl ?_); (try (refine gate_guard (by rfl) ?_; dsimp only)); refine Kd.R_lit (Kd.int .i64) _ 2 ?hg (N := 16) ?hd (xs := ([(rd_T64 l0_1 x8_1).f0, (rd_T64 l0_1 x8_1).f1] : List Int)) (inner := [.int .i64 ((rd_T64 l0_1 x8_1).f0), .int .i64 ((rd_T64 l0_1 x8_1).f1)]) (ok := fun _ => True) (okp := fun _ => True) ?hr ?hp (fun _ hk => hk) trivial (Below.refl _ _) (Nat.le_refl _) (by simp) ?_; (case hd => rfl); (case hg => rfl); (case hr => first | (go_simp; done) | (go_simp; rfl)); (case hp => exact (Reps.one (show Kd.M (Kd.int .i64) _ _ _ ((rd_T64 l0_1 x8_1).f0) [.int .i64 ((rd_T64 l0_1 x8_1).f0)] from rfl) (Reps.one (show Kd.M (Kd.int .i64) _ _ _ ((rd_T64 l0_1 x8_1).f1) [.int .i64 ((rd_T64 l0_1 x8_1).f1)] from rfl) (Reps.none _ _)))); intro v198 w35 ho36 hb hg_ hnew_; clear hg_ hnew_; (first | rw [← Ny197.out] at ho36 | (simp only [Int.reduceToNat] at ho36; rw [← Ny197.out] at ho36)); have n0_ := Aside0.mk (Kd.R_lower ho36 (below_size (by repeat (first | (with_reducible first | exact HB.out | apply below_alloc | apply pw_below_drewN | apply below_drew1 | refine below_set ?_ GE193.out | refine below_set ?_ GE196.out) | exact HB.out)))); have n1_ := Aside0.mk (blk_below (g := gb193) (o := .cells #[.int .i64 a0_0, .slice (some ad195) l0_1.length c0_1] 39 (0, 0)) (by (with_reducible repeat (first | refine blk_drewN ?_ _ | refine blk_drew ?_ | refine blk_alloc ?_ _)); refine blk_far ?_ NB193_196.out _; (with_reducible repeat (first | refine blk_drewN ?_ _ | refine blk_drew ?_ | refine blk_alloc ?_ _)); refine blk_far ?_ NB193_196.out _; (with_reducible repeat (first | refine blk_drewN ?_ _ | refine blk_drew ?_ | refine blk_alloc ?_ _)); refine blk_far ?_ NB193_196.out _; (with_reducible repeat (first | refine blk_drewN ?_ _ | refine blk_drew ?_ | refine blk_alloc ?_ _)); refine blk_far ?_ NB193_196.out _; (with_reducible repeat (first | refine blk_drewN ?_ _ | refine blk_drew ?_ | refine blk_alloc ?_ _)); exact BK193.out) hb); have n2_ := Aside0.mk (blk_below (g := gb196) (o := .cells #[.int .i64 ((rd_T64 l0_1 x8_1).f0), .int .i64 ((rd_T64 l0_1 x8_1).f1), .int .i64 ((rd_T64 l0_1 x8_1).f2), .int .i64 ((rd_T64 l0_1 x8_1).f3)] 64 (0, 0)) (by (with_reducible repeat (first | refine blk_drewN ?_ _ | refine blk_drew ?_ | refine blk_alloc ?_ _)); refine blk_put (cs := #[.int .i64 ((rd_T64 l0_1 x8_1).f0), .int .i64 ((rd_T64 l0_1 x8_1).f1), .int .i64 ((rd_T64 l0_1 x8_1).f2), .int .i64 0]) ?_ 3 _ rfl; (with_reducible repeat (first | refine blk_drewN ?_ _ | refine blk_drew ?_ | refine blk_alloc ?_ _)); refine blk_put (cs := #[.int .i64 ((rd_T64 l0_1 x8_1).f0), .int .i64 ((rd_T64 l0_1 x8_1).f1), .int .i64 0, .int .i64 0]) ?_ 2 _ rfl; (with_reducible repeat (first | refine blk_drewN ?_ _ | refine blk_drew ?_ | refine blk_alloc ?_ _)); refine blk_put (cs := #[.int .i64 ((rd_T64 l0_1 x8_1).f0), .int .i64 0, .int .i64 0, .int .i64 0]) ?_ 1 _ rfl; (with_reducible repeat (first | refine blk_drewN ?_ _ | refine blk_drew ?_ | refine blk_alloc ?_ _)); refine blk_put (cs := #[.int .i64 0, .int .i64 0, .int .i64 0, .int .i64 0]) ?_ 0 _ rfl; (with_reducible repeat (first | refine blk_drewN ?_ _ | refine blk_drew ?_ | refine blk_alloc ?_ _)); exact BK196.out) hb); have n3_ := Aside0.mk (below_step (by repeat (first | (with_reducible first | exact HB.out | apply below_alloc | apply pw_below_drewN | apply below_drew1 | refine below_set ?_ GE193.out | refine below_set ?_ GE196.out) | exact HB.out)) hb); clear BK193; clear BK196; clear HB; have HO199 := n0_; have BK193 := n1_; have BK196 := n2_; have HB := n3_; clear n0_ n1_ n2_ n3_; clear hb ho36; have hcz37_0 : w35.cell? ⟨gb193, 0, none⟩ = some (.int .i64 a0_0) := (blk_cell BK193.out 0).trans rfl; have hcz37_1 : w35.cell? ⟨gb193, 1, none⟩ = some (.slice (some ad195) l0_1.length c0_1) := (blk_cell BK193.out 1).trans rfl; have hfz37_0 := blk_frozen BK193.out 0; have hfz37_1 := blk_frozen BK193.out 1; obtain ⟨Ao38, co38, eo38⟩ := Kd.R_slice HO199.out; subst eo38) | ((with_reducible refine gate_callee (f := 41) rfl ?_); refine goesL_ (some 20) rfl rfl Try.func41 (by kernel_rfl) rfl #[.slice Ao38 y197.length co38, .int .i64 0, .int .i64 (wrap64 (a0_0 - 1))] rfl (by (try simp only [List.map_toArray, List.map_cons, List.map_nil]); first | done | rfl | (simp only [List.length_drop, List.length_take]; rfl)) ?_; (with_reducible refine (impl_areWithin.calls _ _ y197 0 (wrap64 (a0_0 - 1)) true _ ?side1 ?side2 A7.out).mono ?_); (case side1 => repeat (first | exact (Kd.R_reads' HO199.out).2.2 | (with_reducible refine Kd.C_alloc ?_ _) | (with_reducible refine Kd.C_drewN ?_ _) | (with_reducible refine Kd.C_drew ?_))); (case side2 => exact (Kd.R_reads' HO199.out).2.1); rintro e w39 ⟨rfl, hb⟩; refine ⟨_, rfl, ?_⟩; have n0_ := Aside0.mk (Kd.R_below (by (with_reducible repeat (first | apply Kd.R_alloc | apply Kd.R_drewN | apply Kd.R_drew)); exact HO199.out) hb); have n1_ := Aside0.mk (blk_below (g := gb193) (o := .cells #[.int .i64 a0_0, .slice (some ad195) l0_1.length c0_1] 39 (0, 0)) (by (with_reducible repeat (first | refine blk_drewN ?_ _ | refine blk_drew ?_ | refine blk_alloc ?_ _)); exact BK193.out) hb); have n2_ := Aside0.mk (blk_below (g := gb196) (o := .cells #[.int .i64 ((rd_T64 l0_1 x8_1).f0), .int .i64 ((rd_T64 l0_1 x8_1).f1), .int .i64 ((rd_T64 l0_1 x8_1).f2), .int .i64 ((rd_T64 l0_1 x8_1).f3)] 64 (0, 0)) (by (with_reducible repeat (first | refine blk_drewN ?_ _ | refine blk_drew ?_ | refine blk_alloc ?_ _)); exact BK196.out) hb); have n3_ := Aside0.mk (below_step (by repeat (first | (with_reducible first | exact HB.out | apply below_alloc | apply pw_below_drewN | apply below_drew1 | refine below_set ?_ GE193.out | refine below_set ?_ GE196.out) | exact HB.out)) hb); clear HO199; clear BK193; clear BK196; clear HB; have HO199 := n0_; have BK193 := n1_; have BK196 := n2_; have HB := n3_; clear n0_ n1_ n2_ n3_; (try clear hb); (try clear hb2); (try clear hk); (try clear hi); have hcz40_0 : w39.cell? ⟨gb196, 0, none⟩ = some (.int .i64 ((rd_T64 l0_1 x8_1).f0)) := (blk_cell BK196.out 0).trans rfl; have hcz40_1 : w39.cell? ⟨gb196, 1, none⟩ = some (.int .i64 ((rd_T64 l0_1 x8_1).f1)) := (blk_cell BK196.out 1).trans rfl; have hcz40_2 : w39.cell? ⟨gb196, 2, none⟩ = some (.int .i64 ((rd_T64 l0_1 x8_1).f2)) := (blk_cell BK196.out 2).trans rfl; have hcz40_3 : w39.cell? ⟨gb196, 3, none⟩ = some (.int .i64 ((rd_T64 l0_1 x8_1).f3)) := (blk_cell BK196.out 3).trans rfl; have hfz40_0 := blk_frozen BK196.out 0; have hfz40_1 := blk_frozen BK196.out 1; have hfz40_2 := blk_frozen BK196.out 2; have hfz40_3 := blk_frozen BK196.out 3) | (go_at_call 39; (with_reducible refine (impl_within.calls ((rd_T64 l0_1 x8_1).f2) (-100) 100 true _ A19.out).mono ?_); rintro e w' ⟨rfl, ⟨nd, rfl⟩⟩) | (go_at_call 39; (with_reducible refine (impl_within.calls ((rd_T64 l0_1 x8_1).f3) 1 3 false _ A21.out).mono ?_); rintro e w' ⟨rfl, ⟨nd, rfl⟩⟩))
                    go_ret
                    exact ⟨by first | rfl | (simp [errW_none, errW_some] <;> rfl) | (simp [*, errW_none, errW_some] <;> rfl), by repeat (first | (with_reducible first | exact HB.out | apply below_alloc | apply pw_below_drewN | apply below_drew1 | refine below_set ?_ GE193.out | refine below_set ?_ GE196.out) | exact HB.out)⟩
                · replace c20 := Bool.eq_false_iff.mpr c20
                  subst c20
                  have H1 : (some false) = some r := by rw [if_neg (show ¬ (false = true) by decide)] at H; exact H
                  clear H
                  have H := H1
                  clear H1
                  obtain rfl := Option.some.inj H
                  have p195 : 0 ≤ (x8_1 : Int) := of_decide_eq_true (by first | (with_reducible assumption) | assumption)
                  have q195 : x8_1 < (l0_1.length : Int) := of_decide_eq_true (by first | (with_reducible assumption) | assumption)
                  obtain ⟨ad195, e195, hx195_0, hx195_1, hx195_2, hx195_3⟩ := at_T64 HR0_1.out x8_1 p195 q195
                  cases e195
                  replace hx195_0 := (HB.out.cell (World.block_lt_of_cell? w _ hx195_0)).trans hx195_0
                  replace hx195_1 := (HB.out.cell (World.block_lt_of_cell? w _ hx195_1)).trans hx195_1
                  replace hx195_2 := (HB.out.cell (World.block_lt_of_cell? w _ hx195_2)).trans hx195_2
                  replace hx195_3 := (HB.out.cell (World.block_lt_of_cell? w _ hx195_3)).trans hx195_3
                  replace p195 := eq_true p195
                  replace q195 := eq_true q195
                  go_wp2_with (first | ((with_reducible refine gate_dst (N := 4) rfl ?_); (try (refine gate_guard (by rfl) ?_; dsimp only)); refine box_event ?hg (N := 4) ?hd (cs := #[.int .i64 0, .int .i64 0, .int .i64 0, .int .i64 0]) (t := 64) ?hr ?_; (case hd => rfl); (case hg => rfl); (case hr => first | (go_simp; done) | (go_simp; rfl)); intro gb196 hg w41 hbox hb; have n0_ := Aside0.mk (blk_below (g := gb193) (o := .cells #[.int .i64 a0_0, .slice (some ad195) l0_1.length c0_1] 39 (0, 0)) (by (with_reducible repeat (first | refine blk_drewN ?_ _ | refine blk_drew ?_ | refine blk_alloc ?_ _)); exact BK193.out) hb); have n1_ := Aside0.mk (below_step (by repeat (first | (with_reducible first | exact HB.out | apply below_alloc | apply pw_below_drewN | apply below_drew1 | refine below_set ?_ GE193.out) | exact HB.out)) hb); have n2_ := Aside0.mk (hbox); have n3_ := Aside0.mk ((by rw [hg]; exact (below_size (by repeat (first | (with_reducible first | exact HB.out | apply below_alloc | apply pw_below_drewN | apply below_drew1 | refine below_set ?_ GE193.out) | exact HB.out))) : w.heap.size ≤ gb196)); have n4_ := Aside0.mk ((by rw [hg]; exact (below_size (by repeat (first | (with_reducible first | exact HB.out | apply below_alloc | apply pw_below_drewN | apply below_drew1 | refine below_set ?_ GE193.out) | exact HB.out))) : w.heap.size ≤ gb196)); have n5_ := Aside0.mk ((by rw [hg]; exact Nat.ne_of_lt (blk_lt (g := gb193) (o := .cells #[.int .i64 a0_0, .slice (some ad195) l0_1.length c0_1] 39 (0, 0)) (by (with_reducible repeat (first | refine blk_drewN ?_ _ | refine blk_drew ?_ | refine blk_alloc ?_ _)); exact BK193.out)) : gb193 ≠ gb196)); have n6_ := Aside0.mk ((by rw [hg]; exact Nat.ne_of_gt (blk_lt (g := gb193) (o := .cells #[.int .i64 a0_0, .slice (some ad195) l0_1.length c0_1] 39 (0, 0)) (by (with_reducible repeat (first | refine blk_drewN ?_ _ | refine blk_drew ?_ | refine blk_alloc ?_ _)); exact BK193.out)) : gb196 ≠ gb193)); clear BK193; clear HB; have BK193 := n0_; have HB := n1_; have BK196 := n2_; have GW196 := n3_; have GE196 := n4_; have NB193_196 := n5_; have NB196_193 := n6_; clear n0_ n1_ n2_ n3_ n4_ n5_ n6_; clear hb hbox hg; have hnb42 := NB196_193.out; have hnc42 := NB193_196.out; have hcz43_0 : w41.cell? ⟨gb196, 0, none⟩ = some (.int .i64 0) := (blk_cell BK196.out 0).trans rfl; have hcz43_1 : w41.cell? ⟨gb196, 1, none⟩ = some (.int .i64 0) := (blk_cell BK196.out 1).trans rfl; have hcz43_2 : w41.cell? ⟨gb196, 2, none⟩ = some (.int .i64 0) := (blk_cell BK196.out 2).trans rfl; have hcz43_3 : w41.cell? ⟨gb196, 3, none⟩ = some (.int .i64 0) := (blk_cell BK196.out 3).trans rfl; have hfz43_0 := blk_frozen BK196.out 0; have hfz43_1 := blk_frozen BK196.out 1; have hfz43_2 := blk_frozen BK196.out 2; have hfz43_3 := blk_frozen BK196.out 3) | ((with_reducible refine gate_dst (N := 16) rfl ?_); (try (refine gate_guard (by rfl) ?_; dsimp only)); refine Kd.R_lit (Kd.int .i64) _ 2 ?hg (N := 16) ?hd (xs := ([(rd_T64 l0_1 x8_1).f0, (rd_T64 l0_1 x8_1).f1] : List Int)) (inner := [.int .i64 ((rd_T64 l0_1 x8_1).f0), .int .i64 ((rd_T64 l0_1 x8_1).f1)]) (ok := fun _ => True) (okp := fun _ => True) ?hr ?hp (fun _ hk => hk) trivial (Below.refl _ _) (Nat.le_refl _) (by simp) ?_; (case hd => rfl); (case hg => rfl); (case hr => first | (go_simp; done) | (go_simp; rfl)); (case hp => exact (Reps.one (show Kd.M (Kd.int .i64) _ _ _ ((rd_T64 l0_1 x8_1).f0) [.int .i64 ((rd_T64 l0_1 x8_1).f0)] from rfl) (Reps.one (show Kd.M (Kd.int .i64) _ _ _ ((rd_T64 l0_1 x8_1).f1) [.int .i64 ((rd_T64 l0_1 x8_1).f1)] from rfl) (Reps.none _ _)))); intro v198 w44 ho45 hb hg_ hnew_; clear hg_ hnew_; (first | rw [← Ny197.out] at ho45 | (simp only [Int.reduceToNat] at ho45; rw [← Ny197.out] at ho45)); have n0_ := Aside0.mk (Kd.R_lower ho45 (below_size (by repeat (first | (with_reducible first | exact HB.out | apply below_alloc | apply pw_below_drewN | apply below_drew1 | refine below_set ?_ GE193.out | refine below_set ?_ GE196.out) | exact HB.out)))); have n1_ := Aside0.mk (blk_below (g := gb193) (o := .cells #[.int .i64 a0_0, .slice (some ad195) l0_1.length c0_1] 39 (0, 0)) (by (with_reducible repeat (first | refine blk_drewN ?_ _ | refine blk_drew ?_ | refine blk_alloc ?_ _)); refine blk_far ?_ NB193_196.out _; (with_reducible repeat (first | refine blk_drewN ?_ _ | refine blk_drew ?_ | refine blk_alloc ?_ _)); refine blk_far ?_ NB193_196.out _; (with_reducible repeat (first | refine blk_drewN ?_ _ | refine blk_drew ?_ | refine blk_alloc ?_ _)); refine blk_far ?_ NB193_196.out _; (with_reducible repeat (first | refine blk_drewN ?_ _ | refine blk_drew ?_ | refine blk_alloc ?_ _)); refine blk_far ?_ NB193_196.out _; (with_reducible repeat (first | refine blk_drewN ?_ _ | refine blk_drew ?_ | refine blk_alloc ?_ _)); exact BK193.out) hb); have n2_ := Aside0.mk (blk_below (g := gb196) (o := .cells #[.int .i64 ((rd_T64 l0_1 x8_1).f0), .int .i64 ((rd_T64 l0_1 x8_1).f1), .int .i64 ((rd_T64 l0_1 x8_1).f2), .int .i64 ((rd_T64 l0_1 x8_1).f3)] 64 (0, 0)) (by (with_reducible repeat (first | refine blk_drewN ?_ _ | refine blk_drew ?_ | refine blk_alloc ?_ _)); refine blk_put (cs := #[.int .i64 ((rd_T64 l0_1 x8_1).f0), .int .i64 ((rd_T64 l0_1 x8_1).f1), .int .i64 ((rd_T64 l0_1 x8_1).f2), .int .i64 0]) ?_ 3 _ rfl; (with_reducible repeat (first | refine blk_drewN ?_ _ | refine blk_drew ?_ | refine blk_alloc ?_ _)); refine blk_put (cs := #[.int .i64 ((rd_T64 l0_1 x8_1).f0), .int .i64 ((rd_T64 l0_1 x8_1).f1), .int .i64 0, .int .i64 0]) ?_ 2 _ rfl; (with_reducible repeat (first | refine blk_drewN ?_ _ | refine blk_drew ?_ | refine blk_alloc ?_ _)); refine blk_put (cs := #[.int .i64 ((rd_T64 l0_1 x8_1).f0), .int .i64 0, .int .i64 0, .int .i64 0]) ?_ 1 _ rfl; (with_reducible repeat (first | refine blk_drewN ?_ _ | refine blk_drew ?_ | refine blk_alloc ?_ _)); refine blk_put (cs := #[.int .i64 0, .int .i64 0, .int .i64 0, .int .i64 0]) ?_ 0 _ rfl; (with_reducible repeat (first | refine blk_drewN ?_ _ | refine blk_drew ?_ | refine blk_alloc ?_ _)); exact BK196.out) hb); have n3_ := Aside0.mk (below_step (by repeat (first | (with_reducible first | exact HB.out | apply below_alloc | apply pw_below_drewN | apply below_drew1 | refine below_set ?_ GE193.out | refine below_set ?_ GE196.out) | exact HB.out)) hb); clear BK193; clear BK196; clear HB; have HO199 := n0_; have BK193 := n1_; have BK196 := n2_; have HB := n3_; clear n0_ n1_ n2_ n3_; clear hb ho45; have hcz46_0 : w44.cell? ⟨gb193, 0, none⟩ = some (.int .i64 a0_0) := (blk_cell BK193.out 0).trans rfl; have hcz46_1 : w44.cell? ⟨gb193, 1, none⟩ = some (.slice (some ad195) l0_1.length c0_1) := (blk_cell BK193.out 1).trans rfl; have hfz46_0 := blk_frozen BK193.out 0; have hfz46_1 := blk_frozen BK193.out 1; obtain ⟨Ao47, co47, eo47⟩ := Kd.R_slice HO199.out; subst eo47) | ((with_reducible refine gate_callee (f := 41) rfl ?_); refine goesL_ (some 20) rfl rfl Try.func41 (by kernel_rfl) rfl #[.slice Ao47 y197.length co47, .int .i64 0, .int .i64 (wrap64 (a0_0 - 1))] rfl (by (try simp only [List.map_toArray, List.map_cons, List.map_nil]); first | done | rfl | (simp only [List.length_drop, List.length_take]; rfl)) ?_; (with_reducible refine (impl_areWithin.calls _ _ y197 0 (wrap64 (a0_0 - 1)) true _ ?side1 ?side2 A7.out).mono ?_); (case side1 => repeat (first | exact (Kd.R_reads' HO199.out).2.2 | (with_reducible refine Kd.C_alloc ?_ _) | (with_reducible refine Kd.C_drewN ?_ _) | (with_reducible refine Kd.C_drew ?_))); (case side2 => exact (Kd.R_reads' HO199.out).2.1); rintro e w48 ⟨rfl, hb⟩; refine ⟨_, rfl, ?_⟩; have n0_ := Aside0.mk (Kd.R_below (by (with_reducible repeat (first | apply Kd.R_alloc | apply Kd.R_drewN | apply Kd.R_drew)); exact HO199.out) hb); have n1_ := Aside0.mk (blk_below (g := gb193) (o := .cells #[.int .i64 a0_0, .slice (some ad195) l0_1.length c0_1] 39 (0, 0)) (by (with_reducible repeat (first | refine blk_drewN ?_ _ | refine blk_drew ?_ | refine blk_alloc ?_ _)); exact BK193.out) hb); have n2_ := Aside0.mk (blk_below (g := gb196) (o := .cells #[.int .i64 ((rd_T64 l0_1 x8_1).f0), .int .i64 ((rd_T64 l0_1 x8_1).f1), .int .i64 ((rd_T64 l0_1 x8_1).f2), .int .i64 ((rd_T64 l0_1 x8_1).f3)] 64 (0, 0)) (by (with_reducible repeat (first | refine blk_drewN ?_ _ | refine blk_drew ?_ | refine blk_alloc ?_ _)); exact BK196.out) hb); have n3_ := Aside0.mk (below_step (by repeat (first | (with_reducible first | exact HB.out | apply below_alloc | apply pw_below_drewN | apply below_drew1 | refine below_set ?_ GE193.out | refine below_set ?_ GE196.out) | exact HB.out)) hb); clear HO199; clear BK193; clear BK196; clear HB; have HO199 := n0_; have BK193 := n1_; have BK196 := n2_; have HB := n3_; clear n0_ n1_ n2_ n3_; (try clear hb); (try clear hb2); (try clear hk); (try clear hi); have hcz49_0 : w48.cell? ⟨gb196, 0, none⟩ = some (.int .i64 ((rd_T64 l0_1 x8_1).f0)) := (blk_cell BK196.out 0).trans rfl; have hcz49_1 : w48.cell? ⟨gb196, 1, none⟩ = some (.int .i64 ((rd_T64 l0_1 x8_1).f1)) := (blk_cell BK196.out 1).trans rfl; have hcz49_2 : w48.cell? ⟨gb196, 2, none⟩ = some (.int .i64 ((rd_T64 l0_1 x8_1).f2)) := (blk_cell BK196.out 2).trans rfl; have hcz49_3 : w48.cell? ⟨gb196, 3, none⟩ = some (.int .i64 ((rd_T64 l0_1 x8_1).f3)) := (blk_cell BK196.out 3).trans rfl; have hfz49_0 := blk_frozen BK196.out 0; have hfz49_1 := blk_frozen BK196.out 1; have hfz49_2 := blk_frozen BK196.out 2; have hfz49_3 := blk_frozen BK196.out 3) | (go_at_call 39; (with_reducible refine (impl_within.calls ((rd_T64 l0_1 x8_1).f2) (-100) 100 false _ A19.out).mono ?_); rintro e w' ⟨rfl, ⟨nd, rfl⟩⟩))
                  go_ret
                  exact ⟨by first | rfl | (simp [errW_none, errW_some] <;> rfl) | (simp [*, errW_none, errW_some] <;> rfl), by repeat (first | (with_reducible first | exact HB.out | apply below_alloc | apply pw_below_drewN | apply below_drew1 | refine below_set ?_ GE193.out | refine below_set ?_ GE196.out) | exact HB.out)⟩
            · replace c8 := Bool.eq_false_iff.mpr c8
              subst c8
              have H1 : (some false) = some r := by rw [if_neg (show ¬ (false = true) by decide)] at H; exact H
              clear H
              have H := H1
              clear H1
              obtain rfl := Option.some.inj H
              have p195 : 0 ≤ (x8_1 : Int) := of_decide_eq_true (by first | (with_reducible assumption) | assumption)
              have q195 : x8_1 < (l0_1.length : Int) := of_decide_eq_true (by first | (with_reducible assumption) | assumption)
              obtain ⟨ad195, e195, hx195_0, hx195_1, hx195_2, hx195_3⟩ := at_T64 HR0_1.out x8_1 p195 q195
              cases e195
              replace hx195_0 := (HB.out.cell (World.block_lt_of_cell? w _ hx195_0)).trans hx195_0
              replace hx195_1 := (HB.out.cell (World.block_lt_of_cell? w _ hx195_1)).trans hx195_1
              replace hx195_2 := (HB.out.cell (World.block_lt_of_cell? w _ hx195_2)).trans hx195_2
              replace hx195_3 := (HB.out.cell (World.block_lt_of_cell? w _ hx195_3)).trans hx195_3
              replace p195 := eq_true p195
              replace q195 := eq_true q195
              go_wp2_with (first | ((with_reducible refine gate_dst (N := 4) rfl ?_); (try (refine gate_guard (by rfl) ?_; dsimp only)); refine box_event ?hg (N := 4) ?hd (cs := #[.int .i64 0, .int .i64 0, .int .i64 0, .int .i64 0]) (t := 64) ?hr ?_; (case hd => rfl); (case hg => rfl); (case hr => first | (go_simp; done) | (go_simp; rfl)); intro gb196 hg w50 hbox hb; have n0_ := Aside0.mk (blk_below (g := gb193) (o := .cells #[.int .i64 a0_0, .slice (some ad195) l0_1.length c0_1] 39 (0, 0)) (by (with_reducible repeat (first | refine blk_drewN ?_ _ | refine blk_drew ?_ | refine blk_alloc ?_ _)); exact BK193.out) hb); have n1_ := Aside0.mk (below_step (by repeat (first | (with_reducible first | exact HB.out | apply below_alloc | apply pw_below_drewN | apply below_drew1 | refine below_set ?_ GE193.out) | exact HB.out)) hb); have n2_ := Aside0.mk (hbox); have n3_ := Aside0.mk ((by rw [hg]; exact (below_size (by repeat (first | (with_reducible first | exact HB.out | apply below_alloc | apply pw_below_drewN | apply below_drew1 | refine below_set ?_ GE193.out) | exact HB.out))) : w.heap.size ≤ gb196)); have n4_ := Aside0.mk ((by rw [hg]; exact (below_size (by repeat (first | (with_reducible first | exact HB.out | apply below_alloc | apply pw_below_drewN | apply below_drew1 | refine below_set ?_ GE193.out) | exact HB.out))) : w.heap.size ≤ gb196)); have n5_ := Aside0.mk ((by rw [hg]; exact Nat.ne_of_lt (blk_lt (g := gb193) (o := .cells #[.int .i64 a0_0, .slice (some ad195) l0_1.length c0_1] 39 (0, 0)) (by (with_reducible repeat (first | refine blk_drewN ?_ _ | refine blk_drew ?_ | refine blk_alloc ?_ _)); exact BK193.out)) : gb193 ≠ gb196)); have n6_ := Aside0.mk ((by rw [hg]; exact Nat.ne_of_gt (blk_lt (g := gb193) (o := .cells #[.int .i64 a0_0, .slice (some ad195) l0_1.length c0_1] 39 (0, 0)) (by (with_reducible repeat (first | refine blk_drewN ?_ _ | refine blk_drew ?_ | refine blk_alloc ?_ _)); exact BK193.out)) : gb196 ≠ gb193)); clear BK193; clear HB; have BK193 := n0_; have HB := n1_; have BK196 := n2_; have GW196 := n3_; have GE196 := n4_; have NB193_196 := n5_; have NB196_193 := n6_; clear n0_ n1_ n2_ n3_ n4_ n5_ n6_; clear hb hbox hg; have hnb51 := NB196_193.out; have hnc51 := NB193_196.out; have hcz52_0 : w50.cell? ⟨gb196, 0, none⟩ = some (.int .i64 0) := (blk_cell BK196.out 0).trans rfl; have hcz52_1 : w50.cell? ⟨gb196, 1, none⟩ = some (.int .i64 0) := (blk_cell BK196.out 1).trans rfl; have hcz52_2 : w50.cell? ⟨gb196, 2, none⟩ = some (.int .i64 0) := (blk_cell BK196.out 2).trans rfl; have hcz52_3 : w50.cell? ⟨gb196, 3, none⟩ = some (.int .i64 0) := (blk_cell BK196.out 3).trans rfl; have hfz52_0 := blk_frozen BK196.out 0; have hfz52_1 := blk_frozen BK196.out 1; have hfz52_2 := blk_frozen BK196.out 2; have hfz52_3 := blk_frozen BK196.out 3) | ((with_reducible refine gate_dst (N := 16) rfl ?_); (try (refine gate_guard (by rfl) ?_; dsimp only)); refine Kd.R_lit (Kd.int .i64) _ 2 ?hg (N := 16) ?hd (xs := ([(rd_T64 l0_1 x8_1).f0, (rd_T64 l0_1 x8_1).f1] : List Int)) (inner := [.int .i64 ((rd_T64 l0_1 x8_1).f0), .int .i64 ((rd_T64 l0_1 x8_1).f1)]) (ok := fun _ => True) (okp := fun _ => True) ?hr ?hp (fun _ hk => hk) trivial (Below.refl _ _) (Nat.le_refl _) (by simp) ?_; (case hd => rfl); (case hg => rfl); (case hr => first | (go_simp; done) | (go_simp; rfl)); (case hp => exact (Reps.one (show Kd.M (Kd.int .i64) _ _ _ ((rd_T64 l0_1 x8_1).f0) [.int .i64 ((rd_T64 l0_1 x8_1).f0)] from rfl) (Reps.one (show Kd.M (Kd.int .i64) _ _ _ ((rd_T64 l0_1 x8_1).f1) [.int .i64 ((rd_T64 l0_1 x8_1).f1)] from rfl) (Reps.none _ _)))); intro v198 w53 ho54 hb hg_ hnew_; clear hg_ hnew_; (first | rw [← Ny197.out] at ho54 | (simp only [Int.reduceToNat] at ho54; rw [← Ny197.out] at ho54)); have n0_ := Aside0.mk (Kd.R_lower ho54 (below_size (by repeat (first | (with_reducible first | exact HB.out | apply below_alloc | apply pw_below_drewN | apply below_drew1 | refine below_set ?_ GE193.out | refine below_set ?_ GE196.out) | exact HB.out)))); have n1_ := Aside0.mk (blk_below (g := gb193) (o := .cells #[.int .i64 a0_0, .slice (some ad195) l0_1.length c0_1] 39 (0, 0)) (by (with_reducible repeat (first | refine blk_drewN ?_ _ | refine blk_drew ?_ | refine blk_alloc ?_ _)); refine blk_far ?_ NB193_196.out _; (with_reducible repeat (first | refine blk_drewN ?_ _ | refine blk_drew ?_ | refine blk_alloc ?_ _)); refine blk_far ?_ NB193_196.out _; (with_reducible repeat (first | refine blk_drewN ?_ _ | refine blk_drew ?_ | refine blk_alloc ?_ _)); refine blk_far ?_ NB193_196.out _; (with_reducible repeat (first | refine blk_drewN ?_ _ | refine blk_drew ?_ | refine blk_alloc ?_ _)); refine blk_far ?_ NB193_196.out _; (with_reducible repeat (first | refine blk_drewN ?_ _ | refine blk_drew ?_ | refine blk_alloc ?_ _)); exact BK193.out) hb); have n2_ := Aside0.mk (blk_below (g := gb196) (o := .cells #[.int .i64 ((rd_T64 l0_1 x8_1).f0), .int .i64 ((rd_T64 l0_1 x8_1).f1), .int .i64 ((rd_T64 l0_1 x8_1).f2), .int .i64 ((rd_T64 l0_1 x8_1).f3)] 64 (0, 0)) (by (with_reducible repeat (first | refine blk_drewN ?_ _ | refine blk_drew ?_ | refine blk_alloc ?_ _)); refine blk_put (cs := #[.int .i64 ((rd_T64 l0_1 x8_1).f0), .int .i64 ((rd_T64 l0_1 x8_1).f1), .int .i64 ((rd_T64 l0_1 x8_1).f2), .int .i64 0]) ?_ 3 _ rfl; (with_reducible repeat (first | refine blk_drewN ?_ _ | refine blk_drew ?_ | refine blk_alloc ?_ _)); refine blk_put (cs := #[.int .i64 ((rd_T64 l0_1 x8_1).f0), .int .i64 ((rd_T64 l0_1 x8_1).f1), .int .i64 0, .int .i64 0]) ?_ 2 _ rfl; (with_reducible repeat (first | refine blk_drewN ?_ _ | refine blk_drew ?_ | refine blk_alloc ?_ _)); refine blk_put (cs := #[.int .i64 ((rd_T64 l0_1 x8_1).f0), .int .i64 0, .int .i64 0, .int .i64 0]) ?_ 1 _ rfl; (with_reducible repeat (first | refine blk_drewN ?_ _ | refine blk_drew ?_ | refine blk_alloc ?_ _)); refine blk_put (cs := #[.int .i64 0, .int .i64 0, .int .i64 0, .int .i64 0]) ?_ 0 _ rfl; (with_reducible repeat (first | refine blk_drewN ?_ _ | refine blk_drew ?_ | refine blk_alloc ?_ _)); exact BK196.out) hb); have n3_ := Aside0.mk (below_step (by repeat (first | (with_reducible first | exact HB.out | apply below_alloc | apply pw_below_drewN | apply below_drew1 | refine below_set ?_ GE193.out | refine below_set ?_ GE196.out) | exact HB.out)) hb); clear BK193; clear BK196; clear HB; have HO199 := n0_; have BK193 := n1_; have BK196 := n2_; have HB := n3_; clear n0_ n1_ n2_ n3_; clear hb ho54; have hcz55_0 : w53.cell? ⟨gb193, 0, none⟩ = some (.int .i64 a0_0) := (blk_cell BK193.out 0).trans rfl; have hcz55_1 : w53.cell? ⟨gb193, 1, none⟩ = some (.slice (some ad195) l0_1.length c0_1) := (blk_cell BK193.out 1).trans rfl; have hfz55_0 := blk_frozen BK193.out 0; have hfz55_1 := blk_frozen BK193.out 1; obtain ⟨Ao56, co56, eo56⟩ := Kd.R_slice HO199.out; subst eo56) | ((with_reducible refine gate_callee (f := 41) rfl ?_); refine goesL_ (some 20) rfl rfl Try.func41 (by kernel_rfl) rfl #[.slice Ao56 y197.length co56, .int .i64 0, .int .i64 (wrap64 (a0_0 - 1))] rfl (by (try simp only [List.map_toArray, List.map_cons, List.map_nil]); first | done | rfl | (simp only [List.length_drop, List.length_take]; rfl)) ?_; (with_reducible refine (impl_areWithin.calls _ _ y197 0 (wrap64 (a0_0 - 1)) false _ ?side1 ?side2 A7.out).mono ?_); (case side1 => repeat (first | exact (Kd.R_reads' HO199.out).2.2 | (with_reducible refine Kd.C_alloc ?_ _) | (with_reducible refine Kd.C_drewN ?_ _) | (with_reducible refine Kd.C_drew ?_))); (case side2 => exact (Kd.R_reads' HO199.out).2.1); rintro e w57 ⟨rfl, hb⟩; refine ⟨_, rfl, ?_⟩; have n0_ := Aside0.mk (Kd.R_below (by (with_reducible repeat (first | apply Kd.R_alloc | apply Kd.R_drewN | apply Kd.R_drew)); exact HO199.out) hb); have n1_ := Aside0.mk (blk_below (g := gb193) (o := .cells #[.int .i64 a0_0, .slice (some ad195) l0_1.length c0_1] 39 (0, 0)) (by (with_reducible repeat (first | refine blk_drewN ?_ _ | refine blk_drew ?_ | refine blk_alloc ?_ _)); exact BK193.out) hb); have n2_ := Aside0.mk (blk_below (g := gb196) (o := .cells #[.int .i64 ((rd_T64 l0_1 x8_1).f0), .int .i64 ((rd_T64 l0_1 x8_1).f1), .int .i64 ((rd_T64 l0_1 x8_1).f2), .int .i64 ((rd_T64 l0_1 x8_1).f3)] 64 (0, 0)) (by (with_reducible repeat (first | refine blk_drewN ?_ _ | refine blk_drew ?_ | refine blk_alloc ?_ _)); exact BK196.out) hb); have n3_ := Aside0.mk (below_step (by repeat (first | (with_reducible first | exact HB.out | apply below_alloc | apply pw_below_drewN | apply below_drew1 | refine below_set ?_ GE193.out | refine below_set ?_ GE196.out) | exact HB.out)) hb); clear HO199; clear BK193; clear BK196; clear HB; have HO199 := n0_; have BK193 := n1_; have BK196 := n2_; have HB := n3_; clear n0_ n1_ n2_ n3_; (try clear hb); (try clear hb2); (try clear hk); (try clear hi)))
              go_ret
              exact ⟨by first | rfl | (simp [errW_none, errW_some] <;> rfl) | (simp [*, errW_none, errW_some] <;> rfl), by repeat (first | (with_reducible first | exact HB.out | apply below_alloc | apply pw_below_drewN | apply below_drew1 | refine below_set ?_ GE193.out | refine below_set ?_ GE196.out) | exact HB.out)⟩
          · rw [if_neg c6] at H
            exact absurd H (by simp)
        · rw [if_neg c5] at H
          exact absurd H (by simp)
      · rw [if_neg c4] at H
        have c4b0 : decide (x8_1 < (l0_1.length : Int)) = false := decide_eq_false c4
        clear c4
        replace H := Option.bind_eq_some_iff.mp H
        obtain ⟨t194, A580, H⟩ := H
        replace H : (if t194 = true then (some (decide ((l0_1.length : Int) ≤ 8))) else (some false)) = some r := H
        have A58 := Aside0.mk A580
        clear A580
        by_cases c59 : t194 = true
        · subst c59
          have H1 : (some (decide ((l0_1.length : Int) ≤ 8))) = some r := by rw [if_pos rfl] at H; exact H
          clear H
          have H := H1
          clear H1
          obtain rfl := Option.some.inj H
          have hcz60_0 : wr.cell? ⟨gb193, 0, none⟩ = some (.int .i64 a0_0) := (blk_cell BK193.out 0).trans rfl
          have hcz60_1 : wr.cell? ⟨gb193, 1, none⟩ = some (.slice A0_1 l0_1.length c0_1) := (blk_cell BK193.out 1).trans rfl
          have hfz60_0 := blk_frozen BK193.out 0
          have hfz60_1 := blk_frozen BK193.out 1
          go_wp2_with (first | ((with_reducible refine gate_callee (f := 39) rfl ?_); refine goesL_ (some 44) rfl rfl Try.func39 (by kernel_rfl) rfl #[.int .i64 a0_0, .int .i64 2, .int .i64 5] rfl (by (try simp only [List.map_toArray, List.map_cons, List.map_nil]); first | done | rfl | (simp only [List.length_drop, List.length_take]; rfl)) ?_; (with_reducible refine (impl_within.calls a0_0 2 5 true _ A58.out).mono ?_); rintro e w' ⟨rfl, ⟨nd, rfl⟩⟩; refine ⟨_, rfl, ?_⟩))
          go_ret
          exact ⟨by first | rfl | (simp [errW_none, errW_some] <;> rfl) | (simp [*, errW_none, errW_some] <;> rfl), by repeat (first | (with_reducible first | exact HB.out | apply below_alloc | apply pw_below_drewN | apply below_drew1 | refine below_set ?_ GE193.out) | exact HB.out)⟩
        · replace c59 := Bool.eq_false_iff.mpr c59
          subst c59
          have H1 : (some false) = some r := by rw [if_neg (show ¬ (false = true) by decide)] at H; exact H
          clear H
          have H := H1
          clear H1
          obtain rfl := Option.some.inj H
          have hcz61_0 : wr.cell? ⟨gb193, 0, none⟩ = some (.int .i64 a0_0) := (blk_cell BK193.out 0).trans rfl
          have hcz61_1 : wr.cell? ⟨gb193, 1, none⟩ = some (.slice A0_1 l0_1.length c0_1) := (blk_cell BK193.out 1).trans rfl
          have hfz61_0 := blk_frozen BK193.out 0
          have hfz61_1 := blk_frozen BK193.out 1
          go_wp2_with (first | ((with_reducible refine gate_callee (f := 39) rfl ?_); refine goesL_ (some 44) rfl rfl Try.func39 (by kernel_rfl) rfl #[.int .i64 a0_0, .int .i64 2, .int .i64 5] rfl (by (try simp only [List.map_toArray, List.map_cons, List.map_nil]); first | done | rfl | (simp only [List.length_drop, List.length_take]; rfl)) ?_; (with_reducible refine (impl_within.calls a0_0 2 5 false _ A58.out).mono ?_); rintro e w' ⟨rfl, ⟨nd, rfl⟩⟩; refine ⟨_, rfl, ?_⟩))
          go_ret
          exact ⟨by first | rfl | (simp [errW_none, errW_some] <;> rfl) | (simp [*, errW_none, errW_some] <;> rfl), by repeat (first | (with_reducible first | exact HB.out | apply below_alloc | apply pw_below_drewN | apply below_drew1 | refine below_set ?_ GE193.out) | exact HB.out)⟩

end Go.Proofs.Ytkkiagoacbhhjaa.Q

