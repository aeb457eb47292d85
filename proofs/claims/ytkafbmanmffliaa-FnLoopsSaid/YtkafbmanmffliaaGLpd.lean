/- Parts of the proof that the law of this seat holds: Bl. -/
import Derived.Test.YtkafbmanmffliaaProg
import Derived.Lib.Strings
import Derived.Lib.Slices
import Derived.Lib.Small
import Derived.Lib.Walk
import Derived.Lib.BitFns
import Derived.RowKit3
import Derived.Lib.Hide
set_option linter.unusedVariables false
set_option linter.unusedSimpArgs false
/- How far a digit may be shifted: bits.Len32 (off the kit's template), bits.LeadingZeros32. -/
namespace Go.Proofs.Ytkafbmanmffliaa.Bl
open Go Go.RowKit
set_option maxHeartbeats 4000000 in
set_option maxRecDepth 100000 in
theorem bits_Len32 (x : Int) (w : World) (h0 : 0 ≤ x) (h1 : x ≤ 4294967295) :
    Calls Try.prog 158 #[.int .u32 x] w fun e w' => e = .returned (.int .i64 (Lib.bitLen x.toNat)) ∧ w' = w := by
  go_enter Try.func158, Try.ntmps158
  go_wp2
  all_goals (go_ret; refine ⟨congrArg Ending.returned (congrArg (Value.int IntKind.i64) ?_), rfl⟩)
  all_goals first
    | (rw [Lib.len8_of (x / 65536 / 256 % 256) (by omega) (by omega)]
       have e : (x / 65536 / 256 % 256).toNat = x.toNat / 16777216 := by omega
       have l := Lib.bitLen_le8' (x / 65536 / 256 % 256) (by omega) (by omega)
       have s := Lib.bitLen_shift24 x.toNat (by omega) (by omega)
       rw [e] at l ⊢
       omega)
    | (rw [Lib.len8_of (x / 65536 % 256) (by omega) (by omega)]
       have e : (x / 65536 % 256).toNat = x.toNat / 65536 := by omega
       have l := Lib.bitLen_le8' (x / 65536 % 256) (by omega) (by omega)
       have s := Lib.bitLen_shift16 x.toNat (by omega) (by omega)
       rw [e] at l ⊢
       omega)
    | (rw [Lib.len8_of (x / 256 % 256) (by omega) (by omega)]
       have e : (x / 256 % 256).toNat = x.toNat / 256 := by omega
       have l := Lib.bitLen_le8' (x / 256 % 256) (by omega) (by omega)
       have s := Lib.bitLen_shift8 x.toNat (by omega) (by omega)
       rw [e] at l ⊢
       omega)
    | (rw [Lib.len8_of (x % 256) (by omega) (by omega)]
       have e : (x % 256).toNat = x.toNat := by omega
       have l := Lib.bitLen_le8' (x % 256) (by omega) (by omega)
       rw [e] at l ⊢
       omega)
theorem lt_pow : ∀ (f x : Nat), x < 2 ^ f → x < 2 ^ Lib.bitLenAux f x
  | 0, x, h => by simpa [Lib.bitLenAux] using h
  | f + 1, x, h => by
    have ih := lt_pow f (x / 2) (by rw [Nat.pow_succ] at h; omega)
    simp only [Lib.bitLenAux]
    by_cases h0 : x = 0
    · rw [if_pos h0, h0]; decide
    · rw [if_neg h0, Nat.add_comm, Nat.pow_succ]; omega
theorem pos_len (x : Nat) (h : 0 < x) : 0 < Lib.bitLen x := by
  unfold Lib.bitLen
  simp only [Lib.bitLenAux]
  rw [if_neg (by omega)]
  omega
set_option maxHeartbeats 4000000 in
set_option maxRecDepth 100000 in
theorem zeros_any (x : Int) (w : World) (h0 : 0 < x) (h1 : x < 4294967296) :
    Calls Try.prog 153 #[.int .u32 x] w fun e w' => ∃ s : Nat, e = .returned (.int .i64 (s : Int)) ∧ s ≤ 31 ∧ x * 2 ^ s < 4294967296 ∧ w' = w := by
  have hb := Lib.bitLen_le x.toNat 32 (by decide) (by omega)
  have hp := pos_len x.toNat (by omega)
  have hlt := lt_pow 64 x.toNat (by omega)
  change x.toNat < 2 ^ Lib.bitLen x.toNat at hlt
  have hc := bits_Len32 x w (by omega) (by omega)
  generalize Lib.bitLen x.toNat = b at *
  have HF := Lib.hid (show x * 2 ^ (32 - b) < 4294967296 by
    have e : 2 ^ b * 2 ^ (32 - b) = 4294967296 := by
      rw [← Nat.pow_add, show b + (32 - b) = 32 by omega]
    have h2 : x.toNat * 2 ^ (32 - b) < 2 ^ b * 2 ^ (32 - b) := Nat.mul_lt_mul_of_pos_right hlt (Nat.two_pow_pos _)
    rw [e] at h2
    have h3 : ((x.toNat * 2 ^ (32 - b) : Nat) : Int) = x * 2 ^ (32 - b) := by
      rw [Int.natCast_mul, Int.toNat_of_nonneg (by omega), Int.natCast_pow]; rfl
    omega)
  clear hlt h0 h1
  go_enter Try.func153, Try.ntmps153
  go_wp2_with (go_at_call 158; refine hc.mono ?_; rintro e w' ⟨rfl, rfl⟩)
  go_ret
  exact ⟨32 - b, congrArg Ending.returned (congrArg (Value.int IntKind.i64) (by omega)), by omega, HF.out, rfl⟩
end Go.Proofs.Ytkafbmanmffliaa.Bl

