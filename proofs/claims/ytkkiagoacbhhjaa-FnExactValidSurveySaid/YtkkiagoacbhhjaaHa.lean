import Derived.Test.YtkkiagoacbhhjaaProg
import Derived.Test.YtkkiagoacbhhjaaWWords
import Derived.Test.YtkkiagoacbhhjaaWMore
import Derived.Test.YtkkiagoacbhhjaaWLast
import Derived.Lib.Hide
import Derived.Outline
namespace Go.Proofs.Ytkkiagoacbhhjaa.Ha
open Go.RowKit Go.Proofs.YtkkiagoacbhhjaaW.PrintWords Go.Proofs.YtkkiagoacbhhjaaW.PrintLast Go.Proofs.YtkkiagoacbhhjaaW.PrintMore

theorem ret_bool {a b : Bool} (h : a = b) : Ending.returned (.bool a) = .returned (.bool b) := by rw [h]
theorem ret_int {k : IntKind} {a b : Int} (h : a = b) : Ending.returned (.int k a) = .returned (.int k b) := by rw [h]

def inB (lo hi n : Int) : Bool := decide (lo ≤ n) && decide (n ≤ hi)

theorem within_any (n lo hi : Int) (w : World) :
    Calls Try.prog 39 #[.int .i64 n, .int .i64 lo, .int .i64 hi] w fun e w' => e = .returned (.bool (inB lo hi n)) ∧ w' = w := by
  by_cases h : lo ≤ n
  · go_enter Try.func39, Try.ntmps39
    go_wp2
    go_ret
    exact ⟨ret_bool (by simp [inB, h]), rfl⟩
  · have h' : decide (lo ≤ n) = false := by simpa using h
    go_enter Try.func39, Try.ntmps39
    go_wp2
    go_ret
    exact ⟨ret_bool (by simp [inB]; omega), rfl⟩

theorem lit1_any (n lo hi : Int) (b1 b2 : Nat) (w : World) (h1 : w.cell? ⟨b1, 0, none⟩ = some (.int .i64 lo)) (h2 : w.cell? ⟨b2, 0, none⟩ = some (.int .i64 hi)) :
    Calls Try.prog 61 #[.int .i64 n, .pointer (some ⟨b1, 0, none⟩), .pointer (some ⟨b2, 0, none⟩)] w fun e w' => e = .returned (.bool (!inB lo hi n)) ∧ w' = w := by
  go_enter Try.func61, Try.ntmps61
  go_wp2_with (go_at_call 39; refine (within_any _ _ _ _).mono ?_; rintro e w' ⟨rfl, rfl⟩)
  go_ret
  exact ⟨rfl, rfl⟩

def idxOf (p : Int → Bool) : List Int → Int → Int
  | [], _ => -1
  | x :: xs, k => if p x then k else idxOf p xs (k + 1)

theorem idx_any (lo hi : Int) (b1 b2 : Nat) (A : Option Addr) (c : Nat) (l : List Int) (w : World) (h1 : w.cell? ⟨b1, 0, none⟩ = some (.int .i64 lo)) (h2 : w.cell? ⟨b2, 0, none⟩ = some (.int .i64 hi))
    (hr : Kd.C (Kd.int .i64) w A l.length l) :
    Calls Try.prog 68 #[.slice A l.length c, .func (.func 61) #[] #[.pointer (some ⟨b1, 0, none⟩), .pointer (some ⟨b2, 0, none⟩)]] w fun e w' => e = .returned (.int .i64 (idxOf (fun n => !inB lo hi n) l 0)) ∧ w' = w := by
  have hlen : l.length ≤ 9223372036854775807 := hr.2.1
  go_enter Try.func68, Try.ntmps68
  go_wp2
  go_loop [8, 5] (fun i _ => ∃ k : Nat, k ≤ l.length ∧ i = .int .i64 k ∧ idxOf (fun n => !inB lo hi n) l 0 = idxOf (fun n => !inB lo hi n) (l.drop k) k) (fun i _ => l.length - (intOf i).toNat)
  case atStart => exact ⟨0, by omega, rfl, by simp⟩
  case round =>
    obtain ⟨k, hk, rfl, hi⟩ := hrel
    have HI := Lib.hid hi
    clear hi
    by_cases hlt : k < l.length
    · obtain ⟨ad, rfl, hc⟩ := Kd.at_int hr (k : Int) (by omega) (by omega)
      have hc' : w.cell? (ad.add k) = some (.int .i64 (rd l k)) := by simpa using hc
      have hd : l.drop k = rd l k :: l.drop (k + 1) := by rw [List.drop_eq_getElem_cons hlt]; simp [rd, hlt]
      have HD := Lib.hid hd
      clear hd
      by_cases hin : inB lo hi (rd l k) = true
      · go_wp2_with (go_at_call 61; refine (lit1_any _ _ _ _ _ _ h1 h2).mono ?_; rintro e w' ⟨rfl, rfl⟩)
        go_round
        case rel => exact ⟨k + 1, by omega, by go_num, by rw [HI.out, HD.out]; simp [idxOf, hin]⟩
        case measure => simp [intOf]; omega
      · have hin' : inB lo hi (rd l k) = false := by simpa using hin
        clear hin
        go_wp2_with (go_at_call 61; refine (lit1_any _ _ _ _ _ _ h1 h2).mono ?_; rintro e w' ⟨rfl, rfl⟩)
        go_ret
        exact ⟨ret_int (by rw [HI.out, HD.out]; simp [idxOf, hin']), rfl⟩
    · go_wp2
      go_ret
      have : k = l.length := by omega
      subst this
      exact ⟨ret_int (by rw [HI.out]; simp [idxOf]), rfl⟩

theorem idxOf_neg (p : Int → Bool) (l : List Int) (k : Int) (hk : 0 ≤ k) : decide (idxOf p l k ≥ 0) = l.any p := by
  induction l generalizing k with
  | nil => simp [idxOf]
  | cons x xs ih =>
    by_cases h : p x = true
    · simp [idxOf, h, hk]
    · simp only [idxOf, h]; simp [ih (k + 1) (by omega), h]

theorem contains_any (lo hi : Int) (b1 b2 : Nat) (A : Option Addr) (c : Nat) (l : List Int) (w : World) (h1 : w.cell? ⟨b1, 0, none⟩ = some (.int .i64 lo)) (h2 : w.cell? ⟨b2, 0, none⟩ = some (.int .i64 hi))
    (hr : Kd.C (Kd.int .i64) w A l.length l) :
    Calls Try.prog 60 #[.slice A l.length c, .func (.func 61) #[] #[.pointer (some ⟨b1, 0, none⟩), .pointer (some ⟨b2, 0, none⟩)]] w fun e w' => e = .returned (.bool (l.any fun n => !inB lo hi n)) ∧ w' = w := by
  have HR := Lib.hid (idxOf_neg (fun n => !inB lo hi n) l 0 (by omega))
  go_enter Try.func60, Try.ntmps60
  go_wp2_with (go_at_call 68; refine (idx_any _ _ _ _ _ _ _ _ h1 h2 hr).mono ?_; rintro e w' ⟨rfl, rfl⟩)
  go_ret
  exact ⟨ret_bool HR.out, rfl⟩

def areIn (l : List Int) (lo hi : Int) : Bool := l.all fun n => inB lo hi n

theorem areIn_any (l : List Int) (lo hi : Int) : (!l.any fun n => !inB lo hi n) = areIn l lo hi := by
  simp [areIn, List.any_eq_not_all_not]

theorem areWithin_any (A : Option Addr) (c : Nat) (l : List Int) (lo hi : Int) (w : World) (hr : Kd.C (Kd.int .i64) w A l.length l) :
    Calls Try.prog 41 #[.slice A l.length c, .int .i64 lo, .int .i64 hi] w fun e w' => e = .returned (.bool (areIn l lo hi)) ∧ Below w.heap.size w w' := by
  have HX := Lib.hid (areIn_any l lo hi)
  have hC := fun W hW h1 h2 => contains_any lo hi w.heap.size (w.heap.size + 1) A c l W h1 h2 hW
  go_enter Try.func41, Try.ntmps41
  go_wp2_with (go_at_call 60; refine (hC _ (Kd.C_alloc (Kd.C_alloc hr _) _) (by simp) (by simp)).mono ?_; rintro e w' ⟨rfl, rfl⟩)
  go_ret
  exact ⟨ret_bool HX.out, below_alloc (below_alloc (Below.refl _ _) _) _⟩
end Go.Proofs.Ytkkiagoacbhhjaa.Ha
