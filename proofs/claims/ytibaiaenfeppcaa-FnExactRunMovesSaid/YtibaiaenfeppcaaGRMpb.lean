/- Parts of the proof that the law of this seat holds: PuY, Lw, Ow, Yo, Q80, Yn, Q88, AdN, Yk, Yt, Yx, Q65, Q11, Ymv, Q39, Q61, Q63, Q64. -/
import Derived.Test.YtibaiaenfeppcaaGRMpa
import Derived.StillTailTactics
import Derived.Deep.QuietTactic
import Derived.BigQuiet
set_option linter.unusedVariables false
set_option linter.unusedSimpArgs false
/- Plain: what the laws' own helpers compute on yards, and the reference's valid yards. -/
namespace Go.Proofs.Ytibaiaenfeppcaa.PuY
open Go.RowKit Go.Proofs.YtibaiaenfeppcaaW.PrintWords Go.Proofs.Ytibaiaenfeppcaa.Q
theorem wrap_id {x : Int} (h1 : -9223372036854775808 ≤ x) (h2 : x ≤ 9223372036854775807) : wrap64 x = x := by unfold wrap64; omega
theorem wrap_succ (i : Nat) (h : i < 9000000000000000000) : wrap64 ((i : Int) + 1) = ((i + 1 : Nat) : Int) := by unfold wrap64; omega
theorem rd_at (l : List Int) (i : Nat) (h : i < l.length) : rd l (i : Int) = l[i] := by simp [rd, h]
theorem rdL_at (l : List (List Int)) (i : Nat) (h : i < l.length) : rd_L1 l (i : Int) = l[i] := by simp [rd_L1, h]
/-! sizes -/
/-- Few rows, none long, few numbers in all. -/
def Small (xs : List (List Int)) : Prop := xs.length ≤ 1048576 ∧ xs.flatten.length ≤ 1048576 ∧ ∀ r ∈ xs, r.length ≤ 1048576
theorem sz_loop (xs : List (List Int)) (hl : xs.length ≤ 9223372036854775807) (hr : ∀ r ∈ xs, r.length ≤ 9223372036854775807) : ∀ (d k i : Nat) (left : Int), i + d = xs.length → d < k → 0 ≤ left → left ≤ 1048576 →
    ∃ t, laws_szInt64SS.l0 k xs left (i : Int) = some t ∧ t ≤ 1048576 ∧ (0 ≤ t → ((xs.drop i).flatten.length : Int) = left - t ∧ ∀ r ∈ xs.drop i, (r.length : Int) ≤ left) := by
  intro d
  induction d with
  | zero =>
    intro k i left hi hk h0 h1
    obtain ⟨k, rfl⟩ : ∃ m, k = m + 1 := ⟨k - 1, by omega⟩
    simp only [laws_szInt64SS.l0]
    rw [if_neg (by omega)]
    refine ⟨left, rfl, h1, fun _ => ?_⟩
    rw [List.drop_eq_nil_of_le (by omega)]
    exact ⟨by simp, by simp⟩
  | succ d ih =>
    intro k i left hi hk h0 h1
    obtain ⟨k, rfl⟩ : ∃ m, k = m + 1 := ⟨k - 1, by omega⟩
    have hlt : i < xs.length := by omega
    simp only [laws_szInt64SS.l0, laws_szInt64S.f]
    have hx := hr xs[i] (List.getElem_mem hlt)
    rw [if_pos (by omega), if_pos (by omega), rdL_at xs i hlt, wrap_id (x := left - _) (by omega) (by omega), List.drop_eq_getElem_cons hlt]
    generalize xs[i] = s at hx
    by_cases hn : left - (s.length : Int) < 0
    · rw [if_pos hn]
      simp only [Option.bind_some]
      exact ⟨-1, by simp, by omega, fun h => by omega⟩
    · rw [if_neg hn]
      simp only [Option.bind_some]
      rw [if_neg hn, wrap_id (x := (i : Int) + 1) (by omega) (by omega), show (i : Int) + 1 = ((i + 1 : Nat) : Int) by omega]
      obtain ⟨t, ht, ht1, hh⟩ := ih k (i + 1) (left - s.length) (by omega) (by omega) (by omega) (by omega)
      refine ⟨t, ht, ht1, fun h => ?_⟩
      obtain ⟨q1, q2⟩ := hh h
      rw [List.flatten_cons, List.length_append]
      refine ⟨by omega, fun r hr' => ?_⟩
      rcases List.mem_cons.1 hr' with rfl | hm
      · omega
      · have := q2 r hm; omega
theorem szSS_eq (xs : List (List Int)) (hl : xs.length ≤ 9223372036854775807) (hr : ∀ r ∈ xs, r.length ≤ 9223372036854775807) (k : Nat) (hk : 2000000 ≤ k) (left : Int) (h0 : 0 ≤ left) (h1 : left ≤ 1048576) :
    ∃ t, laws_szInt64SS.f k xs left = some t ∧ t ≤ 1048576 ∧ (0 ≤ t → Small xs) := by
  simp only [laws_szInt64SS.f]
  rw [wrap_id (x := left - _) (by omega) (by omega)]
  by_cases hn : left - (xs.length : Int) < 0
  · exact ⟨-1, by rw [if_pos hn], by omega, fun h => by omega⟩
  · rw [if_neg hn]
    obtain ⟨t, ht, ht1, hh⟩ := sz_loop xs hl hr xs.length k 0 (left - xs.length) (by omega) (by omega) (by omega) (by omega)
    refine ⟨t, ht, ht1, fun h => ?_⟩
    obtain ⟨q1, q2⟩ := hh h
    rw [List.drop_zero] at q1 q2
    exact ⟨by omega, by omega, fun r hr' => by have := q2 r hr'; omega⟩
theorem szYard_eq (h : Int) (xs : List (List Int)) (hl : xs.length ≤ 9223372036854775807) (hr : ∀ r ∈ xs, r.length ≤ 9223372036854775807) (k : Nat) (hk : 2000000 ≤ k) :
    ∃ t, laws_szYard.f k h xs 1048576 = some t ∧ t ≤ 1048576 ∧ (0 ≤ t → Small xs) := by
  obtain ⟨t, ht, ht1, hh⟩ := szSS_eq xs hl hr k hk 1048576 (by decide) (by decide)
  simp only [laws_szYard.f, ht, Option.bind_some]
  by_cases hn : t < 0
  · exact ⟨-1, by rw [if_pos hn], by omega, fun h => by omega⟩
  · exact ⟨t, by rw [if_neg hn], ht1, hh⟩
/-! copies -/
theorem toS_loop (l : List Int) (hl : l.length ≤ 1048576) : ∀ (d k i : Nat) (x : List Int), x.length = l.length → i + d = l.length → d < k → (∀ j, j < i → x[j]? = l[j]?) → laws_toInt64S.l0 k l x (i : Int) = some l := by
  intro d
  induction d with
  | zero =>
    intro k i x hx hi hk hj
    obtain ⟨k, rfl⟩ : ∃ m, k = m + 1 := ⟨k - 1, by omega⟩
    simp only [laws_toInt64S.l0]
    rw [if_neg (by omega)]
    congr 1
    apply List.ext_getElem?
    intro j
    by_cases h : j < i
    · exact hj j h
    · rw [List.getElem?_eq_none (by omega), List.getElem?_eq_none (by omega)]
  | succ d ih =>
    intro k i x hx hi hk hj
    obtain ⟨k, rfl⟩ : ∃ m, k = m + 1 := ⟨k - 1, by omega⟩
    simp only [laws_toInt64S.l0]
    rw [if_pos (by omega), if_pos (by omega), if_pos (by omega), wrap_id (by omega) (by omega), Int.toNat_natCast, show (i : Int) + 1 = ((i + 1 : Nat) : Int) by omega]
    refine ih k (i + 1) _ (by simp [hx]) (by omega) (by omega) ?_
    intro j hlt
    by_cases h : j = i
    · subst h
      rw [List.getElem?_set_self (by omega), rd_at l j (by omega), List.getElem?_eq_getElem (by omega)]
    · rw [List.getElem?_set_ne (by omega)]; exact hj j (by omega)
theorem toS_eq (l : List Int) (hl : l.length ≤ 1048576) (k : Nat) (hk : 1048576 < k) : laws_toInt64S.f k l = some l := by
  simp only [laws_toInt64S.f, Int.toNat_natCast]
  rw [if_pos (by omega), if_pos (by omega)]
  exact toS_loop l hl l.length k 0 _ (by simp) (by omega) (by omega) (by intro j hj; omega)
theorem toSS_loop (l : List (List Int)) (hl : l.length ≤ 1048576) (hr : ∀ r ∈ l, r.length ≤ 1048576) : ∀ (d k i : Nat) (x : List (List Int)), x.length = l.length → i + d = l.length → d + 1048577 < k → (∀ j, j < i → x[j]? = l[j]?) → laws_toInt64SS.l0 k l x (i : Int) = some l := by
  intro d
  induction d with
  | zero =>
    intro k i x hx hi hk hj
    obtain ⟨k, rfl⟩ : ∃ m, k = m + 1 := ⟨k - 1, by omega⟩
    simp only [laws_toInt64SS.l0]
    rw [if_neg (by omega)]
    congr 1
    apply List.ext_getElem?
    intro j
    by_cases h : j < i
    · exact hj j h
    · rw [List.getElem?_eq_none (by omega), List.getElem?_eq_none (by omega)]
  | succ d ih =>
    intro k i x hx hi hk hj
    obtain ⟨k, rfl⟩ : ∃ m, k = m + 1 := ⟨k - 1, by omega⟩
    have hlt : i < l.length := by omega
    simp only [laws_toInt64SS.l0]
    rw [if_pos (by omega), if_pos (by omega), rdL_at l i hlt, toS_eq _ (hr _ (List.getElem_mem hlt)) k (by omega)]
    simp only [Option.bind_some]
    rw [if_pos (by omega), wrap_id (by omega) (by omega), Int.toNat_natCast, show (i : Int) + 1 = ((i + 1 : Nat) : Int) by omega]
    refine ih k (i + 1) _ (by simp [hx]) (by omega) (by omega) ?_
    intro j hlt
    by_cases h : j = i
    · subst h
      rw [List.getElem?_set_self (by omega), List.getElem?_eq_getElem (by omega)]
    · rw [List.getElem?_set_ne (by omega)]; exact hj j (by omega)
theorem toSS_eq (l : List (List Int)) (hs : Small l) (k : Nat) (hk : 3000000 ≤ k) : laws_toInt64SS.f k l = some l := by
  obtain ⟨hl, _, hr⟩ := hs
  simp only [laws_toInt64SS.f, Int.toNat_natCast]
  rw [if_pos (by omega), if_pos (by omega)]
  exact toSS_loop l hl hr l.length k 0 _ (by simp) (by omega) (by omega) (by intro j hj; omega)
theorem toYard_eq (h : Int) (l : List (List Int)) (hs : Small l) (k : Nat) (hk : 3000000 ≤ k) : laws_toYard.f k h l = some (h, l) := by
  simp [laws_toYard.f, toSS_eq l hs k hk]
/-! equality -/
theorem eqS_loop (l : List Int) (hl : l.length ≤ 1048576) : ∀ (d k i : Nat), i + d = l.length → d < k → laws_eqInt64S.l0 k l l (i : Int) = some true := by
  intro d
  induction d with
  | zero =>
    intro k i hi hk
    obtain ⟨k, rfl⟩ : ∃ m, k = m + 1 := ⟨k - 1, by omega⟩
    simp only [laws_eqInt64S.l0]
    rw [if_neg (by omega)]
  | succ d ih =>
    intro k i hi hk
    obtain ⟨k, rfl⟩ : ∃ m, k = m + 1 := ⟨k - 1, by omega⟩
    simp only [laws_eqInt64S.l0, if_true]
    rw [if_pos (by omega), if_pos (by omega), if_pos (by omega), wrap_id (by omega) (by omega), show (i : Int) + 1 = ((i + 1 : Nat) : Int) by omega]
    exact ih k (i + 1) (by omega) (by omega)
theorem eqS_eq (l : List Int) (hl : l.length ≤ 1048576) (k : Nat) (hk : 1048576 < k) : laws_eqInt64S.f k l l = some true := by
  simp only [laws_eqInt64S.f, if_true]
  exact eqS_loop l hl l.length k 0 (by omega) (by omega)
theorem eqSS_loop (l : List (List Int)) (hl : l.length ≤ 1048576) (hr : ∀ r ∈ l, r.length ≤ 1048576) : ∀ (d k i : Nat), i + d = l.length → d + 1048577 < k → laws_eqInt64SS.l0 k l l (i : Int) = some true := by
  intro d
  induction d with
  | zero =>
    intro k i hi hk
    obtain ⟨k, rfl⟩ : ∃ m, k = m + 1 := ⟨k - 1, by omega⟩
    simp only [laws_eqInt64SS.l0]
    rw [if_neg (by omega)]
  | succ d ih =>
    intro k i hi hk
    obtain ⟨k, rfl⟩ : ∃ m, k = m + 1 := ⟨k - 1, by omega⟩
    have hlt : i < l.length := by omega
    simp only [laws_eqInt64SS.l0]
    rw [if_pos (by omega), if_pos (by omega), if_pos (by omega), rdL_at l i hlt, eqS_eq _ (hr _ (List.getElem_mem hlt)) k (by omega)]
    simp only [Option.bind_some, if_true]
    rw [wrap_id (by omega) (by omega), show (i : Int) + 1 = ((i + 1 : Nat) : Int) by omega]
    exact ih k (i + 1) (by omega) (by omega)
theorem eqSS_eq (l : List (List Int)) (hs : Small l) (k : Nat) (hk : 3000000 ≤ k) : laws_eqInt64SS.f k l l = some true := by
  obtain ⟨hl, _, hr⟩ := hs
  simp only [laws_eqInt64SS.f, if_true]
  exact eqSS_loop l hl hr l.length k 0 (by omega) (by omega)
theorem eqYard_eq (h : Int) (l : List (List Int)) (hs : Small l) (k : Nat) (hk : 3000000 ≤ k) : laws_eqYard.f k h l h l = some true := by
  simp [laws_eqYard.f, eqSS_eq l hs k hk]
/-! the reference's valid yards -/
theorem in_eq (n a b : Int) : spec_l00In.f n a b = some (Ha.inB a b n) := by
  unfold spec_l00In.f Ha.inB
  by_cases h : n ≥ a
  · rw [if_pos h]; simp; omega
  · rw [if_neg h]; simp; omega
theorem has_loop (l : List Int) (x : Int) (hl : l.length ≤ 1000000) : ∀ (d k i : Nat), i + d = l.length → d < k → spec_l00Has.l0 k l x (i : Int) = some ((l.drop i).contains x) := by
  intro d
  induction d with
  | zero =>
    intro k i hi hk
    obtain ⟨k, rfl⟩ : ∃ m, k = m + 1 := ⟨k - 1, by omega⟩
    simp only [spec_l00Has.l0]
    rw [if_neg (by omega), List.drop_eq_nil_of_le (by omega)]; rfl
  | succ d ih =>
    intro k i hi hk
    obtain ⟨k, rfl⟩ : ∃ m, k = m + 1 := ⟨k - 1, by omega⟩
    have hlt : i < l.length := by omega
    simp only [spec_l00Has.l0]
    rw [if_pos (by omega), if_pos (by omega), rd_at l i hlt, List.drop_eq_getElem_cons hlt]
    by_cases e : l[i] = x
    · rw [if_pos e]; simp [e]
    · rw [if_neg e, wrap_id (by omega) (by omega), show (i : Int) + 1 = ((i + 1 : Nat) : Int) by omega, ih k (i + 1) (by omega) (by omega), List.contains_cons]
      have : (x == l[i]) = false := beq_eq_false_iff_ne.2 (fun h => e h.symm)
      rw [this, Bool.false_or]
theorem has_eq (l : List Int) (x : Int) (hl : l.length ≤ 1000000) (k : Nat) (hk : l.length < k) : spec_l00Has.f k l x = some (l.contains x) := by
  have := has_loop l x hl l.length k 0 (by omega) hk
  simpa [spec_l00Has.f] using this
/-- What is left of a yard is good, the lots seen being these. -/
def goodB (h : Int) (lots : List Int) (rest : List (List Int)) : Bool :=
  rest.all (fun s => decide ((s.length : Int) ≤ h)) && (Ha.areIn rest.flatten 0 99 && (decide (rest.flatten.Nodup ∧ ∀ x ∈ rest.flatten, x ∉ lots) && decide (((lots ++ rest.flatten).length : Int) ≤ 7)))
theorem good_cons (h : Int) (lots r : List Int) (rest : List (List Int)) : goodB h lots (r :: rest) = (decide ((r.length : Int) ≤ h) && (Ha.areIn r 0 99 && (decide (r.Nodup ∧ ∀ x ∈ r, x ∉ lots) && goodB h (lots ++ r) rest))) := by
  rw [Bool.eq_iff_iff]
  simp only [goodB, Bool.and_eq_true, decide_eq_true_eq, List.all_cons, List.flatten_cons, Ha.areIn, List.all_append, List.nodup_append, List.mem_append, List.length_append]
  constructor
  · rintro ⟨⟨a, b⟩, ⟨c, d⟩, ⟨⟨e, f, g⟩, i⟩, j⟩
    exact ⟨a, c, ⟨e, fun x hx => i x (.inl hx)⟩, b, d, ⟨f, fun x hx hy => by
      rcases hy with hy | hy
      · exact i x (.inr hx) hy
      · exact g x hy x hx rfl⟩, by omega⟩
  · rintro ⟨a, c, ⟨e, i⟩, b, d, ⟨f, g⟩, j⟩
    exact ⟨⟨a, b⟩, ⟨c, d⟩, ⟨⟨e, f, fun x hx y hy he => g y hy (.inr (he ▸ hx))⟩, fun x hx => by
      rcases hx with hx | hx
      · exact i x hx
      · exact fun hl => g x hx (.inl hl)⟩, by omega⟩
theorem row_loop (h : Int) (xs : List (List Int)) (i : Nat) (hi : i < xs.length) (K0 : Nat) (lots : List Int) (hll : lots.length ≤ 100000) (hrl : xs[i].length ≤ 4)
    (hnext : ∀ k, K0 ≤ k → spec_l09Yard.l0 k (lots ++ xs[i]) (((i + 1 : Nat) : Int)) h xs = some (goodB h (lots ++ xs[i]) (xs.drop (i + 1)), h)) (hK : 200000 ≤ K0) (hxl : xs.length ≤ 4) :
    ∀ (d k j : Nat), j + d = xs[i].length → K0 + d + 1 ≤ k → Ha.areIn (xs[i].take j) 0 99 = true → (xs[i].take j).Nodup ∧ (∀ x ∈ xs[i].take j, x ∉ lots) →
      spec_l09Yard.l1 k (lots ++ xs[i].take j) (i : Int) (j : Int) h xs = some (Ha.areIn xs[i] 0 99 && (decide (xs[i].Nodup ∧ ∀ x ∈ xs[i], x ∉ lots) && goodB h (lots ++ xs[i]) (xs.drop (i + 1))), h) := by
  intro d
  induction d with
  | zero =>
    intro k j hj hk ha hn
    obtain ⟨k, rfl⟩ : ∃ m, k = m + 1 := ⟨k - 1, by omega⟩
    obtain rfl : j = xs[i].length := by omega
    rw [List.take_length] at ha hn ⊢
    simp only [spec_l09Yard.l1]
    rw [if_pos (by omega), if_pos (by omega), rdL_at xs i hi, if_neg (by omega), wrap_succ i (by omega), hnext k (by omega), ha, decide_eq_true hn]
    rfl
  | succ d ih =>
    intro k j hj hk ha hn
    obtain ⟨k, rfl⟩ : ∃ m, k = m + 1 := ⟨k - 1, by omega⟩
    have hlt : j < xs[i].length := by omega
    simp only [spec_l09Yard.l1]
    rw [if_pos (by omega), if_pos (by omega), rdL_at xs i hi, if_pos (by omega), if_pos (by omega), rd_at _ j hlt, in_eq]
    simp only [Option.bind_some]
    obtain ⟨x, hx⟩ : ∃ x, x = xs[i][j] := ⟨_, rfl⟩
    have htk : xs[i].take (j + 1) = xs[i].take j ++ [x] := by rw [List.take_succ_eq_append_getElem hlt, hx]
    have hmem : x ∈ xs[i] := by rw [hx]; exact List.getElem_mem hlt
    rw [← hx]
    by_cases c1 : Ha.inB 0 99 x = true
    · rw [if_pos c1, has_eq _ x (by rw [List.length_append]; have := List.length_take_le j xs[i]; omega) k (by rw [List.length_append]; have := List.length_take_le j xs[i]; omega)]
      simp only [Option.bind_some]
      by_cases c2 : (lots ++ xs[i].take j).contains x = true
      · rw [if_pos c2]
        have : decide (xs[i].Nodup ∧ ∀ x ∈ xs[i], x ∉ lots) = false := by
          apply decide_eq_false
          rintro ⟨n1, n2⟩
          rw [List.contains_iff_mem, List.mem_append] at c2
          rcases c2 with c2 | c2
          · exact n2 x hmem c2
          · have n3 : (xs[i].take (j + 1)).Nodup := n1.sublist (List.take_sublist _ _)
            rw [htk, List.nodup_append] at n3
            exact n3.2.2 x c2 x (by simp) rfl
        rw [this]; simp
      · rw [if_neg c2, if_pos (by rw [List.length_append]; have := List.length_take_le j xs[i]; omega), List.append_assoc, ← htk, wrap_succ j (by omega)]
        have c2' : x ∉ lots ∧ x ∉ xs[i].take j := by
          rw [List.contains_iff_mem, List.mem_append] at c2
          exact ⟨fun h => c2 (.inl h), fun h => c2 (.inr h)⟩
        refine ih k (j + 1) (by omega) (by omega) ?_ ?_
        · rw [htk]; unfold Ha.areIn at ha ⊢; rw [List.all_append, ha]; simp [c1]
        · rw [htk]
          refine ⟨List.nodup_append.2 ⟨hn.1, by simp, fun a ha' b hb he => ?_⟩, fun y hy => ?_⟩
          · rw [List.mem_singleton] at hb
            subst hb; subst he
            exact c2'.2 ha'
          · rcases List.mem_append.1 hy with hy | hy
            · exact hn.2 y hy
            · rw [List.mem_singleton] at hy; subst hy; exact c2'.1
    · rw [if_neg c1]
      have : Ha.areIn xs[i] 0 99 = false := by
        unfold Ha.areIn
        rw [Bool.eq_false_iff]
        intro hh
        exact c1 (List.all_eq_true.1 hh x hmem)
      rw [this]; simp
theorem yard_loop (h : Int) (h4 : h ≤ 4) (xs : List (List Int)) (hxl : xs.length ≤ 4) : ∀ (d i k : Nat) (lots : List Int), i + d = xs.length → 200000 + 10 * d < k → lots.length ≤ 4 * i →
    spec_l09Yard.l0 k lots (i : Int) h xs = some (goodB h lots (xs.drop i), h) := by
  intro d
  induction d with
  | zero =>
    intro i k lots hi hk hll
    obtain ⟨k, rfl⟩ : ∃ m, k = m + 1 := ⟨k - 1, by omega⟩
    simp only [spec_l09Yard.l0]
    rw [if_neg (by omega), List.drop_eq_nil_of_le (by omega)]
    simp [goodB, Ha.areIn]
  | succ d ih =>
    intro i k lots hi hk hll
    obtain ⟨k, rfl⟩ : ∃ m, k = m + 1 := ⟨k - 1, by omega⟩
    have hlt : i < xs.length := by omega
    simp only [spec_l09Yard.l0]
    rw [if_pos (by omega), if_pos (by omega), rdL_at xs i hlt, List.drop_eq_getElem_cons hlt, good_cons]
    by_cases c : (xs[i].length : Int) > h
    · rw [if_pos c, decide_eq_false (by omega)]; rfl
    · rw [if_neg c, decide_eq_true (by omega), Bool.true_and]
      have := row_loop h xs i hlt (200000 + 10 * d + 1) lots (by omega) (by omega) (fun k hk => by
        have := ih (i + 1) k (lots ++ xs[i]) (by omega) (by omega) (by rw [List.length_append]; omega)
        exact this) (by omega) hxl xs[i].length k 0 (by omega) (by omega) (by simp [Ha.areIn]) (by simp)
      rw [List.take_zero, List.append_nil] at this
      exact this
theorem specYard_eq (h : Int) (xs : List (List Int)) (hl : xs.length ≤ 1048576) (k : Nat) (hk : 300000 ≤ k) : spec_l09Yard.f k h xs = some (Yv.valid h xs, h) := by
  have hv : Yv.valid h xs = (Ha.inB 1 4 h && (Ha.inB 1 4 (xs.length : Int) && goodB h [] xs)) := by
    have e : decide (xs.flatten.Nodup ∧ ∀ x ∈ xs.flatten, x ∉ ([] : List Int)) = decide xs.flatten.Nodup := by simp
    unfold Yv.valid goodB
    rw [e, List.nil_append]
    cases Ha.inB 1 4 h <;> cases Ha.inB 1 4 (xs.length : Int) <;> cases xs.all (fun s => decide ((s.length : Int) ≤ h)) <;> cases decide xs.flatten.Nodup <;> cases decide ((xs.flatten.length : Int) ≤ 7) <;> cases Ha.areIn xs.flatten 0 99 <;> rfl
  rw [hv]
  simp only [spec_l09Yard.f, in_eq, Option.bind_some]
  obtain ⟨k, rfl⟩ : ∃ m, k = m + 1 := ⟨k - 1, by omega⟩
  by_cases c0 : Ha.inB 1 4 h = true
  · have h4 : h ≤ 4 := by
      unfold Ha.inB at c0; rw [Bool.and_eq_true, decide_eq_true_eq, decide_eq_true_eq] at c0; omega
    rw [if_pos c0, c0, Bool.true_and]
    by_cases c1 : (xs.length : Int) < 1
    · rw [if_pos c1]
      have : Ha.inB 1 4 (xs.length : Int) = false := by unfold Ha.inB; simp; omega
      simp [spec_l09Yard.j0, this]
    · rw [if_neg c1]
      by_cases c2 : (xs.length : Int) > 4
      · have : Ha.inB 1 4 (xs.length : Int) = false := by unfold Ha.inB; simp; omega
        simp [spec_l09Yard.j0, this, c2]
      · have t : Ha.inB 1 4 (xs.length : Int) = true := by unfold Ha.inB; simp; omega
        rw [decide_eq_false c2, t]
        simp only [spec_l09Yard.j0]
        have := yard_loop h h4 xs (by omega) xs.length 0 k [] (by omega) (by omega) (by simp)
        rw [List.drop_zero] at this
        simp only [Bool.false_eq_true, if_false, Bool.true_and]
        exact this
  · rw [if_neg c0]
    have : Ha.inB 1 4 h = false := by simpa using c0
    simp [spec_l09Yard.j0, this]
end Go.Proofs.Ytibaiaenfeppcaa.PuY

/- Words of the yard's laws: what was made between two block numbers lives on while others are made or marked; marking a yard. -/
namespace Go.Proofs.Ytibaiaenfeppcaa.Lw
set_option linter.unusedVariables false
open Go Go.RowKit Go.Proofs.YtibaiaenfeppcaaW.PrintWords Go.Proofs.YtibaiaenfeppcaaW.PrintLast Go.Proofs.YtibaiaenfeppcaaW.PrintMore Go.Proofs.Ytibaiaenfeppcaa.Q Go.Proofs.Ytibaiaenfeppcaa.PuY
abbrev dR : Kd (List Int) := Kd.slice 2 (Kd.int .i64)
/-- A list of rows that was made between two block numbers. -/
structure YS (lo hi : Nat) (w : World) (v : Value) (xs : List (List Int)) : Prop where
  s : Kd.S dR 31 w lo (fun k => lo ≤ k ∧ k < hi) v xs
  le : hi ≤ w.heap.size
/-- A list of numbers that was made between two block numbers. -/
structure ZS (lo hi : Nat) (w : World) (v : Value) (xs : List Int) : Prop where
  r : Kd.R (Kd.int .i64) 2 w lo (fun k => lo ≤ k ∧ k < hi) v xs
  le : hi ≤ w.heap.size
theorem YS.make {w w' : World} {v : Value} {xs : List (List Int)} (h : Kd.S dR 31 w' w.heap.size (fun _ => True) v xs) : YS w.heap.size w'.heap.size w' v xs := ⟨Kd.S_mono (Kd.S_bound h) (fun _ hk => ⟨hk.2.1, hk.2.2.1⟩), Nat.le_refl _⟩
theorem ZS.make {w w' : World} {v : Value} {xs : List Int} (h : Kd.R (Kd.int .i64) 2 w' w.heap.size (fun _ => True) v xs) : ZS w.heap.size w'.heap.size w' v xs := ⟨Kd.R_mono (Kd.R_bound h) (fun _ hk => ⟨hk.2.1, hk.2.2.1⟩), Nat.le_refl _⟩
theorem YS.below {lo hi : Nat} {w w' : World} {v : Value} {xs : List (List Int)} (h : YS lo hi w v xs) (hb : Below w.heap.size w w') : YS lo hi w' v xs := ⟨Kd.S_below h.s hb, Nat.le_trans h.le hb.size⟩
theorem ZS.below {lo hi : Nat} {w w' : World} {v : Value} {xs : List Int} (h : ZS lo hi w v xs) (hb : Below w.heap.size w w') : ZS lo hi w' v xs := ⟨Kd.R_below h.r hb, Nat.le_trans h.le hb.size⟩
theorem YS.kept {lo hi : Nat} {w w' : World} {v : Value} {xs : List (List Int)} {T : Nat → Prop} (h : YS lo hi w v xs) (hk : Kept w w' T) (hT : ∀ k, lo ≤ k → k < hi → ¬ T k) : YS lo hi w' v xs :=
  ⟨Kd.S_kept (S := T) h.s hk (fun k hk => hT k hk.1 hk.2), Nat.le_trans h.le hk.1⟩
theorem ZS.kept {lo hi : Nat} {w w' : World} {v : Value} {xs : List Int} {T : Nat → Prop} (h : ZS lo hi w v xs) (hk : Kept w w' T) (hT : ∀ k, lo ≤ k → k < hi → ¬ T k) : ZS lo hi w' v xs :=
  ⟨Kd.R_kept (S := T) h.r hk (fun k hk => hT k hk.1 hk.2), Nat.le_trans h.le hk.1⟩
theorem YS.reads {lo hi : Nat} {w : World} {v : Value} {xs : List (List Int)} (h : YS lo hi w v xs) : ∃ A c, v = .slice A xs.length c ∧ xs.length ≤ c ∧ Kd.C dR w A xs.length xs := Kd.S_reads h.s
theorem ZS.reads {lo hi : Nat} {w : World} {v : Value} {xs : List Int} (h : ZS lo hi w v xs) : ∃ A c, v = .slice A xs.length c ∧ xs.length ≤ c ∧ Kd.C (Kd.int .i64) w A xs.length xs := Kd.R_reads h.r
theorem YS.c {lo hi : Nat} {w : World} {A : Option Addr} {c n : Nat} {xs : List (List Int)} (h : YS lo hi w (.slice A n c) xs) : Kd.C dR w A xs.length xs := (Kd.S_reads' h.s).2.2
theorem ZS.c {lo hi : Nat} {w : World} {A : Option Addr} {c n : Nat} {xs : List Int} (h : ZS lo hi w (.slice A n c) xs) : Kd.C (Kd.int .i64) w A xs.length xs := (Kd.R_reads' h.r).2.2
/-! marking -/
def upTo (a : Int) (n : Nat) : List Int := (List.range n).map fun (i : Nat) => a + (i : Int)
theorem upTo_len (a : Int) (n : Nat) : (upTo a n).length = n := by simp [upTo]
theorem mark_loop (l : List Int) (hl : l.length ≤ 1048576) (a : Int) (ha : 0 ≤ a) (hb : a ≤ 100000000) : ∀ (d k i : Nat) (x : List Int), x.length = l.length → i + d = l.length → d < k → (∀ j, j < i → x[j]? = some (a + (j : Int))) → laws_markInt64S.l0 k x (a + (i : Int)) (i : Int) = some (a + (l.length : Int), upTo a l.length) := by
  intro d
  induction d with
  | zero =>
    intro k i x hx hi hk hj
    obtain ⟨k, rfl⟩ : ∃ m, k = m + 1 := ⟨k - 1, by omega⟩
    simp only [laws_markInt64S.l0]
    rw [if_neg (by omega)]
    obtain rfl : i = l.length := by omega
    have e : x = upTo a l.length := by
      apply List.ext_getElem?
      intro j
      by_cases h : j < l.length
      · rw [hj j h]; simp [upTo, h]
      · rw [List.getElem?_eq_none (by omega), List.getElem?_eq_none (by rw [upTo_len]; omega)]
    rw [e]
  | succ d ih =>
    intro k i x hx hi hk hj
    obtain ⟨k, rfl⟩ : ∃ m, k = m + 1 := ⟨k - 1, by omega⟩
    simp only [laws_markInt64S.l0]
    rw [if_pos (by omega), if_pos (by omega), wrap_id (x := (i : Int) + 1) (by omega) (by omega), wrap_id (x := a + (i : Int) + 1) (by omega) (by omega), Int.toNat_natCast, show (i : Int) + 1 = ((i + 1 : Nat) : Int) by omega, show a + (i : Int) + 1 = a + ((i + 1 : Nat) : Int) by omega]
    refine ih k (i + 1) _ (by simp [hx]) (by omega) (by omega) ?_
    intro j hlt
    by_cases h : j = i
    · subst h
      rw [List.getElem?_set_self (by omega)]
    · rw [List.getElem?_set_ne (by omega)]; exact hj j (by omega)
theorem mark_eq (l : List Int) (hl : l.length ≤ 1048576) (a : Int) (ha : 0 ≤ a) (hb : a ≤ 100000000) (k : Nat) (hk : 1048576 < k) : laws_markInt64S.f k l a = some (a + (l.length : Int), upTo a l.length) := by
  have := mark_loop l hl a ha hb l.length k 0 l rfl (by omega) (by omega) (by intro j hj; omega)
  simpa [laws_markInt64S.f] using this
theorem held_loop (a : Int) (n : Nat) (hn : n ≤ 1048576) (ha : 0 ≤ a) (hb : a ≤ 100000000) : ∀ (d k i : Nat), i + d = n → d < k → laws_heldInt64S.l0 k (upTo a n) (a + (i : Int)) (i : Int) = some (a + (n : Int)) := by
  intro d
  induction d with
  | zero =>
    intro k i hi hk
    obtain ⟨k, rfl⟩ : ∃ m, k = m + 1 := ⟨k - 1, by omega⟩
    simp only [laws_heldInt64S.l0]
    rw [upTo_len, if_neg (by omega)]
    obtain rfl : i = n := by omega
    rfl
  | succ d ih =>
    intro k i hi hk
    obtain ⟨k, rfl⟩ : ∃ m, k = m + 1 := ⟨k - 1, by omega⟩
    have e : rd (upTo a n) (i : Int) = a + (i : Int) := by
      rw [rd_at _ i (by rw [upTo_len]; omega)]; simp [upTo]
    simp only [laws_heldInt64S.l0]
    rw [upTo_len, if_pos (by omega), if_pos (by omega), e, if_pos rfl, wrap_id (x := (i : Int) + 1) (by omega) (by omega), wrap_id (x := a + (i : Int) + 1) (by omega) (by omega), show (i : Int) + 1 = ((i + 1 : Nat) : Int) by omega, show a + (i : Int) + 1 = a + ((i + 1 : Nat) : Int) by omega]
    exact ih k (i + 1) (by omega) (by omega)
theorem held_eq (a : Int) (n : Nat) (hn : n ≤ 1048576) (ha : 0 ≤ a) (hb : a ≤ 100000000) (k : Nat) (hk : 1048576 < k) : laws_heldInt64S.f k (upTo a n) a = some (a + (n : Int)) := by
  have := held_loop a n hn ha hb n k 0 (by omega) (by omega)
  simpa [laws_heldInt64S.f] using this
/-- The rows' numbers, one row behind the other. -/
def markL : List (List Int) → Int → List (List Int)
  | [], _ => []
  | r :: rs, a => upTo a r.length :: markL rs (a + (r.length : Int))
theorem markL_len (l : List (List Int)) (a : Int) : (markL l a).length = l.length := by
  induction l generalizing a with
  | nil => rfl
  | cons r rs ih => simp [markL, ih]
theorem markL_snoc (l : List (List Int)) (r : List Int) (a : Int) : markL (l ++ [r]) a = markL l a ++ [upTo (a + (l.flatten.length : Int)) r.length] := by
  induction l generalizing a with
  | nil => simp [markL]
  | cons s l ih => simp [markL, ih, Int.add_assoc]
theorem flat_take_le (l : List (List Int)) (i : Nat) : (l.take i).flatten.length ≤ l.flatten.length := by
  have : l.flatten = (l.take i).flatten ++ (l.drop i).flatten := by rw [← List.flatten_append, List.take_append_drop]
  rw [this, List.length_append]; omega
theorem heldSS_loop (a : Int) (ha : 0 ≤ a) : ∀ (l done : List (List Int)) (k : Nat) (c : Int), 0 ≤ c → c + (l.flatten.length : Int) ≤ 100000000 → (∀ r ∈ l, r.length ≤ 1048576) → (done ++ l).length ≤ 1048576 → 1048577 + l.length < k →
    laws_heldInt64SS.l0 k (done ++ markL l c) c (done.length : Int) = some (c + (l.flatten.length : Int)) := by
  intro l
  induction l with
  | nil =>
    intro done k c h0 h1 hr hl hk
    obtain ⟨k, rfl⟩ : ∃ m, k = m + 1 := ⟨k - 1, by omega⟩
    simp only [laws_heldInt64SS.l0, markL, List.append_nil]
    rw [if_neg (by omega)]; simp
  | cons r l ih =>
    intro done k c h0 h1 hr hl hk
    obtain ⟨k, rfl⟩ : ∃ m, k = m + 1 := ⟨k - 1, by omega⟩
    simp only [List.length_append, List.length_cons] at hl hk
    rw [List.flatten_cons, List.length_append] at h1
    have hr0 := hr r (by simp)
    have e : rd_L1 (done ++ markL (r :: l) c) (done.length : Int) = upTo c r.length := by
      rw [rdL_at _ _ (by rw [List.length_append, markL_len]; simp)]; simp [markL]
    simp only [laws_heldInt64SS.l0]
    rw [if_pos (by rw [List.length_append, markL_len]; simp; omega), if_pos (by omega), e, held_eq c r.length hr0 h0 (by omega) k (by omega)]
    simp only [Option.bind_some]
    rw [if_neg (by omega), wrap_id (x := (done.length : Int) + 1) (by omega) (by omega)]
    have := ih (done ++ [upTo c r.length]) k (c + (r.length : Int)) (by omega) (by omega) (fun s hs => hr s (by simp [hs])) (by simp; omega) (by omega)
    simp only [List.length_append, List.length_cons, List.length_nil, Nat.zero_add, List.append_assoc, List.cons_append, List.nil_append] at this
    rw [show (done.length : Int) + 1 = ((done.length + 1 : Nat) : Int) by omega]
    simp only [markL, List.flatten_cons, List.length_append]
    rw [this]; congr 1; omega
theorem heldSS_eq (l : List (List Int)) (hs : Small l) (k : Nat) (hk : 3000000 ≤ k) : laws_heldInt64SS.f k (markL l 1) 1 = some (1 + (l.flatten.length : Int)) := by
  obtain ⟨h1, h2, h3⟩ := hs
  have := heldSS_loop 1 (by decide) l [] k 1 (by decide) (by omega) h3 (by simpa using h1) (by omega)
  simpa [laws_heldInt64SS.f] using this
theorem heldYard_eq (h : Int) (l : List (List Int)) (hs : Small l) (k : Nat) (hk : 3000000 ≤ k) : laws_heldYard.f k h (markL l 1) 1 = some (1 + (l.flatten.length : Int)) := by
  simp only [laws_heldYard.f, heldSS_eq l hs k hk, Option.bind_some]
  rw [if_neg (by omega)]
/-- The first rows have their numbers. -/
def markTo (l : List (List Int)) (j : Nat) : List (List Int) := markL (l.take j) 1 ++ l.drop j
theorem markTo_len (l : List (List Int)) (j : Nat) : (markTo l j).length = l.length := by
  simp only [markTo, List.length_append, markL_len, List.length_take, List.length_drop]; omega
theorem markTo_get (l : List (List Int)) (j : Nat) (h : j < l.length) : (markTo l j).getD j [] = l[j] := by
  have : (markL (l.take j) 1).length = j := by rw [markL_len, List.length_take]; omega
  rw [markTo, List.getD_eq_getElem?_getD, List.getElem?_append_right (by omega), this, Nat.sub_self, List.getElem?_drop, Nat.add_zero, List.getElem?_eq_getElem h]; rfl
theorem markTo_succ (l : List (List Int)) (j : Nat) (h : j < l.length) : (markTo l j).set j (upTo (1 + ((l.take j).flatten.length : Int)) l[j].length) = markTo l (j + 1) := by
  have e : (markL (l.take j) 1).length = j := by rw [markL_len, List.length_take]; omega
  unfold markTo
  rw [List.take_succ_eq_append_getElem h, markL_snoc, List.set_append_right _ _ (by omega), e, Nat.sub_self, List.drop_eq_getElem_cons h]
  simp only [List.set_cons_zero, List.append_assoc, List.cons_append, List.nil_append]
theorem flat_succ (l : List (List Int)) (j : Nat) (h : j < l.length) : (l.take (j + 1)).flatten.length = (l.take j).flatten.length + l[j].length := by
  rw [List.take_succ_eq_append_getElem h, List.flatten_append, List.length_append]; simp
set_option maxRecDepth 100000 in
set_option maxHeartbeats 2000000 in
theorem markSS_any (P : Nat → Prop) (v : Value) (l : List (List Int)) (hs : Small l) (w0 w : World) (hB : Below w0.heap.size w0 w) (ho : Kd.S dR 31 w w0.heap.size P v l) :
    Calls Try.prog 37 #[v, .int .i64 1] w fun e w' => e = .returned (.int .i64 (1 + (l.flatten.length : Int))) ∧ Kd.S dR 31 w' w0.heap.size (fun k => P k ∨ w.heap.size ≤ k) v (markL l 1) ∧ Below w0.heap.size w0 w' ∧ Kept w w' P := by
  obtain ⟨hs1, hs2, hs3⟩ := hs
  have HB := Aside0.mk hB
  have HS3 := Aside0.mk hs3
  obtain ⟨n, hn⟩ : ∃ n, n = l.length := ⟨_, rfl⟩
  have HN := Aside0.mk hn
  have hn1 : n ≤ 1048576 := by omega
  obtain ⟨A, c, hv⟩ := Kd.S_slice ho
  rw [← hn] at hv
  subst hv
  have HO := Aside0.mk (show Kd.S dR 31 w w0.heap.size (fun k => P k ∨ w.heap.size ≤ k) (.slice A n c) (markTo l 0) by
    have := Kd.S_mono (ok' := fun k => P k ∨ w.heap.size ≤ k) ho (fun k hk => .inl hk)
    simpa [markTo, markL] using this)
  clear ho hB hs3 hn hs1
  go_enter Try.func37, Try.ntmps37
  go_wp2
  go_loopw [1, 5] (fun v1 v5 wz => ∃ j : Nat, j ≤ n ∧ v5 = .int .i64 (j : Int) ∧ v1 = .int .i64 (1 + ((l.take j).flatten.length : Int)) ∧ Aside0 (Kd.S dR 31 wz w0.heap.size (fun k => P k ∨ w.heap.size ≤ k) (.slice A n c) (markTo l j)) ∧ Aside0 (Below w0.heap.size w0 wz) ∧ Aside0 (Kept w wz P)) (fun _ v _ => n - (intOf v).toNat)
  case atStart => exact ⟨0, by omega, rfl, by simp, HO, HB, ⟨Kept.refl _ _⟩⟩
  case round =>
    obtain ⟨j, hj, rfl, rfl, ho, hb, hk⟩ := hrel
    obtain ⟨m, hm⟩ : ∃ m, m = (l.take j).flatten.length := ⟨_, rfl⟩
    have hm1 := flat_take_le l j
    rw [← hm] at hm1 ⊢
    by_cases hlt : j < n
    · have hjl : j < l.length := by rw [← HN.out]; exact hlt
      have c0 : decide ((j : Int) < (n : Int)) = true := decide_eq_true (by omega)
      have p1 : 0 ≤ (j : Int) := by omega
      have q1 : (j : Int) < (n : Int) := by omega
      obtain ⟨g, rfl⟩ : ∃ g, A = some ⟨g, 0, none⟩ := by
        have hl : (markTo l j).length = n := by rw [markTo_len, HN.out]
        obtain ⟨g, cap, he, _⟩ := Kd.S_form ho.out (by omega)
        injection he with he _ _
        exact ⟨g, he⟩
      obtain ⟨oki, ce, hcl, hM, hcc, hoki, hH⟩ := Kd.S_lend ho.out [] (j : Int) p1 q1
      rw [Int.toNat_natCast, markTo_get l j hjl] at hM
      obtain ⟨u, rfl, hR⟩ := hM
      have hx : wr.cell? ⟨g, j, none⟩ = some u := by
        have := hcc 0 u rfl
        rw [Int.toNat_natCast] at this
        simpa [dR, Kd.slice] using this
      have hx' : wr.cell? ((⟨g, 0, none⟩ : Addr).add j) = some u := by rw [add_plain]; exact hx
      obtain ⟨r, hr⟩ : ∃ r, r = l[j] := ⟨_, rfl⟩
      rw [← hr] at hR
      have hrl : r.length ≤ 1048576 := HS3.out r (by rw [hr]; exact List.getElem_mem hjl)
      have hfs := flat_succ l j hjl
      rw [← hr, ← hm] at hfs
      have hft := flat_take_le l (j + 1)
      have hmk := markTo_succ l j hjl
      rw [← hr, ← hm] at hmk
      have HR := Aside0.mk hR
      have HH := Aside0.mk hH
      have HOK := Aside0.mk hoki
      have HF := Aside0.mk hfs
      have HMK := Aside0.mk hmk
      have HW := Aside0.mk (show wrap64 ((j : Int) + 1) = ((j + 1 : Nat) : Int) by unfold wrap64; omega)
      have HME := Aside0.mk (mark_eq r hrl (1 + (m : Int)) (by omega) (by omega) 2000000 (by decide))
      have HJ := Aside0.mk hlt
      obtain ⟨Ar, cr, rfl⟩ := Kd.R_slice hR
      replace p1 := eq_true p1
      replace q1 := eq_true q1
      clear hfs hmk hR hH hoki hcl hcc hr hm hft
      go_wp2_with (go_at_call 19; refine (laws_markInt64S.calls 2000000 oki (.slice Ar r.length cr) r (1 + (m : Int)) (1 + (m : Int) + (r.length : Int)) (upTo (1 + (m : Int)) r.length) w0 _ hb.out HR.out HME.out).mono ?_; rintro e w1 ⟨rfl, hR1, hb1, hk1⟩; have HR1 := Aside0.mk hR1; have HB1 := Aside0.mk hb1; have HK1 := Aside0.mk hk1; clear hR1 hb1 hk1 hx hx')
      go_roundw
      case rel =>
        refine ⟨j + 1, by have := HJ.out; omega, by have h2 := HW.out; first | (congr 1; done) | (congr 1; omega), by have := HF.out; congr 1; omega, ⟨?_⟩, HB1, ⟨?_⟩⟩
        · rw [← HMK.out]
          have hH2 := Kd.H_widen HH.out
          have hH3 := Kd.H_kept (S := oki) hH2 HK1.out (fun k hk1 hn h3 => hn (.inl h3))
          have := Kd.H_back hH3 (x' := upTo (1 + (m : Int)) r.length) ⟨_, rfl, HR1.out⟩ (fun k hk' => hk'.elim .inl (fun h => .inr ⟨.inr (Nat.le_trans hk.out.1 h), h⟩))
          rw [Int.toNat_natCast] at this; exact this
        · exact (hk.out.then_ HK1.out (fun k hk1 => by
            rcases (HOK.out k hk1).1 with h | h
            · exact .inl h
            · exact .inr h))
      case measure => have := HJ.out; have h2 := HW.out; simp only [intOf]; omega
    · have c0 : decide ((j : Int) < (n : Int)) = false := decide_eq_false (by omega)
      obtain rfl : j = n := by omega
      have HM := Aside0.mk hm
      clear hlt hj hm
      go_wp2
      go_ret
      have e1 : l.take j = l := by rw [HN.out, List.take_length]
      have e2 : markTo l j = markL l 1 := by unfold markTo; rw [e1, HN.out, List.drop_length, List.append_nil]
      refine ⟨Ha.ret_int (by rw [HM.out, e1]), by rw [← e2]; exact ho.out, hb.out, hk.out⟩
/-- Marking a yard. -/
theorem markYard_any (h : Int) (P : Nat → Prop) (v : Value) (l : List (List Int)) (hs : Small l) (w0 w : World) (hB : Below w0.heap.size w0 w) (ho : Kd.S dR 31 w w0.heap.size P v l) :
    Calls Try.prog 18 #[.agg #[.int .i64 h, v], .int .i64 1] w fun e w' => e = .returned (.int .i64 (1 + (l.flatten.length : Int))) ∧ Kd.S dR 31 w' w0.heap.size (fun k => P k ∨ w.heap.size ≤ k) v (markL l 1) ∧ Below w0.heap.size w0 w' ∧ Kept w w' P := by
  obtain ⟨A, c, rfl⟩ := Kd.S_slice ho
  obtain ⟨n, hn⟩ : ∃ n, n = l.length := ⟨_, rfl⟩
  rw [← hn] at ho ⊢
  obtain ⟨q, hq⟩ : ∃ q, q = l.flatten.length := ⟨_, rfl⟩
  rw [← hq]
  have HQ := Aside0.mk hq
  have hu := Try.underlying27
  have HB := Aside0.mk hB
  have HO := Aside0.mk ho
  have HS := Aside0.mk hs
  clear hB ho hs hn hq
  go_enter Try.func18, Try.ntmps18
  go_wp2_with (go_at_call 37; refine (markSS_any P _ l HS.out w0 _ (HB.out.trans (below_alloc (Below.refl _ _) (.cells #[.int .i64 h, .slice A n c] 27) |>.mono HB.out.size)) (Kd.S_alloc HO.out _)).mono ?_; rintro e w1 ⟨he, h1, h2, h3⟩; rw [← HQ.out] at he; subst he; have H1 := Aside0.mk h1; have H2 := Aside0.mk h2; have H3 := Aside0.mk h3; clear h1 h2 h3)
  go_ret
  refine ⟨rfl, Kd.S_mono H1.out (fun k hk => hk.elim .inl (fun h => .inr (Nat.le_trans (by simp) h))), H2.out, (Kept.alloc (Kept.refl w P) _).then_ H3.out (fun k hk => .inl hk)⟩
end Go.Proofs.Ytibaiaenfeppcaa.Lw

/- Rows of the call's own whose capacity may have been cut: a kind of their own, and what is known of them. -/
namespace Go.Proofs.Ytibaiaenfeppcaa.Ow
open Go Go.RowKit Go.Proofs.YtibaiaenfeppcaaW.PrintWords Go.Proofs.YtibaiaenfeppcaaW.PrintLast Go.Proofs.YtibaiaenfeppcaaW.PrintMore Go.Proofs.Ytibaiaenfeppcaa.Q Go.Proofs.Ytibaiaenfeppcaa.PuY Go.Proofs.Ytibaiaenfeppcaa.Lw
set_option linter.unusedVariables false
/-- A row of the call's own; its block may be longer than its capacity tells. -/
def RowW (w : World) (base : Nat) (ok : Nat → Prop) (v : Value) (xs : List Int) : Prop :=
  (v = .slice none 0 0 ∧ xs = []) ∨ ∃ g cap cur, v = .slice (some ⟨g, 0, none⟩) xs.length cap ∧ base ≤ g ∧ ok g ∧ w.heap[g]? = some (.cells cur 2 (0, 0)) ∧ xs.length ≤ cap ∧ cap ≤ maxLen ∧ cap ≤ cur.size ∧ cur.toList.take xs.length = nums .i64 xs
theorem RowW.cells {w : World} {base : Nat} {ok : Nat → Prop} {xs : List Int} {g cap : Nat} {cur : Array Value} (hh : w.heap[g]? = some (.cells cur 2 (0, 0))) (hc : xs.length ≤ cur.size) (ht : cur.toList.take xs.length = nums .i64 xs) (j : Nat) (hj : j < xs.length) : w.cell? ⟨g, j, none⟩ = some (.int .i64 (xs.getD j 0)) := by
  have h1 : (cur.toList.take xs.length)[j]? = (nums .i64 xs)[j]? := by rw [ht]
  rw [List.getElem?_take_of_lt hj] at h1
  simp only [World.cell?, hh]
  simp only [nums, List.getElem?_map, List.getElem?_eq_getElem hj, Option.map_some, Array.getElem?_toList] at h1
  rw [List.getD_eq_getElem?_getD, List.getElem?_eq_getElem hj]
  simpa using h1
theorem RowW.reads {w : World} {base : Nat} {ok : Nat → Prop} {v : Value} {xs : List Int} (h : RowW w base ok v xs) : ∃ A c, v = .slice A xs.length c ∧ xs.length ≤ c ∧ Kd.C (Kd.int .i64) w A xs.length xs := by
  rcases h with ⟨rfl, rfl⟩ | ⟨g, cap, cur, rfl, hb, ho, hh, h1, h2, h3, h4⟩
  · exact ⟨none, 0, rfl, Nat.le_refl _, Kd.C_nil _ _⟩
  · refine ⟨_, cap, rfl, h1, Kd.C_of_reads (d := (0 : Int)) (h1 := fun _ => rfl) ⟨rfl, by unfold maxLen at h2; omega, fun hn => ⟨_, rfl, fun j hj => ?_⟩⟩⟩
    rw [add_plain]
    exact RowW.cells (base := base) (ok := ok) (cap := cap) hh (by omega) h4 j hj
def dW : Kd (List Int) where
  sz := 1
  E := [2]
  K := dR.K
  M := fun w base ok xs cs => ∃ v, cs = [v] ∧ RowW w base ok v xs
  K_len := dR.K_len
  K_one := dR.K_one
  K_below := dR.K_below
  K_of_M := by
    rintro w base ok x cs ⟨v, rfl, h⟩
    obtain ⟨A, c, rfl, hl, hr⟩ := h.reads
    exact ⟨A, c, rfl, hl, hr⟩
  M_mono := by
    rintro w base ok ok' x cs hok ⟨v, rfl, h⟩
    refine ⟨v, rfl, ?_⟩
    rcases h with h | ⟨g, cap, cur, hv, hb, ho, r⟩
    · exact .inl h
    · exact .inr ⟨g, cap, cur, hv, hb, hok g ho, r⟩
  M_bound := by
    rintro w base ok x cs ⟨v, rfl, h⟩
    refine ⟨v, rfl, ?_⟩
    rcases h with h | ⟨g, cap, cur, hv, hb, ho, hh, r⟩
    · exact .inl h
    · exact .inr ⟨g, cap, cur, hv, hb, ⟨ho, hb, (Array.getElem?_eq_some_iff.1 hh).1, _, List.mem_singleton.2 rfl, _, hh⟩, hh, r⟩
  M_move := by
    rintro w w1 base ok x cs hm ⟨v, rfl, h⟩
    refine ⟨v, rfl, ?_⟩
    rcases h with h | ⟨g, cap, cur, hv, hb, ho, hh, r⟩
    · exact .inl h
    · exact .inr ⟨g, cap, cur, hv, hb, ho, (hm g ho).trans hh, r⟩
  M_lower := by
    rintro w base base' ok x cs hb' ⟨v, rfl, h⟩
    refine ⟨v, rfl, ?_⟩
    rcases h with h | ⟨g, cap, cur, hv, hb, r⟩
    · exact .inl h
    · exact .inr ⟨g, cap, cur, hv, Nat.le_trans hb' hb, r⟩
/-- A row of the usual make is one. -/
theorem rowW_of_R {w : World} {base : Nat} {ok : Nat → Prop} {v : Value} {xs : List Int} (h : Kd.R (Kd.int .i64) 2 w base ok v xs) : RowW w base ok v xs := by
  have hk := h.1
  have h := Kd.own_of_R h
  rcases h.2 with ⟨rfl, hz⟩ | ⟨g, cap, cur, rfl, hb, hh, h1, h2, h3, h4⟩
  · exact .inl ⟨rfl, List.eq_nil_of_length_eq_zero hz⟩
  · exact .inr ⟨g, cap, cur, rfl, hb, hk g rfl, hh, h1, h2, by omega, by rw [Nat.mul_one] at h4; exact h4⟩
theorem mW_of_mR {w : World} {base : Nat} {ok : Nat → Prop} {xs : List Int} {cs : List Value} (h : dR.M w base ok xs cs) : dW.M w base ok xs cs := by
  obtain ⟨v, rfl, h⟩ := h
  exact ⟨v, rfl, rowW_of_R h⟩
theorem sW_of_sR {w : World} {base : Nat} {ok : Nat → Prop} {v : Value} {xs : List (List Int)} (h : Kd.S dR 31 w base ok v xs) : Kd.S dW 31 w base ok v xs := by
  obtain ⟨f, h0, inner, ho, hr⟩ := h
  exact ⟨f, h0, inner, ho, hr.1, fun j p hp => mW_of_mR (hr.2 j p hp)⟩
/-- A row cut short: 'r[:n:n]'. -/
theorem rowW_cut {w : World} {base : Nat} {ok : Nat → Prop} {A : Option Addr} {c m : Nat} {xs : List Int} (h : RowW w base ok (.slice A xs.length c) xs) (hm : m ≤ xs.length) : RowW w base ok (.slice A m m) (xs.take m) := by
  rcases h with ⟨hv, rfl⟩ | ⟨g, cap, cur, hv, hb, ho, hh, h1, h2, h3, h4⟩
  · injection hv with a1 a2 a3
    subst a1
    simp at hm; subst hm
    exact .inl ⟨rfl, rfl⟩
  · injection hv with a1 a2 a3
    subst a1; subst a3
    have hl : (xs.take m).length = m := by rw [List.length_take]; omega
    refine .inr ⟨g, m, cur, by rw [hl], hb, ho, hh, by omega, by omega, by omega, ?_⟩
    rw [hl]
    have : (cur.toList.take xs.length).take m = (nums .i64 xs).take m := by rw [h4]
    rw [List.take_take, Nat.min_eq_left hm] at this
    rw [this]; simp [nums, List.map_take]
/-- A row cut short, its capacity kept: 'r[:n]'. -/
theorem rowR_cut {w : World} {base : Nat} {ok : Nat → Prop} {A : Option Addr} {c m : Nat} {xs : List Int} (h : Kd.R (Kd.int .i64) 2 w base ok (.slice A xs.length c) xs) (hm : m ≤ xs.length) : Kd.R (Kd.int .i64) 2 w base ok (.slice A m c) (xs.take m) := by
  have hk := h.1
  have hl : (xs.take m).length = m := by rw [List.length_take]; omega
  have h := Kd.own_of_R h
  refine Kd.R_of_own ?_ (fun k e => hk k (by cases A with | none => exact e | some a => exact e))
  rcases h.2 with ⟨hv, hz⟩ | ⟨g, cap, cur, hv, hb, hh, h1, h2, h3, h4⟩
  · injection hv with a1 a2 a3
    subst a1; subst a3
    obtain rfl : xs = [] := List.eq_nil_of_length_eq_zero hz
    simp at hm; subst hm
    exact own_nil w base _ 1
  · injection hv with a1 a2 a3
    subst a1; subst a3
    rw [hl]
    refine ⟨by simp [encs]; omega, .inr ⟨g, c, cur, rfl, hb, hh, by omega, h2, h3, ?_⟩⟩
    have : (cur.toList.take (xs.length * 1)).take m = (encs (Value.int .i64) xs).take m := by rw [h4]
    rw [List.take_take, Nat.mul_one, Nat.min_eq_left hm] at this
    rw [Nat.mul_one, this]; simp [encs, List.map_take]
end Go.Proofs.Ytibaiaenfeppcaa.Ow

/- A yard of the call's own behind a pointer: its words. -/
namespace Go.Proofs.Ytibaiaenfeppcaa.Yo
open Go Go.RowKit Go.Proofs.YtibaiaenfeppcaaW.PrintWords Go.Proofs.YtibaiaenfeppcaaW.PrintLast Go.Proofs.YtibaiaenfeppcaaW.PrintMore Go.Proofs.Ytibaiaenfeppcaa.Q Go.Proofs.Ytibaiaenfeppcaa.PuY Go.Proofs.Ytibaiaenfeppcaa.Lw Go.Proofs.Ytibaiaenfeppcaa.Ow
set_option linter.unusedVariables false
/-- Block g is a yard's; what it leads to is the call's own from block lo on. -/
def YO (lo : Nat) (W : World) (g : Nat) (h : Int) (xs : List (List Int)) : Prop :=
  ∃ A c, W.heap[g]? = some (.cells #[.int .i64 h, .slice A xs.length c] 27 (0, 0)) ∧ lo ≤ g ∧ lo ≤ W.heap.size ∧ Kd.S dR 31 W lo (fun k => k ≠ g) (.slice A xs.length c) xs
/-- Element i of a row of rows, taken out and put back as another one. -/
theorem row_out {d : Kd (List Int)} (hsz : d.sz = 1) {W : World} {lo n cap gs : Nat} {ok : Nat → Prop} {xs : List (List Int)} (h : Kd.S d 31 W lo ok (.slice (some ⟨gs, 0, none⟩) n cap) xs) (i : Nat) (hi : i < n) (hx : i < xs.length) (hnew : ∀ k, W.heap.size ≤ k → ok k) :
    ∃ (oki : Nat → Prop) (c : List Value), d.M W lo oki xs[i] c ∧ c.length = 1 ∧ (∀ u, c[0]? = some u → W.cell? ⟨gs, i, none⟩ = some u) ∧ (∀ k, oki k → ok k ∧ k ≠ gs) ∧
      ∀ (w2 : World) (v' : Value) (x' : List Int), W.heap.size ≤ w2.heap.size → (∀ k, k < W.heap.size → ¬ oki k → w2.heap[k]? = W.heap[k]?) → d.M w2 lo (fun k => oki k ∨ W.heap.size ≤ k) x' [v'] →
        Kd.S d 31 (w2.setCell ⟨gs, i, none⟩ v') lo ok (.slice (some ⟨gs, 0, none⟩) n cap) (xs.set i x') ∧ w2.grownBy (w2.setCell ⟨gs, i, none⟩ v') (some gs) := by
  obtain ⟨oki, c, hcl, hM, hcc, hoki, hH⟩ := Kd.S_lend h [] (i : Int) (by omega) (by omega)
  have e : xs.getD (i : Int).toNat [] = xs[i] := by rw [Int.toNat_natCast, List.getD_eq_getElem?_getD, List.getElem?_eq_getElem hx]; rfl
  rw [e] at hM
  refine ⟨oki, c, hM, by rw [hcl, hsz], fun u hu => ?_, hoki, fun w2 v' x' hs hk hM' => ?_⟩
  · have := hcc 0 u hu
    rw [Int.toNat_natCast, hsz, Nat.mul_one, Nat.add_zero] at this
    exact this
  · have h1 := Kd.H_step (Kd.H_widen hH) (w1 := w2) (fun k hk1 hn hlt => hk k hlt (fun ho => hn (.inl ho)))
    have h2 : Kd.H d 31 w2 lo (fun k => ok k ∧ ¬ False) (.slice (some ⟨gs, 0, none⟩) n cap) xs (i : Int) (fun k => oki k ∨ ok k ∧ W.heap.size ≤ k) c := Kd.H_mono h1 (fun k hk => ⟨hk, fun f => f⟩)
    have hMM : d.M w2 lo (fun k => oki k ∨ W.heap.size ≤ k) x' (c.take 0 ++ [v'] ++ c.drop (0 + [v'].length)) := by
      rw [List.drop_eq_nil_of_le (by rw [hcl, hsz]; simp)]
      simpa using hM'
    have h3 := Kd.S_seg (okg := fun _ => False) h2 (by omega) (by omega) (seg := [v']) (j := 0) (by rw [hsz]; simp) hMM (fun k hk => .inl (hk.elim .inl (fun h => .inr ⟨hnew k h, h⟩))) (fun _ hk => hk.elim)
    rw [Int.toNat_natCast, hsz, Nat.mul_one, Nat.add_zero] at h3
    exact h3
/-- Each row of a row of rows: its value, its blocks told apart from those of the others. -/
theorem rows_f {W : World} {lo n cap gs : Nat} {ok : Nat → Prop} {xs : List (List Int)} (h : Kd.S dR 31 W lo ok (.slice (some ⟨gs, 0, none⟩) n cap) xs) :
    ∃ f : Nat → Nat, ∀ i : Nat, ∀ hi : i < xs.length, ∃ v, W.cell? ⟨gs, i, none⟩ = some v ∧ W.frozen? ⟨gs, i, none⟩ = false ∧ Kd.R (Kd.int .i64) 2 W lo (fun k => (ok k ∧ k ≠ gs) ∧ f k = i) v xs[i] := by
  have hn := (Kd.S_reads' h).1
  obtain ⟨f, hR⟩ := h
  refine ⟨f, fun i hi => ?_⟩
  obtain ⟨c, hcl, hM, hcc, hfr⟩ := Kd.R_elem hR ([], 0) (i : Int) (by omega) (by omega)
  have e : xs.zipIdx.getD (i : Int).toNat ([], 0) = (xs[i], i) := by
    rw [Int.toNat_natCast, List.getD_eq_getElem?_getD, Kd.zip_at (List.getElem?_eq_getElem hi)]; rfl
  rw [e] at hM
  obtain ⟨v, rfl, hv⟩ := hM
  have h0 := hcc 0 v rfl
  have h1 := hfr 0
  rw [Int.toNat_natCast] at h0 h1
  refine ⟨v, by simpa [Kd.tag, dR, Kd.slice] using h0, by simpa [Kd.tag, dR, Kd.slice] using h1, Kd.R_mono hv (fun k hk => ?_)⟩
  exact ⟨⟨hk.1.1, hk.1.2⟩, hk.2⟩
theorem infoI : (Try.prog.info? 2).map (fun i => (i.zero, i.size, i.bytes)) = some (some (.int .i64 0), 1, 8) := by kernel_rfl
/-- 'r[:q]' and 'r[:q:q]'. -/
theorem cut_run (A : Option Addr) (n c : Nat) (q : Int) (h0 : 0 ≤ q) (h1 : q ≤ n) (hc : n ≤ c) : ∀ W : World, (Instr.slice 31 (.slice A n c) none (some (.int .i64 q)) none).run Try.prog W = .ok (.slice A q.toNat c) W := by
  intro W
  obtain ⟨i0, hi0, _, hsz, _⟩ := info_parts infoI
  have h := (print_take_of (P := Try.prog) (Value.int .i64) 0 31 2 .i64 Try.underlying31 hi0 hsz A c (List.replicate n 0) q h0 (by simpa using h1) (by simpa using hc)).1 W
  rw [List.length_replicate, List.length_take, List.length_replicate, Nat.min_eq_left (by omega)] at h
  exact h
theorem cutm_run (A : Option Addr) (n c : Nat) (q : Int) (h0 : 0 ≤ q) (h1 : q ≤ n) (hc : n ≤ c) : ∀ W : World, (Instr.slice 31 (.slice A n c) none (some (.int .i64 q)) (some (.int .i64 q))).run Try.prog W = .ok (.slice A q.toNat q.toNat) W := by
  intro W
  obtain ⟨i0, hi0, _, hsz, _⟩ := info_parts infoI
  have hel : Try.prog.elem 31 = 2 := by simp [Program.elem, Try.underlying31]
  have hu : Try.prog.underlying 31 = some (.slice (Try.prog.elem 31)) := by rw [hel]; exact Try.underlying31
  rw [run_slice_hm W 31 A n c hu .i64 .i64 q q h0 (Int.le_refl _) (by omega), hel]
  cases A <;> simp [sizeOf, typeInfo, hi0, hsz, sliced, Result.andThen, Addr.add]
/-- The yard's rows are apart from its block: their sizes, its cells. -/
theorem YO.blk {lo : Nat} {W : World} {g : Nat} {h : Int} {xs : List (List Int)} (y : YO lo W g h xs) : ∃ A c, W.heap[g]? = some (.cells #[.int .i64 h, .slice A xs.length c] 27 (0, 0)) := ⟨_, _, y.choose_spec.choose_spec.1⟩
theorem YO.below {lo : Nat} {W W' : World} {g : Nat} {h : Int} {xs : List (List Int)} (y : YO lo W g h xs) (hb : Below W.heap.size W W') : YO lo W' g h xs := by
  obtain ⟨A, c, h1, h2, h3, h4⟩ := y
  exact ⟨A, c, blk_below h1 hb, h2, Nat.le_trans h3 hb.size, Kd.S_below h4 hb⟩
end Go.Proofs.Ytibaiaenfeppcaa.Yo

-- made by a patched copy of print.sh: this session's own
namespace Go.Proofs.Ytibaiaenfeppcaa.Q
open Go.RowKit Go.Proofs.YtibaiaenfeppcaaW.PrintWords Go.Proofs.YtibaiaenfeppcaaW.PrintLast Go.Proofs.YtibaiaenfeppcaaW.PrintMore
attribute [local go_sem] max2_int min2_int max_two min_two max_three min_three max_four min_four   -- for this text's walks alone
set_option linter.unusedVariables false
set_option linter.unusedSimpArgs false

/-! ### spec_l00Own: function 76 -/
def spec_l00Own.f (l0 : List Int) : Option (List Int) := (some (([] : List Int) : List Int)).bind fun y564 => (if y564.length + l0.length < 17592186044416 then (some (y564 ++ l0)) else (none))
set_option maxHeartbeats 8000000 in
set_option maxRecDepth 100000 in
theorem spec_l00Own.calls (A0 : Option Addr) (c0 : Nat) (l0 : List Int) (r : List Int) (w : World) (hr0 : Kd.C (Kd.int .i64) w A0 l0.length l0) (hc0 : l0.length ≤ c0) (h : spec_l00Own.f l0 = some r) :
    Calls Try.prog 76 #[.slice A0 l0.length c0] w fun e w' => ∃ v0_ : Value, e = .returned (v0_) ∧ Kd.R (Kd.int .i64) 2 w' w.heap.size (fun _ => True) v0_ r ∧ Below w.heap.size w w' := by
  have HR0 := Aside0.mk hr0
  have HC0 := Aside0.mk hc0
  clear hr0 hc0
  have HB := Aside0.mk (Below.refl w.heap.size w)
  have H : ((some (([] : List Int) : List Int)).bind fun y564 => (if y564.length + l0.length < 17592186044416 then (some (y564 ++ l0)) else (none))) = some r := h
  clear h
  obtain ⟨y564, hy564⟩ : ∃ y_ : List Int, y_ = (([] : List Int)) := ⟨_, rfl⟩
  replace H : (if y564.length + l0.length < 17592186044416 then (some (y564 ++ l0)) else (none)) = some r := by first | (rw [hy564]; with_reducible exact H) | (have H2_ := (Option.bind_some _ _).symm.trans H; rw [hy564]; with_reducible exact H2_) | (have H2_ := (Option.bind_some _ _).symm.trans H; with_reducible exact H2_) | with_reducible exact H | (rw [hy564]; exact H) | exact H
  have Ny564 := Aside0.mk hy564
  clear hy564
  by_cases c2 : y564.length + l0.length < 17592186044416
  · rw [if_pos c2] at H
    have LMc2 := Aside0.mk c2
    clear c2
    obtain ⟨y567, hy567⟩ : ∃ y_ : List Int, y_ = (y564 ++ l0) := ⟨_, rfl⟩
    replace H : (some y567) = some r := by first | (rw [hy567]; with_reducible exact H) | (have H2_ := (Option.bind_some _ _).symm.trans H; rw [hy567]; with_reducible exact H2_) | (have H2_ := (Option.bind_some _ _).symm.trans H; with_reducible exact H2_) | with_reducible exact H | (rw [hy567]; exact H) | exact H
    have Ny567 := Aside0.mk hy567
    clear hy567
    obtain rfl := Option.some.inj H
    go_enter Try.func76, Try.ntmps76
    go_wp2_with (first | ((with_reducible refine gate_dst (N := 3) rfl ?_); refine Kd.R_lit (Kd.int .i64) _ 2 ?hg (N := 3) ?hd (xs := ([] : List Int)) (inner := []) (ok := fun _ => True) (okp := fun _ => True) ?hr ?hp (fun _ hk => hk) trivial (Below.refl _ _) (Nat.le_refl _) (by simp) ?_; (case hd => rfl); (case hg => rfl); (case hr => first | (go_simp; done) | (go_simp; rfl)); (case hp => exact (Reps.none _ _)); intro v565 w3 ho4 hb hg_ hnew_; clear hg_ hnew_; (first | rw [← Ny564.out] at ho4 | (simp only [Int.reduceToNat] at ho4; rw [← Ny564.out] at ho4)); have n0_ := Aside0.mk (Kd.R_lower ho4 (below_size (by repeat (first | (with_reducible first | exact HB.out | apply below_alloc | apply pw_below_drewN | apply below_drew1) | exact HB.out)))); have n1_ := Aside0.mk (below_step (by repeat (first | (with_reducible first | exact HB.out | apply below_alloc | apply pw_below_drewN | apply below_drew1) | exact HB.out)) hb); clear HB; have HO566 := n0_; have HB := n1_; clear n0_ n1_; clear hb ho4) | ((with_reducible refine gate_builtin (b := .append) (xs := #[.tmp 3, .tmp 4]) rfl ?_); at_builtin; refine Kd.R_append_rows (Kd.int .i64) (w0 := w) w.heap.size rfl (.tmp 3) (.tmp 4) 31 2 (.int .i64 0) 8 rfl Try.underlying31 info2 rfl (by decide) (by omega) v565 y564 l0 _ _ _ (fun _ => True) (fun _ => False) rfl rfl ?aO ?aR (fun _ _ h => h) (fun _ h => h.elim) ?aF ?aB ?aS ?aL ?_; (case aR => repeat (first | exact (Kd.C_below HR0.out HB.out) | (with_reducible refine Kd.C_alloc ?_ _) | (with_reducible refine Kd.C_drewN ?_ _) | (with_reducible refine Kd.C_drew ?_))); (case aB => exact (by repeat (first | (with_reducible first | exact HB.out | apply below_alloc | apply pw_below_drewN | apply below_drew1) | exact HB.out))); (case aF => exact (fun _ _ => trivial)); (case aO => exact (by (with_reducible repeat (first | apply Kd.R_alloc | apply Kd.R_drewN | apply Kd.R_drew)); exact HO566.out)); (case aS => exact (below_size (by repeat (first | (with_reducible first | exact HB.out | apply below_alloc | apply pw_below_drewN | apply below_drew1) | exact HB.out)))); (case aL => have := LMc2.out; omega); intro v568 w5 ho hb hg hat; rw [← Ny567.out] at ho; have n0_ := Aside0.mk (hb); have n1_ := Aside0.mk (ho); clear HB; clear HO566; have HB := n0_; have HO569 := n1_; clear n0_ n1_; clear ho hb hg hat))
    go_ret
    exact ⟨_, by first | rfl | (simp [errW_none, errW_some] <;> rfl) | (simp [*, errW_none, errW_some] <;> rfl), by (with_reducible repeat (first | apply Kd.R_alloc | apply Kd.R_drewN | apply Kd.R_drew)); exact HO569.out, by repeat (first | (with_reducible first | exact HB.out | apply below_alloc | apply pw_below_drewN | apply below_drew1) | exact HB.out)⟩
  · rw [if_neg c2] at H
    exact absurd H (by simp)

end Go.Proofs.Ytibaiaenfeppcaa.Q

/- The reference's l09Own: a yard in memory of its own. -/
namespace Go.Proofs.Ytibaiaenfeppcaa.Yn
open Go Go.RowKit Go.Proofs.YtibaiaenfeppcaaW.PrintWords Go.Proofs.YtibaiaenfeppcaaW.PrintLast Go.Proofs.YtibaiaenfeppcaaW.PrintMore Go.Proofs.Ytibaiaenfeppcaa.Q Go.Proofs.Ytibaiaenfeppcaa.PuY Go.Proofs.Ytibaiaenfeppcaa.Lw Go.Proofs.Ytibaiaenfeppcaa.Ow Go.Proofs.Ytibaiaenfeppcaa.Yo
set_option linter.unusedVariables false
set_option linter.unusedSimpArgs false
theorem blk_new' (w : World) (o o' : Obj) : ((w.alloc o).alloc o').heap[w.heap.size + 1]? = some o' := by
  have := blk_new (w.alloc o) o'
  rwa [World.size_alloc] at this
theorem infoR : (Try.prog.info? 31).map (fun i => (i.zero, i.size, i.bytes)) = some (some (.slice none 0 0), 1, 24) := by kernel_rfl
theorem own_eq (l : List Int) (h : l.length ≤ 1000000) : spec_l00Own.f l = some l := by
  simp only [spec_l00Own.f, Option.bind_some, List.length_nil, List.nil_append]
  rw [if_pos (by omega)]
theorem C_rows {W : World} {A : Option Addr} {xs : List (List Int)} (h : Kd.C dR W A xs.length xs) (j : Nat) (hj : j < xs.length) : ∃ ad Ar cr, A = some ad ∧ W.cell? (ad.add j) = some (.slice Ar xs[j].length cr) ∧ xs[j].length ≤ cr ∧ Kd.C (Kd.int .i64) W Ar xs[j].length xs[j] := by
  obtain ⟨ad, A0, c0, e, h1, h2, h3⟩ := at_L1 h (j : Int) (by omega) (by omega)
  rw [rdL_at xs j hj] at h1 h2 h3
  rw [Int.toNat_natCast] at h1
  exact ⟨ad, A0, c0, e, h1, h2, h3⟩
set_option maxRecDepth 100000 in
set_option maxHeartbeats 4000000 in
theorem own_any (h : Int) (xs : List (List Int)) (hl : xs.length ≤ 100000) (hr : ∀ r ∈ xs, r.length ≤ 1000000) (g n c : Nat) (A : Option Addr) (w : World) (hb : w.heap[g]? = some (.cells #[.int .i64 h, .slice A n c] 27 (0, 0))) (hn : n = xs.length) (hC : Kd.C dR w A xs.length xs) :
    Calls Try.prog 54 #[.pointer (some ⟨g, 0, none⟩)] w fun e w' => ∃ v, e = .returned (.agg #[.int .i64 h, v]) ∧ Kd.S dR 31 w' w.heap.size (fun _ => True) v xs ∧ Below w.heap.size w w' := by
  have HN := Aside0.mk hn
  have HB := Aside0.mk hb
  have HC := Aside0.mk hC
  have HR := Aside0.mk hr
  have hgl := blk_lt hb
  have hn5 : n ≤ 100000 := by omega
  have hu := Try.underlying27
  have x0 : w.cell? ⟨g, 0, none⟩ = some (.int .i64 h) := (blk_cell hb 0).trans rfl
  have x1 : w.cell? ⟨g, 1, none⟩ = some (.slice A n c) := (blk_cell hb 1).trans rfl
  clear hn hb hC hr
  go_enter Try.func54, Try.ntmps54
  go_wp2_with (fail)
  go_loopw [4] (fun v4 wz => ∃ j : Nat, j ≤ n ∧ v4 = .int .i64 (j : Int) ∧ Aside0 (∃ v, wz.heap[w.heap.size + 1]? = some (.cells #[.int .i64 h, v] 27 (0, 0)) ∧ Kd.S dR 31 wz w.heap.size (fun k => k ≠ w.heap.size ∧ k ≠ w.heap.size + 1) v (xs.take j)) ∧ Aside0 (wz.heap[w.heap.size]? = some (.cells #[.int .i64 0, .slice none 0 0] 27 (0, 0))) ∧ Aside0 (Below w.heap.size w wz)) (fun v _ => n - (intOf v).toNat)
  case atStart => exact ⟨0, by omega, rfl, ⟨_, blk_new' _ _ _, by rw [List.take_zero]; exact Kd.S_nil _ _ _ _ _⟩, ⟨blk_alloc (blk_new w _) _⟩, ⟨below_alloc (below_alloc (Below.refl _ _) _) _⟩⟩
  case round =>
    obtain ⟨j, hj, rfl, ⟨v, hb2, hS⟩, hb1, hb⟩ := hrel
    have y0 := pw_cell_below hb.out x0
    have y1 := pw_cell_below hb.out x1
    by_cases hlt : j < n
    · have c0 : decide ((j : Int) < (n : Int)) = true := decide_eq_true (by omega)
      have hjx : j < xs.length := by rw [← HN.out]; exact hlt
      obtain ⟨ad, Ar, cr, rfl, hx, hcr, hCr⟩ := C_rows HC.out j hjx
      obtain ⟨r, hr⟩ : ∃ r, r = xs[j] := ⟨_, rfl⟩
      rw [← hr] at hx hcr hCr
      have hrl : r.length ≤ 1000000 := HR.out r (by rw [hr]; exact List.getElem_mem hjx)
      have hx2 := pw_cell_below hb.out hx
      have HCr := Aside0.mk (Kd.C_below hCr hb.out)
      have Hcr := Aside0.mk hcr
      have HOE := Aside0.mk (own_eq r hrl)
      have hlj : (xs.take j).length = j := by rw [List.length_take]; omega
      obtain ⟨Av, cv, rfl⟩ := Kd.S_slice hS
      rw [hlj] at hS hb2
      have HS := Aside0.mk hS
      have HLT := Aside0.mk (Kd.S_lt hS)
      have HOK := Aside0.mk (Kd.R_own (Kd.S_R hS))
      have HTK := Aside0.mk (show xs.take (j + 1) = xs.take j ++ [r] by rw [List.take_succ_eq_append_getElem hjx, hr])
      have z2 : wr.cell? ⟨w.heap.size + 1, 1, none⟩ = some (.slice Av j cv) := (blk_cell hb2 1).trans rfl
      have HB2 := Aside0.mk hb2
      have HX := Aside0.mk (And.intro z2 (And.intro y1 hx2))
      have p1 : (0 ≤ (j : Int)) = True := eq_true (by omega)
      have q1 : ((j : Int) < (n : Int)) = True := eq_true (by omega)
      have HJ := Aside0.mk hlt
      have HX0 := Aside0.mk hx
      have HG1 := Aside0.mk (show w.heap.size + 1 < wr.heap.size from blk_lt hb2)
      have HOKB := Aside0.mk (show ∀ k, (Value.slice Av j cv).ownBlock = some k → k ≠ w.heap.size ∧ k ≠ w.heap.size + 1 from (Kd.S_R hS).1)
      have HLJ := Aside0.mk hlj
      clear hr hCr hcr hlj hS hb2 hx hjx
      go_wp2_with (fail)
      refine start_ (n := 14) (S := fun w' => w'.cell? ⟨w.heap.size + 1, 1, none⟩ = some (.slice Av j cv) ∧ w'.cell? ⟨g, 1, none⟩ = some (.slice (some ad) n c) ∧ w'.cell? (ad.add j) = some (.slice Ar r.length cr)) (ds := [13]) #[false, false, false, false, false, false, false, false, false, false, false, false, false, false] (by kernel_rfl) rfl rfl HX.out (fun hHeld => ?_)
      have hV : Below wr.heap.size wr wr.drew := below_drew (Below.refl _ _)
      generalize hw : wr.drew = V at hV hHeld ⊢
      have HWV := Aside0.mk (show V.heap.size = wr.heap.size by rw [← hw]; rfl)
      clear hw
      refine pure_ (i := 0) (N := some 19) (v := ?_) (a' := ?_) #[true, false, false, false, false, false, false, false, false, false, false, false, false, false] rfl rfl (by kernel_rfl) (fun _ _ _ h => h) (Or.inl ⟨by rfl, ?_⟩) ?_ ?_
      rotate_left
      · intro w'
        go_simp
        with_reducible rfl
      rotate_left
      · simp only [Act.put, List.setIfInBounds_toArray, List.set_cons_zero, List.set_cons_succ, i64_w, i32_w]
        rfl
      refine pure_ (i := 2) (N := some 21) (v := ?_) (a' := ?_) #[true, false, true, false, false, false, false, false, false, false, false, false, false, false] rfl rfl (by kernel_rfl) (fun _ _ _ h => h) (Or.inl ⟨by rfl, ?_⟩) ?_ ?_
      rotate_left
      · intro w'
        go_simp
        with_reducible rfl
      rotate_left
      · simp only [Act.put, List.setIfInBounds_toArray, List.set_cons_zero, List.set_cons_succ, i64_w, i32_w]
        rfl
      refine pure_ (i := 3) (N := some 22) (v := ?_) (a' := ?_) #[true, false, true, true, false, false, false, false, false, false, false, false, false, false] rfl rfl (by kernel_rfl) (fun _ _ _ h => h) (Or.inl ⟨by rfl, ?_⟩) ?_ ?_
      rotate_left
      · intro w'
        go_simp
        with_reducible rfl
      rotate_left
      · simp only [Act.put, List.setIfInBounds_toArray, List.set_cons_zero, List.set_cons_succ, i64_w, i32_w]
        rfl
      refine pure_ (i := 4) (N := some 23) (v := ?_) (a' := ?_) #[true, false, true, true, true, false, false, false, false, false, false, false, false, false] rfl rfl (by kernel_rfl) (fun _ _ _ h => h) (Or.inl ⟨by rfl, ?_⟩) ?_ ?_
      rotate_left
      · intro w'
        go_simp
        with_reducible rfl
      rotate_left
      · simp only [Act.put, List.setIfInBounds_toArray, List.set_cons_zero, List.set_cons_succ, i64_w, i32_w]
        rfl
      refine pure_ (i := 6) (N := some 25) (v := ?_) (a' := ?_) #[true, false, true, true, true, false, true, false, false, false, false, false, false, false] rfl rfl (by kernel_rfl) (fun _ _ _ h => h) (Or.inl ⟨by rfl, ?_⟩) ?_ ?_
      rotate_left
      · intro w'
        go_simp
        with_reducible rfl
      rotate_left
      · simp only [Act.put, List.setIfInBounds_toArray, List.set_cons_zero, List.set_cons_succ, i64_w, i32_w]
        rfl
      refine take_ (i := 1) (N := some 20) (v := ?_) (a' := ?_) #[true, true, true, true, true, false, true, false, false, false, false, false, false, false] rfl rfl (by kernel_rfl) (fun _ _ _ h => h) (Or.inl ⟨by rfl, ?_⟩) hHeld ?_ ?_
      rotate_left
      · rintro w' ⟨s0, s1, s2⟩
        go_simp
        with_reducible rfl
      rotate_left
      · simp only [Act.put, List.setIfInBounds_toArray, List.set_cons_zero, List.set_cons_succ, i64_w, i32_w]
        rfl
      refine take_ (i := 5) (N := some 24) (v := ?_) (a' := ?_) #[true, true, true, true, true, true, true, false, false, false, false, false, false, false] rfl rfl (by kernel_rfl) (fun _ _ _ h => h) (Or.inl ⟨by rfl, ?_⟩) hHeld ?_ ?_
      rotate_left
      · rintro w' ⟨s0, s1, s2⟩
        go_simp
        with_reducible rfl
      rotate_left
      · simp only [Act.put, List.setIfInBounds_toArray, List.set_cons_zero, List.set_cons_succ, i64_w, i32_w]
        rfl
      refine pure_ (i := 7) (N := some 26) (v := ?_) (a' := ?_) #[true, true, true, true, true, true, true, true, false, false, false, false, false, false] rfl rfl (by kernel_rfl) (fun _ _ _ h => h) (Or.inl ⟨by rfl, ?_⟩) ?_ ?_
      rotate_left
      · intro w'
        go_simp
        with_reducible rfl
      rotate_left
      · simp only [Act.put, List.setIfInBounds_toArray, List.set_cons_zero, List.set_cons_succ, i64_w, i32_w]
        rfl
      refine take_ (i := 8) (N := some 27) (v := ?_) (a' := ?_) #[true, true, true, true, true, true, true, true, true, false, false, false, false, false] rfl rfl (by kernel_rfl) (fun _ _ _ h => h) (Or.inl ⟨by rfl, ?_⟩) hHeld ?_ ?_
      rotate_left
      · rintro w' ⟨s0, s1, s2⟩
        go_simp
        with_reducible rfl
      rotate_left
      · simp only [Act.put, List.setIfInBounds_toArray, List.set_cons_zero, List.set_cons_succ, i64_w, i32_w]
        rfl
      refine one_ (i := 9) (N := some 28) #[true, true, true, true, true, true, true, true, true, true, false, false, false, false] rfl rfl (by kernel_rfl) (by decide) (fun K_ hK => ?_)
      refine goes_ Try.func76 (by kernel_rfl) rfl #[.slice Ar r.length cr] (by rfl) rfl rfl (by (try simp only [List.map_toArray, List.map_cons, List.map_nil]); first | done | rfl) ?_
      refine (spec_l00Own.calls Ar cr r r V (Kd.C_below HCr.out hV) Hcr.out HOE.out).mono ?_
      rintro e w6 ⟨v0, rfl, hR, hb6⟩
      obtain ⟨A0, c0, rfl⟩ := Kd.R_slice hR
      refine ⟨_, rfl, ?_⟩
      obtain ⟨t0, t1, t2⟩ := hHeld
      refine hK.out _ _ ⟨pw_cell_below hb6 t0, pw_cell_below hb6 t1, pw_cell_below hb6 t2⟩ (fun hHeld => ?_)
      clear hK K_ t0 t1 t2
      refine norm_ (a' := ?_) ?_ ?_
      rotate_left
      · show Act.put _ (some 28) _ = _
        simp only [Act.put, List.setIfInBounds_toArray, List.set_cons_zero, List.set_cons_succ, i64_w, i32_w]
        rfl
      refine one_ (i := 10) (N := some 29) #[true, true, true, true, true, true, true, true, true, true, true, false, false, false] rfl rfl (by kernel_rfl) (by decide) (fun K_ hK => ?_)
      refine value_ (v := .slice (some ⟨w6.heap.size, 0, none⟩) 1 1) (w1 := w6.alloc (.cells #[.slice A0 r.length c0] 31)) (by rfl) rfl ?_ ?_
      · go_simp
        first | done | exact ⟨rfl, rfl⟩ | rfl
      have hal := below_alloc (Below.refl w6.heap.size w6) (.cells #[.slice A0 r.length c0] 31)
      obtain ⟨t0, t1, t2⟩ := hHeld
      refine hK.out _ _ ⟨pw_cell_below hal t0, pw_cell_below hal t1, pw_cell_below hal t2⟩ (fun hHeld => ?_)
      clear hK K_
      refine norm_ (a' := ?_) ?_ ?_
      rotate_left
      · show Act.put _ (some 29) _ = _
        simp only [Act.put, List.setIfInBounds_toArray, List.set_cons_zero, List.set_cons_succ, i64_w, i32_w]
        rfl
      refine one_ (i := 11) (N := some 30) #[true, true, true, true, true, true, true, true, true, true, true, true, false, false] rfl rfl (by kernel_rfl) (by decide) (fun K_ hK => ?_)
      have hz6 := hb6.size
      have hwV := HWV.out
      have hwr := hb.out.size
      have hS6 : Kd.S dR 31 w6 w.heap.size (fun k => (k ≠ w.heap.size ∧ k ≠ w.heap.size + 1) ∧ ¬ (V.heap.size ≤ k ∧ k < w6.heap.size)) (.slice Av j cv) (xs.take j) := Kd.S_mono (Kd.S_below (Kd.S_bound (Kd.S_below HS.out hV)) hb6) (fun k hk => ⟨hk.1, fun h => by have := hk.2.2.1; omega⟩)
      refine Kd.S_append_step dR (w0 := w) w.heap.size (by rfl) (.tmp 20) (.tmp 29) 22 31 (.slice none 0 0) 24 rfl Try.underlying22 infoR rfl (by decide) (by decide) (.slice Av j cv) (xs.take j) r [.slice A0 r.length c0] (fun k => k ≠ w.heap.size ∧ k ≠ w.heap.size + 1) (fun k => V.heap.size ≤ k ∧ k < w6.heap.size) rfl rfl ⟨_, rfl, Kd.R_mono (Kd.R_lower (Kd.R_bound hR) (by omega)) (fun k hk => ⟨hk.2.1, hk.2.2.1⟩)⟩ (fun k hk => ⟨⟨by have := hk.1; have := HG1.out; omega, by have := hk.1; have := HG1.out; omega⟩, fun e => by have := HLT.out k e.symm; have := hk.1; have h8 := hV.size; omega⟩) (fun k hk => ⟨by have := HG1.out; omega, by have := HG1.out; omega⟩) hS6 (below_step (below_step hb.out hV) hb6) (by have := hV.size; have := hb.out.size; omega) (by rw [HLJ.out]; omega) ?_
      intro v1 w2 h1 h2 h3 h4
      obtain ⟨A1, c1, rfl⟩ := Kd.S_slice h1
      obtain ⟨t0, t1, t2⟩ := hHeld
      have hne : some (w.heap.size + 1) ≠ (Value.slice Av j cv).ownBlock := fun e => (HOKB.out _ e.symm).2 rfl
      have b26 := blk_below HB2.out hV
      have b66 := blk_below b26 hb6
      have b22 : w2.heap[w.heap.size + 1]? = _ := (h3.block _ (blk_lt b66) hne).trans b66
      have b16 := blk_below (blk_below hb1.out hV) hb6
      have b12 : w2.heap[w.heap.size]? = _ := (h3.block _ (blk_lt b16) (fun e => (HOKB.out _ e.symm).1 rfl)).trans b16
      have u1 : w2.cell? ⟨g, 1, none⟩ = some (.slice (some ad) n c) := pw_cell_below h2 x1
      have u2 : w2.cell? (ad.add j) = some (.slice Ar r.length cr) := pw_cell_below h2 HX0.out
      have u0 : w2.cell? ⟨w.heap.size + 1, 1, none⟩ = some (.slice Av j cv) := (blk_cell b22 1).trans rfl
      have u3 := blk_frozen b22 1
      have e1 : (xs.take j ++ [r]).length = j + 1 := by rw [List.length_append, HLJ.out]; rfl
      have h1L := h1
      rw [e1] at h1L
      have H1 := Aside0.mk h1L
      have H2 := Aside0.mk h2
      have B22 := Aside0.mk b22
      have B12 := Aside0.mk b12
      clear h1 h1L h2 h3 h4 hS6 b26 b66 b16 b22 b12 t0 t1 t2 hal hb6 hz6 hwV hwr hV
      refine hK.out _ _ ⟨u0, u1, u2⟩ (fun hHeld => ?_)
      clear hK K_
      refine norm_ (a' := ?_) ?_ ?_
      rotate_left
      · show Act.put _ (some 30) _ = _
        simp only [Act.put, List.setIfInBounds_toArray, List.set_cons_zero, List.set_cons_succ, i64_w, i32_w]
        rfl
      refine pure_ (i := 12) (N := some 31) (v := ?_) (a' := ?_) #[true, true, true, true, true, true, true, true, true, true, true, true, true, false] rfl rfl (by kernel_rfl) (fun _ _ _ h => h) (Or.inl ⟨by rfl, ?_⟩) ?_ ?_
      rotate_left
      · intro w'
        go_simp
        with_reducible rfl
      rotate_left
      · simp only [Act.put, List.setIfInBounds_toArray, List.set_cons_zero, List.set_cons_succ, i64_w, i32_w]
        rfl
      refine last_ (i := 13) (N := none) #[true, true, true, true, true, true, true, true, true, true, true, true, true, true] rfl rfl (by kernel_rfl) (by decide) (fun K_ hK => ?_)
      refine skip_ (w1 := ?_) (by rfl) rfl ?_ ?_
      rotate_left
      · go_simp
        rfl
      refine hK.out _ _ ?_
      clear hK K_
      refine done_ (by kernel_rfl) ?_
      go_wp2_with (fail)
      go_roundw
      case rel =>
        refine ⟨j + 1, by have := HJ.out; omega, by have := HJ.out; first | (congr 1; done) | (congr 1; unfold wrap64; omega), ⟨_, blk_put B22.out 1 (.slice A1 (j + 1) c1) rfl, ?_⟩, ⟨(Below.heap_setCell _ _ _ _ (show w.heap.size ≠ w.heap.size + 1 by omega)).trans B12.out⟩, ⟨H2.out.setCell (p := ⟨w.heap.size + 1, 1, none⟩) (Nat.le_succ _) _⟩⟩
        rw [HTK.out]
        exact Kd.S_far (p := ⟨w.heap.size + 1, 1, none⟩) H1.out (fun k hk => hk.2) _
      case measure => have := HJ.out; simp only [intOf]; omega
    · have c0 : decide ((j : Int) < (n : Int)) = false := decide_eq_false (by omega)
      obtain rfl : j = n := by omega
      have e2 : xs.take j = xs := by rw [HN.out, List.take_length]
      rw [e2] at hS
      have HS := Aside0.mk hS
      have z0 : wr.cell? ⟨w.heap.size + 1, 0, none⟩ = some (.int .i64 h) := (blk_cell hb2 0).trans rfl
      have z1 : wr.cell? ⟨w.heap.size + 1, 1, none⟩ = some v := (blk_cell hb2 1).trans rfl
      obtain ⟨Av, cv, rfl⟩ := Kd.S_slice hS
      have r0 : wr.cell? ⟨w.heap.size, 0, none⟩ = some (.int .i64 0) := (blk_cell hb1.out 0).trans rfl
      have r1 : wr.cell? ⟨w.heap.size, 1, none⟩ = some (.slice none 0 0) := (blk_cell hb1.out 1).trans rfl
      have f0 := blk_frozen hb1.out 0
      have f1 := blk_frozen hb1.out 1
      clear hlt hS hb2 e2
      go_wp2_with (fail)
      have HBf := Aside0.mk hb.out
      have b1' := blk_put (blk_put hb1.out 0 (.int .i64 h) rfl) 1 (.slice Av xs.length cv) rfl
      refine bodyPost_ret (results_cell_row rfl _ _ w.heap.size 27 #[.int .i64 h, .slice Av xs.length cv] (0, 0) _ rfl b1' Try.underlying27 rfl (by kernel_rfl)) rfl ?_
      refine ⟨_, rfl, ?_, (hb.out.setCell (p := ⟨w.heap.size, 0, none⟩) (Nat.le_refl _) _).setCell (p := ⟨w.heap.size, 1, none⟩) (Nat.le_refl _) _⟩
      exact Kd.S_mono (Kd.S_far (p := ⟨w.heap.size, 1, none⟩) (Kd.S_far (p := ⟨w.heap.size, 0, none⟩) HS.out (fun k hk => hk.1) _) (fun k hk => hk.1) _) (fun _ _ => trivial)
end Go.Proofs.Ytibaiaenfeppcaa.Yn

-- made by a patched copy of print.sh: this session's own
namespace Go.Proofs.Ytibaiaenfeppcaa.Q
open Go.RowKit Go.Proofs.YtibaiaenfeppcaaW.PrintWords Go.Proofs.YtibaiaenfeppcaaW.PrintLast Go.Proofs.YtibaiaenfeppcaaW.PrintMore
attribute [local go_sem] max2_int min2_int max_two min_two max_three min_three max_four min_four   -- for this text's walks alone
set_option linter.unusedVariables false
set_option linter.unusedSimpArgs false

/-! ### spec_l09Next: function 60 -/
mutual
def spec_l09Next.l0 : Nat → Int → Int → Int → Int → List (List Int) → Option (Int × Int)
  | 0, _, _, _, _, _ => none
  | k + 1, x3, x4, x5, x1000, x1001 => if x5 < (x1001.length : Int) then (spec_l09Next.l1 k x3 x4 x5 0 x1000 x1001) else (some (x3, x1000))
def spec_l09Next.l1 : Nat → Int → Int → Int → Int → Int → List (List Int) → Option (Int × Int)
  | 0, _, _, _, _, _, _ => none
  | k + 1, x3, x4, x5, x6, x1000, x1001 => if 0 ≤ x5 then (if x5 < (x1001.length : Int) then (if x6 < ((rd_L1 x1001 x5).length : Int) then (if 0 ≤ x6 then (if (rd (rd_L1 x1001 x5) x6) < x4 then (spec_l09Next.l1 k x5 (rd (rd_L1 x1001 x5) x6) x5 (wrap64 (x6 + 1)) x1000 x1001) else (spec_l09Next.l1 k x3 x4 x5 (wrap64 (x6 + 1)) x1000 x1001)) else (none)) else (spec_l09Next.l0 k x3 x4 (wrap64 (x5 + 1)) x1000 x1001)) else (none)) else (none)
end
def spec_l09Next.f (k : Nat) (s0_0 : Int) (s0_1 : List (List Int)) : Option (Int × Int) := spec_l09Next.l0 k (-1) 100 0 s0_0 s0_1
end Go.Proofs.Ytibaiaenfeppcaa.Q

-- mended

/- spec_l09Next at a block that may lie ahead of what its slices hold (made out of the printed contract). -/
namespace Go.Proofs.Ytibaiaenfeppcaa.Q
open Go.RowKit Go.Proofs.YtibaiaenfeppcaaW.PrintWords Go.Proofs.YtibaiaenfeppcaaW.PrintLast Go.Proofs.YtibaiaenfeppcaaW.PrintMore
attribute [local go_sem] max2_int min2_int max_two min_two max_three min_three max_four min_four   -- for this text's walks alone
set_option linter.unusedVariables false
set_option linter.unusedSimpArgs false
def IsT27 (w0 W : World) (g : Nat) (f0 : Int) (f1 : List (List Int)) : Prop := ∃ A1 c1, W.heap[g]? = some (.cells #[.int .i64 f0, .slice A1 f1.length c1] 27 (0, 0)) ∧ True ∧ Kd.C (Kd.slice 2 (Kd.int .i64)) w0 A1 f1.length f1
theorem IsT27.grown {w0 W : World} {g : Nat} {f0 : Int} {f1 : List (List Int)} {W1 : World} {row : Option Nat} (h : IsT27 w0 W g f0 f1) (hw : W.grownBy W1 row) (hne : some g ≠ row) : IsT27 w0 W1 g f0 f1 := by
  obtain ⟨A1, c1, hb, hg, hr1⟩ := h
  exact ⟨A1, c1, blk_grown hb hw hne, hg, hr1⟩
theorem IsT27.below {w0 W : World} {g : Nat} {f0 : Int} {f1 : List (List Int)} {W1 : World} (h : IsT27 w0 W g f0 f1) (hw : Below W.heap.size W W1) : IsT27 w0 W1 g f0 f1 := h.grown (grown_of_below hw none) (by simp)
theorem IsT27.alloc {w0 W : World} {g : Nat} {f0 : Int} {f1 : List (List Int)} (h : IsT27 w0 W g f0 f1) (o : Obj) : IsT27 w0 (W.alloc o) g f0 f1 := h.below (below_alloc (Below.refl _ _) o)
theorem IsT27.drewN {w0 W : World} {g : Nat} {f0 : Int} {f1 : List (List Int)} (h : IsT27 w0 W g f0 f1) (m : Nat) : IsT27 w0 (W.drewN m) g f0 f1 := h
theorem IsT27.drew {w0 W : World} {g : Nat} {f0 : Int} {f1 : List (List Int)} (h : IsT27 w0 W g f0 f1) : IsT27 w0 W.drew g f0 f1 := h
theorem IsT27.set_0 {w0 W : World} {g : Nat} {f0 : Int} {f1 : List (List Int)} (h : IsT27 w0 W g f0 f1) (x : Int) : IsT27 w0 (W.setCell ⟨g, 0, none⟩ (.int .i64 x)) g x f1 := by
  obtain ⟨A1, c1, hb, hg, hr1⟩ := h
  exact ⟨A1, c1, by simpa using blk_set hb 0 (.int .i64 x), hg, hr1⟩
set_option maxHeartbeats 8000000 in
set_option maxRecDepth 100000 in
theorem spec_l09Next.callsT (k : Nat) (g : Nat) (s0_0 : Int) (s0_1 : List (List Int)) (r1 : Int) (r2 : Int) (w0 w : World) (hI : IsT27 w0 w g s0_0 s0_1) (hB : Below w0.heap.size w0 w) (h : spec_l09Next.f k s0_0 s0_1 = some (r1, r2)) :
    Calls Try.prog 60 #[.pointer (some ⟨g, 0, none⟩)] w fun e w' => e = .returned (.int .i64 r1) ∧ IsT27 w0 w' g r2 s0_1 ∧ Below w0.heap.size w0 w' ∧ KeepBut w w' g none := by
  have HI0 := Aside0.mk hI
  have HK := Aside0.mk (KeepBut.refl w g none)
  have HL := Aside0.mk hB.size
  clear hI
  have HW0 := Aside0.mk hB.size
  have HB := Aside0.mk hB
  clear hB
  have H : (spec_l09Next.l0 k (-1) 100 0 s0_0 s0_1) = some (r1, r2) := h
  clear h
  have H' := Aside0.mk H
  clear H
  go_enter Try.func60, Try.ntmps60
  go_wp2
  go_loopg [3, 4, 5] k (fun kq v3 v4 v5 w' => ∃ (x3_1 : Int) (x4_1 : Int) (x5_1 : Int), v3 = .int .i64 x3_1 ∧ v4 = .int .i64 x4_1 ∧ v5 = .int .i64 x5_1 ∧ Aside0 (spec_l09Next.l0 kq x3_1 x4_1 x5_1 s0_0 s0_1 = some (r1, r2)) ∧ Aside0 (kq ≤ k) ∧ Aside0 (IsT27 w0 w' g s0_0 s0_1) ∧ Aside0 (KeepBut w w' g none) ∧ Aside0 (Below w0.heap.size w0 w'))
  case atStart => exact ⟨((-1)), (100), (0), (by first | rfl | (simp; done) | (simp [*]; done)), (by first | rfl | (simp; done) | (simp [*]; done)), (by first | rfl | (simp; done) | (simp [*]; done)), H', ⟨Nat.le_refl _⟩, ⟨by repeat (first | (with_reducible first | exact HI0.out | apply IsT27.alloc | apply IsT27.drewN | apply IsT27.drew | apply IsT27.set_0) | exact HI0.out)⟩, ⟨by repeat (first | (with_reducible first | exact HK.out | apply KeepBut.set_ | apply keep_drewN | apply keep_drew | apply keep_alloc) | exact HK.out)⟩, ⟨by repeat (first | (with_reducible first | exact HB.out | apply below_alloc | apply pw_below_drewN | apply below_drew1 | refine below_set ?_ (IsT27.ge HI0.out)) | exact HB.out)⟩⟩
  case round =>
    clear H'
    obtain ⟨x3_1, x4_1, x5_1, rfl, rfl, rfl, HA, HK1, HI0, HK, HB⟩ := hrel
    cases gk with
    | zero => exact absurd HA.out (by simp [spec_l09Next.l0])
    | succ k1 =>
      have H := HA.out
      clear HA
      simp only [spec_l09Next.l0] at H
      by_cases c2 : x5_1 < (s0_1.length : Int)
      · rw [if_pos c2] at H
        have c2b0 : decide (x5_1 < (s0_1.length : Int)) = true := decide_eq_true c2
        clear c2
        have H' := Aside0.mk H
        clear H
        obtain ⟨ASz3_1, cSz3_1, HGz3, hgz3, HSz3_1⟩ := HI0.out
        have hcz3_0 := cellS27_0 HGz3
        have hcz3_1 := cellS27_1 HGz3
        have hfz3_0 := blk_frozen HGz3 0
        clear HGz3 hgz3
        go_wp2
        go_loopg [3, 4, 6] k1 (fun kq v3 v4 v6 w' => ∃ (x3_2 : Int) (x4_2 : Int) (x6_2 : Int), v3 = .int .i64 x3_2 ∧ v4 = .int .i64 x4_2 ∧ v6 = .int .i64 x6_2 ∧ Aside0 (spec_l09Next.l1 kq x3_2 x4_2 x5_1 x6_2 s0_0 s0_1 = some (r1, r2)) ∧ Aside0 (kq ≤ k1) ∧ Aside0 (IsT27 w0 w' g s0_0 s0_1) ∧ Aside0 (KeepBut w w' g none) ∧ Aside0 (Below w0.heap.size w0 w'))
        case atStart => exact ⟨(x3_1), (x4_1), (0), (by first | rfl | (simp; done) | (simp [*]; done)), (by first | rfl | (simp; done) | (simp [*]; done)), (by first | rfl | (simp; done) | (simp [*]; done)), H', ⟨Nat.le_refl _⟩, ⟨by repeat (first | (with_reducible first | exact HI0.out | apply IsT27.alloc | apply IsT27.drewN | apply IsT27.drew | apply IsT27.set_0) | exact HI0.out)⟩, ⟨by repeat (first | (with_reducible first | exact HK.out | apply KeepBut.set_ | apply keep_drewN | apply keep_drew | apply keep_alloc) | exact HK.out)⟩, ⟨by repeat (first | (with_reducible first | exact HB.out | apply below_alloc | apply pw_below_drewN | apply below_drew1 | refine below_set ?_ (IsT27.ge HI0.out)) | exact HB.out)⟩⟩
        case round =>
          clear H'
          try clear c2
          try clear c2b0
          try clear p2
          try clear hcz3_0
          try clear hcz3_1
          try clear hfz3_0
          obtain ⟨x3_2, x4_2, x6_2, rfl, rfl, rfl, HA, HK2, HI0, HK, HB⟩ := hrel
          cases gk with
          | zero => exact absurd HA.out (by simp [spec_l09Next.l1])
          | succ k2 =>
            have H := HA.out
            clear HA
            simp only [spec_l09Next.l1] at H
            by_cases c4 : 0 ≤ x5_1
            · rw [if_pos c4] at H
              have c4b0 : decide (0 ≤ x5_1) = true := decide_eq_true c4
              clear c4
              by_cases c5 : x5_1 < (s0_1.length : Int)
              · rw [if_pos c5] at H
                have c5b0 : decide (x5_1 < (s0_1.length : Int)) = true := decide_eq_true c5
                clear c5
                by_cases c6 : x6_2 < ((rd_L1 s0_1 x5_1).length : Int)
                · rw [if_pos c6] at H
                  have c6b0 : decide (x6_2 < ((rd_L1 s0_1 x5_1).length : Int)) = true := decide_eq_true c6
                  clear c6
                  by_cases c7 : 0 ≤ x6_2
                  · rw [if_pos c7] at H
                    have c7b0 : decide (0 ≤ x6_2) = true := decide_eq_true c7
                    clear c7
                    by_cases c8 : (rd (rd_L1 s0_1 x5_1) x6_2) < x4_2
                    · rw [if_pos c8] at H
                      have c8b0 : decide ((rd (rd_L1 s0_1 x5_1) x6_2) < x4_2) = true := decide_eq_true c8
                      clear c8
                      have H' := Aside0.mk H
                      clear H
                      obtain ⟨ASz9_1, cSz9_1, HGz9, hgz9, HSz9_1⟩ := HI0.out
                      have hcz9_0 := cellS27_0 HGz9
                      have hcz9_1 := cellS27_1 HGz9
                      have hfz9_0 := blk_frozen HGz9 0
                      clear HGz9 hgz9
                      have p604 : 0 ≤ (x5_1 : Int) := of_decide_eq_true (by first | (with_reducible assumption) | assumption)
                      have q604 : x5_1 < (s0_1.length : Int) := of_decide_eq_true (by first | (with_reducible assumption) | assumption)
                      obtain ⟨ad604, A604_0, c604_0, e604, hx604_0, hl604_0, hi604_0⟩ := at_L1 HSz9_1 x5_1 p604 q604
                      cases e604
                      replace hx604_0 := pw_cell_below HB.out hx604_0
                      have HR604_0 := Aside0.mk (Kd.C_below hi604_0 HB.out)
                      have HC604_0 := Aside0.mk hl604_0
                      clear hi604_0 hl604_0
                      replace p604 := eq_true p604
                      replace q604 := eq_true q604
                      have p605 : 0 ≤ (x5_1 : Int) := of_decide_eq_true (by first | (with_reducible assumption) | assumption)
                      have q605 : x5_1 < (s0_1.length : Int) := of_decide_eq_true (by first | (with_reducible assumption) | assumption)
                      obtain ⟨ad605, A605_0, c605_0, e605, hx605_0, hl605_0, hi605_0⟩ := at_L1 HSz9_1 x5_1 p605 q605
                      obtain rfl : ad604 = ad605 := (by injection e605)
                      replace hx605_0 := pw_cell_below HB.out hx605_0
                      first | (have hq_ := hx604_0.symm.trans hx605_0; injection hq_ with hq_; injection hq_ with hqa_ hqb_ hqc_; subst hqa_ hqc_; clear hqb_) | skip
                      have HR605_0 := Aside0.mk (Kd.C_below hi605_0 HB.out)
                      have HC605_0 := Aside0.mk hl605_0
                      clear hi605_0 hl605_0
                      replace p605 := eq_true p605
                      replace q605 := eq_true q605
                      have p606 : 0 ≤ (x6_2 : Int) := of_decide_eq_true (by first | (with_reducible assumption) | assumption)
                      have q606 : x6_2 < ((rd_L1 s0_1 x5_1).length : Int) := of_decide_eq_true (by first | (with_reducible assumption) | assumption)
                      obtain ⟨ad606, e606, hx606_0⟩ := Kd.at_int HR605_0.out x6_2 p606 q606
                      cases e606
                      replace p606 := eq_true p606
                      replace q606 := eq_true q606
                      have p607 : 0 ≤ (x5_1 : Int) := of_decide_eq_true (by first | (with_reducible assumption) | assumption)
                      have q607 : x5_1 < (s0_1.length : Int) := of_decide_eq_true (by first | (with_reducible assumption) | assumption)
                      obtain ⟨ad607, A607_0, c607_0, e607, hx607_0, hl607_0, hi607_0⟩ := at_L1 HSz9_1 x5_1 p607 q607
                      obtain rfl : ad604 = ad607 := (by injection e607)
                      replace hx607_0 := pw_cell_below HB.out hx607_0
                      first | (have hq_ := hx604_0.symm.trans hx607_0; injection hq_ with hq_; injection hq_ with hqa_ hqb_ hqc_; subst hqa_ hqc_; clear hqb_) | skip
                      have HR607_0 := Aside0.mk (Kd.C_below hi607_0 HB.out)
                      have HC607_0 := Aside0.mk hl607_0
                      clear hi607_0 hl607_0
                      replace p607 := eq_true p607
                      replace q607 := eq_true q607
                      have p608 : 0 ≤ (x6_2 : Int) := of_decide_eq_true (by first | (with_reducible assumption) | assumption)
                      have q608 : x6_2 < ((rd_L1 s0_1 x5_1).length : Int) := of_decide_eq_true (by first | (with_reducible assumption) | assumption)
                      obtain ⟨ad608, e608, hx608_0⟩ := Kd.at_int HR607_0.out x6_2 p608 q608
                      cases e608
                      replace p608 := eq_true p608
                      replace q608 := eq_true q608
                      go_wp2
                      go_roundg k2
                      case measure => have := HK1.out; have := HK2.out; omega
                      case rel => exact ⟨(x5_1), (rd (rd_L1 s0_1 x5_1) x6_2), (wrap64 (x6_2 + 1)), (by first | rfl | (simp; done) | (simp [*]; done)), (by first | rfl | (simp; done) | (simp [*]; done)), (by first | rfl | (simp; done) | (simp [*]; done)), H', ⟨by have := HK1.out; have := HK2.out; omega⟩, ⟨by repeat (first | (with_reducible first | exact HI0.out | apply IsT27.alloc | apply IsT27.drewN | apply IsT27.drew | apply IsT27.set_0) | exact HI0.out)⟩, ⟨by repeat (first | (with_reducible first | exact HK.out | apply KeepBut.set_ | apply keep_drewN | apply keep_drew | apply keep_alloc) | exact HK.out)⟩, ⟨by repeat (first | (with_reducible first | exact HB.out | apply below_alloc | apply pw_below_drewN | apply below_drew1 | refine below_set ?_ (IsT27.ge HI0.out)) | exact HB.out)⟩⟩
                    · rw [if_neg c8] at H
                      have c8b0 : decide ((rd (rd_L1 s0_1 x5_1) x6_2) < x4_2) = false := decide_eq_false c8
                      clear c8
                      have H' := Aside0.mk H
                      clear H
                      obtain ⟨ASz10_1, cSz10_1, HGz10, hgz10, HSz10_1⟩ := HI0.out
                      have hcz10_0 := cellS27_0 HGz10
                      have hcz10_1 := cellS27_1 HGz10
                      have hfz10_0 := blk_frozen HGz10 0
                      clear HGz10 hgz10
                      have p604 : 0 ≤ (x5_1 : Int) := of_decide_eq_true (by first | (with_reducible assumption) | assumption)
                      have q604 : x5_1 < (s0_1.length : Int) := of_decide_eq_true (by first | (with_reducible assumption) | assumption)
                      obtain ⟨ad604, A604_0, c604_0, e604, hx604_0, hl604_0, hi604_0⟩ := at_L1 HSz10_1 x5_1 p604 q604
                      cases e604
                      replace hx604_0 := pw_cell_below HB.out hx604_0
                      have HR604_0 := Aside0.mk (Kd.C_below hi604_0 HB.out)
                      have HC604_0 := Aside0.mk hl604_0
                      clear hi604_0 hl604_0
                      replace p604 := eq_true p604
                      replace q604 := eq_true q604
                      have p605 : 0 ≤ (x5_1 : Int) := of_decide_eq_true (by first | (with_reducible assumption) | assumption)
                      have q605 : x5_1 < (s0_1.length : Int) := of_decide_eq_true (by first | (with_reducible assumption) | assumption)
                      obtain ⟨ad605, A605_0, c605_0, e605, hx605_0, hl605_0, hi605_0⟩ := at_L1 HSz10_1 x5_1 p605 q605
                      obtain rfl : ad604 = ad605 := (by injection e605)
                      replace hx605_0 := pw_cell_below HB.out hx605_0
                      first | (have hq_ := hx604_0.symm.trans hx605_0; injection hq_ with hq_; injection hq_ with hqa_ hqb_ hqc_; subst hqa_ hqc_; clear hqb_) | skip
                      have HR605_0 := Aside0.mk (Kd.C_below hi605_0 HB.out)
                      have HC605_0 := Aside0.mk hl605_0
                      clear hi605_0 hl605_0
                      replace p605 := eq_true p605
                      replace q605 := eq_true q605
                      have p606 : 0 ≤ (x6_2 : Int) := of_decide_eq_true (by first | (with_reducible assumption) | assumption)
                      have q606 : x6_2 < ((rd_L1 s0_1 x5_1).length : Int) := of_decide_eq_true (by first | (with_reducible assumption) | assumption)
                      obtain ⟨ad606, e606, hx606_0⟩ := Kd.at_int HR605_0.out x6_2 p606 q606
                      cases e606
                      replace p606 := eq_true p606
                      replace q606 := eq_true q606
                      go_wp2
                      go_roundg k2
                      case measure => have := HK1.out; have := HK2.out; omega
                      case rel => exact ⟨(x3_2), (x4_2), (wrap64 (x6_2 + 1)), (by first | rfl | (simp; done) | (simp [*]; done)), (by first | rfl | (simp; done) | (simp [*]; done)), (by first | rfl | (simp; done) | (simp [*]; done)), H', ⟨by have := HK1.out; have := HK2.out; omega⟩, ⟨by repeat (first | (with_reducible first | exact HI0.out | apply IsT27.alloc | apply IsT27.drewN | apply IsT27.drew | apply IsT27.set_0) | exact HI0.out)⟩, ⟨by repeat (first | (with_reducible first | exact HK.out | apply KeepBut.set_ | apply keep_drewN | apply keep_drew | apply keep_alloc) | exact HK.out)⟩, ⟨by repeat (first | (with_reducible first | exact HB.out | apply below_alloc | apply pw_below_drewN | apply below_drew1 | refine below_set ?_ (IsT27.ge HI0.out)) | exact HB.out)⟩⟩
                  · rw [if_neg c7] at H
                    exact absurd H (by simp)
                · rw [if_neg c6] at H
                  have c6b0 : decide (x6_2 < ((rd_L1 s0_1 x5_1).length : Int)) = false := decide_eq_false c6
                  clear c6
                  have H' := Aside0.mk H
                  clear H
                  obtain ⟨ASz11_1, cSz11_1, HGz11, hgz11, HSz11_1⟩ := HI0.out
                  have hcz11_0 := cellS27_0 HGz11
                  have hcz11_1 := cellS27_1 HGz11
                  have hfz11_0 := blk_frozen HGz11 0
                  clear HGz11 hgz11
                  have p604 : 0 ≤ (x5_1 : Int) := of_decide_eq_true (by first | (with_reducible assumption) | assumption)
                  have q604 : x5_1 < (s0_1.length : Int) := of_decide_eq_true (by first | (with_reducible assumption) | assumption)
                  obtain ⟨ad604, A604_0, c604_0, e604, hx604_0, hl604_0, hi604_0⟩ := at_L1 HSz11_1 x5_1 p604 q604
                  cases e604
                  replace hx604_0 := pw_cell_below HB.out hx604_0
                  have HR604_0 := Aside0.mk (Kd.C_below hi604_0 HB.out)
                  have HC604_0 := Aside0.mk hl604_0
                  clear hi604_0 hl604_0
                  replace p604 := eq_true p604
                  replace q604 := eq_true q604
                  go_wp2
                  go_roundg k2
                  case measure => have := HK1.out; have := HK2.out; omega
                  case rel => exact ⟨(x3_2), (x4_2), (wrap64 (x5_1 + 1)), (by first | rfl | (simp; done) | (simp [*]; done)), (by first | rfl | (simp; done) | (simp [*]; done)), (by first | rfl | (simp; done) | (simp [*]; done)), H', ⟨by have := HK1.out; have := HK2.out; omega⟩, ⟨by repeat (first | (with_reducible first | exact HI0.out | apply IsT27.alloc | apply IsT27.drewN | apply IsT27.drew | apply IsT27.set_0) | exact HI0.out)⟩, ⟨by repeat (first | (with_reducible first | exact HK.out | apply KeepBut.set_ | apply keep_drewN | apply keep_drew | apply keep_alloc) | exact HK.out)⟩, ⟨by repeat (first | (with_reducible first | exact HB.out | apply below_alloc | apply pw_below_drewN | apply below_drew1 | refine below_set ?_ (IsT27.ge HI0.out)) | exact HB.out)⟩⟩
              · rw [if_neg c5] at H
                exact absurd H (by simp)
            · rw [if_neg c4] at H
              exact absurd H (by simp)
      · rw [if_neg c2] at H
        have c2b0 : decide (x5_1 < (s0_1.length : Int)) = false := decide_eq_false c2
        clear c2
        simp only [Option.some.injEq, Prod.mk.injEq] at H
        obtain ⟨rfl, rfl⟩ := H
        obtain ⟨ASz12_1, cSz12_1, HGz12, hgz12, HSz12_1⟩ := HI0.out
        have hcz12_0 := cellS27_0 HGz12
        have hcz12_1 := cellS27_1 HGz12
        have hfz12_0 := blk_frozen HGz12 0
        clear HGz12 hgz12
        go_wp2
        go_ret
        exact ⟨by first | rfl | (simp [errW_none, errW_some] <;> rfl) | (simp [*, errW_none, errW_some] <;> rfl), by repeat (first | (with_reducible first | exact HI0.out | apply IsT27.alloc | apply IsT27.drewN | apply IsT27.drew | apply IsT27.set_0) | exact HI0.out), by repeat (first | (with_reducible first | exact HB.out | apply below_alloc | apply pw_below_drewN | apply below_drew1 | refine below_set ?_ (IsT27.ge HI0.out)) | exact HB.out), by repeat (first | (with_reducible first | exact HK.out | apply KeepBut.set_ | apply keep_drewN | apply keep_drew | apply keep_alloc) | exact HK.out)⟩


end Go.Proofs.Ytibaiaenfeppcaa.Q

/- The reference's l09Take on a yard of its own. -/
namespace Go.Proofs.Ytibaiaenfeppcaa.Yk
open Go Go.RowKit Go.Proofs.YtibaiaenfeppcaaW.PrintWords Go.Proofs.YtibaiaenfeppcaaW.PrintLast Go.Proofs.YtibaiaenfeppcaaW.PrintMore Go.Proofs.Ytibaiaenfeppcaa.Q Go.Proofs.Ytibaiaenfeppcaa.PuY Go.Proofs.Ytibaiaenfeppcaa.Lw Go.Proofs.Ytibaiaenfeppcaa.Ow Go.Proofs.Ytibaiaenfeppcaa.Yo
set_option linter.unusedVariables false
set_option linter.unusedSimpArgs false
/-- The next lot's stack, on a yard of one's own. -/
theorem next_any (lo g : Nat) (h : Int) (xs : List (List Int)) (r : Int) (k : Nat) (hk : spec_l09Next.f k h xs = some (r, h)) (W : World) (y : YO lo W g h xs) :
    Calls Try.prog 60 #[.pointer (some ⟨g, 0, none⟩)] W fun e w' => e = .returned (.int .i64 r) ∧ Below W.heap.size W w' := by
  obtain ⟨A, c, hb, _, _, hS⟩ := y
  exact (spec_l09Next.callsT k g h xs r h W W ⟨A, c, hb, trivial, (Kd.S_reads' hS).2.2⟩ (Below.refl _ _) hk).mono fun e w' hh => ⟨hh.1, hh.2.2.1⟩
/-- Some lot of a stack is less than its topmost one. -/
def lowB (r : List Int) : Bool := (r.take (r.length - 1)).any fun x => decide (x < rd r ((r.length : Int) - 1))
theorem low_yes (r : List Int) (k : Nat) (hk : k < r.length - 1) (h : rd r (k : Int) < rd r ((r.length : Int) - 1)) : lowB r = true := by
  unfold lowB
  rw [List.any_eq_true]
  refine ⟨rd r (k : Int), ?_, by simpa using h⟩
  rw [rd_at r k (by omega)]
  exact List.mem_take_iff_getElem.2 ⟨k, by omega, rfl⟩
theorem low_no (r : List Int) (h : ∀ k : Nat, k < r.length - 1 → ¬ rd r (k : Int) < rd r ((r.length : Int) - 1)) : lowB r = false := by
  rw [Bool.eq_false_iff]
  intro hh
  unfold lowB at hh
  rw [List.any_eq_true] at hh
  obtain ⟨x, hx, hlt⟩ := hh
  obtain ⟨k, hk, rfl⟩ := List.mem_take_iff_getElem.1 hx
  have := h k (by omega)
  rw [rd_at r k (by omega)] at this
  exact this (by simpa using hlt)
/-- What taking leaves. -/
def Took (lo g : Nat) (h : Int) (xs : List (List Int)) (i : Nat) (ri : List Int) (W : World) (e : Ending) (w' : World) : Prop :=
  e = .returned (.bool (!lowB ri)) ∧ YO lo w' g h (if lowB ri = true then xs else xs.set i (ri.take (ri.length - 1))) ∧ Below lo W w'
theorem take_none (lo g : Nat) (h : Int) (xs : List (List Int)) (r : Int) (hr : r < 0) (k : Nat) (hk : spec_l09Next.f k h xs = some (r, h)) (W : World) (y : YO lo W g h xs) :
    Calls Try.prog 57 #[.pointer (some ⟨g, 0, none⟩)] W fun e w' => e = .returned (.bool false) ∧ Below W.heap.size W w' := by
  have Y := Aside0.mk y
  have HK := Aside0.mk hk
  have c1 : decide (r < 0) = true := decide_eq_true hr
  clear y hk hr
  go_enter Try.func57, Try.ntmps57
  go_wp2_with (fail)
  refine (next_any lo g h xs r k HK.out W Y.out).mono ?_
  rintro e w1 ⟨rfl, hb⟩
  have HB := Aside0.mk hb
  clear hb
  go_wp2_with (fail)
  go_ret
  exact ⟨rfl, HB.out⟩
set_option maxRecDepth 100000 in
set_option maxHeartbeats 4000000 in
theorem take_row (lo g : Nat) (h : Int) (xs : List (List Int)) (i : Nat) (hi : i < xs.length) (hx4 : xs.length ≤ 4) (hr : ∀ r ∈ xs, r.length ≤ 4) (hne : 0 < xs[i].length) (k : Nat) (hk : spec_l09Next.f k h xs = some ((i : Int), h)) (W : World) (y : YO lo W g h xs) :
    Calls Try.prog 57 #[.pointer (some ⟨g, 0, none⟩)] W (Took lo g h xs i xs[i] W) := by
  obtain ⟨ri, hri⟩ : ∃ r, r = xs[i] := ⟨_, rfl⟩
  rw [← hri] at hne ⊢
  have hl : ri.length ≤ 4 := hr ri (by rw [hri]; exact List.getElem_mem hi)
  have HRI := Aside0.mk hri
  have Y := Aside0.mk y
  have HK := Aside0.mk hk
  obtain ⟨n, hn⟩ : ∃ n, n = xs.length := ⟨_, rfl⟩
  have hn4 : n ≤ 4 := by omega
  have hin : i < n := by omega
  have HN := Aside0.mk hn
  have c1 : decide ((i : Int) < 0) = false := decide_eq_false (by omega)
  have hlo2 : lo ≤ W.heap.size := y.choose_spec.choose_spec.2.2.1
  obtain ⟨q, hq⟩ : ∃ q, wrap64 ((ri.length : Int) - 1) = q := ⟨_, rfl⟩
  have hqv : q = (ri.length : Int) - 1 := by rw [← hq]; unfold wrap64; omega
  obtain ⟨m, hm⟩ : ∃ m, m = ri.length - 1 := ⟨_, rfl⟩
  have hqm : q = (m : Int) := by omega
  subst hqm
  have hqw : IntKind.i64.wrap ((ri.length : Int) - 1) = (m : Int) := by rw [i64_w]; exact hq
  have HM := Aside0.mk hm
  have hm4 : m ≤ 3 := by omega
  have hml : m < ri.length := by omega
  have pI : (0 ≤ (i : Int)) = True := eq_true (by omega)
  have qI : ((i : Int) < (n : Int)) = True := eq_true (by omega)
  have qm : ((m : Int) < (ri.length : Int)) = True := eq_true (by omega)
  have pm : (0 ≤ (m : Int)) = True := eq_true (by omega)
  clear y hk hri hn hr hx4 hqv hm
  go_enter Try.func57, Try.ntmps57
  go_wp2_with (fail)
  refine (next_any lo g h xs (i : Int) k HK.out W Y.out).mono ?_
  rintro e w1 ⟨rfl, hb⟩
  have HB := Aside0.mk (hb.mono hlo2)
  have y1 := Y.out.below hb
  clear hb
  obtain ⟨A, c, hb1, hlo, hlo3, hS⟩ := y1
  rw [← HN.out] at hb1 hS
  obtain ⟨gs, rfl⟩ : ∃ gs, A = some ⟨gs, 0, none⟩ := by
    have e := HN.out
    obtain ⟨gs, cap, he, _⟩ := Kd.S_form hS (by omega)
    injection he with he _ _
    exact ⟨gs, he⟩
  obtain ⟨okK, cK, hMK, hclK, hcK, hokK, hbackK⟩ := row_out (d := dR) rfl hS i hin hi (fun k hk => by have := blk_lt hb1; omega)
  obtain ⟨vK, rfl, hRK⟩ := hMK
  have xK := hcK _ rfl
  rw [← HRI.out] at hRK
  obtain ⟨AK, capK, rfl⟩ := Kd.R_slice hRK
  have hCK := (Kd.R_reads' hRK).2.2
  have hcut := cut_run AK ri.length capK (m : Int) (by omega) (by omega) (Kd.R_reads' hRK).2.1
  rw [Int.toNat_natCast] at hcut
  obtain ⟨f3, hf3⟩ := rows_f hS
  obtain ⟨uK, k1, k2, -⟩ := hf3 i hi
  obtain rfl : uK = .slice AK ri.length capK := by rw [xK] at k1; injection k1 with k1; exact k1.symm
  have yx1 : w1.cell? ⟨g, 1, none⟩ = some (.slice (some ⟨gs, 0, none⟩) n c) := (blk_cell hb1 1).trans rfl
  have HRK := Aside0.mk (rowR_cut (m := m) hRK (by omega))
  have HBK := Aside0.mk hbackK
  have HB1 := Aside0.mk hb1
  have HY := Aside0.mk (show YO lo w1 g h xs from ⟨some ⟨gs, 0, none⟩, c, by rw [← HN.out]; exact hb1, hlo, hlo3, by rw [← HN.out]; exact hS⟩)
  have HGN := Aside0.mk (show g ≠ gs from fun e => by
    obtain ⟨f0, hS0, _⟩ := hS
    exact hS0 gs (by simp [Value.ownBlock]) e.symm)
  have HGL := Aside0.mk (show lo ≤ gs from Kd.S_base hS gs (by simp [Value.ownBlock]))
  have HC := Aside0.mk hCK
  have HX := Aside0.mk (And.intro yx1 (And.intro xK k2))
  have HLO := Aside0.mk hlo
  clear hb1 hlo3 hS hcK hokK hbackK hRK hf3 hclK hCK hlo
  go_wp2_with (fail)
  go_loopw [5] (fun v5 wz => ∃ j : Nat, j ≤ m ∧ v5 = .int .i64 (j : Int) ∧ Aside0 (∀ k : Nat, k < j → rd ri (m : Int) ≤ rd ri (k : Int)) ∧ Aside0 (Below w1.heap.size w1 wz)) (fun v _ => m - (intOf v).toNat)
  case atStart => exact ⟨0, by omega, rfl, ⟨fun k hk => absurd hk (by omega)⟩, ⟨Below.refl _ _⟩⟩
  case round =>
    obtain ⟨j, hj, rfl, hno, hb⟩ := hrel
    have z1 := pw_cell_below hb.out yx1
    have z2 := pw_cell_below hb.out xK
    have HZ := Aside0.mk hb
    by_cases hlt : j < m
    · have c0 : decide ((j : Int) < (m : Int)) = true := decide_eq_true (by omega)
      obtain ⟨ad, rfl, e1⟩ := Kd.at_int HC.out (j : Int) (by omega) (by omega)
      obtain ⟨ad', ea, e2⟩ := Kd.at_int HC.out (m : Int) (by omega) (by omega)
      cases ea
      rw [Int.toNat_natCast] at e1 e2
      replace e1 := pw_cell_below hb.out e1
      replace e2 := pw_cell_below hb.out e2
      have p1 : (0 ≤ (j : Int)) = True := eq_true (by omega)
      have q1 : ((j : Int) < (ri.length : Int)) = True := eq_true (by omega)
      have HJ := Aside0.mk hlt
      by_cases hc : rd ri (j : Int) < rd ri (m : Int)
      · have c2 : decide (rd ri (j : Int) < rd ri (m : Int)) = true := decide_eq_true hc
        have HL := Aside0.mk (low_yes ri j (by have := HM.out; omega) (by rw [show (ri.length : Int) - 1 = (m : Int) by have := HM.out; omega]; exact hc))
        clear hc
        go_wp2_with (fail)
        go_quiet (fail)
        go_wp2_with (fail)
        go_ret
        refine ⟨by first | rfl | (rw [HL.out]; rfl), ?_, HB.out.trans ((pw_below_drewN HZ.out.out nq).mono (Nat.le_trans hlo2 HB.out.size))⟩
        try rw [if_pos HL.out]
        exact HY.out.below (pw_below_drewN HZ.out.out nq)
      · have c2 : decide (rd ri (j : Int) < rd ri (m : Int)) = false := decide_eq_false hc
        have HL := Aside0.mk hc
        clear hc
        go_wp2_with (fail)
        go_quiet (fail)
        go_wp2_with (fail)
        go_roundw
        case rel => exact ⟨j + 1, by have := HJ.out; omega, by have := HJ.out; first | (congr 1; done) | (congr 1; unfold wrap64; omega), ⟨fun k hk => by
          rcases Nat.lt_or_ge k j with h1 | h1
          · exact hno.out k h1
          · obtain rfl : k = j := by omega
            have := HL.out; omega⟩, ⟨pw_below_drewN HZ.out.out nq⟩⟩
        case measure => have := HJ.out; simp only [intOf]; omega
    · have c0 : decide ((j : Int) < (m : Int)) = false := decide_eq_false (by omega)
      obtain rfl : j = m := by omega
      have HL := Aside0.mk (low_no ri (by have e := HM.out; rw [show (ri.length : Int) - 1 = (j : Int) by omega, ← e]; exact fun k hk => by have := hno.out k hk; omega))
      have gz2 : wr.frozen? ⟨gs, i, none⟩ = false := (hb.out.frozen (p := ⟨gs, i, none⟩) (World.block_lt_of_cell? _ _ xK)).trans HX.out.2.2
      have HW := Aside0.mk (And.intro z1 z2)
      clear hlt hj
      go_wp2_with (fail)
      refine start_ (n := 16) (S := fun w' => w'.cell? ⟨g, 1, none⟩ = some (.slice (some ⟨gs, 0, none⟩) n c) ∧ w'.cell? ⟨gs, i, none⟩ = some (.slice AK ri.length capK)) (ds := [15]) #[false, false, false, false, false, false, false, false, false, false, false, false, false, false, false, false] (by kernel_rfl) rfl rfl HW.out (fun hHeld => ?_)
      refine pure_ (i := 0) (N := some 45) (v := ?_) (a' := ?_) #[true, false, false, false, false, false, false, false, false, false, false, false, false, false, false, false] rfl rfl (by kernel_rfl) (fun _ _ _ h => h) (Or.inl ⟨by rfl, ?_⟩) ?_ ?_
      rotate_left
      · intro w'
        go_simp
        with_reducible rfl
      rotate_left
      · simp only [Act.put, List.setIfInBounds_toArray, List.set_cons_zero, List.set_cons_succ, i64_w, i32_w]
        rfl
      refine pure_ (i := 1) (N := some 46) (v := ?_) (a' := ?_) #[true, true, false, false, false, false, false, false, false, false, false, false, false, false, false, false] rfl rfl (by kernel_rfl) (fun _ _ _ h => h) (Or.inl ⟨by rfl, ?_⟩) ?_ ?_
      rotate_left
      · intro w'
        go_simp
        with_reducible rfl
      rotate_left
      · simp only [Act.put, List.setIfInBounds_toArray, List.set_cons_zero, List.set_cons_succ, i64_w, i32_w]
        rfl
      refine pure_ (i := 2) (N := some 47) (v := ?_) (a' := ?_) #[true, true, true, false, false, false, false, false, false, false, false, false, false, false, false, false] rfl rfl (by kernel_rfl) (fun _ _ _ h => h) (Or.inl ⟨by rfl, ?_⟩) ?_ ?_
      rotate_left
      · intro w'
        go_simp
        with_reducible rfl
      rotate_left
      · simp only [Act.put, List.setIfInBounds_toArray, List.set_cons_zero, List.set_cons_succ, i64_w, i32_w]
        rfl
      refine pure_ (i := 4) (N := some 49) (v := ?_) (a' := ?_) #[true, true, true, false, true, false, false, false, false, false, false, false, false, false, false, false] rfl rfl (by kernel_rfl) (fun _ _ _ h => h) (Or.inl ⟨by rfl, ?_⟩) ?_ ?_
      rotate_left
      · intro w'
        go_simp
        with_reducible rfl
      rotate_left
      · simp only [Act.put, List.setIfInBounds_toArray, List.set_cons_zero, List.set_cons_succ, i64_w, i32_w]
        rfl
      refine pure_ (i := 5) (N := some 50) (v := ?_) (a' := ?_) #[true, true, true, false, true, true, false, false, false, false, false, false, false, false, false, false] rfl rfl (by kernel_rfl) (fun _ _ _ h => h) (Or.inl ⟨by rfl, ?_⟩) ?_ ?_
      rotate_left
      · intro w'
        go_simp
        with_reducible rfl
      rotate_left
      · simp only [Act.put, List.setIfInBounds_toArray, List.set_cons_zero, List.set_cons_succ, i64_w, i32_w]
        rfl
      refine pure_ (i := 6) (N := some 51) (v := ?_) (a' := ?_) #[true, true, true, false, true, true, true, false, false, false, false, false, false, false, false, false] rfl rfl (by kernel_rfl) (fun _ _ _ h => h) (Or.inl ⟨by rfl, ?_⟩) ?_ ?_
      rotate_left
      · intro w'
        go_simp
        with_reducible rfl
      rotate_left
      · simp only [Act.put, List.setIfInBounds_toArray, List.set_cons_zero, List.set_cons_succ, i64_w, i32_w]
        rfl
      refine pure_ (i := 7) (N := some 52) (v := ?_) (a' := ?_) #[true, true, true, false, true, true, true, true, false, false, false, false, false, false, false, false] rfl rfl (by kernel_rfl) (fun _ _ _ h => h) (Or.inl ⟨by rfl, ?_⟩) ?_ ?_
      rotate_left
      · intro w'
        go_simp
        with_reducible rfl
      rotate_left
      · simp only [Act.put, List.setIfInBounds_toArray, List.set_cons_zero, List.set_cons_succ, i64_w, i32_w]
        rfl
      refine pure_ (i := 9) (N := some 54) (v := ?_) (a' := ?_) #[true, true, true, false, true, true, true, true, false, true, false, false, false, false, false, false] rfl rfl (by kernel_rfl) (fun _ _ _ h => h) (Or.inl ⟨by rfl, ?_⟩) ?_ ?_
      rotate_left
      · intro w'
        go_simp
        with_reducible rfl
      rotate_left
      · simp only [Act.put, List.setIfInBounds_toArray, List.set_cons_zero, List.set_cons_succ, i64_w, i32_w]
        rfl
      refine pure_ (i := 12) (N := some 57) (v := ?_) (a' := ?_) #[true, true, true, false, true, true, true, true, false, true, false, false, true, false, false, false] rfl rfl (by kernel_rfl) (fun _ _ _ h => h) (Or.inl ⟨by rfl, ?_⟩) ?_ ?_
      rotate_left
      · intro w'
        go_simp
        with_reducible rfl
      rotate_left
      · simp only [Act.put, List.setIfInBounds_toArray, List.set_cons_zero, List.set_cons_succ, i64_w, i32_w]
        rfl
      refine take_ (i := 3) (N := some 48) (v := ?_) (a' := ?_) #[true, true, true, true, true, true, true, true, false, true, false, false, true, false, false, false] rfl rfl (by kernel_rfl) (fun _ _ _ h => h) (Or.inl ⟨by rfl, ?_⟩) hHeld ?_ ?_
      rotate_left
      · rintro w' ⟨s0, s1⟩
        go_simp
        with_reducible rfl
      rotate_left
      · simp only [Act.put, List.setIfInBounds_toArray, List.set_cons_zero, List.set_cons_succ, i64_w, i32_w]
        rfl
      refine take_ (i := 8) (N := some 53) (v := ?_) (a' := ?_) #[true, true, true, true, true, true, true, true, true, true, false, false, true, false, false, false] rfl rfl (by kernel_rfl) (fun _ _ _ h => h) (Or.inl ⟨by rfl, ?_⟩) hHeld ?_ ?_
      rotate_left
      · rintro w' ⟨s0, s1⟩
        go_simp
        with_reducible rfl
      rotate_left
      · simp only [Act.put, List.setIfInBounds_toArray, List.set_cons_zero, List.set_cons_succ, i64_w, i32_w]
        rfl
      refine pure_ (i := 10) (N := some 55) (v := ?_) (a' := ?_) #[true, true, true, true, true, true, true, true, true, true, true, false, true, false, false, false] rfl rfl (by kernel_rfl) (fun _ _ _ h => h) (Or.inl ⟨by rfl, ?_⟩) ?_ ?_
      rotate_left
      · intro w'
        go_simp
        with_reducible rfl
      rotate_left
      · simp only [Act.put, List.setIfInBounds_toArray, List.set_cons_zero, List.set_cons_succ, i64_w, i32_w]
        rfl
      refine take_ (i := 11) (N := some 56) (v := ?_) (a' := ?_) #[true, true, true, true, true, true, true, true, true, true, true, true, true, false, false, false] rfl rfl (by kernel_rfl) (fun _ _ _ h => h) (Or.inl ⟨by rfl, ?_⟩) hHeld ?_ ?_
      rotate_left
      · rintro w' ⟨s0, s1⟩
        go_simp
        with_reducible rfl
      rotate_left
      · simp only [Act.put, List.setIfInBounds_toArray, List.set_cons_zero, List.set_cons_succ, i64_w, i32_w]
        rfl
      refine pure_ (i := 13) (N := some 58) (v := ?_) (a' := ?_) #[true, true, true, true, true, true, true, true, true, true, true, true, true, true, false, false] rfl rfl (by kernel_rfl) (fun _ _ _ h => h) (Or.inl ⟨by rfl, ?_⟩) ?_ ?_
      rotate_left
      · intro w'
        go_simp
        with_reducible rfl
      rotate_left
      · simp only [Act.put, List.setIfInBounds_toArray, List.set_cons_zero, List.set_cons_succ, i64_w, i32_w]
        rfl
      refine pure_ (i := 14) (N := some 59) (v := ?_) (a' := ?_) #[true, true, true, true, true, true, true, true, true, true, true, true, true, true, true, false] rfl rfl (by kernel_rfl) (fun _ _ _ h => h) (Or.inl ⟨by rfl, ?_⟩) ?_ ?_
      rotate_left
      · intro w'
        go_simp
        with_reducible rfl
      rotate_left
      · simp only [Act.put, List.setIfInBounds_toArray, List.set_cons_zero, List.set_cons_succ, i64_w, i32_w]
        rfl
      refine last_ (i := 15) (N := none) #[true, true, true, true, true, true, true, true, true, true, true, true, true, true, true, true] rfl rfl (by kernel_rfl) (by decide) (fun K_ hK => ?_)
      refine skip_ (w1 := ?_) (by rfl) rfl ?_ ?_
      rotate_left
      · go_simp
        rfl
      refine hK.out _ _ ?_
      clear hK K_
      refine done_ (by kernel_rfl) ?_
      go_wp2_with (fail)
      go_ret
      obtain ⟨p1, p2⟩ := HBK.out wr (.slice AK j capK) (ri.take j) hb.out.size (fun k hk _ => hb.out.block k hk) ⟨_, rfl, Kd.R_mono (Kd.R_below HRK.out hb.out) (fun k hk => .inl hk)⟩
      refine ⟨by first | rfl | (rw [HL.out]; rfl), ?_, HB.out.trans (below_drew ((hb.out.mono (Nat.le_trans hlo2 HB.out.size)).setCell (p := ⟨gs, i, none⟩) HGL.out _))⟩
      try rw [if_neg (by rw [HL.out]; decide)]
      rw [← HM.out]
      refine ⟨some ⟨gs, 0, none⟩, c, ?_, HLO.out, ?_, ?_⟩
      · show (wr.setCell ⟨gs, i, none⟩ (.slice AK j capK)).heap[g]? = _
        rw [Below.heap_setCell _ _ _ _ HGN.out, List.length_set, ← HN.out]; exact blk_below HB1.out hb.out
      · exact Nat.le_trans (Nat.le_trans hlo2 HB.out.size) (below_drew ((hb.out.mono (Nat.le_trans hlo2 HB.out.size)).setCell (p := ⟨gs, i, none⟩) HGL.out _)).size
      · rw [List.length_set, ← HN.out]; exact Kd.S_drew p1
end Go.Proofs.Ytibaiaenfeppcaa.Yk

/- The reference's l09Move on a yard of its own. -/
namespace Go.Proofs.Ytibaiaenfeppcaa.Yt
open Go Go.RowKit Go.Proofs.YtibaiaenfeppcaaW.PrintWords Go.Proofs.YtibaiaenfeppcaaW.PrintLast Go.Proofs.YtibaiaenfeppcaaW.PrintMore Go.Proofs.Ytibaiaenfeppcaa.Q Go.Proofs.Ytibaiaenfeppcaa.PuY Go.Proofs.Ytibaiaenfeppcaa.Lw Go.Proofs.Ytibaiaenfeppcaa.Ow Go.Proofs.Ytibaiaenfeppcaa.Yo
set_option linter.unusedVariables false
set_option linter.unusedSimpArgs false
/-- A topmost lot moved. -/
def moveRows (xs : List (List Int)) (i j : Nat) : List (List Int) := (xs.set j (xs.getD j [] ++ [rd (xs.getD i []) (((xs.getD i []).length : Int) - 1)])).set i ((xs.getD i []).take ((xs.getD i []).length - 1))
set_option maxRecDepth 100000 in
set_option maxHeartbeats 4000000 in
theorem move_yes (lo g : Nat) (h : Int) (xs : List (List Int)) (i j : Nat) (hi : i < xs.length) (hj : j < xs.length) (hij : i ≠ j) (hne : 0 < xs[i].length) (hlt : (xs[j].length : Int) < h) (hx4 : xs.length ≤ 4) (h4 : h ≤ 4) (hr : ∀ r ∈ xs, r.length ≤ 4) (W : World) (y : YO lo W g h xs) :
    Calls Try.prog 55 #[.pointer (some ⟨g, 0, none⟩), .int .i64 (i : Int), .int .i64 (j : Int)] W fun e w' => e = .returned (.bool true) ∧ YO lo w' g h (moveRows xs i j) ∧ Below lo W w' := by
  obtain ⟨A, c, hb, hlo, hlo2, hS⟩ := y
  obtain ⟨n, hn⟩ : ∃ n, n = xs.length := ⟨_, rfl⟩
  rw [← hn] at hb hS
  obtain ⟨gs, rfl⟩ : ∃ gs, A = some ⟨gs, 0, none⟩ := by
    obtain ⟨gs, cap, he, _⟩ := Kd.S_form hS (by omega)
    injection he with he _ _
    exact ⟨gs, he⟩
  obtain ⟨okI, cI, hMI, hclI, hcI, hokI, hbackI⟩ := row_out (d := dR) rfl hS i (by omega) hi (fun k hk => by have := blk_lt hb; omega)
  obtain ⟨okJ, cJ, hMJ, hclJ, hcJ, hokJ, hbackJ⟩ := row_out (d := dR) rfl hS j (by omega) hj (fun k hk => by have := blk_lt hb; omega)
  obtain ⟨vI, rfl, hRI⟩ := hMI
  obtain ⟨vJ, rfl, hRJ⟩ := hMJ
  obtain ⟨rI, hrI⟩ : ∃ r, r = xs[i] := ⟨_, rfl⟩
  obtain ⟨rJ, hrJ⟩ : ∃ r, r = xs[j] := ⟨_, rfl⟩
  rw [← hrI] at hRI hne
  rw [← hrJ] at hRJ hlt
  obtain ⟨AI, capI, rfl⟩ := Kd.R_slice hRI
  obtain ⟨AJ, capJ, rfl⟩ := Kd.R_slice hRJ
  have hlI : rI.length ≤ 4 := hr rI (by rw [hrI]; exact List.getElem_mem hi)
  have hlJ : rJ.length ≤ 4 := hr rJ (by rw [hrJ]; exact List.getElem_mem hj)
  have xI := hcI _ rfl
  have xJ := hcJ _ rfl
  have bx0 : W.cell? ⟨g, 0, none⟩ = some (.int .i64 h) := (blk_cell hb 0).trans rfl
  have bx1 : W.cell? ⟨g, 1, none⟩ = some (.slice (some ⟨gs, 0, none⟩) n c) := (blk_cell hb 1).trans rfl
  obtain ⟨q, hq⟩ : ∃ q, wrap64 ((rI.length : Int) - 1) = q := ⟨_, rfl⟩
  have hqv : q = (rI.length : Int) - 1 := by rw [← hq]; unfold wrap64; omega
  have hqw : IntKind.i64.wrap ((rI.length : Int) - 1) = q := by rw [i64_w]; exact hq
  obtain ⟨gI, eI, hxq⟩ := Kd.at_int (Kd.R_reads' hRI).2.2 q (by omega) (by omega)
  subst eI
  obtain ⟨m, hm⟩ : ∃ m, IntKind.i64.wrap ((n : Int) - 1) = m := ⟨_, rfl⟩
  have hmv : m = (n : Int) - 1 := by rw [← hm, i64_w]; unfold wrap64; omega
  have HIN1 := Aside0.mk (show spec_l00In.f (i : Int) 0 m = some true by rw [in_eq]; unfold Ha.inB; simp; omega)
  have HIN2 := Aside0.mk (show spec_l00In.f (j : Int) 0 m = some true by rw [in_eq]; unfold Ha.inB; simp; omega)
  have e1 : ((i : Int) == (j : Int)) = false := beq_eq_false_iff_ne.2 (by omega)
  have e2 : ((rI.length : Int) == 0) = false := beq_eq_false_iff_ne.2 (by omega)
  have e3 : decide (h ≤ (rJ.length : Int)) = false := decide_eq_false (by omega)
  have pI : (0 ≤ (i : Int)) = True := eq_true (by omega)
  have qI : ((i : Int) < (n : Int)) = True := eq_true (by omega)
  have pJ : (0 ≤ (j : Int)) = True := eq_true (by omega)
  have qJ : ((j : Int) < (n : Int)) = True := eq_true (by omega)
  have pq : (0 ≤ q) = True := eq_true (by omega)
  have qq : (q < (rI.length : Int)) = True := eq_true (by omega)
  have xI' : W.cell? ((⟨gs, 0, none⟩ : Addr).add i) = some (.slice (some gI) rI.length capI) := by rw [add_plain]; exact xI
  have xJ' : W.cell? ((⟨gs, 0, none⟩ : Addr).add j) = some (.slice AJ rJ.length capJ) := by rw [add_plain]; exact xJ
  have HALL := Aside0.mk (And.intro hqv (And.intro hmv (And.intro hrI hrJ)))
  have HB := Aside0.mk hb
  have HGL := Aside0.mk (blk_lt hb)
  obtain ⟨f, hf⟩ := rows_f hS
  obtain ⟨uI, k1, -, k2⟩ := hf i hi
  obtain ⟨uJ, k3, k4, k5⟩ := hf j hj
  obtain rfl : uI = .slice (some gI) rI.length capI := by rw [xI] at k1; injection k1 with k1; exact k1.symm
  obtain rfl : uJ = .slice AJ rJ.length capJ := by rw [xJ] at k3; injection k3 with k3; exact k3.symm
  have HFR := Aside0.mk k4
  have hRJb := hRJ.1
  have HGS := Aside0.mk (show gs < W.heap.size from World.block_lt_of_cell? W _ xI)
  have HGI := Aside0.mk (show gI.block < W.heap.size ∧ some gI.block ≠ (Value.slice AJ rJ.length capJ).ownBlock from ⟨by have := World.block_lt_of_cell? W _ hxq; rwa [add_block] at this, fun e => by
    have a1 := (k2.1 gI.block rfl).2
    have a2 := (k5.1 gI.block e.symm).2
    omega⟩)
  have HGNE := Aside0.mk (show g ≠ gs from fun e => by
    have := (Kd.S_reads' hS).1
    exact absurd e (by
      obtain ⟨f0, hS0, _⟩ := hS
      exact fun e2 => hS0 gs (by simp [Value.ownBlock]) e2.symm))
  have HGLO := Aside0.mk (show lo ≤ gs from Kd.S_base hS gs (by simp [Value.ownBlock]))
  clear hf k1 k2 k3 k4 k5
  have HX := Aside0.mk (And.intro bx0 (And.intro bx1 (And.intro xI (And.intro xJ hxq))))
  have HN := Aside0.mk hn
  have HI := Aside0.mk (And.intro hi hj)
  have HIJ := Aside0.mk hij
  have hn4 : n ≤ 4 := by omega
  have HBI := Aside0.mk hbackI
  have HBJ := Aside0.mk hbackJ
  have HRI := Aside0.mk hRI
  have HRJ := Aside0.mk hRJ
  have HOK := Aside0.mk (And.intro hokI hokJ)
  have HSS := Aside0.mk hS
  clear hqv hmv hrI hrJ hn hij hbackI hbackJ hRI hRJ hokI hokJ hS hr hx4 hcI hcJ hclI hclJ hq hb
  go_enter Try.func55, Try.ntmps55
  go_wp2_with (fail)
  go_quiet (first | (go_at_call 62; (with_reducible refine (spec_l00In.calls (i : Int) 0 m true _ HIN1.out).mono ?_); rintro e w' ⟨rfl, ⟨nd, rfl⟩⟩; (try first | exact ⟨rfl, _, World.drewN_drewN _ _ _⟩ | exact ⟨rfl, _, Eq.trans (World.drewN_drewN _ _ _) (congrArg (World.drewN _) (Nat.add_assoc _ _ _))⟩)) | (go_at_call 62; (with_reducible refine (spec_l00In.calls (j : Int) 0 m true _ HIN2.out).mono ?_); rintro e w' ⟨rfl, ⟨nd, rfl⟩⟩; (try first | exact ⟨rfl, _, World.drewN_drewN _ _ _⟩ | exact ⟨rfl, _, Eq.trans (World.drewN_drewN _ _ _) (congrArg (World.drewN _) (Nat.add_assoc _ _ _))⟩)))
  go_wp2_with (fail)
  refine start_ (n := 26) (S := fun w' => w'.cell? ⟨g, 1, none⟩ = some (.slice (some ⟨gs, 0, none⟩) n c) ∧ w'.cell? ⟨gs, j, none⟩ = some (.slice AJ rJ.length capJ) ∧ w'.cell? ⟨gs, i, none⟩ = some (.slice (some gI) rI.length capI) ∧ w'.cell? (gI.add q.toNat) = some (.int .i64 (rd rI q))) (ds := [25]) #[false, false, false, false, false, false, false, false, false, false, false, false, false, false, false, false, false, false, false, false, false, false, false, false, false, false] (by kernel_rfl) rfl rfl ⟨HX.out.2.1, HX.out.2.2.2.1, HX.out.2.2.1, HX.out.2.2.2.2⟩ (fun hHeld => ?_)
  have hV : Below W.heap.size W (W.drewN nq).drew := below_drew (pw_below_drewN (Below.refl _ _) nq)
  have rV : Kd.R (Kd.int .i64) 2 (W.drewN nq).drew lo (fun k => okJ k ∨ W.heap.size ≤ k) (.slice AJ rJ.length capJ) rJ := Kd.R_mono (Kd.R_below HRJ.out hV) (fun k hk => .inl hk)
  generalize hw : (W.drewN nq).drew = V at hV rV hHeld ⊢
  have hVs : V.heap.size = W.heap.size := by rw [← hw]; rfl
  clear hw
  refine pure_ (i := 0) (N := some 66) (v := ?_) (a' := ?_) #[true, false, false, false, false, false, false, false, false, false, false, false, false, false, false, false, false, false, false, false, false, false, false, false, false, false] rfl rfl (by kernel_rfl) (fun _ _ _ h => h) (Or.inl ⟨by rfl, ?_⟩) ?_ ?_
  rotate_left
  · intro w'
    go_simp
    with_reducible rfl
  rotate_left
  · simp only [Act.put, List.setIfInBounds_toArray, List.set_cons_zero, List.set_cons_succ, i64_w, i32_w]
    rfl
  refine pure_ (i := 1) (N := some 67) (v := ?_) (a' := ?_) #[true, true, false, false, false, false, false, false, false, false, false, false, false, false, false, false, false, false, false, false, false, false, false, false, false, false] rfl rfl (by kernel_rfl) (fun _ _ _ h => h) (Or.inl ⟨by rfl, ?_⟩) ?_ ?_
  rotate_left
  · intro w'
    go_simp
    with_reducible rfl
  rotate_left
  · simp only [Act.put, List.setIfInBounds_toArray, List.set_cons_zero, List.set_cons_succ, i64_w, i32_w]
    rfl
  refine pure_ (i := 2) (N := some 68) (v := ?_) (a' := ?_) #[true, true, true, false, false, false, false, false, false, false, false, false, false, false, false, false, false, false, false, false, false, false, false, false, false, false] rfl rfl (by kernel_rfl) (fun _ _ _ h => h) (Or.inl ⟨by rfl, ?_⟩) ?_ ?_
  rotate_left
  · intro w'
    go_simp
    with_reducible rfl
  rotate_left
  · simp only [Act.put, List.setIfInBounds_toArray, List.set_cons_zero, List.set_cons_succ, i64_w, i32_w]
    rfl
  refine pure_ (i := 4) (N := some 70) (v := ?_) (a' := ?_) #[true, true, true, false, true, false, false, false, false, false, false, false, false, false, false, false, false, false, false, false, false, false, false, false, false, false] rfl rfl (by kernel_rfl) (fun _ _ _ h => h) (Or.inl ⟨by rfl, ?_⟩) ?_ ?_
  rotate_left
  · intro w'
    go_simp
    with_reducible rfl
  rotate_left
  · simp only [Act.put, List.setIfInBounds_toArray, List.set_cons_zero, List.set_cons_succ, i64_w, i32_w]
    rfl
  refine pure_ (i := 5) (N := some 71) (v := ?_) (a' := ?_) #[true, true, true, false, true, true, false, false, false, false, false, false, false, false, false, false, false, false, false, false, false, false, false, false, false, false] rfl rfl (by kernel_rfl) (fun _ _ _ h => h) (Or.inl ⟨by rfl, ?_⟩) ?_ ?_
  rotate_left
  · intro w'
    go_simp
    with_reducible rfl
  rotate_left
  · simp only [Act.put, List.setIfInBounds_toArray, List.set_cons_zero, List.set_cons_succ, i64_w, i32_w]
    rfl
  refine pure_ (i := 6) (N := some 72) (v := ?_) (a' := ?_) #[true, true, true, false, true, true, true, false, false, false, false, false, false, false, false, false, false, false, false, false, false, false, false, false, false, false] rfl rfl (by kernel_rfl) (fun _ _ _ h => h) (Or.inl ⟨by rfl, ?_⟩) ?_ ?_
  rotate_left
  · intro w'
    go_simp
    with_reducible rfl
  rotate_left
  · simp only [Act.put, List.setIfInBounds_toArray, List.set_cons_zero, List.set_cons_succ, i64_w, i32_w]
    rfl
  refine pure_ (i := 7) (N := some 73) (v := ?_) (a' := ?_) #[true, true, true, false, true, true, true, true, false, false, false, false, false, false, false, false, false, false, false, false, false, false, false, false, false, false] rfl rfl (by kernel_rfl) (fun _ _ _ h => h) (Or.inl ⟨by rfl, ?_⟩) ?_ ?_
  rotate_left
  · intro w'
    go_simp
    with_reducible rfl
  rotate_left
  · simp only [Act.put, List.setIfInBounds_toArray, List.set_cons_zero, List.set_cons_succ, i64_w, i32_w]
    rfl
  refine pure_ (i := 9) (N := some 75) (v := ?_) (a' := ?_) #[true, true, true, false, true, true, true, true, false, true, false, false, false, false, false, false, false, false, false, false, false, false, false, false, false, false] rfl rfl (by kernel_rfl) (fun _ _ _ h => h) (Or.inl ⟨by rfl, ?_⟩) ?_ ?_
  rotate_left
  · intro w'
    go_simp
    with_reducible rfl
  rotate_left
  · simp only [Act.put, List.setIfInBounds_toArray, List.set_cons_zero, List.set_cons_succ, i64_w, i32_w]
    rfl
  refine pure_ (i := 12) (N := some 78) (v := ?_) (a' := ?_) #[true, true, true, false, true, true, true, true, false, true, false, false, true, false, false, false, false, false, false, false, false, false, false, false, false, false] rfl rfl (by kernel_rfl) (fun _ _ _ h => h) (Or.inl ⟨by rfl, ?_⟩) ?_ ?_
  rotate_left
  · intro w'
    go_simp
    with_reducible rfl
  rotate_left
  · simp only [Act.put, List.setIfInBounds_toArray, List.set_cons_zero, List.set_cons_succ, i64_w, i32_w]
    rfl
  refine pure_ (i := 13) (N := some 79) (v := ?_) (a' := ?_) #[true, true, true, false, true, true, true, true, false, true, false, false, true, true, false, false, false, false, false, false, false, false, false, false, false, false] rfl rfl (by kernel_rfl) (fun _ _ _ h => h) (Or.inl ⟨by rfl, ?_⟩) ?_ ?_
  rotate_left
  · intro w'
    go_simp
    with_reducible rfl
  rotate_left
  · simp only [Act.put, List.setIfInBounds_toArray, List.set_cons_zero, List.set_cons_succ, i64_w, i32_w]
    rfl
  refine pure_ (i := 14) (N := some 80) (v := ?_) (a' := ?_) #[true, true, true, false, true, true, true, true, false, true, false, false, true, true, true, false, false, false, false, false, false, false, false, false, false, false] rfl rfl (by kernel_rfl) (fun _ _ _ h => h) (Or.inl ⟨by rfl, ?_⟩) ?_ ?_
  rotate_left
  · intro w'
    go_simp
    with_reducible rfl
  rotate_left
  · simp only [Act.put, List.setIfInBounds_toArray, List.set_cons_zero, List.set_cons_succ, i64_w, i32_w]
    rfl
  refine pure_ (i := 16) (N := some 82) (v := ?_) (a' := ?_) #[true, true, true, false, true, true, true, true, false, true, false, false, true, true, true, false, true, false, false, false, false, false, false, false, false, false] rfl rfl (by kernel_rfl) (fun _ _ _ h => h) (Or.inl ⟨by rfl, ?_⟩) ?_ ?_
  rotate_left
  · intro w'
    go_simp
    with_reducible rfl
  rotate_left
  · simp only [Act.put, List.setIfInBounds_toArray, List.set_cons_zero, List.set_cons_succ, i64_w, i32_w]
    rfl
  refine pure_ (i := 19) (N := some 85) (v := ?_) (a' := ?_) #[true, true, true, false, true, true, true, true, false, true, false, false, true, true, true, false, true, false, false, true, false, false, false, false, false, false] rfl rfl (by kernel_rfl) (fun _ _ _ h => h) (Or.inl ⟨by rfl, ?_⟩) ?_ ?_
  rotate_left
  · intro w'
    go_simp
    with_reducible rfl
  rotate_left
  · simp only [Act.put, List.setIfInBounds_toArray, List.set_cons_zero, List.set_cons_succ, i64_w, i32_w]
    rfl
  refine take_ (i := 3) (N := some 69) (v := ?_) (a' := ?_) #[true, true, true, true, true, true, true, true, false, true, false, false, true, true, true, false, true, false, false, true, false, false, false, false, false, false] rfl rfl (by kernel_rfl) (fun _ _ _ h => h) (Or.inl ⟨by rfl, ?_⟩) hHeld ?_ ?_
  rotate_left
  · rintro w' ⟨s0, s1, s2, s3⟩
    go_simp
    with_reducible rfl
  rotate_left
  · simp only [Act.put, List.setIfInBounds_toArray, List.set_cons_zero, List.set_cons_succ, i64_w, i32_w]
    rfl
  refine take_ (i := 8) (N := some 74) (v := ?_) (a' := ?_) #[true, true, true, true, true, true, true, true, true, true, false, false, true, true, true, false, true, false, false, true, false, false, false, false, false, false] rfl rfl (by kernel_rfl) (fun _ _ _ h => h) (Or.inl ⟨by rfl, ?_⟩) hHeld ?_ ?_
  rotate_left
  · rintro w' ⟨s0, s1, s2, s3⟩
    go_simp
    with_reducible rfl
  rotate_left
  · simp only [Act.put, List.setIfInBounds_toArray, List.set_cons_zero, List.set_cons_succ, i64_w, i32_w]
    rfl
  refine pure_ (i := 10) (N := some 76) (v := ?_) (a' := ?_) #[true, true, true, true, true, true, true, true, true, true, true, false, true, true, true, false, true, false, false, true, false, false, false, false, false, false] rfl rfl (by kernel_rfl) (fun _ _ _ h => h) (Or.inl ⟨by rfl, ?_⟩) ?_ ?_
  rotate_left
  · intro w'
    go_simp
    with_reducible rfl
  rotate_left
  · simp only [Act.put, List.setIfInBounds_toArray, List.set_cons_zero, List.set_cons_succ, i64_w, i32_w]
    rfl
  refine take_ (i := 11) (N := some 77) (v := ?_) (a' := ?_) #[true, true, true, true, true, true, true, true, true, true, true, true, true, true, true, false, true, false, false, true, false, false, false, false, false, false] rfl rfl (by kernel_rfl) (fun _ _ _ h => h) (Or.inl ⟨by rfl, ?_⟩) hHeld ?_ ?_
  rotate_left
  · rintro w' ⟨s0, s1, s2, s3⟩
    go_simp
    with_reducible rfl
  rotate_left
  · simp only [Act.put, List.setIfInBounds_toArray, List.set_cons_zero, List.set_cons_succ, i64_w, i32_w]
    rfl
  refine take_ (i := 15) (N := some 81) (v := ?_) (a' := ?_) #[true, true, true, true, true, true, true, true, true, true, true, true, true, true, true, true, true, false, false, true, false, false, false, false, false, false] rfl rfl (by kernel_rfl) (fun _ _ _ h => h) (Or.inl ⟨by rfl, ?_⟩) hHeld ?_ ?_
  rotate_left
  · rintro w' ⟨s0, s1, s2, s3⟩
    go_simp
    with_reducible rfl
  rotate_left
  · simp only [Act.put, List.setIfInBounds_toArray, List.set_cons_zero, List.set_cons_succ, i64_w, i32_w]
    rfl
  refine pure_ (i := 17) (N := some 83) (v := ?_) (a' := ?_) #[true, true, true, true, true, true, true, true, true, true, true, true, true, true, true, true, true, true, false, true, false, false, false, false, false, false] rfl rfl (by kernel_rfl) (fun _ _ _ h => h) (Or.inl ⟨by rfl, ?_⟩) ?_ ?_
  rotate_left
  · intro w'
    go_simp
    with_reducible rfl
  rotate_left
  · simp only [Act.put, List.setIfInBounds_toArray, List.set_cons_zero, List.set_cons_succ, i64_w, i32_w]
    rfl
  refine take_ (i := 18) (N := some 84) (v := ?_) (a' := ?_) #[true, true, true, true, true, true, true, true, true, true, true, true, true, true, true, true, true, true, true, true, false, false, false, false, false, false] rfl rfl (by kernel_rfl) (fun _ _ _ h => h) (Or.inl ⟨by rfl, ?_⟩) hHeld ?_ ?_
  rotate_left
  · rintro w' ⟨s0, s1, s2, s3⟩
    go_simp
    with_reducible rfl
  rotate_left
  · simp only [Act.put, List.setIfInBounds_toArray, List.set_cons_zero, List.set_cons_succ, i64_w, i32_w]
    rfl
  refine pure_ (i := 20) (N := some 86) (v := ?_) (a' := ?_) #[true, true, true, true, true, true, true, true, true, true, true, true, true, true, true, true, true, true, true, true, true, false, false, false, false, false] rfl rfl (by kernel_rfl) (fun _ _ _ h => h) (Or.inl ⟨by rfl, ?_⟩) ?_ ?_
  rotate_left
  · intro w'
    go_simp
    with_reducible rfl
  rotate_left
  · simp only [Act.put, List.setIfInBounds_toArray, List.set_cons_zero, List.set_cons_succ, i64_w, i32_w]
    rfl
  refine take_ (i := 21) (N := some 87) (v := ?_) (a' := ?_) #[true, true, true, true, true, true, true, true, true, true, true, true, true, true, true, true, true, true, true, true, true, true, false, false, false, false] rfl rfl (by kernel_rfl) (fun _ _ _ h => h) (Or.inl ⟨by rfl, ?_⟩) hHeld ?_ ?_
  rotate_left
  · rintro w' ⟨s0, s1, s2, s3⟩
    go_simp
    with_reducible rfl
  rotate_left
  · simp only [Act.put, List.setIfInBounds_toArray, List.set_cons_zero, List.set_cons_succ, i64_w, i32_w]
    rfl
  refine one_ (i := 22) (N := some 88) #[true, true, true, true, true, true, true, true, true, true, true, true, true, true, true, true, true, true, true, true, true, true, true, false, false, false] rfl rfl (by kernel_rfl) (by decide) (fun K_ hK => ?_)
  refine value_ (v := .slice (some ⟨V.heap.size, 0, none⟩) 1 1) (w1 := V.alloc (.cells #[.int .i64 (rd rI q)] 2)) (by rfl) rfl ?_ ?_
  · go_simp
    first | done | exact ⟨rfl, rfl⟩ | rfl
  have hal := below_alloc (Below.refl V.heap.size V) (.cells #[.int .i64 (rd rI q)] 2)
  obtain ⟨t0, t1, t2, t3⟩ := hHeld
  refine hK.out _ _ ⟨pw_cell_below hal t0, pw_cell_below hal t1, pw_cell_below hal t2, pw_cell_below hal t3⟩ (fun hHeld => ?_)
  clear hK K_
  refine norm_ (a' := ?_) ?_ ?_
  rotate_left
  · show Act.put _ (some 88) _ = _
    simp only [Act.put, List.setIfInBounds_toArray, List.set_cons_zero, List.set_cons_succ, i64_w, i32_w]
    rfl
  refine one_ (i := 23) (N := some 89) #[true, true, true, true, true, true, true, true, true, true, true, true, true, true, true, true, true, true, true, true, true, true, true, true, false, false] rfl rfl (by kernel_rfl) (by decide) (fun K_ hK => ?_)
  refine Kd.R_append_step (Kd.int .i64) (w0 := W) lo (by rfl) (.tmp 77) (.tmp 88) 31 2 (.int .i64 0) 8 rfl Try.underlying31 infoI rfl (by decide) (by decide) (.slice AJ rJ.length capJ) rJ (rd rI q) [.int .i64 (rd rI q)] (fun k => okJ k ∨ W.heap.size ≤ k) (fun _ => False) rfl rfl rfl (fun _ hk => hk.elim) (fun k hk => .inr (by omega)) rV (Below.mono hV (by omega)) (by omega) (by omega) ?_
  intro v1 w2 h1 Hb2 h3 h4
  obtain ⟨A1, c1, rfl⟩ := Kd.R_slice h1
  have h1L := h1
  rw [show (rJ ++ [rd rI q]).length = rJ.length + 1 by simp] at h1L
  have hs2 := h3.size
  have nb : ∀ k, ¬ okJ k → k < W.heap.size → w2.heap[k]? = V.heap[k]? := fun k hn hk => h3.block k (by omega) (fun e => hn (hRJb k e.symm))
  have hgs : gs < W.heap.size := HGS.out
  have hgl : g < W.heap.size := HGL.out
  have z0 : w2.cell? ⟨g, 1, none⟩ = some (.slice (some ⟨gs, 0, none⟩) n c) := (World.cell?_of_block (w := V) (nb g (fun h => (HOK.out.2 g h).1 rfl) hgl)).trans t0
  have z1 : w2.cell? ⟨gs, j, none⟩ = some (.slice AJ rJ.length capJ) := (World.cell?_of_block (w := V) (nb gs (fun h => (HOK.out.2 gs h).2 rfl) hgs)).trans t1
  have z2 : w2.cell? ⟨gs, i, none⟩ = some (.slice (some gI) rI.length capI) := (World.cell?_of_block (w := V) (nb gs (fun h => (HOK.out.2 gs h).2 rfl) hgs)).trans t2
  have z3 : w2.cell? (gI.add q.toNat) = some (.int .i64 (rd rI q)) := (World.cell?_of_block (w := V) (by rw [add_block]; exact h3.block gI.block (by have := HGI.out.1; omega) HGI.out.2)).trans t3
  have z4 : w2.frozen? ⟨gs, j, none⟩ = false := (World.frozen?_of_block (w := V) (nb gs (fun h => (HOK.out.2 gs h).2 rfl) hgs)).trans ((World.frozen?_of_block (w := W) (hV.block gs hgs)).trans HFR.out)
  have hy3 := HBJ.out w2 (.slice A1 (rJ.length + 1) c1) (rJ ++ [rd rI q]) (by omega) (fun k hk hn => (nb k hn hk).trans (hV.block k hk)) ⟨_, rfl, h1L⟩
  have HY3 := Aside0.mk hy3
  have HB2 := Aside0.mk Hb2
  have HNB := Aside0.mk (show ∀ k, ¬ okJ k → k < W.heap.size → w2.heap[k]? = W.heap[k]? from fun k hn hk => (nb k hn hk).trans (hV.block k hk))
  clear h1L h1 Hb2 h3 h4 nb hy3 rV hVs hV t0 t1 t2 t3 hHeld hal
  refine hK.out _ _ ⟨z0, z1, z2, z3⟩ (fun hHeld => ?_)
  clear hK K_
  refine norm_ (a' := ?_) ?_ ?_
  rotate_left
  · show Act.put _ (some 89) _ = _
    simp only [Act.put, List.setIfInBounds_toArray, List.set_cons_zero, List.set_cons_succ, i64_w, i32_w]
    rfl
  refine pure_ (i := 24) (N := some 90) (v := ?_) (a' := ?_) #[true, true, true, true, true, true, true, true, true, true, true, true, true, true, true, true, true, true, true, true, true, true, true, true, true, false] rfl rfl (by kernel_rfl) (fun _ _ _ h => h) (Or.inl ⟨by rfl, ?_⟩) ?_ ?_
  rotate_left
  · intro w'
    go_simp
    with_reducible rfl
  rotate_left
  · simp only [Act.put, List.setIfInBounds_toArray, List.set_cons_zero, List.set_cons_succ, i64_w, i32_w]
    rfl
  refine last_ (i := 25) (N := none) #[true, true, true, true, true, true, true, true, true, true, true, true, true, true, true, true, true, true, true, true, true, true, true, true, true, true] rfl rfl (by kernel_rfl) (by decide) (fun K_ hK => ?_)
  refine skip_ (w1 := ?_) (by rfl) rfl ?_ ?_
  rotate_left
  · go_simp
    rfl
  refine hK.out _ _ ?_
  clear hK K_
  refine done_ (by kernel_rfl) ?_
  have hset : YO lo (w2.setCell ⟨gs, j, none⟩ (.slice A1 (rJ.length + 1) c1)) g h (xs.set j (rJ ++ [rd rI q])) := by
    refine ⟨some ⟨gs, 0, none⟩, c, ?_, hlo, ?_, ?_⟩
    · rw [List.length_set, ← HN.out, Below.heap_setCell _ _ _ _ HGNE.out, HNB.out g (fun h => (HOK.out.2 g h).1 rfl) HGL.out]; exact HB.out
    · exact Nat.le_trans hlo2 (HB2.out.setCell (p := ⟨gs, j, none⟩) HGLO.out _).size
    · rw [List.length_set, ← HN.out]; exact HY3.out.1
  have hb3 : Below lo W (w2.setCell ⟨gs, j, none⟩ (.slice A1 (rJ.length + 1) c1)) := HB2.out.setCell (p := ⟨gs, j, none⟩) HGLO.out _
  generalize hw3 : w2.setCell ⟨gs, j, none⟩ (.slice A1 (rJ.length + 1) c1) = w3 at hset hb3 ⊢
  clear hw3 z0 z1 z2 z3 z4 hHeld HY3 HB2 HNB
  have HB3 := Aside0.mk hb3
  have hS3 := hset
  clear hb3
  obtain ⟨A3, c3, hb3, -, hlo3, hS3⟩ := hset
  have hn' := HN.out
  have q0 := of_eq_true pq
  have q1 := of_eq_true qq
  have hl3 : (xs.set j (rJ ++ [rd rI q])).length = n := by rw [List.length_set, HN.out]
  rw [hl3] at hb3 hS3
  obtain ⟨gs3, rfl⟩ : ∃ gs3, A3 = some ⟨gs3, 0, none⟩ := by
    obtain ⟨gs3, cap, he, _⟩ := Kd.S_form hS3 (by omega)
    rw [hl3] at he
    injection he with he _ _
    exact ⟨gs3, he⟩
  obtain ⟨okK, cK, hMK, hclK, hcK, hokK, hbackK⟩ := row_out (d := dR) rfl hS3 i (by omega) (by omega) (fun k hk => by have := blk_lt hb3; omega)
  obtain ⟨vK, rfl, hRK⟩ := hMK
  have xK := hcK _ rfl
  have e4 : (xs.set j (rJ ++ [rd rI q]))[i]'(by omega) = rI := (List.getElem_set_ne (Ne.symm HIJ.out) _).trans HALL.out.2.2.1.symm
  rw [e4] at hRK
  obtain ⟨AK, capK, rfl⟩ := Kd.R_slice hRK
  have hcut := cut_run AK rI.length capK q (by omega) (by omega) (Kd.R_reads' hRK).2.1
  obtain ⟨f3, hf3⟩ := rows_f hS3
  obtain ⟨uK, k1, k2, -⟩ := hf3 i (by omega)
  obtain rfl : uK = .slice AK rI.length capK := by rw [xK] at k1; injection k1 with k1; exact k1.symm
  have yx1 : w3.cell? ⟨g, 1, none⟩ = some (.slice (some ⟨gs3, 0, none⟩) n c3) := (blk_cell hb3 1).trans rfl
  have HRK := Aside0.mk (rowR_cut (m := q.toNat) hRK (by omega))
  have HBK := Aside0.mk hbackK
  have HB3' := Aside0.mk hb3
  have HGN3 := Aside0.mk (show g ≠ gs3 from fun e => by
    obtain ⟨f0, hS0, _⟩ := hS3
    exact hS0 gs3 (by simp [Value.ownBlock]) e.symm)
  have HGL3 := Aside0.mk (show lo ≤ gs3 from Kd.S_base hS3 gs3 (by simp [Value.ownBlock]))
  have HX3 := Aside0.mk (And.intro yx1 xK)
  clear hb3 hlo3 hS3 hcK hokK hbackK hRK e4 hf3 hl3 hclK hn' q0 q1
  go_wp2_with (fail)
  refine start_ (n := 16) (S := fun w' => w'.cell? ⟨g, 1, none⟩ = some (.slice (some ⟨gs3, 0, none⟩) n c3) ∧ w'.cell? ⟨gs3, i, none⟩ = some (.slice AK rI.length capK)) (ds := [15]) #[false, false, false, false, false, false, false, false, false, false, false, false, false, false, false, false] (by kernel_rfl) rfl rfl HX3.out (fun hHeld => ?_)
  refine pure_ (i := 0) (N := some 91) (v := ?_) (a' := ?_) #[true, false, false, false, false, false, false, false, false, false, false, false, false, false, false, false] rfl rfl (by kernel_rfl) (fun _ _ _ h => h) (Or.inl ⟨by rfl, ?_⟩) ?_ ?_
  rotate_left
  · intro w'
    go_simp
    with_reducible rfl
  rotate_left
  · simp only [Act.put, List.setIfInBounds_toArray, List.set_cons_zero, List.set_cons_succ, i64_w, i32_w]
    rfl
  refine pure_ (i := 1) (N := some 92) (v := ?_) (a' := ?_) #[true, true, false, false, false, false, false, false, false, false, false, false, false, false, false, false] rfl rfl (by kernel_rfl) (fun _ _ _ h => h) (Or.inl ⟨by rfl, ?_⟩) ?_ ?_
  rotate_left
  · intro w'
    go_simp
    with_reducible rfl
  rotate_left
  · simp only [Act.put, List.setIfInBounds_toArray, List.set_cons_zero, List.set_cons_succ, i64_w, i32_w]
    rfl
  refine pure_ (i := 2) (N := some 93) (v := ?_) (a' := ?_) #[true, true, true, false, false, false, false, false, false, false, false, false, false, false, false, false] rfl rfl (by kernel_rfl) (fun _ _ _ h => h) (Or.inl ⟨by rfl, ?_⟩) ?_ ?_
  rotate_left
  · intro w'
    go_simp
    with_reducible rfl
  rotate_left
  · simp only [Act.put, List.setIfInBounds_toArray, List.set_cons_zero, List.set_cons_succ, i64_w, i32_w]
    rfl
  refine pure_ (i := 4) (N := some 95) (v := ?_) (a' := ?_) #[true, true, true, false, true, false, false, false, false, false, false, false, false, false, false, false] rfl rfl (by kernel_rfl) (fun _ _ _ h => h) (Or.inl ⟨by rfl, ?_⟩) ?_ ?_
  rotate_left
  · intro w'
    go_simp
    with_reducible rfl
  rotate_left
  · simp only [Act.put, List.setIfInBounds_toArray, List.set_cons_zero, List.set_cons_succ, i64_w, i32_w]
    rfl
  refine pure_ (i := 5) (N := some 96) (v := ?_) (a' := ?_) #[true, true, true, false, true, true, false, false, false, false, false, false, false, false, false, false] rfl rfl (by kernel_rfl) (fun _ _ _ h => h) (Or.inl ⟨by rfl, ?_⟩) ?_ ?_
  rotate_left
  · intro w'
    go_simp
    with_reducible rfl
  rotate_left
  · simp only [Act.put, List.setIfInBounds_toArray, List.set_cons_zero, List.set_cons_succ, i64_w, i32_w]
    rfl
  refine pure_ (i := 6) (N := some 97) (v := ?_) (a' := ?_) #[true, true, true, false, true, true, true, false, false, false, false, false, false, false, false, false] rfl rfl (by kernel_rfl) (fun _ _ _ h => h) (Or.inl ⟨by rfl, ?_⟩) ?_ ?_
  rotate_left
  · intro w'
    go_simp
    with_reducible rfl
  rotate_left
  · simp only [Act.put, List.setIfInBounds_toArray, List.set_cons_zero, List.set_cons_succ, i64_w, i32_w]
    rfl
  refine pure_ (i := 7) (N := some 98) (v := ?_) (a' := ?_) #[true, true, true, false, true, true, true, true, false, false, false, false, false, false, false, false] rfl rfl (by kernel_rfl) (fun _ _ _ h => h) (Or.inl ⟨by rfl, ?_⟩) ?_ ?_
  rotate_left
  · intro w'
    go_simp
    with_reducible rfl
  rotate_left
  · simp only [Act.put, List.setIfInBounds_toArray, List.set_cons_zero, List.set_cons_succ, i64_w, i32_w]
    rfl
  refine pure_ (i := 9) (N := some 100) (v := ?_) (a' := ?_) #[true, true, true, false, true, true, true, true, false, true, false, false, false, false, false, false] rfl rfl (by kernel_rfl) (fun _ _ _ h => h) (Or.inl ⟨by rfl, ?_⟩) ?_ ?_
  rotate_left
  · intro w'
    go_simp
    with_reducible rfl
  rotate_left
  · simp only [Act.put, List.setIfInBounds_toArray, List.set_cons_zero, List.set_cons_succ, i64_w, i32_w]
    rfl
  refine pure_ (i := 12) (N := some 103) (v := ?_) (a' := ?_) #[true, true, true, false, true, true, true, true, false, true, false, false, true, false, false, false] rfl rfl (by kernel_rfl) (fun _ _ _ h => h) (Or.inl ⟨by rfl, ?_⟩) ?_ ?_
  rotate_left
  · intro w'
    go_simp
    with_reducible rfl
  rotate_left
  · simp only [Act.put, List.setIfInBounds_toArray, List.set_cons_zero, List.set_cons_succ, i64_w, i32_w]
    rfl
  refine take_ (i := 3) (N := some 94) (v := ?_) (a' := ?_) #[true, true, true, true, true, true, true, true, false, true, false, false, true, false, false, false] rfl rfl (by kernel_rfl) (fun _ _ _ h => h) (Or.inl ⟨by rfl, ?_⟩) hHeld ?_ ?_
  rotate_left
  · rintro w' ⟨s0, s1⟩
    go_simp
    with_reducible rfl
  rotate_left
  · simp only [Act.put, List.setIfInBounds_toArray, List.set_cons_zero, List.set_cons_succ, i64_w, i32_w]
    rfl
  refine take_ (i := 8) (N := some 99) (v := ?_) (a' := ?_) #[true, true, true, true, true, true, true, true, true, true, false, false, true, false, false, false] rfl rfl (by kernel_rfl) (fun _ _ _ h => h) (Or.inl ⟨by rfl, ?_⟩) hHeld ?_ ?_
  rotate_left
  · rintro w' ⟨s0, s1⟩
    go_simp
    with_reducible rfl
  rotate_left
  · simp only [Act.put, List.setIfInBounds_toArray, List.set_cons_zero, List.set_cons_succ, i64_w, i32_w]
    rfl
  refine pure_ (i := 10) (N := some 101) (v := ?_) (a' := ?_) #[true, true, true, true, true, true, true, true, true, true, true, false, true, false, false, false] rfl rfl (by kernel_rfl) (fun _ _ _ h => h) (Or.inl ⟨by rfl, ?_⟩) ?_ ?_
  rotate_left
  · intro w'
    go_simp
    with_reducible rfl
  rotate_left
  · simp only [Act.put, List.setIfInBounds_toArray, List.set_cons_zero, List.set_cons_succ, i64_w, i32_w]
    rfl
  refine take_ (i := 11) (N := some 102) (v := ?_) (a' := ?_) #[true, true, true, true, true, true, true, true, true, true, true, true, true, false, false, false] rfl rfl (by kernel_rfl) (fun _ _ _ h => h) (Or.inl ⟨by rfl, ?_⟩) hHeld ?_ ?_
  rotate_left
  · rintro w' ⟨s0, s1⟩
    go_simp
    with_reducible rfl
  rotate_left
  · simp only [Act.put, List.setIfInBounds_toArray, List.set_cons_zero, List.set_cons_succ, i64_w, i32_w]
    rfl
  refine pure_ (i := 13) (N := some 104) (v := ?_) (a' := ?_) #[true, true, true, true, true, true, true, true, true, true, true, true, true, true, false, false] rfl rfl (by kernel_rfl) (fun _ _ _ h => h) (Or.inl ⟨by rfl, ?_⟩) ?_ ?_
  rotate_left
  · intro w'
    go_simp
    with_reducible rfl
  rotate_left
  · simp only [Act.put, List.setIfInBounds_toArray, List.set_cons_zero, List.set_cons_succ, i64_w, i32_w]
    rfl
  refine pure_ (i := 14) (N := some 105) (v := ?_) (a' := ?_) #[true, true, true, true, true, true, true, true, true, true, true, true, true, true, true, false] rfl rfl (by kernel_rfl) (fun _ _ _ h => h) (Or.inl ⟨by rfl, ?_⟩) ?_ ?_
  rotate_left
  · intro w'
    go_simp
    with_reducible rfl
  rotate_left
  · simp only [Act.put, List.setIfInBounds_toArray, List.set_cons_zero, List.set_cons_succ, i64_w, i32_w]
    rfl
  refine last_ (i := 15) (N := none) #[true, true, true, true, true, true, true, true, true, true, true, true, true, true, true, true] rfl rfl (by kernel_rfl) (by decide) (fun K_ hK => ?_)
  refine skip_ (w1 := ?_) (by rfl) rfl ?_ ?_
  rotate_left
  · go_simp
    rfl
  refine hK.out _ _ ?_
  clear hK K_
  refine done_ (by kernel_rfl) ?_
  go_wp2_with (fail)
  go_ret
  obtain ⟨p1, p2⟩ := HBK.out w3 (.slice AK q.toNat capK) (rI.take q.toNat) (Nat.le_refl _) (fun _ _ _ => rfl) ⟨_, rfl, Kd.R_mono HRK.out (fun k hk => .inl hk)⟩
  have hm : moveRows xs i j = (xs.set j (rJ ++ [rd rI q])).set i (rI.take q.toNat) := by
    have a1 := HALL.out.1
    have a2 : xs.getD i [] = rI := by rw [List.getD_eq_getElem?_getD, List.getElem?_eq_getElem hi, HALL.out.2.2.1]; rfl
    have a3 : xs.getD j [] = rJ := by rw [List.getD_eq_getElem?_getD, List.getElem?_eq_getElem hj, HALL.out.2.2.2]; rfl
    unfold moveRows
    rw [a2, a3, ← a1, show q.toNat = rI.length - 1 by omega]
  refine ⟨rfl, ?_, ?_⟩
  · rw [hm]
    refine ⟨some ⟨gs3, 0, none⟩, c3, ?_, hlo, ?_, ?_⟩
    · show (w3.setCell ⟨gs3, i, none⟩ (.slice AK q.toNat capK)).heap[g]? = _
      rw [Below.heap_setCell _ _ _ _ HGN3.out, List.length_set, List.length_set, ← HN.out]; exact HB3'.out
    · exact Nat.le_trans hlo2 (below_drew (HB3.out.setCell (p := ⟨gs3, i, none⟩) HGL3.out _)).size
    · rw [List.length_set, List.length_set, ← HN.out]; exact Kd.S_drew p1
  · exact below_drew (HB3.out.setCell (p := ⟨gs3, i, none⟩) HGL3.out _)
end Go.Proofs.Ytibaiaenfeppcaa.Yt

/- The reference's l09Move where it cannot be done. -/
namespace Go.Proofs.Ytibaiaenfeppcaa.Yx
open Go Go.RowKit Go.Proofs.YtibaiaenfeppcaaW.PrintWords Go.Proofs.YtibaiaenfeppcaaW.PrintLast Go.Proofs.YtibaiaenfeppcaaW.PrintMore Go.Proofs.Ytibaiaenfeppcaa.Q Go.Proofs.Ytibaiaenfeppcaa.PuY Go.Proofs.Ytibaiaenfeppcaa.Lw Go.Proofs.Ytibaiaenfeppcaa.Ow Go.Proofs.Ytibaiaenfeppcaa.Yo
set_option linter.unusedVariables false
set_option linter.unusedSimpArgs false
set_option maxRecDepth 100000 in
set_option maxHeartbeats 4000000 in
theorem no_from (lo g : Nat) (h : Int) (xs : List (List Int)) (hx4 : xs.length ≤ 100000) (f t : Int) (h1 : f < 0 ∨ (xs.length : Int) ≤ f) (W : World) (y : YO lo W g h xs) :
    Calls Try.prog 55 #[.pointer (some ⟨g, 0, none⟩), .int .i64 f, .int .i64 t] W fun e w' => e = .returned (.bool false) ∧ Below W.heap.size W w' := by
  obtain ⟨A, c, hb, -, -, hS⟩ := y
  obtain ⟨n, hn⟩ : ∃ n, n = xs.length := ⟨_, rfl⟩
  rw [← hn] at hb hS
  have bx0 : W.cell? ⟨g, 0, none⟩ = some (.int .i64 h) := (blk_cell hb 0).trans rfl
  have bx1 : W.cell? ⟨g, 1, none⟩ = some (.slice A n c) := (blk_cell hb 1).trans rfl
  obtain ⟨m, hm⟩ : ∃ m, IntKind.i64.wrap ((n : Int) - 1) = m := ⟨_, rfl⟩
  have hmv : m = (n : Int) - 1 := by rw [← hm, i64_w]; unfold wrap64; omega
  have hn4 : n ≤ 100000 := by omega
  have hq : Ha.inB 0 m f = false := by unfold Ha.inB; rw [hmv, hn]; rcases h1 with h1 | h1 <;> simp <;> omega
  have H1 := Aside0.mk (show spec_l00In.f f 0 m = some false by rw [in_eq, hq])
  have HMV := Aside0.mk hmv
  have HN := Aside0.mk hn
  clear hmv hn hb hS hq h1
  go_enter Try.func55, Try.ntmps55
  go_wp2_with (fail)
  go_quiet (first | (go_at_call 62; (with_reducible refine (spec_l00In.calls f 0 m false _ H1.out).mono ?_); rintro e w' ⟨rfl, ⟨nd, rfl⟩⟩; (try first | exact ⟨rfl, _, World.drewN_drewN _ _ _⟩ | exact ⟨rfl, _, Eq.trans (World.drewN_drewN _ _ _) (congrArg (World.drewN _) (Nat.add_assoc _ _ _))⟩)))
  go_wp2_with (fail)
  go_ret
  exact ⟨rfl, pw_below_drewN (Below.refl _ _) nq⟩
set_option maxRecDepth 100000 in
set_option maxHeartbeats 4000000 in
theorem no_to (lo g : Nat) (h : Int) (xs : List (List Int)) (hx4 : xs.length ≤ 100000) (i : Nat) (hi : i < xs.length) (t : Int) (h1 : t < 0 ∨ (xs.length : Int) ≤ t) (W : World) (y : YO lo W g h xs) :
    Calls Try.prog 55 #[.pointer (some ⟨g, 0, none⟩), .int .i64 (i : Int), .int .i64 t] W fun e w' => e = .returned (.bool false) ∧ Below W.heap.size W w' := by
  obtain ⟨A, c, hb, -, -, hS⟩ := y
  obtain ⟨n, hn⟩ : ∃ n, n = xs.length := ⟨_, rfl⟩
  rw [← hn] at hb hS
  have bx0 : W.cell? ⟨g, 0, none⟩ = some (.int .i64 h) := (blk_cell hb 0).trans rfl
  have bx1 : W.cell? ⟨g, 1, none⟩ = some (.slice A n c) := (blk_cell hb 1).trans rfl
  obtain ⟨m, hm⟩ : ∃ m, IntKind.i64.wrap ((n : Int) - 1) = m := ⟨_, rfl⟩
  have hmv : m = (n : Int) - 1 := by rw [← hm, i64_w]; unfold wrap64; omega
  have hn4 : n ≤ 100000 := by omega
  have H1 := Aside0.mk (show spec_l00In.f (i : Int) 0 m = some true by rw [in_eq]; unfold Ha.inB; rw [hmv]; simp; omega)
  have hq : Ha.inB 0 m t = false := by unfold Ha.inB; rw [hmv, hn]; rcases h1 with h1 | h1 <;> simp <;> omega
  have H2 := Aside0.mk (show spec_l00In.f t 0 m = some false by rw [in_eq, hq])
  have HMV := Aside0.mk hmv
  have HN := Aside0.mk hn
  clear hmv hn hb hS hq h1
  go_enter Try.func55, Try.ntmps55
  go_wp2_with (fail)
  go_quiet (first | (go_at_call 62; (with_reducible refine (spec_l00In.calls (i : Int) 0 m true _ H1.out).mono ?_); rintro e w' ⟨rfl, ⟨nd, rfl⟩⟩; (try first | exact ⟨rfl, _, World.drewN_drewN _ _ _⟩ | exact ⟨rfl, _, Eq.trans (World.drewN_drewN _ _ _) (congrArg (World.drewN _) (Nat.add_assoc _ _ _))⟩)) | (go_at_call 62; (with_reducible refine (spec_l00In.calls t 0 m false _ H2.out).mono ?_); rintro e w' ⟨rfl, ⟨nd, rfl⟩⟩; (try first | exact ⟨rfl, _, World.drewN_drewN _ _ _⟩ | exact ⟨rfl, _, Eq.trans (World.drewN_drewN _ _ _) (congrArg (World.drewN _) (Nat.add_assoc _ _ _))⟩)))
  go_wp2_with (fail)
  go_ret
  exact ⟨rfl, pw_below_drewN (Below.refl _ _) nq⟩
set_option maxRecDepth 100000 in
set_option maxHeartbeats 4000000 in
theorem no_same (lo g : Nat) (h : Int) (xs : List (List Int)) (hx4 : xs.length ≤ 100000) (i : Nat) (hi : i < xs.length) (W : World) (y : YO lo W g h xs) :
    Calls Try.prog 55 #[.pointer (some ⟨g, 0, none⟩), .int .i64 (i : Int), .int .i64 (i : Int)] W fun e w' => e = .returned (.bool false) ∧ Below W.heap.size W w' := by
  obtain ⟨A, c, hb, -, -, hS⟩ := y
  obtain ⟨n, hn⟩ : ∃ n, n = xs.length := ⟨_, rfl⟩
  rw [← hn] at hb hS
  have bx0 : W.cell? ⟨g, 0, none⟩ = some (.int .i64 h) := (blk_cell hb 0).trans rfl
  have bx1 : W.cell? ⟨g, 1, none⟩ = some (.slice A n c) := (blk_cell hb 1).trans rfl
  obtain ⟨m, hm⟩ : ∃ m, IntKind.i64.wrap ((n : Int) - 1) = m := ⟨_, rfl⟩
  have hmv : m = (n : Int) - 1 := by rw [← hm, i64_w]; unfold wrap64; omega
  have hn4 : n ≤ 100000 := by omega
  have H1 := Aside0.mk (show spec_l00In.f (i : Int) 0 m = some true by rw [in_eq]; unfold Ha.inB; rw [hmv]; simp; omega)
  have e1 : ((i : Int) == (i : Int)) = true := beq_self_eq_true _
  have HMV := Aside0.mk hmv
  have HN := Aside0.mk hn
  clear hmv hn hb hS
  go_enter Try.func55, Try.ntmps55
  go_wp2_with (fail)
  go_quiet (first | (go_at_call 62; (with_reducible refine (spec_l00In.calls (i : Int) 0 m true _ H1.out).mono ?_); rintro e w' ⟨rfl, ⟨nd, rfl⟩⟩; (try first | exact ⟨rfl, _, World.drewN_drewN _ _ _⟩ | exact ⟨rfl, _, Eq.trans (World.drewN_drewN _ _ _) (congrArg (World.drewN _) (Nat.add_assoc _ _ _))⟩)))
  go_wp2_with (fail)
  go_ret
  exact ⟨rfl, pw_below_drewN (Below.refl _ _) nq⟩
set_option maxRecDepth 100000 in
set_option maxHeartbeats 4000000 in
theorem no_lot (lo g : Nat) (h : Int) (xs : List (List Int)) (hx4 : xs.length ≤ 100000) (i j : Nat) (hi : i < xs.length) (hj : j < xs.length) (hij : i ≠ j) (h1 : xs[i].length = 0) (W : World) (y : YO lo W g h xs) :
    Calls Try.prog 55 #[.pointer (some ⟨g, 0, none⟩), .int .i64 (i : Int), .int .i64 (j : Int)] W fun e w' => e = .returned (.bool false) ∧ Below W.heap.size W w' := by
  obtain ⟨A, c, hb, -, -, hS⟩ := y
  obtain ⟨n, hn⟩ : ∃ n, n = xs.length := ⟨_, rfl⟩
  rw [← hn] at hb hS
  have bx0 : W.cell? ⟨g, 0, none⟩ = some (.int .i64 h) := (blk_cell hb 0).trans rfl
  have bx1 : W.cell? ⟨g, 1, none⟩ = some (.slice A n c) := (blk_cell hb 1).trans rfl
  obtain ⟨m, hm⟩ : ∃ m, IntKind.i64.wrap ((n : Int) - 1) = m := ⟨_, rfl⟩
  have hmv : m = (n : Int) - 1 := by rw [← hm, i64_w]; unfold wrap64; omega
  have hn4 : n ≤ 100000 := by omega
  have H1 := Aside0.mk (show spec_l00In.f (i : Int) 0 m = some true by rw [in_eq]; unfold Ha.inB; rw [hmv]; simp; omega)
  have H2 := Aside0.mk (show spec_l00In.f (j : Int) 0 m = some true by rw [in_eq]; unfold Ha.inB; rw [hmv]; simp; omega)
  have e1 : ((i : Int) == (j : Int)) = false := beq_eq_false_iff_ne.2 (by omega)
  obtain ⟨gs, rfl⟩ : ∃ gs, A = some ⟨gs, 0, none⟩ := by
    obtain ⟨gs, cap, he, _⟩ := Kd.S_form hS (by omega)
    injection he with he _ _
    exact ⟨gs, he⟩
  obtain ⟨f, hf⟩ := rows_f hS
  obtain ⟨urI, k1, -, k2⟩ := hf i hi
  obtain ⟨rI, hrrI⟩ : ∃ r, r = xs[i] := ⟨_, rfl⟩
  rw [← hrrI] at k2
  obtain ⟨AI, cI, rfl⟩ := Kd.R_slice k2
  have xI : W.cell? ⟨gs, i, none⟩ = some (.slice AI rI.length cI) := k1
  have lI := (Kd.R_reads' k2).2.2.2.1
  clear k1 k2
  rw [← hrrI] at h1
  have e2 : ((rI.length : Int) == 0) = true := beq_iff_eq.2 (by omega)
  have HRI := Aside0.mk hrrI
  have pi : (0 ≤ (i : Int)) = True := eq_true (by omega)
  have qi : ((i : Int) < (n : Int)) = True := eq_true (by omega)
  have HMV := Aside0.mk hmv
  have HN := Aside0.mk hn
  clear hmv hn hb hS hf hrrI h1 hij
  go_enter Try.func55, Try.ntmps55
  go_wp2_with (fail)
  go_quiet (first | (go_at_call 62; (with_reducible refine (spec_l00In.calls (i : Int) 0 m true _ H1.out).mono ?_); rintro e w' ⟨rfl, ⟨nd, rfl⟩⟩; (try first | exact ⟨rfl, _, World.drewN_drewN _ _ _⟩ | exact ⟨rfl, _, Eq.trans (World.drewN_drewN _ _ _) (congrArg (World.drewN _) (Nat.add_assoc _ _ _))⟩)) | (go_at_call 62; (with_reducible refine (spec_l00In.calls (j : Int) 0 m true _ H2.out).mono ?_); rintro e w' ⟨rfl, ⟨nd, rfl⟩⟩; (try first | exact ⟨rfl, _, World.drewN_drewN _ _ _⟩ | exact ⟨rfl, _, Eq.trans (World.drewN_drewN _ _ _) (congrArg (World.drewN _) (Nat.add_assoc _ _ _))⟩)))
  go_wp2_with (fail)
  go_ret
  exact ⟨rfl, pw_below_drewN (Below.refl _ _) nq⟩
set_option maxRecDepth 100000 in
set_option maxHeartbeats 4000000 in
theorem no_room (lo g : Nat) (h : Int) (xs : List (List Int)) (hx4 : xs.length ≤ 100000) (i j : Nat) (hi : i < xs.length) (hj : j < xs.length) (hij : i ≠ j) (h1 : 0 < xs[i].length) (h2 : h ≤ (xs[j].length : Int)) (W : World) (y : YO lo W g h xs) :
    Calls Try.prog 55 #[.pointer (some ⟨g, 0, none⟩), .int .i64 (i : Int), .int .i64 (j : Int)] W fun e w' => e = .returned (.bool false) ∧ Below W.heap.size W w' := by
  obtain ⟨A, c, hb, -, -, hS⟩ := y
  obtain ⟨n, hn⟩ : ∃ n, n = xs.length := ⟨_, rfl⟩
  rw [← hn] at hb hS
  have bx0 : W.cell? ⟨g, 0, none⟩ = some (.int .i64 h) := (blk_cell hb 0).trans rfl
  have bx1 : W.cell? ⟨g, 1, none⟩ = some (.slice A n c) := (blk_cell hb 1).trans rfl
  obtain ⟨m, hm⟩ : ∃ m, IntKind.i64.wrap ((n : Int) - 1) = m := ⟨_, rfl⟩
  have hmv : m = (n : Int) - 1 := by rw [← hm, i64_w]; unfold wrap64; omega
  have hn4 : n ≤ 100000 := by omega
  have H1 := Aside0.mk (show spec_l00In.f (i : Int) 0 m = some true by rw [in_eq]; unfold Ha.inB; rw [hmv]; simp; omega)
  have H2 := Aside0.mk (show spec_l00In.f (j : Int) 0 m = some true by rw [in_eq]; unfold Ha.inB; rw [hmv]; simp; omega)
  have e1 : ((i : Int) == (j : Int)) = false := beq_eq_false_iff_ne.2 (by omega)
  obtain ⟨gs, rfl⟩ : ∃ gs, A = some ⟨gs, 0, none⟩ := by
    obtain ⟨gs, cap, he, _⟩ := Kd.S_form hS (by omega)
    injection he with he _ _
    exact ⟨gs, he⟩
  obtain ⟨f, hf⟩ := rows_f hS
  obtain ⟨urI, k1, -, k2⟩ := hf i hi
  obtain ⟨rI, hrrI⟩ : ∃ r, r = xs[i] := ⟨_, rfl⟩
  rw [← hrrI] at k2
  obtain ⟨AI, cI, rfl⟩ := Kd.R_slice k2
  have xI : W.cell? ⟨gs, i, none⟩ = some (.slice AI rI.length cI) := k1
  have lI := (Kd.R_reads' k2).2.2.2.1
  clear k1 k2
  rw [← hrrI] at h1
  have e2 : ((rI.length : Int) == 0) = false := beq_eq_false_iff_ne.2 (by omega)
  have HRI := Aside0.mk hrrI
  obtain ⟨urJ, k1, -, k2⟩ := hf j hj
  obtain ⟨rJ, hrrJ⟩ : ∃ r, r = xs[j] := ⟨_, rfl⟩
  rw [← hrrJ] at k2
  obtain ⟨AJ, cJ, rfl⟩ := Kd.R_slice k2
  have xJ : W.cell? ⟨gs, j, none⟩ = some (.slice AJ rJ.length cJ) := k1
  have lJ := (Kd.R_reads' k2).2.2.2.1
  clear k1 k2
  rw [← hrrJ] at h2
  have e3 : decide (h ≤ (rJ.length : Int)) = true := decide_eq_true h2
  have HRJ := Aside0.mk hrrJ
  have pi : (0 ≤ (i : Int)) = True := eq_true (by omega)
  have qi : ((i : Int) < (n : Int)) = True := eq_true (by omega)
  have pj : (0 ≤ (j : Int)) = True := eq_true (by omega)
  have qj : ((j : Int) < (n : Int)) = True := eq_true (by omega)
  have HMV := Aside0.mk hmv
  have HN := Aside0.mk hn
  clear hmv hn hb hS hf hrrI hrrJ h1 h2 hij
  go_enter Try.func55, Try.ntmps55
  go_wp2_with (fail)
  go_quiet (first | (go_at_call 62; (with_reducible refine (spec_l00In.calls (i : Int) 0 m true _ H1.out).mono ?_); rintro e w' ⟨rfl, ⟨nd, rfl⟩⟩; (try first | exact ⟨rfl, _, World.drewN_drewN _ _ _⟩ | exact ⟨rfl, _, Eq.trans (World.drewN_drewN _ _ _) (congrArg (World.drewN _) (Nat.add_assoc _ _ _))⟩)) | (go_at_call 62; (with_reducible refine (spec_l00In.calls (j : Int) 0 m true _ H2.out).mono ?_); rintro e w' ⟨rfl, ⟨nd, rfl⟩⟩; (try first | exact ⟨rfl, _, World.drewN_drewN _ _ _⟩ | exact ⟨rfl, _, Eq.trans (World.drewN_drewN _ _ _) (congrArg (World.drewN _) (Nat.add_assoc _ _ _))⟩)))
  go_wp2_with (fail)
  go_ret
  exact ⟨rfl, pw_below_drewN (Below.refl _ _) nq⟩
end Go.Proofs.Ytibaiaenfeppcaa.Yx

-- made by a patched copy of print.sh: this session's own
namespace Go.Proofs.Ytibaiaenfeppcaa.Q
open Go.RowKit Go.Proofs.YtibaiaenfeppcaaW.PrintWords Go.Proofs.YtibaiaenfeppcaaW.PrintLast Go.Proofs.YtibaiaenfeppcaaW.PrintMore
attribute [local go_sem] max2_int min2_int max_two min_two max_three min_three max_four min_four   -- for this text's walks alone
set_option linter.unusedVariables false
set_option linter.unusedSimpArgs false

/-! ### impl_Yard_cloned: function 72 -/
def impl_Yard_cloned.l0 : Nat → List (List Int) → Int → Int → Int → List (List Int) → Option (Int × (List (List Int)))
  | 0, _, _, _, _, _ => none
  | k + 1, x10, x11, x12, x423000, x423001 => if x12 < x11 then (if 0 ≤ x12 then (if x12 < (x10.length : Int) then ((some (([] : List Int) : List Int)).bind fun y424 => (if y424.length + (rd_L1 x10 x12).length < 17592186044416 then (if x423001.length < 5864062014805 then (impl_Yard_cloned.l0 k x10 x11 (wrap64 (x12 + 1)) x423000 (x423001 ++ [(y424 ++ (rd_L1 x10 x12))])) else (none)) else (none))) else (none)) else (none)) else (some (x423000, x423001))
def impl_Yard_cloned.f (k : Nat) (a0_0 : Int) (l0_1 : List (List Int)) : Option (Int × (List (List Int))) := impl_Yard_cloned.l0 k l0_1 (l0_1.length : Int) 0 a0_0 ([] : List (List Int))
def impl_Yard_cloned.T5 : Bool × List (List Nat × List Nat) := (true, [([], []), ([0], [0]), ([], []), ([], []), ([2, 3], [2, 3]), ([4], [4]), ([1, 5, 4], [1, 5]), ([0, 1, 2, 3, 4, 5, 6], []), ([7, 6, 6, 0, 1, 2, 3, 4, 5, 6], [6, 7])])
def impl_Yard_cloned.B5 : List Nat := [0, 1, 0, 0, 12, 28, 63, 127, 255]
theorem impl_Yard_cloned.tab5 : rtab .any (opsOf Try.f72 5) = impl_Yard_cloned.T5 := by kernel_rfl
theorem impl_Yard_cloned.bits5 : waitsOk impl_Yard_cloned.T5.2 impl_Yard_cloned.B5 = true := by kernel_rfl
set_option maxHeartbeats 8000000 in
set_option maxRecDepth 100000 in
theorem impl_Yard_cloned.calls (k : Nat) (a0_0 : Int) (A0_1 : Option Addr) (c0_1 : Nat) (l0_1 : List (List Int)) (r1 : Int) (r2 : List (List Int)) (w : World) (hr0_1 : Kd.C (Kd.slice 2 (Kd.int .i64)) w A0_1 l0_1.length l0_1) (hc0_1 : l0_1.length ≤ c0_1) (h : impl_Yard_cloned.f k a0_0 l0_1 = some (r1, r2)) :
    Calls Try.prog 72 #[.agg #[.int .i64 a0_0, .slice A0_1 l0_1.length c0_1]] w fun e w' => ∃ v1_ : Value, e = .returned (.agg #[.int .i64 r1, v1_]) ∧ Kd.S (Kd.slice 2 (Kd.int .i64)) 31 w' w.heap.size (fun _ => True) v1_ r2 ∧ Below w.heap.size w w' := by
  have hu27 := Try.underlying27
  have HR0_1 := Aside0.mk hr0_1
  have HC0_1 := Aside0.mk hc0_1
  clear hr0_1 hc0_1
  have HB := Aside0.mk (Below.refl w.heap.size w)
  have H : (impl_Yard_cloned.l0 k l0_1 (l0_1.length : Int) 0 a0_0 ([] : List (List Int))) = some (r1, r2) := h
  clear h
  have H' := Aside0.mk H
  clear H
  go_enter Try.func72, Try.ntmps72
  go_wp2_with (first | ((with_reducible refine gate_dst (N := 1) rfl ?_); refine box_event ?hg (N := 1) ?hd (cs := #[.int .i64 a0_0, .slice A0_1 l0_1.length c0_1]) (t := 27) ?hr ?_; (case hd => rfl); (case hg => rfl); (case hr => first | (go_simp; done) | (go_simp; rfl)); intro gb420 hg w2 hbox hb; have n0_ := Aside0.mk (below_step (by repeat (first | (with_reducible first | exact HB.out | apply below_alloc | apply pw_below_drewN | apply below_drew1) | exact HB.out)) hb); have n1_ := Aside0.mk (hbox); have n2_ := Aside0.mk ((by rw [hg]; exact (below_size (by repeat (first | (with_reducible first | exact HB.out | apply below_alloc | apply pw_below_drewN | apply below_drew1) | exact HB.out))) : w.heap.size ≤ gb420)); have n3_ := Aside0.mk ((by rw [hg]; exact (below_size (by repeat (first | (with_reducible first | exact HB.out | apply below_alloc | apply pw_below_drewN | apply below_drew1) | exact HB.out))) : w.heap.size ≤ gb420)); clear HB; have HB := n0_; have BK420 := n1_; have GW420 := n2_; have GE420 := n3_; clear n0_ n1_ n2_ n3_; clear hb hbox hg) | ((with_reducible refine gate_dst (N := 2) rfl ?_); refine box_event ?hg (N := 2) ?hd (cs := #[.int .i64 0, .slice none 0 0]) (t := 27) ?hr ?_; (case hd => rfl); (case hg => rfl); (case hr => first | (go_simp; done) | (go_simp; rfl)); intro gb421 hg w3 hbox hb; have n0_ := Aside0.mk (blk_below (g := gb420) (o := .cells #[.int .i64 a0_0, .slice A0_1 l0_1.length c0_1] 27 (0, 0)) (by (with_reducible repeat (first | refine blk_drewN ?_ _ | refine blk_drew ?_ | refine blk_alloc ?_ _)); exact BK420.out) hb); have n1_ := Aside0.mk (below_step (by repeat (first | (with_reducible first | exact HB.out | apply below_alloc | apply pw_below_drewN | apply below_drew1 | refine below_set ?_ GE420.out) | exact HB.out)) hb); have n2_ := Aside0.mk (hbox); have n3_ := Aside0.mk ((by rw [hg]; exact (below_size (by repeat (first | (with_reducible first | exact HB.out | apply below_alloc | apply pw_below_drewN | apply below_drew1 | refine below_set ?_ GE420.out) | exact HB.out))) : w.heap.size ≤ gb421)); have n4_ := Aside0.mk ((by rw [hg]; exact (below_size (by repeat (first | (with_reducible first | exact HB.out | apply below_alloc | apply pw_below_drewN | apply below_drew1 | refine below_set ?_ GE420.out) | exact HB.out))) : w.heap.size ≤ gb421)); have n5_ := Aside0.mk ((by rw [hg]; exact Nat.ne_of_lt (blk_lt (g := gb420) (o := .cells #[.int .i64 a0_0, .slice A0_1 l0_1.length c0_1] 27 (0, 0)) (by (with_reducible repeat (first | refine blk_drewN ?_ _ | refine blk_drew ?_ | refine blk_alloc ?_ _)); exact BK420.out)) : gb420 ≠ gb421)); have n6_ := Aside0.mk ((by rw [hg]; exact Nat.ne_of_gt (blk_lt (g := gb420) (o := .cells #[.int .i64 a0_0, .slice A0_1 l0_1.length c0_1] 27 (0, 0)) (by (with_reducible repeat (first | refine blk_drewN ?_ _ | refine blk_drew ?_ | refine blk_alloc ?_ _)); exact BK420.out)) : gb421 ≠ gb420)); clear BK420; clear HB; have BK420 := n0_; have HB := n1_; have BK421 := n2_; have GW421 := n3_; have GE421 := n4_; have NB420_421 := n5_; have NB421_420 := n6_; clear n0_ n1_ n2_ n3_ n4_ n5_ n6_; clear hb hbox hg; have hnb4 := NB420_421.out; have hnc4 := NB421_420.out; have hcz5_0 : w3.cell? ⟨gb420, 0, none⟩ = some (.int .i64 a0_0) := (blk_cell BK420.out 0).trans rfl; have hcz5_1 : w3.cell? ⟨gb420, 1, none⟩ = some (.slice A0_1 l0_1.length c0_1) := (blk_cell BK420.out 1).trans rfl; have hfz5_0 := blk_frozen BK420.out 0; have hfz5_1 := blk_frozen BK420.out 1) | ((with_reducible refine gate_dst (N := 3) rfl ?_); refine box_event ?hg (N := 3) ?hd (cs := #[.int .i64 0, .slice none 0 0]) (t := 27) ?hr ?_; (case hd => rfl); (case hg => rfl); (case hr => first | (go_simp; done) | (go_simp; rfl)); intro gb422 hg w6 hbox hb; have n0_ := Aside0.mk (blk_below (g := gb420) (o := .cells #[.int .i64 a0_0, .slice A0_1 l0_1.length c0_1] 27 (0, 0)) (by (with_reducible repeat (first | refine blk_drewN ?_ _ | refine blk_drew ?_ | refine blk_alloc ?_ _)); exact BK420.out) hb); have n1_ := Aside0.mk (blk_below (g := gb421) (o := .cells #[.int .i64 0, .slice none 0 0] 27 (0, 0)) (by (with_reducible repeat (first | refine blk_drewN ?_ _ | refine blk_drew ?_ | refine blk_alloc ?_ _)); exact BK421.out) hb); have n2_ := Aside0.mk (below_step (by repeat (first | (with_reducible first | exact HB.out | apply below_alloc | apply pw_below_drewN | apply below_drew1 | refine below_set ?_ GE420.out | refine below_set ?_ GE421.out) | exact HB.out)) hb); have n3_ := Aside0.mk (hbox); have n4_ := Aside0.mk ((by rw [hg]; exact (below_size (by repeat (first | (with_reducible first | exact HB.out | apply below_alloc | apply pw_below_drewN | apply below_drew1 | refine below_set ?_ GE420.out | refine below_set ?_ GE421.out) | exact HB.out))) : w.heap.size ≤ gb422)); have n5_ := Aside0.mk ((by rw [hg]; exact (below_size (by repeat (first | (with_reducible first | exact HB.out | apply below_alloc | apply pw_below_drewN | apply below_drew1 | refine below_set ?_ GE420.out | refine below_set ?_ GE421.out) | exact HB.out))) : w.heap.size ≤ gb422)); have n6_ := Aside0.mk ((by rw [hg]; exact Nat.ne_of_lt (blk_lt (g := gb420) (o := .cells #[.int .i64 a0_0, .slice A0_1 l0_1.length c0_1] 27 (0, 0)) (by (with_reducible repeat (first | refine blk_drewN ?_ _ | refine blk_drew ?_ | refine blk_alloc ?_ _)); exact BK420.out)) : gb420 ≠ gb422)); have n7_ := Aside0.mk ((by rw [hg]; exact Nat.ne_of_gt (blk_lt (g := gb420) (o := .cells #[.int .i64 a0_0, .slice A0_1 l0_1.length c0_1] 27 (0, 0)) (by (with_reducible repeat (first | refine blk_drewN ?_ _ | refine blk_drew ?_ | refine blk_alloc ?_ _)); exact BK420.out)) : gb422 ≠ gb420)); have n8_ := Aside0.mk ((by rw [hg]; exact Nat.ne_of_lt (blk_lt (g := gb421) (o := .cells #[.int .i64 0, .slice none 0 0] 27 (0, 0)) (by (with_reducible repeat (first | refine blk_drewN ?_ _ | refine blk_drew ?_ | refine blk_alloc ?_ _)); exact BK421.out)) : gb421 ≠ gb422)); have n9_ := Aside0.mk ((by rw [hg]; exact Nat.ne_of_gt (blk_lt (g := gb421) (o := .cells #[.int .i64 0, .slice none 0 0] 27 (0, 0)) (by (with_reducible repeat (first | refine blk_drewN ?_ _ | refine blk_drew ?_ | refine blk_alloc ?_ _)); exact BK421.out)) : gb422 ≠ gb421)); clear BK420; clear BK421; clear HB; have BK420 := n0_; have BK421 := n1_; have HB := n2_; have BK422 := n3_; have GW422 := n4_; have GE422 := n5_; have NB420_422 := n6_; have NB422_420 := n7_; have NB421_422 := n8_; have NB422_421 := n9_; clear n0_ n1_ n2_ n3_ n4_ n5_ n6_ n7_ n8_ n9_; clear hb hbox hg; have hnb7 := NB422_420.out; have hnc7 := NB420_422.out; have hnb8 := NB422_421.out; have hnc8 := NB421_422.out; have hcz9_0 : w6.cell? ⟨gb422, 0, none⟩ = some (.int .i64 0) := (blk_cell BK422.out 0).trans rfl; have hcz9_1 : w6.cell? ⟨gb422, 1, none⟩ = some (.slice none 0 0) := (blk_cell BK422.out 1).trans rfl; have hfz9_0 := blk_frozen BK422.out 0; have hfz9_1 := blk_frozen BK422.out 1; have hcz10_0 : w6.cell? ⟨gb420, 0, none⟩ = some (.int .i64 a0_0) := (blk_cell BK420.out 0).trans rfl; have hcz10_1 : w6.cell? ⟨gb420, 1, none⟩ = some (.slice A0_1 l0_1.length c0_1) := (blk_cell BK420.out 1).trans rfl; have hfz10_0 := blk_frozen BK420.out 0; have hfz10_1 := blk_frozen BK420.out 1))
  go_loopg [12] k (fun kq v12 w' => ∃ (x12_1 : Int) (x423001_1 : List (List Int)) (u423001 : Value), v12 = .int .i64 x12_1 ∧ Aside0 (impl_Yard_cloned.l0 kq l0_1 (l0_1.length : Int) x12_1 a0_0 x423001_1 = some (r1, r2)) ∧ Aside0 (kq ≤ k) ∧ Aside0 (Kd.S (Kd.slice 2 (Kd.int .i64)) 31 w' w.heap.size (fun _ => True) u423001 x423001_1) ∧ Aside0 (w'.heap[gb420]? = some (.cells #[.int .i64 a0_0, (.slice A0_1 l0_1.length c0_1)] 27 (0, 0))) ∧ Aside0 (w'.heap[gb421]? = some (.cells #[.int .i64 0, (.slice none 0 0)] 27 (0, 0))) ∧ Aside0 (w'.heap[gb422]? = some (.cells #[.int .i64 a0_0, u423001] 27 (0, 0))) ∧ Aside0 (Below w.heap.size w w'))
  case atStart => exact ⟨(0), (([] : List (List Int))), (.slice none 0 0), (by first | rfl | (simp; done) | (simp [*]; done)), H', ⟨Nat.le_refl _⟩, ⟨by first | exact Kd.S_nil _ _ _ _ _ | exact Kd.N_nil _ _ _ _ _ | exact Kd.V_nil _ _ _ _ _ | exact Kd.Q_nil _ _ _ _ _ | exact Kd.R_nil _ _ _ _ _⟩, ⟨by (with_reducible repeat (first | refine blk_drewN ?_ _ | refine blk_drew ?_ | refine blk_alloc ?_ _)); refine blk_far ?_ NB420_422.out _; (with_reducible repeat (first | refine blk_drewN ?_ _ | refine blk_drew ?_ | refine blk_alloc ?_ _)); refine blk_far ?_ NB420_422.out _; (with_reducible repeat (first | refine blk_drewN ?_ _ | refine blk_drew ?_ | refine blk_alloc ?_ _)); exact BK420.out⟩, ⟨by (with_reducible repeat (first | refine blk_drewN ?_ _ | refine blk_drew ?_ | refine blk_alloc ?_ _)); refine blk_far ?_ NB421_422.out _; (with_reducible repeat (first | refine blk_drewN ?_ _ | refine blk_drew ?_ | refine blk_alloc ?_ _)); refine blk_far ?_ NB421_422.out _; (with_reducible repeat (first | refine blk_drewN ?_ _ | refine blk_drew ?_ | refine blk_alloc ?_ _)); exact BK421.out⟩, ⟨by (with_reducible repeat (first | refine blk_drewN ?_ _ | refine blk_drew ?_ | refine blk_alloc ?_ _)); refine blk_put (cs := #[.int .i64 a0_0, .slice none 0 0]) ?_ 1 _ rfl; (with_reducible repeat (first | refine blk_drewN ?_ _ | refine blk_drew ?_ | refine blk_alloc ?_ _)); refine blk_put (cs := #[.int .i64 0, .slice none 0 0]) ?_ 0 _ rfl; (with_reducible repeat (first | refine blk_drewN ?_ _ | refine blk_drew ?_ | refine blk_alloc ?_ _)); exact BK422.out⟩, ⟨by repeat (first | (with_reducible first | exact HB.out | apply below_alloc | apply pw_below_drewN | apply below_drew1 | refine below_set ?_ GE420.out | refine below_set ?_ GE421.out | refine below_set ?_ GE422.out) | exact HB.out)⟩⟩
  case round =>
    clear H'
    try clear p2
    try clear c4
    try clear c7
    try clear c8
    try clear hcz10_0
    try clear hcz10_1
    try clear hcz5_0
    try clear hcz5_1
    try clear hcz9_0
    try clear hcz9_1
    try clear hfz10_0
    try clear hfz10_1
    try clear hfz5_0
    try clear hfz5_1
    try clear hfz9_0
    try clear hfz9_1
    obtain ⟨x12_1, x423001_1, u423001, rfl, HA, HK1, HO_423001, BK420, BK421, BK422, HB⟩ := hrel
    cases gk with
    | zero => exact absurd HA.out (by simp [impl_Yard_cloned.l0])
    | succ k1 =>
      have H := HA.out
      clear HA
      simp only [impl_Yard_cloned.l0] at H
      by_cases c11 : x12_1 < (l0_1.length : Int)
      · rw [if_pos c11] at H
        have c11b0 : decide (x12_1 < (l0_1.length : Int)) = true := decide_eq_true c11
        clear c11
        by_cases c12 : 0 ≤ x12_1
        · rw [if_pos c12] at H
          have c12b0 : decide (0 ≤ x12_1) = true := decide_eq_true c12
          clear c12
          by_cases c13 : x12_1 < (l0_1.length : Int)
          · rw [if_pos c13] at H
            have c13b0 : decide (x12_1 < (l0_1.length : Int)) = true := decide_eq_true c13
            clear c13
            obtain ⟨y424, hy424⟩ : ∃ y_ : List Int, y_ = (([] : List Int)) := ⟨_, rfl⟩
            replace H : (if y424.length + (rd_L1 l0_1 x12_1).length < 17592186044416 then (if x423001_1.length < 5864062014805 then (impl_Yard_cloned.l0 k1 l0_1 (l0_1.length : Int) (wrap64 (x12_1 + 1)) a0_0 (x423001_1 ++ [(y424 ++ (rd_L1 l0_1 x12_1))])) else (none)) else (none)) = some (r1, r2) := by first | (rw [hy424]; with_reducible exact H) | (have H2_ := (Option.bind_some _ _).symm.trans H; rw [hy424]; with_reducible exact H2_) | (have H2_ := (Option.bind_some _ _).symm.trans H; with_reducible exact H2_) | with_reducible exact H | (rw [hy424]; exact H) | exact H
            have Ny424 := Aside0.mk hy424
            clear hy424
            by_cases c14 : y424.length + (rd_L1 l0_1 x12_1).length < 17592186044416
            · rw [if_pos c14] at H
              have LMc14 := Aside0.mk c14
              clear c14
              obtain ⟨y427, hy427⟩ : ∃ y_ : List Int, y_ = (y424 ++ (rd_L1 l0_1 x12_1)) := ⟨_, rfl⟩
              replace H : (if x423001_1.length < 5864062014805 then (impl_Yard_cloned.l0 k1 l0_1 (l0_1.length : Int) (wrap64 (x12_1 + 1)) a0_0 (x423001_1 ++ [y427])) else (none)) = some (r1, r2) := by first | (rw [hy427]; with_reducible exact H) | (have H2_ := (Option.bind_some _ _).symm.trans H; rw [hy427]; with_reducible exact H2_) | (have H2_ := (Option.bind_some _ _).symm.trans H; with_reducible exact H2_) | with_reducible exact H | (rw [hy427]; exact H) | exact H
              have Ny427 := Aside0.mk hy427
              clear hy427
              by_cases c15 : x423001_1.length < 5864062014805
              · rw [if_pos c15] at H
                have LMc15 := Aside0.mk c15
                clear c15
                obtain ⟨y430, hy430⟩ : ∃ y_ : List (List Int), y_ = (x423001_1 ++ [y427]) := ⟨_, rfl⟩
                replace H : (impl_Yard_cloned.l0 k1 l0_1 (l0_1.length : Int) (wrap64 (x12_1 + 1)) a0_0 y430) = some (r1, r2) := by first | (rw [hy430]; with_reducible exact H) | (have H2_ := (Option.bind_some _ _).symm.trans H; rw [hy430]; with_reducible exact H2_) | (have H2_ := (Option.bind_some _ _).symm.trans H; with_reducible exact H2_) | with_reducible exact H | (rw [hy430]; exact H) | exact H
                have Ny430 := Aside0.mk hy430
                clear hy430
                have H' := Aside0.mk H
                clear H
                have p423 : 0 ≤ (x12_1 : Int) := of_decide_eq_true (by first | (with_reducible assumption) | assumption)
                have q423 : x12_1 < (l0_1.length : Int) := of_decide_eq_true (by first | (with_reducible assumption) | assumption)
                obtain ⟨ad423, A423_0, c423_0, e423, hx423_0, hl423_0, hi423_0⟩ := at_L1 HR0_1.out x12_1 p423 q423
                cases e423
                replace hx423_0 := (HB.out.cell (World.block_lt_of_cell? w _ hx423_0)).trans hx423_0
                have HR423_0 := Aside0.mk hi423_0
                have HC423_0 := Aside0.mk hl423_0
                clear hi423_0 hl423_0
                replace p423 := eq_true p423
                replace q423 := eq_true q423
                try go_wp2
                have n0_ := Aside0.mk (Kd.S_drew HO_423001.out)
                have n1_ := Aside0.mk (blk_drew BK420.out)
                have n2_ := Aside0.mk (blk_drew BK421.out)
                have n3_ := Aside0.mk (blk_drew BK422.out)
                have n4_ := Aside0.mk (below_drew1 HB.out)
                clear HO_423001
                clear BK420
                clear BK421
                clear BK422
                clear HB
                have HO_423001 := n0_
                have BK420 := n1_
                have BK421 := n2_
                have BK422 := n3_
                have HB := n4_
                clear n0_ n1_ n2_ n3_ n4_
                refine start_ (n := 9) (S := fun w' => w'.cell? ⟨gb422, 0, none⟩ = some (.int .i64 a0_0) ∧ w'.cell? ⟨gb422, 1, none⟩ = some (u423001)) (ds := [8]) #[false, false, false, false, false, false, false, false, false] (by kernel_rfl) rfl rfl ⟨(blk_cell BK422.out 0).trans rfl, (blk_cell BK422.out 1).trans rfl⟩ (fun hHeld => ?_); refine with_tabW impl_Yard_cloned.tab5 impl_Yard_cloned.bits5 (fun HT_ HW_ => ?_)
                generalize wr.drew = w16 at HO_423001 BK420 BK421 BK422 HB hHeld ⊢
                refine pure_ (i := 0) (N := some 16) (v := ?_) (a' := ?_) #[true, false, false, false, false, false, false, false, false] rfl rfl (any_of HT_.out (by kernel_rfl)) (fun _ _ _ h => h) (Or.inl ⟨by rfl, ?_⟩) ?_ ?_
                rotate_left
                · intro w'
                  go_simp
                  with_reducible rfl
                rotate_left
                · simp only [Act.put, List.setIfInBounds_toArray, List.set_cons_zero, List.set_cons_succ, i64_w, i32_w]
                  rfl
                refine pure_ (i := 3) (N := some 19) (v := ?_) (a' := ?_) #[true, false, false, true, false, false, false, false, false] rfl rfl (any_of HT_.out (by kernel_rfl)) (fun _ _ _ h => h) (Or.inl ⟨by rfl, ?_⟩) ?_ ?_
                rotate_left
                · intro w'
                  go_simp
                  with_reducible rfl
                rotate_left
                · simp only [Act.put, List.setIfInBounds_toArray, List.set_cons_zero, List.set_cons_succ, i64_w, i32_w]
                  rfl
                refine take_ (i := 1) (N := some 17) (v := ?_) (a' := ?_) #[true, true, false, true, false, false, false, false, false] rfl rfl (take_ofW HT_.out HW_.out (by kernel_rfl)) (fun _ _ _ h => h) (Or.inl ⟨by rfl, ?_⟩) hHeld ?_ ?_
                rotate_left
                · rintro w' ⟨s0, s1⟩
                  go_simp
                  with_reducible rfl
                rotate_left
                · simp only [Act.put, List.setIfInBounds_toArray, List.set_cons_zero, List.set_cons_succ, i64_w, i32_w]
                  rfl
                refine one_ (i := 2) (N := some 18) #[true, true, true, true, false, false, false, false, false] rfl rfl (one_of HT_.out (by kernel_rfl)) (by decide) (fun K hK => ?_)
                refine Kd.R_lit_step (Kd.int .i64) _ 2 ?hg (N := 18) ?hd (xs := ([] : List Int)) (inner := []) (ok := fun _ => True) (okp := fun _ => True) ?hr ?hp (fun _ hk => hk) trivial (Below.refl _ _) (Nat.le_refl _) (by simp) ?_; (case hd => rfl); (case hg => rfl); (case hr => first | (go_simp; done) | (go_simp; rfl)); (case hp => exact (Reps.none _ _))
                intro v425 w17 ho18 hb hg_ hnew_
                clear hg_ hnew_
                (first | rw [← Ny424.out] at ho18 | (simp only [Int.reduceToNat] at ho18; rw [← Ny424.out] at ho18))
                have n0_ := Aside0.mk (Kd.S_elder' (by (with_reducible repeat (first | apply Kd.S_alloc | apply Kd.S_drewN | apply Kd.S_drew)); exact HO_423001.out) (Kd.R_base ho18) hb)
                have n1_ := Aside0.mk (Kd.R_lower ho18 (below_size (by repeat (first | (with_reducible first | exact HB.out | apply below_alloc | apply pw_below_drewN | apply below_drew1 | refine below_set ?_ GE420.out | refine below_set ?_ GE421.out | refine below_set ?_ GE422.out) | exact HB.out))))
                have n2_ := Aside0.mk (blk_below (g := gb420) (o := .cells #[.int .i64 a0_0, .slice (some ad423) l0_1.length c0_1] 27 (0, 0)) (by (with_reducible repeat (first | refine blk_drewN ?_ _ | refine blk_drew ?_ | refine blk_alloc ?_ _)); exact BK420.out) hb)
                have n3_ := Aside0.mk (blk_below (g := gb421) (o := .cells #[.int .i64 0, .slice none 0 0] 27 (0, 0)) (by (with_reducible repeat (first | refine blk_drewN ?_ _ | refine blk_drew ?_ | refine blk_alloc ?_ _)); exact BK421.out) hb)
                have n4_ := Aside0.mk (blk_below (g := gb422) (o := .cells #[.int .i64 a0_0, u423001] 27 (0, 0)) (by (with_reducible repeat (first | refine blk_drewN ?_ _ | refine blk_drew ?_ | refine blk_alloc ?_ _)); exact BK422.out) hb)
                have n5_ := Aside0.mk (below_step (by repeat (first | (with_reducible first | exact HB.out | apply below_alloc | apply pw_below_drewN | apply below_drew1 | refine below_set ?_ GE420.out | refine below_set ?_ GE421.out | refine below_set ?_ GE422.out) | exact HB.out)) hb)
                clear HO_423001
                clear BK420
                clear BK421
                clear BK422
                clear HB
                have HO_423001 := n0_
                have HO426 := n1_
                have BK420 := n2_
                have BK421 := n3_
                have BK422 := n4_
                have HB := n5_
                clear n0_ n1_ n2_ n3_ n4_ n5_
                clear hb ho18
                refine hK.out _ _ ⟨(blk_cell BK422.out 0).trans rfl, (blk_cell BK422.out 1).trans rfl⟩ (fun hHeld => ?_)
                clear hK K
                refine norm_ (a' := ?_) ?_ ?_
                rotate_left
                · show Act.put _ (some 18) _ = _
                  simp only [Act.put, List.setIfInBounds_toArray, List.set_cons_zero, List.set_cons_succ, i64_w, i32_w]
                  rfl
                refine one_ (i := 4) (N := some 20) #[true, true, true, true, true, false, false, false, false] rfl rfl (one_of HT_.out (by kernel_rfl)) (by decide) (fun K hK => ?_)
                refine Kd.R_append_rows_step (Kd.int .i64) (w0 := w) w.heap.size (by rfl) (.tmp 18) (.tmp 19) 31 2 (.int .i64 0) 8 rfl Try.underlying31 info2 rfl (by decide) (by omega) v425 y424 (rd_L1 l0_1 x12_1) _ _ _ (fun _ => True) (fun _ => False) rfl rfl ?aO ?aR (fun _ _ h => h) (fun _ h => h.elim) ?aF ?aB ?aS ?aL ?_
                (case aR => repeat (first | exact (Kd.C_below HR423_0.out HB.out) | (with_reducible refine Kd.C_alloc ?_ _) | (with_reducible refine Kd.C_drewN ?_ _) | (with_reducible refine Kd.C_drew ?_)))
                (case aB => exact (by repeat (first | (with_reducible first | exact HB.out | apply below_alloc | apply pw_below_drewN | apply below_drew1 | refine below_set ?_ GE420.out | refine below_set ?_ GE421.out | refine below_set ?_ GE422.out) | exact HB.out)))
                (case aF => exact (fun _ _ => trivial))
                (case aO => exact (by (with_reducible repeat (first | apply Kd.R_alloc | apply Kd.R_drewN | apply Kd.R_drew)); exact HO426.out))
                (case aS => exact (below_size (by repeat (first | (with_reducible first | exact HB.out | apply below_alloc | apply pw_below_drewN | apply below_drew1 | refine below_set ?_ GE420.out | refine below_set ?_ GE421.out | refine below_set ?_ GE422.out) | exact HB.out))))
                (case aL => have := LMc14.out; omega)
                intro v428 w19 ho hb hg hat
                rw [← Ny427.out] at ho
                have n0_ := Aside0.mk (Kd.S_after (ok := (fun _ => True)) (by (with_reducible repeat (first | apply Kd.S_alloc | apply Kd.S_drewN | apply Kd.S_drew)); exact HO_423001.out) hg hat)
                have n1_ := Aside0.mk (blk_grown (g := gb420) (o := .cells #[.int .i64 a0_0, .slice (some ad423) l0_1.length c0_1] 27 (0, 0)) (by (with_reducible repeat (first | refine blk_drewN ?_ _ | refine blk_drew ?_ | refine blk_alloc ?_ _)); exact BK420.out) hg (Kd.R_ne HO426.out BK420.out (by decide)))
                have n2_ := Aside0.mk (blk_grown (g := gb421) (o := .cells #[.int .i64 0, .slice none 0 0] 27 (0, 0)) (by (with_reducible repeat (first | refine blk_drewN ?_ _ | refine blk_drew ?_ | refine blk_alloc ?_ _)); exact BK421.out) hg (Kd.R_ne HO426.out BK421.out (by decide)))
                have n3_ := Aside0.mk (blk_grown (g := gb422) (o := .cells #[.int .i64 a0_0, u423001] 27 (0, 0)) (by (with_reducible repeat (first | refine blk_drewN ?_ _ | refine blk_drew ?_ | refine blk_alloc ?_ _)); exact BK422.out) hg (Kd.R_ne HO426.out BK422.out (by decide)))
                have n4_ := Aside0.mk (hb)
                have n5_ := Aside0.mk (ho)
                clear HO_423001
                clear BK420
                clear BK421
                clear BK422
                clear HB
                clear HO426
                have HO_423001 := n0_
                have BK420 := n1_
                have BK421 := n2_
                have BK422 := n3_
                have HB := n4_
                have HO429 := n5_
                clear n0_ n1_ n2_ n3_ n4_ n5_
                clear ho hb hg hat
                obtain ⟨Ao21, co21, eo21⟩ := Kd.R_slice HO429.out
                (first | subst eo21 | (injection eo21 with f1_ f2_ f3_; have f4_ := f1_.symm; have f5_ := f3_.symm; clear f1_ f2_ f3_; subst f4_; subst f5_))
                refine hK.out _ _ ⟨(blk_cell BK422.out 0).trans rfl, (blk_cell BK422.out 1).trans rfl⟩ (fun hHeld => ?_)
                clear hK K
                refine norm_ (a' := ?_) ?_ ?_
                rotate_left
                · show Act.put _ (some 20) _ = _
                  simp only [Act.put, List.setIfInBounds_toArray, List.set_cons_zero, List.set_cons_succ, i64_w, i32_w]
                  rfl
                refine one_ (i := 5) (N := some 21) #[true, true, true, true, true, true, false, false, false] rfl rfl (one_of HT_.out (by kernel_rfl)) (by decide) (fun K hK => ?_)
                refine value_ (w1 := ?_) (v := ?_) (by rfl) rfl ?_ ?_
                rotate_left 2
                · go_simp
                  constructor
                  · rfl
                  · rfl
                refine hK.out _ _ ⟨(blk_cell (blk_alloc BK422.out _) 0).trans rfl, (blk_cell (blk_alloc BK422.out _) 1).trans rfl⟩ (fun hHeld => ?_)
                clear hK K
                refine norm_ (a' := ?_) ?_ ?_
                rotate_left
                · show Act.put _ (some 21) _ = _
                  simp only [Act.put, List.setIfInBounds_toArray, List.set_cons_zero, List.set_cons_succ, i64_w, i32_w]
                  rfl
                refine one_ (i := 6) (N := some 22) #[true, true, true, true, true, true, true, false, false] rfl rfl (one_of HT_.out (by kernel_rfl)) (by decide) (fun K hK => ?_)
                refine Kd.S_append_step (Kd.slice 2 (Kd.int .i64)) (w0 := w) w.heap.size (by rfl) (.tmp 17) (.tmp 21) 22 31 (.slice none 0 0) 24 rfl Try.underlying22 info31 rfl (by decide) (by omega) u423001 x423001_1 y427 [.slice Ao21 y427.length co21] (fun _ => True) (fun k_ => some k_ = (.slice Ao21 y427.length co21 : Value).ownBlock) rfl rfl ?aP (fun k_ hk_ => ((Kd.R_mono (ok' := fun k_ => ((fun _ => True)) k_ ∧ some k_ ≠ (u423001 : Value).ownBlock) (Kd.R_apart' (HO429.out) (Kd.S_typed HO_423001.out) (by decide)) (fun k_ hk => ⟨trivial, hk.2⟩))).1 k_ hk_.symm) ?aF ?aO ?aB ?aS ?aL ?_
                (case aP => exact Kd.M_row (Kd.R_mono (Kd.R_tight rfl (Kd.R_mono (ok' := fun k_ => ((fun _ => True)) k_ ∧ some k_ ≠ (u423001 : Value).ownBlock) (Kd.R_apart' (HO429.out) (Kd.S_typed HO_423001.out) (by decide)) (fun k_ hk => ⟨trivial, hk.2⟩))) (fun _ h_ => h_)))
                (case aB => exact (by repeat (first | (with_reducible first | exact HB.out | apply below_alloc | apply pw_below_drewN | apply below_drew1 | refine below_set ?_ GE420.out | refine below_set ?_ GE421.out | refine below_set ?_ GE422.out) | exact HB.out)))
                (case aF => exact (fun _ _ => trivial))
                (case aO => exact (by (with_reducible repeat (first | apply Kd.S_alloc | apply Kd.S_drewN | apply Kd.S_drew)); exact Kd.S_mono HO_423001.out (fun k_ hk => ⟨trivial, fun e_ => hk.2 e_⟩)))
                (case aS => exact (below_size (by repeat (first | (with_reducible first | exact HB.out | apply below_alloc | apply pw_below_drewN | apply below_drew1 | refine below_set ?_ GE420.out | refine below_set ?_ GE421.out | refine below_set ?_ GE422.out) | exact HB.out))))
                (case aL => have := LMc15.out; omega)
                intro v431 w20 ho hb hg hat
                rw [← Ny430.out] at ho
                have n0_ := Aside0.mk (blk_grown (g := gb420) (o := .cells #[.int .i64 a0_0, .slice (some ad423) l0_1.length c0_1] 27 (0, 0)) (by (with_reducible repeat (first | refine blk_drewN ?_ _ | refine blk_drew ?_ | refine blk_alloc ?_ _)); exact BK420.out) hg (Kd.S_ne HO_423001.out BK420.out (by decide)))
                have n1_ := Aside0.mk (blk_grown (g := gb421) (o := .cells #[.int .i64 0, .slice none 0 0] 27 (0, 0)) (by (with_reducible repeat (first | refine blk_drewN ?_ _ | refine blk_drew ?_ | refine blk_alloc ?_ _)); exact BK421.out) hg (Kd.S_ne HO_423001.out BK421.out (by decide)))
                have n2_ := Aside0.mk (blk_grown (g := gb422) (o := .cells #[.int .i64 a0_0, u423001] 27 (0, 0)) (by (with_reducible repeat (first | refine blk_drewN ?_ _ | refine blk_drew ?_ | refine blk_alloc ?_ _)); exact BK422.out) hg (Kd.S_ne HO_423001.out BK422.out (by decide)))
                have n3_ := Aside0.mk (hb)
                have n4_ := Aside0.mk (ho)
                clear BK420
                clear BK421
                clear BK422
                clear HB
                clear HO_423001
                clear HO429
                have BK420 := n0_
                have BK421 := n1_
                have BK422 := n2_
                have HB := n3_
                have HO432 := n4_
                clear n0_ n1_ n2_ n3_ n4_
                clear ho hb hg hat
                obtain ⟨Ao22, co22, eo22⟩ := Kd.S_slice HO432.out
                (first | subst eo22 | (injection eo22 with f1_ f2_ f3_; have f4_ := f1_.symm; have f5_ := f3_.symm; clear f1_ f2_ f3_; subst f4_; subst f5_))
                refine hK.out _ _ ⟨(blk_cell BK422.out 0).trans rfl, (blk_cell BK422.out 1).trans rfl⟩ (fun hHeld => ?_)
                clear hK K
                refine norm_ (a' := ?_) ?_ ?_
                rotate_left
                · show Act.put _ (some 22) _ = _
                  simp only [Act.put, List.setIfInBounds_toArray, List.set_cons_zero, List.set_cons_succ, i64_w, i32_w]
                  rfl
                refine pure_ (i := 7) (N := some 23) (v := ?_) (a' := ?_) #[true, true, true, true, true, true, true, true, false] rfl rfl (any_of HT_.out (by kernel_rfl)) (fun _ _ _ h => h) (Or.inl ⟨by rfl, ?_⟩) ?_ ?_
                rotate_left
                · intro w'
                  go_simp
                  with_reducible rfl
                rotate_left
                · simp only [Act.put, List.setIfInBounds_toArray, List.set_cons_zero, List.set_cons_succ, i64_w, i32_w]
                  rfl
                refine last_ (i := 8) (N := none) #[true, true, true, true, true, true, true, true, true] rfl rfl (one_of HT_.out (by kernel_rfl)) (by decide) (fun K hK => ?_)
                have hs23 : w20.cell? ⟨gb422, 1, none⟩ = some (u423001) := (blk_cell BK422.out 1).trans rfl
                have hfs23 := blk_frozen BK422.out 1
                have hns23_0 := NB420_422.out
                have hns23_1 := NB421_422.out
                have hms23_0 := NB422_420.out
                have hms23_1 := NB422_421.out
                refine skip_ (w1 := ?_) (by rfl) rfl ?_ ?_
                rotate_left
                · go_simp
                  rfl
                refine hK.out _ _ ?_
                clear hK K
                refine done_ (done_of HT_.out (by kernel_rfl)) ?_
                try go_wp2
                go_roundg k1
                case measure => have := HK1.out; omega
                case rel => exact ⟨(wrap64 (x12_1 + 1)), (y430), (.slice Ao22 y430.length co22), (by first | rfl | (simp; done) | (simp [*]; done)), H', ⟨by have := HK1.out; omega⟩, ⟨by (with_reducible repeat (first | apply Kd.S_alloc | apply Kd.S_drewN | apply Kd.S_drew)); exact Kd.S_mono (Kd.S_far (p := ⟨gb422, 1, none⟩) (Kd.S_types HO432.out BK422.out (by decide)) (fun _ hk => hk.2) (.slice Ao22 y430.length co22)) (fun _ hk => trivial)⟩, ⟨by (with_reducible repeat (first | refine blk_drewN ?_ _ | refine blk_drew ?_ | refine blk_alloc ?_ _)); refine blk_far ?_ NB420_422.out _; (with_reducible repeat (first | refine blk_drewN ?_ _ | refine blk_drew ?_ | refine blk_alloc ?_ _)); exact BK420.out⟩, ⟨by (with_reducible repeat (first | refine blk_drewN ?_ _ | refine blk_drew ?_ | refine blk_alloc ?_ _)); refine blk_far ?_ NB421_422.out _; (with_reducible repeat (first | refine blk_drewN ?_ _ | refine blk_drew ?_ | refine blk_alloc ?_ _)); exact BK421.out⟩, ⟨by (with_reducible repeat (first | refine blk_drewN ?_ _ | refine blk_drew ?_ | refine blk_alloc ?_ _)); refine blk_put (cs := #[.int .i64 a0_0, u423001]) ?_ 1 _ rfl; (with_reducible repeat (first | refine blk_drewN ?_ _ | refine blk_drew ?_ | refine blk_alloc ?_ _)); exact BK422.out⟩, ⟨by repeat (first | (with_reducible first | exact HB.out | apply below_alloc | apply pw_below_drewN | apply below_drew1 | refine below_set ?_ GE420.out | refine below_set ?_ GE421.out | refine below_set ?_ GE422.out) | exact HB.out)⟩⟩
              · rw [if_neg c15] at H
                exact absurd H (by simp)
            · rw [if_neg c14] at H
              exact absurd H (by simp)
          · rw [if_neg c13] at H
            exact absurd H (by simp)
        · rw [if_neg c12] at H
          exact absurd H (by simp)
      · rw [if_neg c11] at H
        have c11b0 : decide (x12_1 < (l0_1.length : Int)) = false := decide_eq_false c11
        clear c11
        simp only [Option.some.injEq, Prod.mk.injEq] at H
        obtain ⟨rfl, rfl⟩ := H
        have hnb24 := NB422_420.out
        have hnc24 := NB420_422.out
        have hnb25 := NB422_421.out
        have hnc25 := NB421_422.out
        have hcz26_0 : wr.cell? ⟨gb422, 0, none⟩ = some (.int .i64 a0_0) := (blk_cell BK422.out 0).trans rfl
        have hcz26_1 : wr.cell? ⟨gb422, 1, none⟩ = some (u423001) := (blk_cell BK422.out 1).trans rfl
        have hfz26_0 := blk_frozen BK422.out 0
        have hfz26_1 := blk_frozen BK422.out 1
        have hnb27 := NB421_420.out
        have hnc27 := NB420_421.out
        have hcz28_0 : wr.cell? ⟨gb421, 0, none⟩ = some (.int .i64 0) := (blk_cell BK421.out 0).trans rfl
        have hcz28_1 : wr.cell? ⟨gb421, 1, none⟩ = some (.slice none 0 0) := (blk_cell BK421.out 1).trans rfl
        have hfz28_0 := blk_frozen BK421.out 0
        have hfz28_1 := blk_frozen BK421.out 1
        obtain ⟨Ao29, co29, eo29⟩ := Kd.S_slice HO_423001.out
        subst eo29
        go_wp2
        refine bodyPost_ret (results_cell_row rfl _ _ gb421 27 #[.int .i64 a0_0, .slice Ao29 x423001_1.length co29] (0, 0) _ rfl (by (with_reducible repeat (first | refine blk_drewN ?_ _ | refine blk_drew ?_ | refine blk_alloc ?_ _)); refine blk_put (cs := #[.int .i64 a0_0, .slice none 0 0]) ?_ 1 _ rfl; (with_reducible repeat (first | refine blk_drewN ?_ _ | refine blk_drew ?_ | refine blk_alloc ?_ _)); refine blk_put (cs := #[.int .i64 0, .slice none 0 0]) ?_ 0 _ rfl; (with_reducible repeat (first | refine blk_drewN ?_ _ | refine blk_drew ?_ | refine blk_alloc ?_ _)); exact BK421.out) Try.underlying27 rfl (by kernel_rfl)) rfl ?_
        exact ⟨_, by first | rfl | (simp [errW_none, errW_some] <;> rfl) | (simp [*, errW_none, errW_some] <;> rfl), by (with_reducible repeat (first | apply Kd.S_alloc | apply Kd.S_drewN | apply Kd.S_drew)); exact Kd.S_mono (Kd.S_far (p := ⟨gb421, 1, none⟩) (Kd.S_far (p := ⟨gb421, 0, none⟩) (Kd.S_types HO_423001.out BK421.out (by decide)) (fun _ hk => hk.2) (.int .i64 a0_0)) (fun _ hk => hk.2) (.slice Ao29 x423001_1.length co29)) (fun _ hk => trivial), by repeat (first | (with_reducible first | exact HB.out | apply below_alloc | apply pw_below_drewN | apply below_drew1 | refine below_set ?_ GE420.out | refine below_set ?_ GE421.out | refine below_set ?_ GE422.out) | exact HB.out)⟩

end Go.Proofs.Ytibaiaenfeppcaa.Q

-- made by a patched copy of print.sh: this session's own
namespace Go.Proofs.Ytibaiaenfeppcaa.Q
open Go.RowKit Go.Proofs.YtibaiaenfeppcaaW.PrintWords Go.Proofs.YtibaiaenfeppcaaW.PrintLast Go.Proofs.YtibaiaenfeppcaaW.PrintMore
attribute [local go_sem] max2_int min2_int max_two min_two max_three min_three max_four min_four   -- for this text's walks alone
set_option linter.unusedVariables false
set_option linter.unusedSimpArgs false

/-! ### impl_within: function 39 -/
def impl_within.f (a0 : Int) (a1 : Int) (a2 : Int) : Option (Bool) := if a1 ≤ a0 then (some (decide (a0 ≤ a2))) else (some false)
set_option maxHeartbeats 8000000 in
set_option maxRecDepth 100000 in
theorem impl_within.calls (a0 : Int) (a1 : Int) (a2 : Int) (r : Bool) (w : World) (h : impl_within.f a0 a1 a2 = some r) :
    Calls Try.prog 39 #[.int .i64 a0, .int .i64 a1, .int .i64 a2] w fun e w' => e = .returned (.bool r) ∧ Drawn0 w w' := by
  have H : (if a1 ≤ a0 then (some (decide (a0 ≤ a2))) else (some false)) = some r := h
  clear h
  by_cases c4 : a1 ≤ a0
  · rw [if_pos c4] at H
    have c4b0 : decide (a1 ≤ a0) = true := decide_eq_true c4
    clear c4
    obtain rfl := Option.some.inj H
    go_enter Try.func39, Try.ntmps39
    go_wp2
    go_ret
    exact ⟨by first | rfl | (simp; done) | (simp [*]; done), by repeat (first | exact Drawn0.refl _ | apply Drawn0.step)⟩
  · rw [if_neg c4] at H
    have c4b0 : decide (a1 ≤ a0) = false := decide_eq_false c4
    clear c4
    obtain rfl := Option.some.inj H
    go_enter Try.func39, Try.ntmps39
    go_wp2
    go_ret
    exact ⟨by first | rfl | (simp; done) | (simp [*]; done), by repeat (first | exact Drawn0.refl _ | apply Drawn0.step)⟩

end Go.Proofs.Ytibaiaenfeppcaa.Q

/- The program's (Yard).moved. -/
namespace Go.Proofs.Ytibaiaenfeppcaa.Ymv
open Go Go.RowKit Go.Proofs.YtibaiaenfeppcaaW.PrintWords Go.Proofs.YtibaiaenfeppcaaW.PrintLast Go.Proofs.YtibaiaenfeppcaaW.PrintMore Go.Proofs.Ytibaiaenfeppcaa.Q Go.Proofs.Ytibaiaenfeppcaa.PuY Go.Proofs.Ytibaiaenfeppcaa.Lw Go.Proofs.Ytibaiaenfeppcaa.Ow Go.Proofs.Ytibaiaenfeppcaa.Yo Go.Proofs.Ytibaiaenfeppcaa.Yn Go.Proofs.Ytibaiaenfeppcaa.Yt
set_option linter.unusedVariables false
set_option linter.unusedSimpArgs false
theorem within_eq (a b c : Int) : impl_within.f a b c = some (Ha.inB b c a) := by
  unfold impl_within.f Ha.inB; split <;> simp_all <;> (intros; omega)
theorem cloned_loop (h : Int) (xs : List (List Int)) (hl : xs.length ≤ 4) (hr : ∀ r ∈ xs, r.length ≤ 4) : ∀ (d k i : Nat), i + d = xs.length → d < k → impl_Yard_cloned.l0 k xs (xs.length : Int) (i : Int) h (xs.take i) = some (h, xs) := by
  intro d
  induction d with
  | zero =>
    intro k i hi hk
    obtain ⟨k, rfl⟩ : ∃ m, k = m + 1 := ⟨k - 1, by omega⟩
    simp only [impl_Yard_cloned.l0]
    rw [if_neg (by omega), List.take_of_length_le (by omega)]
  | succ d ih =>
    intro k i hi hk
    obtain ⟨k, rfl⟩ : ∃ m, k = m + 1 := ⟨k - 1, by omega⟩
    have hlt : i < xs.length := by omega
    have hx := hr xs[i] (List.getElem_mem hlt)
    simp only [impl_Yard_cloned.l0, Option.bind_some, List.nil_append, List.length_nil]
    rw [if_pos (by omega), if_pos (by omega), if_pos (by omega), rdL_at xs i hlt, if_pos (by omega), if_pos (by rw [List.length_take]; omega), wrap_succ i (by omega), ← List.take_succ_eq_append_getElem hlt]
    exact ih k (i + 1) (by omega) (by omega)
theorem cloned_eq (h : Int) (xs : List (List Int)) (hl : xs.length ≤ 4) (hr : ∀ r ∈ xs, r.length ≤ 4) : impl_Yard_cloned.f 1000 h xs = some (h, xs) := by
  have := cloned_loop h xs hl hr xs.length 1000 0 (by omega) (by omega)
  simpa [impl_Yard_cloned.f] using this
set_option maxRecDepth 100000 in
set_option maxHeartbeats 4000000 in
theorem no_from (h : Int) (xs : List (List Int)) (hx4 : xs.length ≤ 4) (h4 : h ≤ 4) (hr4 : ∀ r ∈ xs, r.length ≤ 4) (f t : Int) (h1 : f < 0 ∨ (xs.length : Int) ≤ f) (A : Option Addr) (c : Nat) (w : World) (hC : Kd.C dR w A xs.length xs) (hcl : xs.length ≤ c) :
    Calls Try.prog 50 #[.agg #[.int .i64 h, .slice A xs.length c], .int .i64 f, .int .i64 t] w fun e w' => e = .returned (.tuple #[.agg #[.int .i64 0, .slice none 0 0], .bool false]) ∧ Below w.heap.size w w' := by
  obtain ⟨n, hn⟩ : ∃ n, n = xs.length := ⟨_, rfl⟩
  have hu := Try.underlying27
  have hC0 := hC
  rw [← hn] at hC0 ⊢
  obtain ⟨m, hm⟩ : ∃ m, IntKind.i64.wrap ((n : Int) - 1) = m := ⟨_, rfl⟩
  have hmw : wrap64 ((n : Int) - 1) = m := by rw [← i64_w]; exact hm
  have hmv : m = (n : Int) - 1 := by rw [← hmw]; unfold wrap64; omega
  have hn4 : n ≤ 4 := by omega
  have hq : Ha.inB 0 m f = false := by unfold Ha.inB; rw [hmv, hn]; rcases h1 with h1 | h1 <;> simp <;> omega
  have H1 := Aside0.mk (show impl_within.f f 0 m = some false by rw [within_eq, hq])
  have HMV := Aside0.mk hmv
  have HN := Aside0.mk hn
  have HC := Aside0.mk hC
  have HR4 := Aside0.mk hr4
  clear hmv hn hC hC0 hr4 hq h1
  go_enter Try.func50, Try.ntmps50
  go_wp2_with (fail)
  go_quiet (first | (go_at_call 39; (with_reducible refine (impl_within.calls f 0 m false _ H1.out).mono ?_); rintro e w' ⟨rfl, ⟨nd, rfl⟩⟩; (try first | exact ⟨rfl, _, World.drewN_drewN _ _ _⟩ | exact ⟨rfl, _, Eq.trans (World.drewN_drewN _ _ _) (congrArg (World.drewN _) (Nat.add_assoc _ _ _))⟩)))
  go_wp2_with (fail)
  have hb := pw_below_drewN (below_alloc (below_alloc (Below.refl w.heap.size w) (.cells #[.int .i64 h, .slice A n c] 27)) (.cells #[.int .i64 0, .slice none 0 0] 27)) nq
  have b6 : (((w.alloc (.cells #[.int .i64 h, .slice A n c] 27)).alloc (.cells #[.int .i64 0, .slice none 0 0] 27)).drewN nq).heap[w.heap.size + 1]? = some (.cells #[.int .i64 0, .slice none 0 0] 27 (0, 0)) := blk_new' w _ _
  have b7 := blk_put (blk_put b6 0 (.int .i64 0) rfl) 1 (.slice none 0 0) rfl
  refine bodyPost_ret (results_ct rfl _ _ (w.heap.size + 1) 27 #[.int .i64 0, .slice none 0 0] (0, 0) _ rfl b7 Try.underlying27 rfl (by kernel_rfl)) rfl ?_
  exact ⟨rfl, (hb.setCell (p := ⟨w.heap.size + 1, 0, none⟩) (Nat.le_succ _) _).setCell (p := ⟨w.heap.size + 1, 1, none⟩) (Nat.le_succ _) _⟩
set_option maxRecDepth 100000 in
set_option maxHeartbeats 4000000 in
theorem no_to (h : Int) (xs : List (List Int)) (hx4 : xs.length ≤ 4) (h4 : h ≤ 4) (hr4 : ∀ r ∈ xs, r.length ≤ 4) (i : Nat) (hi : i < xs.length) (t : Int) (h1 : t < 0 ∨ (xs.length : Int) ≤ t) (A : Option Addr) (c : Nat) (w : World) (hC : Kd.C dR w A xs.length xs) (hcl : xs.length ≤ c) :
    Calls Try.prog 50 #[.agg #[.int .i64 h, .slice A xs.length c], .int .i64 (i : Int), .int .i64 t] w fun e w' => e = .returned (.tuple #[.agg #[.int .i64 0, .slice none 0 0], .bool false]) ∧ Below w.heap.size w w' := by
  obtain ⟨n, hn⟩ : ∃ n, n = xs.length := ⟨_, rfl⟩
  have hu := Try.underlying27
  have hC0 := hC
  rw [← hn] at hC0 ⊢
  obtain ⟨m, hm⟩ : ∃ m, IntKind.i64.wrap ((n : Int) - 1) = m := ⟨_, rfl⟩
  have hmw : wrap64 ((n : Int) - 1) = m := by rw [← i64_w]; exact hm
  have hmv : m = (n : Int) - 1 := by rw [← hmw]; unfold wrap64; omega
  have hn4 : n ≤ 4 := by omega
  have H1 := Aside0.mk (show impl_within.f (i : Int) 0 m = some true by rw [within_eq]; unfold Ha.inB; rw [hmv]; simp; omega)
  have hq : Ha.inB 0 m t = false := by unfold Ha.inB; rw [hmv, hn]; rcases h1 with h1 | h1 <;> simp <;> omega
  have H2 := Aside0.mk (show impl_within.f t 0 m = some false by rw [within_eq, hq])
  have HMV := Aside0.mk hmv
  have HN := Aside0.mk hn
  have HC := Aside0.mk hC
  have HR4 := Aside0.mk hr4
  clear hmv hn hC hC0 hr4 hq h1
  go_enter Try.func50, Try.ntmps50
  go_wp2_with (fail)
  go_quiet (first | (go_at_call 39; (with_reducible refine (impl_within.calls (i : Int) 0 m true _ H1.out).mono ?_); rintro e w' ⟨rfl, ⟨nd, rfl⟩⟩; (try first | exact ⟨rfl, _, World.drewN_drewN _ _ _⟩ | exact ⟨rfl, _, Eq.trans (World.drewN_drewN _ _ _) (congrArg (World.drewN _) (Nat.add_assoc _ _ _))⟩)) | (go_at_call 39; (with_reducible refine (impl_within.calls t 0 m false _ H2.out).mono ?_); rintro e w' ⟨rfl, ⟨nd, rfl⟩⟩; (try first | exact ⟨rfl, _, World.drewN_drewN _ _ _⟩ | exact ⟨rfl, _, Eq.trans (World.drewN_drewN _ _ _) (congrArg (World.drewN _) (Nat.add_assoc _ _ _))⟩)))
  go_wp2_with (fail)
  have hb := pw_below_drewN (below_alloc (below_alloc (Below.refl w.heap.size w) (.cells #[.int .i64 h, .slice A n c] 27)) (.cells #[.int .i64 0, .slice none 0 0] 27)) nq
  have b6 : (((w.alloc (.cells #[.int .i64 h, .slice A n c] 27)).alloc (.cells #[.int .i64 0, .slice none 0 0] 27)).drewN nq).heap[w.heap.size + 1]? = some (.cells #[.int .i64 0, .slice none 0 0] 27 (0, 0)) := blk_new' w _ _
  have b7 := blk_put (blk_put b6 0 (.int .i64 0) rfl) 1 (.slice none 0 0) rfl
  refine bodyPost_ret (results_ct rfl _ _ (w.heap.size + 1) 27 #[.int .i64 0, .slice none 0 0] (0, 0) _ rfl b7 Try.underlying27 rfl (by kernel_rfl)) rfl ?_
  exact ⟨rfl, (hb.setCell (p := ⟨w.heap.size + 1, 0, none⟩) (Nat.le_succ _) _).setCell (p := ⟨w.heap.size + 1, 1, none⟩) (Nat.le_succ _) _⟩
set_option maxRecDepth 100000 in
set_option maxHeartbeats 4000000 in
theorem no_same (h : Int) (xs : List (List Int)) (hx4 : xs.length ≤ 4) (h4 : h ≤ 4) (hr4 : ∀ r ∈ xs, r.length ≤ 4) (i : Nat) (hi : i < xs.length) (A : Option Addr) (c : Nat) (w : World) (hC : Kd.C dR w A xs.length xs) (hcl : xs.length ≤ c) :
    Calls Try.prog 50 #[.agg #[.int .i64 h, .slice A xs.length c], .int .i64 (i : Int), .int .i64 (i : Int)] w fun e w' => e = .returned (.tuple #[.agg #[.int .i64 0, .slice none 0 0], .bool false]) ∧ Below w.heap.size w w' := by
  obtain ⟨n, hn⟩ : ∃ n, n = xs.length := ⟨_, rfl⟩
  have hu := Try.underlying27
  have hC0 := hC
  rw [← hn] at hC0 ⊢
  obtain ⟨m, hm⟩ : ∃ m, IntKind.i64.wrap ((n : Int) - 1) = m := ⟨_, rfl⟩
  have hmw : wrap64 ((n : Int) - 1) = m := by rw [← i64_w]; exact hm
  have hmv : m = (n : Int) - 1 := by rw [← hmw]; unfold wrap64; omega
  have hn4 : n ≤ 4 := by omega
  have H1 := Aside0.mk (show impl_within.f (i : Int) 0 m = some true by rw [within_eq]; unfold Ha.inB; rw [hmv]; simp; omega)
  have e1 : ((i : Int) == (i : Int)) = true := beq_self_eq_true _
  have HMV := Aside0.mk hmv
  have HN := Aside0.mk hn
  have HC := Aside0.mk hC
  have HR4 := Aside0.mk hr4
  clear hmv hn hC hC0 hr4 
  go_enter Try.func50, Try.ntmps50
  go_wp2_with (fail)
  go_quiet (first | (go_at_call 39; (with_reducible refine (impl_within.calls (i : Int) 0 m true _ H1.out).mono ?_); rintro e w' ⟨rfl, ⟨nd, rfl⟩⟩; (try first | exact ⟨rfl, _, World.drewN_drewN _ _ _⟩ | exact ⟨rfl, _, Eq.trans (World.drewN_drewN _ _ _) (congrArg (World.drewN _) (Nat.add_assoc _ _ _))⟩)))
  go_wp2_with (fail)
  have hb := pw_below_drewN (below_alloc (below_alloc (Below.refl w.heap.size w) (.cells #[.int .i64 h, .slice A n c] 27)) (.cells #[.int .i64 0, .slice none 0 0] 27)) nq
  have b6 : (((w.alloc (.cells #[.int .i64 h, .slice A n c] 27)).alloc (.cells #[.int .i64 0, .slice none 0 0] 27)).drewN nq).heap[w.heap.size + 1]? = some (.cells #[.int .i64 0, .slice none 0 0] 27 (0, 0)) := blk_new' w _ _
  have b7 := blk_put (blk_put b6 0 (.int .i64 0) rfl) 1 (.slice none 0 0) rfl
  refine bodyPost_ret (results_ct rfl _ _ (w.heap.size + 1) 27 #[.int .i64 0, .slice none 0 0] (0, 0) _ rfl b7 Try.underlying27 rfl (by kernel_rfl)) rfl ?_
  exact ⟨rfl, (hb.setCell (p := ⟨w.heap.size + 1, 0, none⟩) (Nat.le_succ _) _).setCell (p := ⟨w.heap.size + 1, 1, none⟩) (Nat.le_succ _) _⟩
set_option maxRecDepth 100000 in
set_option maxHeartbeats 4000000 in
theorem no_lot (h : Int) (xs : List (List Int)) (hx4 : xs.length ≤ 4) (h4 : h ≤ 4) (hr4 : ∀ r ∈ xs, r.length ≤ 4) (i j : Nat) (hi : i < xs.length) (hj : j < xs.length) (hij : i ≠ j) (h1 : xs[i].length = 0) (A : Option Addr) (c : Nat) (w : World) (hC : Kd.C dR w A xs.length xs) (hcl : xs.length ≤ c) :
    Calls Try.prog 50 #[.agg #[.int .i64 h, .slice A xs.length c], .int .i64 (i : Int), .int .i64 (j : Int)] w fun e w' => e = .returned (.tuple #[.agg #[.int .i64 0, .slice none 0 0], .bool false]) ∧ Below w.heap.size w w' := by
  obtain ⟨n, hn⟩ : ∃ n, n = xs.length := ⟨_, rfl⟩
  have hu := Try.underlying27
  have hC0 := hC
  rw [← hn] at hC0 ⊢
  obtain ⟨m, hm⟩ : ∃ m, IntKind.i64.wrap ((n : Int) - 1) = m := ⟨_, rfl⟩
  have hmw : wrap64 ((n : Int) - 1) = m := by rw [← i64_w]; exact hm
  have hmv : m = (n : Int) - 1 := by rw [← hmw]; unfold wrap64; omega
  have hn4 : n ≤ 4 := by omega
  have H1 := Aside0.mk (show impl_within.f (i : Int) 0 m = some true by rw [within_eq]; unfold Ha.inB; rw [hmv]; simp; omega)
  have H2 := Aside0.mk (show impl_within.f (j : Int) 0 m = some true by rw [within_eq]; unfold Ha.inB; rw [hmv]; simp; omega)
  have e1 : ((i : Int) == (j : Int)) = false := beq_eq_false_iff_ne.2 (by omega)
  obtain ⟨adrI, AI, cI, eadrI, xI0, lrI, -⟩ := C_rows hC i hi
  cases eadrI
  obtain ⟨rI, hrrI⟩ : ∃ r, r = xs[i] := ⟨_, rfl⟩
  rw [← hrrI] at xI0 lrI
  have xI := pw_cell_below (below_alloc (below_alloc (Below.refl w.heap.size w) (.cells #[.int .i64 h, .slice (some adrI) n c] 27)) (.cells #[.int .i64 0, .slice none 0 0] 27)) xI0
  clear xI0
  rw [← hrrI] at h1
  have e2 : ((rI.length : Int) == 0) = true := beq_iff_eq.2 (by omega)
  have HRI := Aside0.mk hrrI
  have pi : (0 ≤ (i : Int)) = True := eq_true (by omega)
  have qi : ((i : Int) < (n : Int)) = True := eq_true (by omega)
  have HMV := Aside0.mk hmv
  have HN := Aside0.mk hn
  have HC := Aside0.mk hC
  have HR4 := Aside0.mk hr4
  clear hmv hn hC hC0 hr4 hrrI h1 hij
  go_enter Try.func50, Try.ntmps50
  go_wp2_with (fail)
  go_quiet (first | (go_at_call 39; (with_reducible refine (impl_within.calls (i : Int) 0 m true _ H1.out).mono ?_); rintro e w' ⟨rfl, ⟨nd, rfl⟩⟩; (try first | exact ⟨rfl, _, World.drewN_drewN _ _ _⟩ | exact ⟨rfl, _, Eq.trans (World.drewN_drewN _ _ _) (congrArg (World.drewN _) (Nat.add_assoc _ _ _))⟩)) | (go_at_call 39; (with_reducible refine (impl_within.calls (j : Int) 0 m true _ H2.out).mono ?_); rintro e w' ⟨rfl, ⟨nd, rfl⟩⟩; (try first | exact ⟨rfl, _, World.drewN_drewN _ _ _⟩ | exact ⟨rfl, _, Eq.trans (World.drewN_drewN _ _ _) (congrArg (World.drewN _) (Nat.add_assoc _ _ _))⟩)))
  go_wp2_with (fail)
  have hb := pw_below_drewN (below_alloc (below_alloc (Below.refl w.heap.size w) (.cells #[.int .i64 h, .slice (some adrI) n c] 27)) (.cells #[.int .i64 0, .slice none 0 0] 27)) nq
  have b6 : (((w.alloc (.cells #[.int .i64 h, .slice (some adrI) n c] 27)).alloc (.cells #[.int .i64 0, .slice none 0 0] 27)).drewN nq).heap[w.heap.size + 1]? = some (.cells #[.int .i64 0, .slice none 0 0] 27 (0, 0)) := blk_new' w _ _
  have b7 := blk_put (blk_put b6 0 (.int .i64 0) rfl) 1 (.slice none 0 0) rfl
  refine bodyPost_ret (results_ct rfl _ _ (w.heap.size + 1) 27 #[.int .i64 0, .slice none 0 0] (0, 0) _ rfl b7 Try.underlying27 rfl (by kernel_rfl)) rfl ?_
  exact ⟨rfl, (hb.setCell (p := ⟨w.heap.size + 1, 0, none⟩) (Nat.le_succ _) _).setCell (p := ⟨w.heap.size + 1, 1, none⟩) (Nat.le_succ _) _⟩
set_option maxRecDepth 100000 in
set_option maxHeartbeats 4000000 in
theorem no_room (h : Int) (xs : List (List Int)) (hx4 : xs.length ≤ 4) (h4 : h ≤ 4) (hr4 : ∀ r ∈ xs, r.length ≤ 4) (i j : Nat) (hi : i < xs.length) (hj : j < xs.length) (hij : i ≠ j) (h1 : 0 < xs[i].length) (h2 : (xs[j].length : Int) = h) (A : Option Addr) (c : Nat) (w : World) (hC : Kd.C dR w A xs.length xs) (hcl : xs.length ≤ c) :
    Calls Try.prog 50 #[.agg #[.int .i64 h, .slice A xs.length c], .int .i64 (i : Int), .int .i64 (j : Int)] w fun e w' => e = .returned (.tuple #[.agg #[.int .i64 0, .slice none 0 0], .bool false]) ∧ Below w.heap.size w w' := by
  obtain ⟨n, hn⟩ : ∃ n, n = xs.length := ⟨_, rfl⟩
  have hu := Try.underlying27
  have hC0 := hC
  rw [← hn] at hC0 ⊢
  obtain ⟨m, hm⟩ : ∃ m, IntKind.i64.wrap ((n : Int) - 1) = m := ⟨_, rfl⟩
  have hmw : wrap64 ((n : Int) - 1) = m := by rw [← i64_w]; exact hm
  have hmv : m = (n : Int) - 1 := by rw [← hmw]; unfold wrap64; omega
  have hn4 : n ≤ 4 := by omega
  have H1 := Aside0.mk (show impl_within.f (i : Int) 0 m = some true by rw [within_eq]; unfold Ha.inB; rw [hmv]; simp; omega)
  have H2 := Aside0.mk (show impl_within.f (j : Int) 0 m = some true by rw [within_eq]; unfold Ha.inB; rw [hmv]; simp; omega)
  have e1 : ((i : Int) == (j : Int)) = false := beq_eq_false_iff_ne.2 (by omega)
  obtain ⟨adrI, AI, cI, eadrI, xI0, lrI, -⟩ := C_rows hC i hi
  cases eadrI
  obtain ⟨rI, hrrI⟩ : ∃ r, r = xs[i] := ⟨_, rfl⟩
  rw [← hrrI] at xI0 lrI
  have xI := pw_cell_below (below_alloc (below_alloc (Below.refl w.heap.size w) (.cells #[.int .i64 h, .slice (some adrI) n c] 27)) (.cells #[.int .i64 0, .slice none 0 0] 27)) xI0
  clear xI0
  rw [← hrrI] at h1
  have e2 : ((rI.length : Int) == 0) = false := beq_eq_false_iff_ne.2 (by omega)
  have HRI := Aside0.mk hrrI
  obtain ⟨adrJ, AJ, cJ, eadrJ, xJ0, lrJ, -⟩ := C_rows hC j hj
  obtain rfl : adrI = adrJ := by injection eadrJ
  obtain ⟨rJ, hrrJ⟩ : ∃ r, r = xs[j] := ⟨_, rfl⟩
  rw [← hrrJ] at xJ0 lrJ
  have xJ := pw_cell_below (below_alloc (below_alloc (Below.refl w.heap.size w) (.cells #[.int .i64 h, .slice (some adrI) n c] 27)) (.cells #[.int .i64 0, .slice none 0 0] 27)) xJ0
  clear xJ0
  rw [← hrrJ] at h2
  have e3 : ((rJ.length : Int) == h) = true := beq_iff_eq.2 h2
  have HRJ := Aside0.mk hrrJ
  have pi : (0 ≤ (i : Int)) = True := eq_true (by omega)
  have qi : ((i : Int) < (n : Int)) = True := eq_true (by omega)
  have pj : (0 ≤ (j : Int)) = True := eq_true (by omega)
  have qj : ((j : Int) < (n : Int)) = True := eq_true (by omega)
  have HMV := Aside0.mk hmv
  have HN := Aside0.mk hn
  have HC := Aside0.mk hC
  have HR4 := Aside0.mk hr4
  clear hmv hn hC hC0 hr4 hrrI hrrJ h1 h2 hij
  go_enter Try.func50, Try.ntmps50
  go_wp2_with (fail)
  go_quiet (first | (go_at_call 39; (with_reducible refine (impl_within.calls (i : Int) 0 m true _ H1.out).mono ?_); rintro e w' ⟨rfl, ⟨nd, rfl⟩⟩; (try first | exact ⟨rfl, _, World.drewN_drewN _ _ _⟩ | exact ⟨rfl, _, Eq.trans (World.drewN_drewN _ _ _) (congrArg (World.drewN _) (Nat.add_assoc _ _ _))⟩)) | (go_at_call 39; (with_reducible refine (impl_within.calls (j : Int) 0 m true _ H2.out).mono ?_); rintro e w' ⟨rfl, ⟨nd, rfl⟩⟩; (try first | exact ⟨rfl, _, World.drewN_drewN _ _ _⟩ | exact ⟨rfl, _, Eq.trans (World.drewN_drewN _ _ _) (congrArg (World.drewN _) (Nat.add_assoc _ _ _))⟩)))
  go_wp2_with (fail)
  have hb := pw_below_drewN (below_alloc (below_alloc (Below.refl w.heap.size w) (.cells #[.int .i64 h, .slice (some adrI) n c] 27)) (.cells #[.int .i64 0, .slice none 0 0] 27)) nq
  have b6 : (((w.alloc (.cells #[.int .i64 h, .slice (some adrI) n c] 27)).alloc (.cells #[.int .i64 0, .slice none 0 0] 27)).drewN nq).heap[w.heap.size + 1]? = some (.cells #[.int .i64 0, .slice none 0 0] 27 (0, 0)) := blk_new' w _ _
  have b7 := blk_put (blk_put b6 0 (.int .i64 0) rfl) 1 (.slice none 0 0) rfl
  refine bodyPost_ret (results_ct rfl _ _ (w.heap.size + 1) 27 #[.int .i64 0, .slice none 0 0] (0, 0) _ rfl b7 Try.underlying27 rfl (by kernel_rfl)) rfl ?_
  exact ⟨rfl, (hb.setCell (p := ⟨w.heap.size + 1, 0, none⟩) (Nat.le_succ _) _).setCell (p := ⟨w.heap.size + 1, 1, none⟩) (Nat.le_succ _) _⟩
set_option maxRecDepth 100000 in
set_option maxHeartbeats 4000000 in
theorem yes (h : Int) (xs : List (List Int)) (hx4 : xs.length ≤ 4) (h4 : h ≤ 4) (hr4 : ∀ r ∈ xs, r.length ≤ 4) (i j : Nat) (hi : i < xs.length) (hj : j < xs.length) (hij : i ≠ j) (h1 : 0 < xs[i].length) (h2 : (xs[j].length : Int) < h) (A : Option Addr) (c : Nat) (w : World) (hC : Kd.C dR w A xs.length xs) (hcl : xs.length ≤ c) :
    Calls Try.prog 50 #[.agg #[.int .i64 h, .slice A xs.length c], .int .i64 (i : Int), .int .i64 (j : Int)] w fun e w' => ∃ v, e = .returned (.tuple #[.agg #[.int .i64 h, v], .bool true]) ∧ Kd.S dW 31 w' w.heap.size (fun _ => True) v (moveRows xs i j) ∧ Below w.heap.size w w' := by
  obtain ⟨n, hn⟩ : ∃ n, n = xs.length := ⟨_, rfl⟩
  have hu := Try.underlying27
  have hC0 := hC
  rw [← hn] at hC0 ⊢
  obtain ⟨m, hm⟩ : ∃ m, IntKind.i64.wrap ((n : Int) - 1) = m := ⟨_, rfl⟩
  have hmw : wrap64 ((n : Int) - 1) = m := by rw [← i64_w]; exact hm
  have hmv : m = (n : Int) - 1 := by rw [← hmw]; unfold wrap64; omega
  have hn4 : n ≤ 4 := by omega
  have H1 := Aside0.mk (show impl_within.f (i : Int) 0 m = some true by rw [within_eq]; unfold Ha.inB; rw [hmv]; simp; omega)
  have H2 := Aside0.mk (show impl_within.f (j : Int) 0 m = some true by rw [within_eq]; unfold Ha.inB; rw [hmv]; simp; omega)
  have e1 : ((i : Int) == (j : Int)) = false := beq_eq_false_iff_ne.2 (by omega)
  obtain ⟨adrI, AI0, cI0, eadrI, xI0, lrI, -⟩ := C_rows hC i hi
  cases eadrI
  obtain ⟨rI, hrrI⟩ : ∃ r, r = xs[i] := ⟨_, rfl⟩
  rw [← hrrI] at xI0 lrI
  have xI := pw_cell_below (below_alloc (below_alloc (Below.refl w.heap.size w) (.cells #[.int .i64 h, .slice (some adrI) n c] 27)) (.cells #[.int .i64 0, .slice none 0 0] 27)) xI0
  clear xI0
  rw [← hrrI] at h1
  have e2 : ((rI.length : Int) == 0) = false := beq_eq_false_iff_ne.2 (by omega)
  obtain ⟨adrJ, AJ0, cJ0, eadrJ, xJ0, lrJ, -⟩ := C_rows hC j hj
  obtain rfl : adrI = adrJ := by injection eadrJ
  obtain ⟨rJ, hrrJ⟩ : ∃ r, r = xs[j] := ⟨_, rfl⟩
  rw [← hrrJ] at xJ0 lrJ
  have xJ := pw_cell_below (below_alloc (below_alloc (Below.refl w.heap.size w) (.cells #[.int .i64 h, .slice (some adrI) n c] 27)) (.cells #[.int .i64 0, .slice none 0 0] 27)) xJ0
  clear xJ0
  rw [← hrrJ] at h2
  have e3 : ((rJ.length : Int) == h) = false := beq_eq_false_iff_ne.2 (by omega)
  have hrI4 : rI.length ≤ 4 := hr4 rI (by rw [hrrI]; exact List.getElem_mem hi)
  have hrJ4 : rJ.length ≤ 4 := hr4 rJ (by rw [hrrJ]; exact List.getElem_mem hj)
  have HRI := Aside0.mk hrrI
  have HRJ := Aside0.mk hrrJ
  have HIJ := Aside0.mk hij
  have hcn : n ≤ c := by omega
  have HCL := Aside0.mk hcl
  obtain ⟨q, hq⟩ : ∃ q, wrap64 ((rI.length : Int) - 1) = q := ⟨_, rfl⟩
  have hqv : q = (rI.length : Int) - 1 := by rw [← hq]; unfold wrap64; omega
  have hqw : IntKind.i64.wrap ((rI.length : Int) - 1) = q := by rw [i64_w]; exact hq
  have pq : (0 ≤ q) = True := eq_true (by omega)
  have qq : (q < (rI.length : Int)) = True := eq_true (by omega)
  have HQ := Aside0.mk hqv
  have HCLN := Aside0.mk (cloned_eq h xs hx4 hr4)
  have pi : (0 ≤ (i : Int)) = True := eq_true (by omega)
  have qi : ((i : Int) < (n : Int)) = True := eq_true (by omega)
  have pj : (0 ≤ (j : Int)) = True := eq_true (by omega)
  have qj : ((j : Int) < (n : Int)) = True := eq_true (by omega)
  have HMV := Aside0.mk hmv
  have HN := Aside0.mk hn
  have HC := Aside0.mk hC
  have HR4 := Aside0.mk hr4
  clear hmv hn hC hC0 hr4 hrrI hrrJ hij hcl hq hqv
  go_enter Try.func50, Try.ntmps50
  go_wp2_with (fail)
  go_quiet (first | (go_at_call 39; (with_reducible refine (impl_within.calls (i : Int) 0 m true _ H1.out).mono ?_); rintro e w' ⟨rfl, ⟨nd, rfl⟩⟩; (try first | exact ⟨rfl, _, World.drewN_drewN _ _ _⟩ | exact ⟨rfl, _, Eq.trans (World.drewN_drewN _ _ _) (congrArg (World.drewN _) (Nat.add_assoc _ _ _))⟩)) | (go_at_call 39; (with_reducible refine (impl_within.calls (j : Int) 0 m true _ H2.out).mono ?_); rintro e w' ⟨rfl, ⟨nd, rfl⟩⟩; (try first | exact ⟨rfl, _, World.drewN_drewN _ _ _⟩ | exact ⟨rfl, _, Eq.trans (World.drewN_drewN _ _ _) (congrArg (World.drewN _) (Nat.add_assoc _ _ _))⟩)))
  go_wp2_with (fail)
  have hcl2 := HCL.out
  rw [← HN.out] at hcl2
  have hcc := impl_Yard_cloned.calls 1000 h (some adrI) c xs h xs (((w.alloc (.cells #[.int .i64 h, .slice (some adrI) n c] 27)).alloc (.cells #[.int .i64 0, .slice none 0 0] 27)).drewN nq) (Kd.C_below HC.out (pw_below_drewN (below_alloc (below_alloc (Below.refl w.heap.size w) (.cells #[.int .i64 h, .slice (some adrI) n c] 27)) (.cells #[.int .i64 0, .slice none 0 0] 27)) nq)) HCL.out HCLN.out
  rw [← HN.out] at hcc
  refine hcc.mono ?_
  clear hcc
  rintro e w1 ⟨v, rfl, hS0, hb1⟩
  have HBL := Aside0.mk (below_step (pw_below_drewN (below_alloc (below_alloc (Below.refl w.heap.size w) (.cells #[.int .i64 h, .slice (some adrI) n c] 27)) (.cells #[.int .i64 0, .slice none 0 0] 27)) nq) hb1)
  have HB6 := Aside0.mk (blk_below (show (((w.alloc (.cells #[.int .i64 h, .slice (some adrI) n c] 27)).alloc (.cells #[.int .i64 0, .slice none 0 0] 27)).drewN nq).heap[w.heap.size + 1]? = some (.cells #[.int .i64 0, .slice none 0 0] 27 (0, 0)) from blk_new' w _ _) hb1)
  have HLO := Aside0.mk (show w.heap.size + 1 < w1.heap.size from blk_lt HB6.out)
  have hS1 : Kd.S dR 31 w1 (w.heap.size + 2) (fun k => k ≠ w1.heap.size) v xs := Kd.S_mono (Kd.S_elderB (Kd.S_lower hS0 (Nat.le_of_eq (show w.heap.size + 2 = ((w.alloc (.cells #[.int .i64 h, .slice (some adrI) n c] 27)).alloc (.cells #[.int .i64 0, .slice none 0 0] 27)).heap.size by simp))) w1.heap.size (Nat.le_refl _)) (fun k hk => hk.2)
  obtain ⟨Av, cv, hv⟩ := Kd.S_slice hS1
  rw [← HN.out] at hv
  subst hv
  have hS := Kd.S_alloc hS1 (.cells #[.int .i64 h, .slice Av n cv] 27)
  have hb : (w1.alloc (.cells #[.int .i64 h, .slice Av n cv] 27)).heap[w1.heap.size]? = some (.cells #[.int .i64 h, .slice Av n cv] 27 (0, 0)) := blk_new w1 _
  have HB6W := Aside0.mk (blk_alloc HB6.out (.cells #[.int .i64 h, .slice Av n cv] 27))
  have HBLW := Aside0.mk (below_alloc HBL.out (.cells #[.int .i64 h, .slice Av n cv] 27))
  have HSZ := Aside0.mk (show (w1.alloc (.cells #[.int .i64 h, .slice Av n cv] 27)).heap.size = w1.heap.size + 1 by simp)
  clear hS0 hb1 hS1 hcl2
  obtain ⟨gs, rfl⟩ : ∃ gs, Av = some ⟨gs, 0, none⟩ := by
    have := HN.out
    obtain ⟨gs, cap, he, _⟩ := Kd.S_form hS (by omega)
    injection he with he _ _
    exact ⟨gs, he⟩
  have hi' : i < n := by have := HN.out; omega
  have hj' : j < n := by have := HN.out; omega
  obtain ⟨okI, cI, hMI, hclI, hcI, hokI, hbackI⟩ := row_out (d := dR) rfl hS i hi' hi (fun k hk => by have := blk_lt hb; omega)
  obtain ⟨okJ, cJ, hMJ, hclJ, hcJ, hokJ, hbackJ⟩ := row_out (d := dR) rfl hS j hj' hj (fun k hk => by have := blk_lt hb; omega)
  obtain ⟨vI, rfl, hRI⟩ := hMI
  obtain ⟨vJ, rfl, hRJ⟩ := hMJ
  rw [← HRI.out] at hRI
  rw [← HRJ.out] at hRJ
  obtain ⟨AI, capI, rfl⟩ := Kd.R_slice hRI
  obtain ⟨AJ, capJ, rfl⟩ := Kd.R_slice hRJ
  have yI := hcI _ rfl
  have yJ := hcJ _ rfl
  have bx0 : (w1.alloc (.cells #[.int .i64 h, .slice (some ⟨gs, 0, none⟩) n cv] 27)).cell? ⟨w1.heap.size, 0, none⟩ = some (.int .i64 h) := (blk_cell hb 0).trans rfl
  have bx1 : (w1.alloc (.cells #[.int .i64 h, .slice (some ⟨gs, 0, none⟩) n cv] 27)).cell? ⟨w1.heap.size, 1, none⟩ = some (.slice (some ⟨gs, 0, none⟩) n cv) := (blk_cell hb 1).trans rfl
  obtain ⟨gI, eI, hxq⟩ := Kd.at_int (Kd.R_reads' hRI).2.2 q (by have := HQ.out; omega) (by have := HQ.out; omega)
  subst eI
  have HB := Aside0.mk hb
  have HGL := Aside0.mk (blk_lt hb)
  obtain ⟨f, hf⟩ := rows_f hS
  obtain ⟨uI, k1, -, k2⟩ := hf i hi
  obtain ⟨uJ, k3, k4, k5⟩ := hf j hj
  obtain rfl : uI = .slice (some gI) rI.length capI := by rw [yI] at k1; injection k1 with k1; exact k1.symm
  obtain rfl : uJ = .slice AJ rJ.length capJ := by rw [yJ] at k3; injection k3 with k3; exact k3.symm
  have HFR := Aside0.mk k4
  have hRJb := hRJ.1
  have HGS := Aside0.mk (show gs < (w1.alloc (.cells #[.int .i64 h, .slice (some ⟨gs, 0, none⟩) n cv] 27)).heap.size from World.block_lt_of_cell? _ _ yI)
  have HGI := Aside0.mk (show gI.block < (w1.alloc (.cells #[.int .i64 h, .slice (some ⟨gs, 0, none⟩) n cv] 27)).heap.size ∧ some gI.block ≠ (Value.slice AJ rJ.length capJ).ownBlock from ⟨by have := World.block_lt_of_cell? _ _ hxq; rwa [add_block] at this, fun e => by
    have a1 := (k2.1 gI.block rfl).2
    have a2 := (k5.1 gI.block e.symm).2
    have := HIJ.out
    omega⟩)
  have HGNE := Aside0.mk (show w1.heap.size ≠ gs from fun e => by
    obtain ⟨f0, hS0, _⟩ := hS
    exact hS0 gs (by simp [Value.ownBlock]) e.symm)
  have HGLO := Aside0.mk (show (w.heap.size + 2) ≤ gs from Kd.S_base hS gs (by simp [Value.ownBlock]))
  have HX := Aside0.mk (And.intro bx0 (And.intro bx1 (And.intro yI (And.intro yJ hxq))))
  have HBJ := Aside0.mk hbackJ
  have HRJR := Aside0.mk hRJ
  have HOK := Aside0.mk (And.intro hokI hokJ)
  clear hf k1 k2 k3 k4 k5 hbackI hbackJ hRI hRJ hokI hokJ hS hcI hcJ hclI hclJ hb
  go_wp2_with (fail)
  refine start_ (n := 20) (S := fun w' => w'.cell? ⟨w1.heap.size, 1, none⟩ = some (.slice (some ⟨gs, 0, none⟩) n cv) ∧ w'.cell? ⟨gs, j, none⟩ = some (.slice AJ rJ.length capJ) ∧ w'.cell? ⟨gs, i, none⟩ = some (.slice (some gI) rI.length capI) ∧ w'.cell? (gI.add q.toNat) = some (.int .i64 (rd rI q))) (ds := [19]) #[false, false, false, false, false, false, false, false, false, false, false, false, false, false, false, false, false, false, false, false] (by kernel_rfl) rfl rfl ⟨HX.out.2.1, HX.out.2.2.2.1, HX.out.2.2.1, HX.out.2.2.2.2⟩ (fun hHeld => ?_)
  have hV : Below (w1.alloc (.cells #[.int .i64 h, .slice (some ⟨gs, 0, none⟩) n cv] 27)).heap.size (w1.alloc (.cells #[.int .i64 h, .slice (some ⟨gs, 0, none⟩) n cv] 27)) (w1.alloc (.cells #[.int .i64 h, .slice (some ⟨gs, 0, none⟩) n cv] 27)).drew := below_drew (Below.refl _ _)
  have rV : Kd.R (Kd.int .i64) 2 (w1.alloc (.cells #[.int .i64 h, .slice (some ⟨gs, 0, none⟩) n cv] 27)).drew (w.heap.size + 2) (fun k => okJ k ∨ (w1.alloc (.cells #[.int .i64 h, .slice (some ⟨gs, 0, none⟩) n cv] 27)).heap.size ≤ k) (.slice AJ rJ.length capJ) rJ := Kd.R_mono (Kd.R_below HRJR.out hV) (fun k hk => .inl hk)
  generalize hw : (w1.alloc (.cells #[.int .i64 h, .slice (some ⟨gs, 0, none⟩) n cv] 27)).drew = V at hV rV hHeld ⊢
  have hVs : V.heap.size = (w1.alloc (.cells #[.int .i64 h, .slice (some ⟨gs, 0, none⟩) n cv] 27)).heap.size := by rw [← hw]; rfl
  clear hw
  refine pure_ (i := 0) (N := some 60) (v := ?_) (a' := ?_) #[true, false, false, false, false, false, false, false, false, false, false, false, false, false, false, false, false, false, false, false] rfl rfl (by kernel_rfl) (fun _ _ _ h => h) (Or.inl ⟨by rfl, ?_⟩) ?_ ?_
  rotate_left
  · intro w'
    go_simp
    with_reducible rfl
  rotate_left
  · simp only [Act.put, List.setIfInBounds_toArray, List.set_cons_zero, List.set_cons_succ, i64_w, i32_w]
    rfl
  refine pure_ (i := 2) (N := some 62) (v := ?_) (a' := ?_) #[true, false, true, false, false, false, false, false, false, false, false, false, false, false, false, false, false, false, false, false] rfl rfl (by kernel_rfl) (fun _ _ _ h => h) (Or.inl ⟨by rfl, ?_⟩) ?_ ?_
  rotate_left
  · intro w'
    go_simp
    with_reducible rfl
  rotate_left
  · simp only [Act.put, List.setIfInBounds_toArray, List.set_cons_zero, List.set_cons_succ, i64_w, i32_w]
    rfl
  refine pure_ (i := 3) (N := some 63) (v := ?_) (a' := ?_) #[true, false, true, true, false, false, false, false, false, false, false, false, false, false, false, false, false, false, false, false] rfl rfl (by kernel_rfl) (fun _ _ _ h => h) (Or.inl ⟨by rfl, ?_⟩) ?_ ?_
  rotate_left
  · intro w'
    go_simp
    with_reducible rfl
  rotate_left
  · simp only [Act.put, List.setIfInBounds_toArray, List.set_cons_zero, List.set_cons_succ, i64_w, i32_w]
    rfl
  refine pure_ (i := 5) (N := some 65) (v := ?_) (a' := ?_) #[true, false, true, true, false, true, false, false, false, false, false, false, false, false, false, false, false, false, false, false] rfl rfl (by kernel_rfl) (fun _ _ _ h => h) (Or.inl ⟨by rfl, ?_⟩) ?_ ?_
  rotate_left
  · intro w'
    go_simp
    with_reducible rfl
  rotate_left
  · simp only [Act.put, List.setIfInBounds_toArray, List.set_cons_zero, List.set_cons_succ, i64_w, i32_w]
    rfl
  refine pure_ (i := 8) (N := some 68) (v := ?_) (a' := ?_) #[true, false, true, true, false, true, false, false, true, false, false, false, false, false, false, false, false, false, false, false] rfl rfl (by kernel_rfl) (fun _ _ _ h => h) (Or.inl ⟨by rfl, ?_⟩) ?_ ?_
  rotate_left
  · intro w'
    go_simp
    with_reducible rfl
  rotate_left
  · simp only [Act.put, List.setIfInBounds_toArray, List.set_cons_zero, List.set_cons_succ, i64_w, i32_w]
    rfl
  refine pure_ (i := 10) (N := some 70) (v := ?_) (a' := ?_) #[true, false, true, true, false, true, false, false, true, false, true, false, false, false, false, false, false, false, false, false] rfl rfl (by kernel_rfl) (fun _ _ _ h => h) (Or.inl ⟨by rfl, ?_⟩) ?_ ?_
  rotate_left
  · intro w'
    go_simp
    with_reducible rfl
  rotate_left
  · simp only [Act.put, List.setIfInBounds_toArray, List.set_cons_zero, List.set_cons_succ, i64_w, i32_w]
    rfl
  refine pure_ (i := 13) (N := some 73) (v := ?_) (a' := ?_) #[true, false, true, true, false, true, false, false, true, false, true, false, false, true, false, false, false, false, false, false] rfl rfl (by kernel_rfl) (fun _ _ _ h => h) (Or.inl ⟨by rfl, ?_⟩) ?_ ?_
  rotate_left
  · intro w'
    go_simp
    with_reducible rfl
  rotate_left
  · simp only [Act.put, List.setIfInBounds_toArray, List.set_cons_zero, List.set_cons_succ, i64_w, i32_w]
    rfl
  refine take_ (i := 1) (N := some 61) (v := ?_) (a' := ?_) #[true, true, true, true, false, true, false, false, true, false, true, false, false, true, false, false, false, false, false, false] rfl rfl (by kernel_rfl) (fun _ _ _ h => h) (Or.inl ⟨by rfl, ?_⟩) hHeld ?_ ?_
  rotate_left
  · rintro w' ⟨s0, s1, s2, s3⟩
    go_simp
    with_reducible rfl
  rotate_left
  · simp only [Act.put, List.setIfInBounds_toArray, List.set_cons_zero, List.set_cons_succ, i64_w, i32_w]
    rfl
  refine take_ (i := 4) (N := some 64) (v := ?_) (a' := ?_) #[true, true, true, true, true, true, false, false, true, false, true, false, false, true, false, false, false, false, false, false] rfl rfl (by kernel_rfl) (fun _ _ _ h => h) (Or.inl ⟨by rfl, ?_⟩) hHeld ?_ ?_
  rotate_left
  · rintro w' ⟨s0, s1, s2, s3⟩
    go_simp
    with_reducible rfl
  rotate_left
  · simp only [Act.put, List.setIfInBounds_toArray, List.set_cons_zero, List.set_cons_succ, i64_w, i32_w]
    rfl
  refine pure_ (i := 6) (N := some 66) (v := ?_) (a' := ?_) #[true, true, true, true, true, true, true, false, true, false, true, false, false, true, false, false, false, false, false, false] rfl rfl (by kernel_rfl) (fun _ _ _ h => h) (Or.inl ⟨by rfl, ?_⟩) ?_ ?_
  rotate_left
  · intro w'
    go_simp
    with_reducible rfl
  rotate_left
  · simp only [Act.put, List.setIfInBounds_toArray, List.set_cons_zero, List.set_cons_succ, i64_w, i32_w]
    rfl
  refine take_ (i := 7) (N := some 67) (v := ?_) (a' := ?_) #[true, true, true, true, true, true, true, true, true, false, true, false, false, true, false, false, false, false, false, false] rfl rfl (by kernel_rfl) (fun _ _ _ h => h) (Or.inl ⟨by rfl, ?_⟩) hHeld ?_ ?_
  rotate_left
  · rintro w' ⟨s0, s1, s2, s3⟩
    go_simp
    with_reducible rfl
  rotate_left
  · simp only [Act.put, List.setIfInBounds_toArray, List.set_cons_zero, List.set_cons_succ, i64_w, i32_w]
    rfl
  refine take_ (i := 9) (N := some 69) (v := ?_) (a' := ?_) #[true, true, true, true, true, true, true, true, true, true, true, false, false, true, false, false, false, false, false, false] rfl rfl (by kernel_rfl) (fun _ _ _ h => h) (Or.inl ⟨by rfl, ?_⟩) hHeld ?_ ?_
  rotate_left
  · rintro w' ⟨s0, s1, s2, s3⟩
    go_simp
    with_reducible rfl
  rotate_left
  · simp only [Act.put, List.setIfInBounds_toArray, List.set_cons_zero, List.set_cons_succ, i64_w, i32_w]
    rfl
  refine pure_ (i := 11) (N := some 71) (v := ?_) (a' := ?_) #[true, true, true, true, true, true, true, true, true, true, true, true, false, true, false, false, false, false, false, false] rfl rfl (by kernel_rfl) (fun _ _ _ h => h) (Or.inl ⟨by rfl, ?_⟩) ?_ ?_
  rotate_left
  · intro w'
    go_simp
    with_reducible rfl
  rotate_left
  · simp only [Act.put, List.setIfInBounds_toArray, List.set_cons_zero, List.set_cons_succ, i64_w, i32_w]
    rfl
  refine take_ (i := 12) (N := some 72) (v := ?_) (a' := ?_) #[true, true, true, true, true, true, true, true, true, true, true, true, true, true, false, false, false, false, false, false] rfl rfl (by kernel_rfl) (fun _ _ _ h => h) (Or.inl ⟨by rfl, ?_⟩) hHeld ?_ ?_
  rotate_left
  · rintro w' ⟨s0, s1, s2, s3⟩
    go_simp
    with_reducible rfl
  rotate_left
  · simp only [Act.put, List.setIfInBounds_toArray, List.set_cons_zero, List.set_cons_succ, i64_w, i32_w]
    rfl
  refine pure_ (i := 14) (N := some 74) (v := ?_) (a' := ?_) #[true, true, true, true, true, true, true, true, true, true, true, true, true, true, true, false, false, false, false, false] rfl rfl (by kernel_rfl) (fun _ _ _ h => h) (Or.inl ⟨by rfl, ?_⟩) ?_ ?_
  rotate_left
  · intro w'
    go_simp
    with_reducible rfl
  rotate_left
  · simp only [Act.put, List.setIfInBounds_toArray, List.set_cons_zero, List.set_cons_succ, i64_w, i32_w]
    rfl
  refine take_ (i := 15) (N := some 75) (v := ?_) (a' := ?_) #[true, true, true, true, true, true, true, true, true, true, true, true, true, true, true, true, false, false, false, false] rfl rfl (by kernel_rfl) (fun _ _ _ h => h) (Or.inl ⟨by rfl, ?_⟩) hHeld ?_ ?_
  rotate_left
  · rintro w' ⟨s0, s1, s2, s3⟩
    go_simp
    with_reducible rfl
  rotate_left
  · simp only [Act.put, List.setIfInBounds_toArray, List.set_cons_zero, List.set_cons_succ, i64_w, i32_w]
    rfl
  refine one_ (i := 16) (N := some 76) #[true, true, true, true, true, true, true, true, true, true, true, true, true, true, true, true, true, false, false, false] rfl rfl (by kernel_rfl) (by decide) (fun K_ hK => ?_)
  refine value_ (v := .slice (some ⟨V.heap.size, 0, none⟩) 1 1) (w1 := V.alloc (.cells #[.int .i64 (rd rI q)] 2)) (by rfl) rfl ?_ ?_
  · go_simp
    first | done | exact ⟨rfl, rfl⟩ | rfl
  have hal := below_alloc (Below.refl V.heap.size V) (.cells #[.int .i64 (rd rI q)] 2)
  obtain ⟨t0, t1, t2, t3⟩ := hHeld
  refine hK.out _ _ ⟨pw_cell_below hal t0, pw_cell_below hal t1, pw_cell_below hal t2, pw_cell_below hal t3⟩ (fun hHeld => ?_)
  clear hK K_
  refine norm_ (a' := ?_) ?_ ?_
  rotate_left
  · show Act.put _ (some 76) _ = _
    simp only [Act.put, List.setIfInBounds_toArray, List.set_cons_zero, List.set_cons_succ, i64_w, i32_w]
    rfl
  refine one_ (i := 17) (N := some 77) #[true, true, true, true, true, true, true, true, true, true, true, true, true, true, true, true, true, true, false, false] rfl rfl (by kernel_rfl) (by decide) (fun K_ hK => ?_)
  refine Kd.R_append_step (Kd.int .i64) (w0 := (w1.alloc (.cells #[.int .i64 h, .slice (some ⟨gs, 0, none⟩) n cv] 27))) (w.heap.size + 2) (by rfl) (.tmp 67) (.tmp 76) 31 2 (.int .i64 0) 8 rfl Try.underlying31 infoI rfl (by decide) (by decide) (.slice AJ rJ.length capJ) rJ (rd rI q) [.int .i64 (rd rI q)] (fun k => okJ k ∨ (w1.alloc (.cells #[.int .i64 h, .slice (some ⟨gs, 0, none⟩) n cv] 27)).heap.size ≤ k) (fun _ => False) rfl rfl rfl (fun _ hk => hk.elim) (fun k hk => .inr (by omega)) rV (Below.mono hV (by have := HGLO.out; have := HGS.out; omega)) (by have := HGLO.out; have := HGS.out; omega) (by omega) ?_
  intro v1 w2 h1 Hb2 h3 h4
  obtain ⟨A1, c1, rfl⟩ := Kd.R_slice h1
  have h1L := h1
  rw [show (rJ ++ [rd rI q]).length = rJ.length + 1 by simp] at h1L
  have hs2 := h3.size
  have nb : ∀ k, ¬ okJ k → k < (w1.alloc (.cells #[.int .i64 h, .slice (some ⟨gs, 0, none⟩) n cv] 27)).heap.size → w2.heap[k]? = V.heap[k]? := fun k hn hk => h3.block k (by omega) (fun e => hn (hRJb k e.symm))
  have hgs := HGS.out
  have hgl := HGL.out
  have z0 : w2.cell? ⟨w1.heap.size, 1, none⟩ = some (.slice (some ⟨gs, 0, none⟩) n cv) := (World.cell?_of_block (w := V) (nb w1.heap.size (fun h => (HOK.out.2 _ h).1 rfl) hgl)).trans t0
  have z1 : w2.cell? ⟨gs, j, none⟩ = some (.slice AJ rJ.length capJ) := (World.cell?_of_block (w := V) (nb gs (fun h => (HOK.out.2 gs h).2 rfl) hgs)).trans t1
  have z2 : w2.cell? ⟨gs, i, none⟩ = some (.slice (some gI) rI.length capI) := (World.cell?_of_block (w := V) (nb gs (fun h => (HOK.out.2 gs h).2 rfl) hgs)).trans t2
  have z3 : w2.cell? (gI.add q.toNat) = some (.int .i64 (rd rI q)) := (World.cell?_of_block (w := V) (by rw [add_block]; exact h3.block gI.block (by have := HGI.out.1; omega) HGI.out.2)).trans t3
  have z4 : w2.frozen? ⟨gs, j, none⟩ = false := (World.frozen?_of_block (w := V) (nb gs (fun h => (HOK.out.2 gs h).2 rfl) hgs)).trans ((World.frozen?_of_block (w := (w1.alloc (.cells #[.int .i64 h, .slice (some ⟨gs, 0, none⟩) n cv] 27))) (hV.block gs hgs)).trans HFR.out)
  have hy3 := HBJ.out w2 (.slice A1 (rJ.length + 1) c1) (rJ ++ [rd rI q]) (by omega) (fun k hk hn => (nb k hn hk).trans (hV.block k hk)) ⟨_, rfl, h1L⟩
  have HY3 := Aside0.mk hy3
  have HB2 := Aside0.mk Hb2
  have HNB := Aside0.mk (show ∀ k, ¬ okJ k → k < (w1.alloc (.cells #[.int .i64 h, .slice (some ⟨gs, 0, none⟩) n cv] 27)).heap.size → w2.heap[k]? = (w1.alloc (.cells #[.int .i64 h, .slice (some ⟨gs, 0, none⟩) n cv] 27)).heap[k]? from fun k hn hk => (nb k hn hk).trans (hV.block k hk))
  clear h1L h1 Hb2 h3 h4 nb hy3 rV hVs hV t0 t1 t2 t3 hal hgs hgl
  refine hK.out _ _ ⟨z0, z1, z2, z3⟩ (fun hHeld => ?_)
  clear hK K_
  refine norm_ (a' := ?_) ?_ ?_
  rotate_left
  · show Act.put _ (some 77) _ = _
    simp only [Act.put, List.setIfInBounds_toArray, List.set_cons_zero, List.set_cons_succ, i64_w, i32_w]
    rfl
  refine pure_ (i := 18) (N := some 78) (v := ?_) (a' := ?_) #[true, true, true, true, true, true, true, true, true, true, true, true, true, true, true, true, true, true, true, false] rfl rfl (by kernel_rfl) (fun _ _ _ h => h) (Or.inl ⟨by rfl, ?_⟩) ?_ ?_
  rotate_left
  · intro w'
    go_simp
    with_reducible rfl
  rotate_left
  · simp only [Act.put, List.setIfInBounds_toArray, List.set_cons_zero, List.set_cons_succ, i64_w, i32_w]
    rfl
  refine last_ (i := 19) (N := none) #[true, true, true, true, true, true, true, true, true, true, true, true, true, true, true, true, true, true, true, true] rfl rfl (by kernel_rfl) (by decide) (fun K_ hK => ?_)
  refine skip_ (w1 := ?_) (by rfl) rfl ?_ ?_
  rotate_left
  · go_simp
    rfl
  refine hK.out _ _ ?_
  clear hK K_
  refine done_ (by kernel_rfl) ?_
  have hlo2 : (w.heap.size + 2) ≤ (w1.alloc (.cells #[.int .i64 h, .slice (some ⟨gs, 0, none⟩) n cv] 27)).heap.size := by have := HGLO.out; have := HGS.out; omega
  have hset : YO (w.heap.size + 2) (w2.setCell ⟨gs, j, none⟩ (.slice A1 (rJ.length + 1) c1)) w1.heap.size h (xs.set j (rJ ++ [rd rI q])) := by
    refine ⟨some ⟨gs, 0, none⟩, cv, ?_, by have := HLO.out; omega, ?_, ?_⟩
    · rw [List.length_set, ← HN.out, Below.heap_setCell _ _ _ _ HGNE.out, HNB.out w1.heap.size (fun h => (HOK.out.2 _ h).1 rfl) HGL.out]; exact HB.out
    · exact Nat.le_trans hlo2 (HB2.out.setCell (p := ⟨gs, j, none⟩) HGLO.out _).size
    · rw [List.length_set, ← HN.out]; exact HY3.out.1
  have hb3 : Below (w.heap.size + 2) (w1.alloc (.cells #[.int .i64 h, .slice (some ⟨gs, 0, none⟩) n cv] 27)) (w2.setCell ⟨gs, j, none⟩ (.slice A1 (rJ.length + 1) c1)) := HB2.out.setCell (p := ⟨gs, j, none⟩) HGLO.out _
  generalize hw3 : w2.setCell ⟨gs, j, none⟩ (.slice A1 (rJ.length + 1) c1) = w3 at hset hb3 ⊢
  clear hw3 z0 z1 z2 z3 z4 hHeld HY3 HB2 HNB bx0 bx1 yI yJ hxq
  have HB3 := Aside0.mk hb3
  have HB63 := Aside0.mk ((hb3.block (w.heap.size + 1) (by omega)).trans HB6W.out)
  clear hb3
  obtain ⟨A3, c3, hb3, -, hlo3, hS3⟩ := hset
  have hn' := HN.out
  have q0 := of_eq_true pq
  have q1 := of_eq_true qq
  have hl3 : (xs.set j (rJ ++ [rd rI q])).length = n := by rw [List.length_set, HN.out]
  rw [hl3] at hb3 hS3
  obtain ⟨gs3, rfl⟩ : ∃ gs3, A3 = some ⟨gs3, 0, none⟩ := by
    obtain ⟨gs3, cap, he, _⟩ := Kd.S_form hS3 (by omega)
    rw [hl3] at he
    injection he with he _ _
    exact ⟨gs3, he⟩
  obtain ⟨okK, cK, hMK, hclK, hcK, hokK, hbackK⟩ := row_out (d := dW) rfl (sW_of_sR hS3) i hi' (by omega) (fun k hk => by have := blk_lt hb3; omega)
  obtain ⟨vK, rfl, hRK⟩ := hMK
  have xK := hcK _ rfl
  have e4 : (xs.set j (rJ ++ [rd rI q]))[i]'(by omega) = rI := (List.getElem_set_ne (Ne.symm HIJ.out) _).trans HRI.out.symm
  rw [e4] at hRK
  obtain ⟨AK, capK, rfl, hcapK, -⟩ := hRK.reads
  have hcut := cutm_run AK rI.length capK q (by omega) (by omega) hcapK
  obtain ⟨f3, hf3⟩ := rows_f hS3
  obtain ⟨uK, k1, k2, -⟩ := hf3 i (by omega)
  obtain rfl : uK = .slice AK rI.length capK := by rw [xK] at k1; injection k1 with k1; exact k1.symm
  have yx1 : w3.cell? ⟨w1.heap.size, 1, none⟩ = some (.slice (some ⟨gs3, 0, none⟩) n c3) := (blk_cell hb3 1).trans rfl
  have HRK := Aside0.mk (rowW_cut (m := q.toNat) hRK (by omega))
  have HBK := Aside0.mk hbackK
  have HB3' := Aside0.mk hb3
  have HGN3 := Aside0.mk (show w1.heap.size ≠ gs3 from fun e => by
    obtain ⟨f0, hS0, _⟩ := hS3
    exact hS0 gs3 (by simp [Value.ownBlock]) e.symm)
  have HGL3 := Aside0.mk (show (w.heap.size + 2) ≤ gs3 from Kd.S_base hS3 gs3 (by simp [Value.ownBlock]))
  have HX3 := Aside0.mk (And.intro yx1 xK)
  clear hb3 hlo3 hS3 hcK hokK hbackK hRK e4 hf3 hl3 hclK hn' q0 q1 hcapK
  go_wp2_with (fail)
  refine start_ (n := 13) (S := fun w' => w'.cell? ⟨w1.heap.size, 1, none⟩ = some (.slice (some ⟨gs3, 0, none⟩) n c3) ∧ w'.cell? ⟨gs3, i, none⟩ = some (.slice AK rI.length capK)) (ds := [12]) #[false, false, false, false, false, false, false, false, false, false, false, false, false] (by kernel_rfl) rfl rfl HX3.out (fun hHeld => ?_)
  refine pure_ (i := 0) (N := some 79) (v := ?_) (a' := ?_) #[true, false, false, false, false, false, false, false, false, false, false, false, false] rfl rfl (by kernel_rfl) (fun _ _ _ h => h) (Or.inl ⟨by rfl, ?_⟩) ?_ ?_
  rotate_left
  · intro w'
    go_simp
    with_reducible rfl
  rotate_left
  · simp only [Act.put, List.setIfInBounds_toArray, List.set_cons_zero, List.set_cons_succ, i64_w, i32_w]
    rfl
  refine pure_ (i := 2) (N := some 81) (v := ?_) (a' := ?_) #[true, false, true, false, false, false, false, false, false, false, false, false, false] rfl rfl (by kernel_rfl) (fun _ _ _ h => h) (Or.inl ⟨by rfl, ?_⟩) ?_ ?_
  rotate_left
  · intro w'
    go_simp
    with_reducible rfl
  rotate_left
  · simp only [Act.put, List.setIfInBounds_toArray, List.set_cons_zero, List.set_cons_succ, i64_w, i32_w]
    rfl
  refine pure_ (i := 3) (N := some 82) (v := ?_) (a' := ?_) #[true, false, true, true, false, false, false, false, false, false, false, false, false] rfl rfl (by kernel_rfl) (fun _ _ _ h => h) (Or.inl ⟨by rfl, ?_⟩) ?_ ?_
  rotate_left
  · intro w'
    go_simp
    with_reducible rfl
  rotate_left
  · simp only [Act.put, List.setIfInBounds_toArray, List.set_cons_zero, List.set_cons_succ, i64_w, i32_w]
    rfl
  refine pure_ (i := 5) (N := some 84) (v := ?_) (a' := ?_) #[true, false, true, true, false, true, false, false, false, false, false, false, false] rfl rfl (by kernel_rfl) (fun _ _ _ h => h) (Or.inl ⟨by rfl, ?_⟩) ?_ ?_
  rotate_left
  · intro w'
    go_simp
    with_reducible rfl
  rotate_left
  · simp only [Act.put, List.setIfInBounds_toArray, List.set_cons_zero, List.set_cons_succ, i64_w, i32_w]
    rfl
  refine pure_ (i := 8) (N := some 87) (v := ?_) (a' := ?_) #[true, false, true, true, false, true, false, false, true, false, false, false, false] rfl rfl (by kernel_rfl) (fun _ _ _ h => h) (Or.inl ⟨by rfl, ?_⟩) ?_ ?_
  rotate_left
  · intro w'
    go_simp
    with_reducible rfl
  rotate_left
  · simp only [Act.put, List.setIfInBounds_toArray, List.set_cons_zero, List.set_cons_succ, i64_w, i32_w]
    rfl
  refine pure_ (i := 9) (N := some 88) (v := ?_) (a' := ?_) #[true, false, true, true, false, true, false, false, true, true, false, false, false] rfl rfl (by kernel_rfl) (fun _ _ _ h => h) (Or.inl ⟨by rfl, ?_⟩) ?_ ?_
  rotate_left
  · intro w'
    go_simp
    with_reducible rfl
  rotate_left
  · simp only [Act.put, List.setIfInBounds_toArray, List.set_cons_zero, List.set_cons_succ, i64_w, i32_w]
    rfl
  refine take_ (i := 1) (N := some 80) (v := ?_) (a' := ?_) #[true, true, true, true, false, true, false, false, true, true, false, false, false] rfl rfl (by kernel_rfl) (fun _ _ _ h => h) (Or.inl ⟨by rfl, ?_⟩) hHeld ?_ ?_
  rotate_left
  · rintro w' ⟨s0, s1⟩
    go_simp
    with_reducible rfl
  rotate_left
  · simp only [Act.put, List.setIfInBounds_toArray, List.set_cons_zero, List.set_cons_succ, i64_w, i32_w]
    rfl
  refine take_ (i := 4) (N := some 83) (v := ?_) (a' := ?_) #[true, true, true, true, true, true, false, false, true, true, false, false, false] rfl rfl (by kernel_rfl) (fun _ _ _ h => h) (Or.inl ⟨by rfl, ?_⟩) hHeld ?_ ?_
  rotate_left
  · rintro w' ⟨s0, s1⟩
    go_simp
    with_reducible rfl
  rotate_left
  · simp only [Act.put, List.setIfInBounds_toArray, List.set_cons_zero, List.set_cons_succ, i64_w, i32_w]
    rfl
  refine pure_ (i := 6) (N := some 85) (v := ?_) (a' := ?_) #[true, true, true, true, true, true, true, false, true, true, false, false, false] rfl rfl (by kernel_rfl) (fun _ _ _ h => h) (Or.inl ⟨by rfl, ?_⟩) ?_ ?_
  rotate_left
  · intro w'
    go_simp
    with_reducible rfl
  rotate_left
  · simp only [Act.put, List.setIfInBounds_toArray, List.set_cons_zero, List.set_cons_succ, i64_w, i32_w]
    rfl
  refine take_ (i := 7) (N := some 86) (v := ?_) (a' := ?_) #[true, true, true, true, true, true, true, true, true, true, false, false, false] rfl rfl (by kernel_rfl) (fun _ _ _ h => h) (Or.inl ⟨by rfl, ?_⟩) hHeld ?_ ?_
  rotate_left
  · rintro w' ⟨s0, s1⟩
    go_simp
    with_reducible rfl
  rotate_left
  · simp only [Act.put, List.setIfInBounds_toArray, List.set_cons_zero, List.set_cons_succ, i64_w, i32_w]
    rfl
  refine pure_ (i := 10) (N := some 89) (v := ?_) (a' := ?_) #[true, true, true, true, true, true, true, true, true, true, true, false, false] rfl rfl (by kernel_rfl) (fun _ _ _ h => h) (Or.inl ⟨by rfl, ?_⟩) ?_ ?_
  rotate_left
  · intro w'
    go_simp
    with_reducible rfl
  rotate_left
  · simp only [Act.put, List.setIfInBounds_toArray, List.set_cons_zero, List.set_cons_succ, i64_w, i32_w]
    rfl
  refine pure_ (i := 11) (N := some 90) (v := ?_) (a' := ?_) #[true, true, true, true, true, true, true, true, true, true, true, true, false] rfl rfl (by kernel_rfl) (fun _ _ _ h => h) (Or.inl ⟨by rfl, ?_⟩) ?_ ?_
  rotate_left
  · intro w'
    go_simp
    with_reducible rfl
  rotate_left
  · simp only [Act.put, List.setIfInBounds_toArray, List.set_cons_zero, List.set_cons_succ, i64_w, i32_w]
    rfl
  refine last_ (i := 12) (N := none) #[true, true, true, true, true, true, true, true, true, true, true, true, true] rfl rfl (by kernel_rfl) (by decide) (fun K_ hK => ?_)
  refine skip_ (w1 := ?_) (by rfl) rfl ?_ ?_
  rotate_left
  · go_simp
    rfl
  refine hK.out _ _ ?_
  clear hK K_
  refine done_ (by kernel_rfl) ?_
  obtain ⟨p1, p2⟩ := HBK.out w3 (.slice AK q.toNat q.toNat) (rI.take q.toNat) (Nat.le_refl _) (fun _ _ _ => rfl) ⟨_, rfl, by
    have := HRK.out
    rcases this with h | ⟨g1, cap1, cur1, hv, hb', ho, r1⟩
    · exact .inl h
    · exact .inr ⟨g1, cap1, cur1, hv, hb', .inl ho, r1⟩⟩
  have b5 : (w3.setCell ⟨gs3, i, none⟩ (.slice AK q.toNat q.toNat)).drew.heap[w1.heap.size]? = some (.cells #[.int .i64 h, .slice (some ⟨gs3, 0, none⟩) n c3] 27 (0, 0)) := by
    show (w3.setCell ⟨gs3, i, none⟩ (.slice AK q.toNat q.toNat)).heap[w1.heap.size]? = _
    rw [Below.heap_setCell _ _ _ _ HGN3.out]; exact HB3'.out
  have b6 : (w3.setCell ⟨gs3, i, none⟩ (.slice AK q.toNat q.toNat)).drew.heap[w.heap.size + 1]? = some (.cells #[.int .i64 0, .slice none 0 0] 27 (0, 0)) := by
    show (w3.setCell ⟨gs3, i, none⟩ (.slice AK q.toNat q.toNat)).heap[w.heap.size + 1]? = _
    rw [Below.heap_setCell _ _ _ _ (show w.heap.size + 1 ≠ gs3 by have := HGL3.out; omega)]; exact HB63.out
  have p3 := Kd.S_drew p1
  have p4 : Below (w.heap.size + 2) (w1.alloc (.cells #[.int .i64 h, .slice (some ⟨gs, 0, none⟩) n cv] 27)) (w3.setCell ⟨gs3, i, none⟩ (.slice AK q.toNat q.toNat)).drew := below_drew (HB3.out.setCell (p := ⟨gs3, i, none⟩) HGL3.out _)
  generalize hw5 : (w3.setCell ⟨gs3, i, none⟩ (.slice AK q.toNat q.toNat)).drew = w5 at b5 b6 p3 p4 ⊢
  have y0 : w5.cell? ⟨w1.heap.size, 0, none⟩ = some (.int .i64 h) := (blk_cell b5 0).trans rfl
  have y1 : w5.cell? ⟨w1.heap.size, 1, none⟩ = some (.slice (some ⟨gs3, 0, none⟩) n c3) := (blk_cell b5 1).trans rfl
  have g0 : w5.cell? ⟨w.heap.size + 1, 0, none⟩ = some (.int .i64 0) := (blk_cell b6 0).trans rfl
  have g1 : w5.cell? ⟨w.heap.size + 1, 1, none⟩ = some (.slice none 0 0) := (blk_cell b6 1).trans rfl
  have g2 := blk_frozen b6 0
  have g3 := blk_frozen b6 1
  have B6 := Aside0.mk b6
  have P3 := Aside0.mk p3
  have P4 := Aside0.mk p4
  have HNE5 := Aside0.mk (show w1.heap.size ≠ w.heap.size + 1 by have := HLO.out; omega)
  clear hw5 p1 p2 p3 p4 b5 b6 hHeld yx1 xK k1 k2
  go_wp2_with (fail)
  have b7 := blk_put (blk_put B6.out 0 (.int .i64 h) rfl) 1 (.slice (some ⟨gs3, 0, none⟩) n c3) rfl
  have hm' : moveRows xs i j = (xs.set j (rJ ++ [rd rI q])).set i (rI.take q.toNat) := by
    have a1 := HQ.out
    have a2 : xs.getD i [] = rI := by rw [List.getD_eq_getElem?_getD, List.getElem?_eq_getElem hi, HRI.out]; rfl
    have a3 : xs.getD j [] = rJ := by rw [List.getD_eq_getElem?_getD, List.getElem?_eq_getElem hj, HRJ.out]; rfl
    unfold moveRows
    rw [a2, a3, ← a1, show q.toNat = rI.length - 1 by omega]
  refine bodyPost_ret (results_ct rfl _ _ (w.heap.size + 1) 27 #[.int .i64 h, .slice (some ⟨gs3, 0, none⟩) n c3] (0, 0) _ rfl b7 Try.underlying27 rfl (by kernel_rfl)) rfl ?_
  refine ⟨_, rfl, ?_, ?_⟩
  · rw [hm']
    exact Kd.S_mono (Kd.S_far (p := ⟨w.heap.size + 1, 1, none⟩) (Kd.S_far (p := ⟨w.heap.size + 1, 0, none⟩) (Kd.S_lower (Kd.S_bound P3.out) (by omega : w.heap.size ≤ (w.heap.size + 2))) (fun k hk => by have := hk.2.1; show k ≠ w.heap.size + 1; omega) _) (fun k hk => by have := hk.2.1; show k ≠ w.heap.size + 1; omega) _) (fun _ _ => trivial)
  · exact ((HBLW.out.trans (P4.out.mono (by omega))).setCell (p := ⟨w.heap.size + 1, 0, none⟩) (Nat.le_succ _) _).setCell (p := ⟨w.heap.size + 1, 1, none⟩) (Nat.le_succ _) _
end Go.Proofs.Ytibaiaenfeppcaa.Ymv

-- made by a patched copy of print.sh: this session's own
namespace Go.Proofs.Ytibaiaenfeppcaa.Q
open Go.RowKit Go.Proofs.YtibaiaenfeppcaaW.PrintWords Go.Proofs.YtibaiaenfeppcaaW.PrintLast Go.Proofs.YtibaiaenfeppcaaW.PrintMore
attribute [local go_sem] max2_int min2_int max_two min_two max_three min_three max_four min_four   -- for this text's walks alone
set_option linter.unusedVariables false
set_option linter.unusedSimpArgs false

/-! ### impl_Yard_lots: function 42 -/
def impl_Yard_lots.f (a0_0 : Int) (l0_1 : List (List Int)) : Option (List Int) := if l0_1.length ≤ 1000000 ∧ l0_1.flatten.length ≤ 1000000 then some l0_1.flatten else none
theorem impl_Yard_lots.calls (a0_0 : Int) (A0_1 : Option Addr) (c0_1 : Nat) (l0_1 : List (List Int)) (r : List Int) (w : World) (hr0_1 : Kd.C (Kd.slice 2 (Kd.int .i64)) w A0_1 l0_1.length l0_1) (hc0_1 : l0_1.length ≤ c0_1) (h : impl_Yard_lots.f a0_0 l0_1 = some r) :
    Calls Try.prog 42 #[.agg #[.int .i64 a0_0, .slice A0_1 l0_1.length c0_1]] w fun e w' => ∃ v0_ : Value, e = .returned (v0_) ∧ Kd.R (Kd.int .i64) 2 w' w.heap.size (fun _ => True) v0_ r ∧ Below w.heap.size w w' := by
  unfold impl_Yard_lots.f at h
  split at h
  · rename_i hh
    obtain rfl := Option.some.inj h
    exact Yv.lots_any a0_0 A0_1 c0_1 l0_1 hh.1 hh.2 w hr0_1
  · cases h

end Go.Proofs.Ytibaiaenfeppcaa.Q

-- made by a patched copy of print.sh: this session's own
namespace Go.Proofs.Ytibaiaenfeppcaa.Q
open Go.RowKit Go.Proofs.YtibaiaenfeppcaaW.PrintWords Go.Proofs.YtibaiaenfeppcaaW.PrintLast Go.Proofs.YtibaiaenfeppcaaW.PrintMore
attribute [local go_sem] max2_int min2_int max_two min_two max_three min_three max_four min_four   -- for this text's walks alone
set_option linter.unusedVariables false
set_option linter.unusedSimpArgs false

/-! ### slices_Min_int64_int64: function 46 -/
def slices_Min_int64_int64.f (l0 : List Int) : Option (Int) := if 0 < l0.length then some (Yv.minOf l0) else none
theorem slices_Min_int64_int64.calls (A0 : Option Addr) (c0 : Nat) (l0 : List Int) (r : Int) (w : World) (hr0 : Kd.C (Kd.int .i64) w A0 l0.length l0) (hc0 : l0.length ≤ c0) (h : slices_Min_int64_int64.f l0 = some r) :
    Calls Try.prog 46 #[.slice A0 l0.length c0] w fun e w' => e = .returned (.int .i64 r) ∧ Below w.heap.size w w' := by
  unfold slices_Min_int64_int64.f at h
  split at h
  · obtain rfl := Option.some.inj h
    refine (Yv.min_any A0 c0 l0 ‹_› w hr0).mono ?_
    rintro e w' ⟨rfl, rfl⟩
    exact ⟨rfl, Below.refl _ _⟩
  · cases h

end Go.Proofs.Ytibaiaenfeppcaa.Q

-- made by a patched copy of print.sh: this session's own
namespace Go.Proofs.Ytibaiaenfeppcaa.Q
open Go.RowKit Go.Proofs.YtibaiaenfeppcaaW.PrintWords Go.Proofs.YtibaiaenfeppcaaW.PrintLast Go.Proofs.YtibaiaenfeppcaaW.PrintMore
attribute [local go_sem] max2_int min2_int max_two min_two max_three min_three max_four min_four   -- for this text's walks alone
set_option linter.unusedVariables false
set_option linter.unusedSimpArgs false

/-! ### slices_Index_int64_int64: function 73 -/
def slices_Index_int64_int64.l0 : Nat → List Int → Int → Int → Int → Option (Int)
  | 0, _, _, _, _ => none
  | k + 1, x0, x1, x7, x8 => if x8 < x7 then (if 0 ≤ x8 then (if x8 < (x0.length : Int) then (if x1 = (rd x0 x8) then (some x8) else (slices_Index_int64_int64.l0 k x0 x1 x7 (wrap64 (x8 + 1)))) else (none)) else (none)) else (some (-1))
def slices_Index_int64_int64.f (k : Nat) (l0 : List Int) (a1 : Int) : Option (Int) := slices_Index_int64_int64.l0 k l0 a1 (l0.length : Int) 0
set_option maxHeartbeats 8000000 in
set_option maxRecDepth 100000 in
theorem slices_Index_int64_int64.calls (k : Nat) (A0 : Option Addr) (c0 : Nat) (l0 : List Int) (a1 : Int) (r : Int) (w : World) (hr0 : Kd.C (Kd.int .i64) w A0 l0.length l0) (hc0 : l0.length ≤ c0) (h : slices_Index_int64_int64.f k l0 a1 = some r) :
    Calls Try.prog 73 #[.slice A0 l0.length c0, .int .i64 a1] w fun e w' => e = .returned (.int .i64 r) ∧ Drawn0 w w' := by
  have HR0 := Aside0.mk hr0
  have HC0 := Aside0.mk hc0
  clear hr0 hc0
  have H : (slices_Index_int64_int64.l0 k l0 a1 (l0.length : Int) 0) = some r := h
  clear h
  have H' := Aside0.mk H
  clear H
  go_enter Try.func73, Try.ntmps73
  go_wp2
  go_loopg [8] k (fun kq v8 w' => ∃ (x8_1 : Int), v8 = .int .i64 x8_1 ∧ Aside0 (slices_Index_int64_int64.l0 kq l0 a1 (l0.length : Int) x8_1 = some r) ∧ Aside0 (kq ≤ k) ∧ Drawn0 w w')
  case atStart => exact ⟨(0), (by first | rfl | (simp; done) | (simp [*]; done)), H', ⟨Nat.le_refl _⟩, by repeat (first | exact Drawn0.refl _ | apply Drawn0.step)⟩
  case round =>
    clear H'
    try clear p2
    obtain ⟨x8_1, rfl, HA, HK1, ⟨m1, rfl⟩⟩ := hrel
    cases gk with
    | zero => exact absurd HA.out (by simp [slices_Index_int64_int64.l0])
    | succ k1 =>
      have H := HA.out
      clear HA
      simp only [slices_Index_int64_int64.l0] at H
      by_cases c3 : x8_1 < (l0.length : Int)
      · rw [if_pos c3] at H
        have c3b0 : decide (x8_1 < (l0.length : Int)) = true := decide_eq_true c3
        clear c3
        by_cases c4 : 0 ≤ x8_1
        · rw [if_pos c4] at H
          have c4b0 : decide (0 ≤ x8_1) = true := decide_eq_true c4
          clear c4
          by_cases c5 : x8_1 < (l0.length : Int)
          · rw [if_pos c5] at H
            have c5b0 : decide (x8_1 < (l0.length : Int)) = true := decide_eq_true c5
            clear c5
            by_cases c6 : a1 = (rd l0 x8_1)
            · rw [if_pos c6] at H
              have c6b0 : (a1 == (rd l0 x8_1)) = true := beq_iff_eq.mpr c6
              have c6b1 : (a1 != (rd l0 x8_1)) = false := bne_eq_false_iff_eq.mpr c6
              clear c6
              obtain rfl := Option.some.inj H
              have p412 : 0 ≤ (x8_1 : Int) := of_decide_eq_true (by first | (with_reducible assumption) | assumption)
              have q412 : x8_1 < (l0.length : Int) := of_decide_eq_true (by first | (with_reducible assumption) | assumption)
              obtain ⟨ad412, e412, hx412_0⟩ := Kd.at_int HR0.out x8_1 p412 q412
              cases e412
              replace p412 := eq_true p412
              replace q412 := eq_true q412
              go_wp2
              go_ret
              exact ⟨by first | rfl | (simp; done) | (simp [*]; done), by repeat (first | exact Drawn0.refl _ | apply Drawn0.step)⟩
            · rw [if_neg c6] at H
              have c6b0 : (a1 == (rd l0 x8_1)) = false := beq_eq_false_iff_ne.mpr c6
              have c6b1 : (a1 != (rd l0 x8_1)) = true := bne_iff_ne.mpr c6
              have H' := Aside0.mk H
              clear H
              have p412 : 0 ≤ (x8_1 : Int) := of_decide_eq_true (by first | (with_reducible assumption) | assumption)
              have q412 : x8_1 < (l0.length : Int) := of_decide_eq_true (by first | (with_reducible assumption) | assumption)
              obtain ⟨ad412, e412, hx412_0⟩ := Kd.at_int HR0.out x8_1 p412 q412
              cases e412
              replace p412 := eq_true p412
              replace q412 := eq_true q412
              go_wp2
              go_roundg k1
              case measure => have := HK1.out; omega
              case rel => exact ⟨(wrap64 (x8_1 + 1)), (by first | rfl | (simp; done) | (simp [*]; done)), H', ⟨by have := HK1.out; omega⟩, by repeat (first | exact Drawn0.refl _ | apply Drawn0.step)⟩
          · rw [if_neg c5] at H
            exact absurd H (by simp)
        · rw [if_neg c4] at H
          exact absurd H (by simp)
      · rw [if_neg c3] at H
        have c3b0 : decide (x8_1 < (l0.length : Int)) = false := decide_eq_false c3
        clear c3
        obtain rfl := Option.some.inj H
        go_wp2
        go_ret
        exact ⟨by first | rfl | (simp; done) | (simp [*]; done), by repeat (first | exact Drawn0.refl _ | apply Drawn0.step)⟩

end Go.Proofs.Ytibaiaenfeppcaa.Q

-- made by a patched copy of print.sh: this session's own
namespace Go.Proofs.Ytibaiaenfeppcaa.Q
open Go.RowKit Go.Proofs.YtibaiaenfeppcaaW.PrintWords Go.Proofs.YtibaiaenfeppcaaW.PrintLast Go.Proofs.YtibaiaenfeppcaaW.PrintMore
attribute [local go_sem] max2_int min2_int max_two min_two max_three min_three max_four min_four   -- for this text's walks alone
set_option linter.unusedVariables false
set_option linter.unusedSimpArgs false

/-! ### impl_Yard_holder: function 49 -/
def impl_Yard_holder.l0 : Nat → Int → List (List Int) → Int → Int → Option (Int × Bool)
  | 0, _, _, _, _ => none
  | k + 1, x5, x17, x18, x19 => if x19 < x18 then (if 0 ≤ x19 then (if x19 < (x17.length : Int) then ((slices_Index_int64_int64.f k (rd_L1 x17 x19) x5).bind fun t419 => (if t419 ≥ 0 then (some (x19, (t419 == (wrap64 (((rd_L1 x17 x19).length : Int) - 1))))) else (impl_Yard_holder.l0 k x5 x17 x18 (wrap64 (x19 + 1))))) else (none)) else (none)) else (some ((-1), false))
def impl_Yard_holder.f (k : Nat) (a0_0 : Int) (l0_1 : List (List Int)) : Option (Int × Bool) := (impl_Yard_lots.f a0_0 l0_1).bind fun t414 => (if (t414.length : Int) = 0 then (some ((-1), false)) else ((slices_Min_int64_int64.f t414).bind fun t417 => (impl_Yard_holder.l0 k t417 l0_1 (l0_1.length : Int) 0)))
set_option maxHeartbeats 8000000 in
set_option maxRecDepth 100000 in
theorem impl_Yard_holder.calls (k : Nat) (a0_0 : Int) (A0_1 : Option Addr) (c0_1 : Nat) (l0_1 : List (List Int)) (r1 : Int) (r2 : Bool) (w : World) (hr0_1 : Kd.C (Kd.slice 2 (Kd.int .i64)) w A0_1 l0_1.length l0_1) (hc0_1 : l0_1.length ≤ c0_1) (h : impl_Yard_holder.f k a0_0 l0_1 = some (r1, r2)) :
    Calls Try.prog 49 #[.agg #[.int .i64 a0_0, .slice A0_1 l0_1.length c0_1]] w fun e w' => e = .returned (.tuple #[.int .i64 r1, .bool r2]) ∧ Below w.heap.size w w' := by
  have hu27 := Try.underlying27
  have HR0_1 := Aside0.mk hr0_1
  have HC0_1 := Aside0.mk hc0_1
  clear hr0_1 hc0_1
  have HB := Aside0.mk (Below.refl w.heap.size w)
  have H : ((impl_Yard_lots.f a0_0 l0_1).bind fun t414 => (if (t414.length : Int) = 0 then (some ((-1), false)) else ((slices_Min_int64_int64.f t414).bind fun t417 => (impl_Yard_holder.l0 k t417 l0_1 (l0_1.length : Int) 0)))) = some (r1, r2) := h
  clear h
  replace H := Option.bind_eq_some_iff.mp H
  obtain ⟨t414, A20, H⟩ := H
  replace H : (if (t414.length : Int) = 0 then (some ((-1), false)) else ((slices_Min_int64_int64.f t414).bind fun t417 => (impl_Yard_holder.l0 k t417 l0_1 (l0_1.length : Int) 0))) = some (r1, r2) := H
  have A2 := Aside0.mk A20
  clear A20
  by_cases c3 : (t414.length : Int) = 0
  · rw [if_pos c3] at H
    have c3b0 : ((t414.length : Int) == 0) = true := beq_iff_eq.mpr c3
    have c3b1 : ((t414.length : Int) != 0) = false := bne_eq_false_iff_eq.mpr c3
    clear c3
    simp only [Option.some.injEq, Prod.mk.injEq] at H
    obtain ⟨rfl, rfl⟩ := H
    go_enter Try.func49, Try.ntmps49
    go_wp2_with (first | ((with_reducible refine gate_dst (N := 1) rfl ?_); refine box_event ?hg (N := 1) ?hd (cs := #[.int .i64 a0_0, .slice A0_1 l0_1.length c0_1]) (t := 27) ?hr ?_; (case hd => rfl); (case hg => rfl); (case hr => first | (go_simp; done) | (go_simp; rfl)); intro gb413 hg w4 hbox hb; have n0_ := Aside0.mk (below_step (by repeat (first | (with_reducible first | exact HB.out | apply below_alloc | apply pw_below_drewN | apply below_drew1) | exact HB.out)) hb); have n1_ := Aside0.mk (hbox); have n2_ := Aside0.mk ((by rw [hg]; exact (below_size (by repeat (first | (with_reducible first | exact HB.out | apply below_alloc | apply pw_below_drewN | apply below_drew1) | exact HB.out))) : w.heap.size ≤ gb413)); have n3_ := Aside0.mk ((by rw [hg]; exact (below_size (by repeat (first | (with_reducible first | exact HB.out | apply below_alloc | apply pw_below_drewN | apply below_drew1) | exact HB.out))) : w.heap.size ≤ gb413)); clear HB; have HB := n0_; have BK413 := n1_; have GW413 := n2_; have GE413 := n3_; clear n0_ n1_ n2_ n3_; clear hb hbox hg; have hcz5_0 : w4.cell? ⟨gb413, 0, none⟩ = some (.int .i64 a0_0) := (blk_cell BK413.out 0).trans rfl; have hcz5_1 : w4.cell? ⟨gb413, 1, none⟩ = some (.slice A0_1 l0_1.length c0_1) := (blk_cell BK413.out 1).trans rfl; have hfz5_0 := blk_frozen BK413.out 0; have hfz5_1 := blk_frozen BK413.out 1) | ((with_reducible refine gate_callee (f := 42) rfl ?_); refine goesL_ (some 10) rfl rfl Try.func42 (by kernel_rfl) rfl #[.agg #[.int .i64 a0_0, .slice A0_1 l0_1.length c0_1]] rfl (by (try simp only [List.map_toArray, List.map_cons, List.map_nil]); first | done | rfl | (simp only [List.length_drop, List.length_take]; rfl)) ?_; (with_reducible refine (impl_Yard_lots.calls a0_0 _ _ l0_1 t414 _ ?side1 ?side2 A2.out).mono ?_); (case side1 => repeat (first | exact (Kd.C_below HR0_1.out HB.out) | (with_reducible refine Kd.C_alloc ?_ _) | (with_reducible refine Kd.C_drewN ?_ _) | (with_reducible refine Kd.C_drew ?_))); (case side2 => exact HC0_1.out); rintro e w6 ⟨v415, rfl, ho0, hb⟩; refine ⟨_, rfl, ?_⟩; have n0_ := Aside0.mk (Kd.R_lower ho0 (below_size (by repeat (first | (with_reducible first | exact HB.out | apply below_alloc | apply pw_below_drewN | apply below_drew1 | refine below_set ?_ GE413.out) | exact HB.out)))); have n1_ := Aside0.mk (blk_below (g := gb413) (o := .cells #[.int .i64 a0_0, .slice A0_1 l0_1.length c0_1] 27 (0, 0)) (by (with_reducible repeat (first | refine blk_drewN ?_ _ | refine blk_drew ?_ | refine blk_alloc ?_ _)); exact BK413.out) hb); have n2_ := Aside0.mk (below_step (by repeat (first | (with_reducible first | exact HB.out | apply below_alloc | apply pw_below_drewN | apply below_drew1 | refine below_set ?_ GE413.out) | exact HB.out)) hb); clear BK413; clear HB; have HO416 := n0_; have BK413 := n1_; have HB := n2_; clear n0_ n1_ n2_; (try clear hb); (try clear hb2); (try clear hk); (try clear hi); (try clear ho0); obtain ⟨Ao7, co7, eo7⟩ := Kd.R_slice HO416.out; subst eo7))
    go_ret2
    exact ⟨by first | rfl | (simp [errW_none, errW_some] <;> rfl) | (simp [*, errW_none, errW_some] <;> rfl), by repeat (first | (with_reducible first | exact HB.out | apply below_alloc | apply pw_below_drewN | apply below_drew1 | refine below_set ?_ GE413.out) | exact HB.out)⟩
  · rw [if_neg c3] at H
    have c3b0 : ((t414.length : Int) == 0) = false := beq_eq_false_iff_ne.mpr c3
    have c3b1 : ((t414.length : Int) != 0) = true := bne_iff_ne.mpr c3
    have c3b2 : ¬ (t414 = []) := fun h_ => c3 (by rw [h_]; rfl)
    replace H := Option.bind_eq_some_iff.mp H
    obtain ⟨t417, A80, H⟩ := H
    replace H : (impl_Yard_holder.l0 k t417 l0_1 (l0_1.length : Int) 0) = some (r1, r2) := H
    have A8 := Aside0.mk A80
    clear A80
    have H' := Aside0.mk H
    clear H
    go_enter Try.func49, Try.ntmps49
    go_wp2_with (first | ((with_reducible refine gate_dst (N := 1) rfl ?_); refine box_event ?hg (N := 1) ?hd (cs := #[.int .i64 a0_0, .slice A0_1 l0_1.length c0_1]) (t := 27) ?hr ?_; (case hd => rfl); (case hg => rfl); (case hr => first | (go_simp; done) | (go_simp; rfl)); intro gb413 hg w9 hbox hb; have n0_ := Aside0.mk (below_step (by repeat (first | (with_reducible first | exact HB.out | apply below_alloc | apply pw_below_drewN | apply below_drew1) | exact HB.out)) hb); have n1_ := Aside0.mk (hbox); have n2_ := Aside0.mk ((by rw [hg]; exact (below_size (by repeat (first | (with_reducible first | exact HB.out | apply below_alloc | apply pw_below_drewN | apply below_drew1) | exact HB.out))) : w.heap.size ≤ gb413)); have n3_ := Aside0.mk ((by rw [hg]; exact (below_size (by repeat (first | (with_reducible first | exact HB.out | apply below_alloc | apply pw_below_drewN | apply below_drew1) | exact HB.out))) : w.heap.size ≤ gb413)); clear HB; have HB := n0_; have BK413 := n1_; have GW413 := n2_; have GE413 := n3_; clear n0_ n1_ n2_ n3_; clear hb hbox hg; have hcz10_0 : w9.cell? ⟨gb413, 0, none⟩ = some (.int .i64 a0_0) := (blk_cell BK413.out 0).trans rfl; have hcz10_1 : w9.cell? ⟨gb413, 1, none⟩ = some (.slice A0_1 l0_1.length c0_1) := (blk_cell BK413.out 1).trans rfl; have hfz10_0 := blk_frozen BK413.out 0; have hfz10_1 := blk_frozen BK413.out 1) | ((with_reducible refine gate_callee (f := 42) rfl ?_); refine goesL_ (some 10) rfl rfl Try.func42 (by kernel_rfl) rfl #[.agg #[.int .i64 a0_0, .slice A0_1 l0_1.length c0_1]] rfl (by (try simp only [List.map_toArray, List.map_cons, List.map_nil]); first | done | rfl | (simp only [List.length_drop, List.length_take]; rfl)) ?_; (with_reducible refine (impl_Yard_lots.calls a0_0 _ _ l0_1 t414 _ ?side1 ?side2 A2.out).mono ?_); (case side1 => repeat (first | exact (Kd.C_below HR0_1.out HB.out) | (with_reducible refine Kd.C_alloc ?_ _) | (with_reducible refine Kd.C_drewN ?_ _) | (with_reducible refine Kd.C_drew ?_))); (case side2 => exact HC0_1.out); rintro e w11 ⟨v415, rfl, ho0, hb⟩; refine ⟨_, rfl, ?_⟩; have n0_ := Aside0.mk (Kd.R_lower ho0 (below_size (by repeat (first | (with_reducible first | exact HB.out | apply below_alloc | apply pw_below_drewN | apply below_drew1 | refine below_set ?_ GE413.out) | exact HB.out)))); have n1_ := Aside0.mk (blk_below (g := gb413) (o := .cells #[.int .i64 a0_0, .slice A0_1 l0_1.length c0_1] 27 (0, 0)) (by (with_reducible repeat (first | refine blk_drewN ?_ _ | refine blk_drew ?_ | refine blk_alloc ?_ _)); exact BK413.out) hb); have n2_ := Aside0.mk (below_step (by repeat (first | (with_reducible first | exact HB.out | apply below_alloc | apply pw_below_drewN | apply below_drew1 | refine below_set ?_ GE413.out) | exact HB.out)) hb); clear BK413; clear HB; have HO416 := n0_; have BK413 := n1_; have HB := n2_; clear n0_ n1_ n2_; (try clear hb); (try clear hb2); (try clear hk); (try clear hi); (try clear ho0); obtain ⟨Ao12, co12, eo12⟩ := Kd.R_slice HO416.out; subst eo12) | ((with_reducible refine gate_callee (f := 46) rfl ?_); refine goesL_ (some 15) rfl rfl Try.func46 (by kernel_rfl) rfl #[.slice Ao12 t414.length co12] rfl (by (try simp only [List.map_toArray, List.map_cons, List.map_nil]); first | done | rfl | (simp only [List.length_drop, List.length_take]; rfl)) ?_; (with_reducible refine (slices_Min_int64_int64.calls _ _ t414 t417 _ ?side1 ?side2 A8.out).mono ?_); (case side1 => repeat (first | exact (Kd.R_reads' HO416.out).2.2 | (with_reducible refine Kd.C_alloc ?_ _) | (with_reducible refine Kd.C_drewN ?_ _) | (with_reducible refine Kd.C_drew ?_))); (case side2 => exact (Kd.R_reads' HO416.out).2.1); rintro e w13 ⟨rfl, hb⟩; refine ⟨_, rfl, ?_⟩; have n0_ := Aside0.mk (Kd.R_below (by (with_reducible repeat (first | apply Kd.R_alloc | apply Kd.R_drewN | apply Kd.R_drew)); exact HO416.out) hb); have n1_ := Aside0.mk (blk_below (g := gb413) (o := .cells #[.int .i64 a0_0, .slice A0_1 l0_1.length c0_1] 27 (0, 0)) (by (with_reducible repeat (first | refine blk_drewN ?_ _ | refine blk_drew ?_ | refine blk_alloc ?_ _)); exact BK413.out) hb); have n2_ := Aside0.mk (below_step (by repeat (first | (with_reducible first | exact HB.out | apply below_alloc | apply pw_below_drewN | apply below_drew1 | refine below_set ?_ GE413.out) | exact HB.out)) hb); clear HO416; clear BK413; clear HB; have HO416 := n0_; have BK413 := n1_; have HB := n2_; clear n0_ n1_ n2_; (try clear hb); (try clear hb2); (try clear hk); (try clear hi); have hcz14_0 : w13.cell? ⟨gb413, 0, none⟩ = some (.int .i64 a0_0) := (blk_cell BK413.out 0).trans rfl; have hcz14_1 : w13.cell? ⟨gb413, 1, none⟩ = some (.slice A0_1 l0_1.length c0_1) := (blk_cell BK413.out 1).trans rfl; have hfz14_0 := blk_frozen BK413.out 0; have hfz14_1 := blk_frozen BK413.out 1))
    go_loopg [19] k (fun kq v19 w' => ∃ (x19_1 : Int), v19 = .int .i64 x19_1 ∧ Aside0 (impl_Yard_holder.l0 kq t417 l0_1 (l0_1.length : Int) x19_1 = some (r1, r2)) ∧ Aside0 (kq ≤ k) ∧ Aside0 (w'.heap[gb413]? = some (.cells #[.int .i64 a0_0, (.slice A0_1 l0_1.length c0_1)] 27 (0, 0))) ∧ Aside0 (Below w.heap.size w w'))
    case atStart => exact ⟨(0), (by first | rfl | (simp; done) | (simp [*]; done)), H', ⟨Nat.le_refl _⟩, ⟨by (with_reducible repeat (first | refine blk_drewN ?_ _ | refine blk_drew ?_ | refine blk_alloc ?_ _)); exact BK413.out⟩, ⟨by repeat (first | (with_reducible first | exact HB.out | apply below_alloc | apply pw_below_drewN | apply below_drew1 | refine below_set ?_ GE413.out) | exact HB.out)⟩⟩
    case round =>
      clear H'
      try clear p2
      try clear c3
      try clear c3b0
      try clear c3b1
      try clear c3b2
      try clear c4
      try clear hcz10_0
      try clear hcz10_1
      try clear hcz14_0
      try clear hcz14_1
      try clear hcz5_0
      try clear hcz5_1
      try clear hfz10_0
      try clear hfz10_1
      try clear hfz14_0
      try clear hfz14_1
      try clear hfz5_0
      try clear hfz5_1
      obtain ⟨x19_1, rfl, HA, HK1, BK413, HB⟩ := hrel
      cases gk with
      | zero => exact absurd HA.out (by simp [impl_Yard_holder.l0])
      | succ k1 =>
        have H := HA.out
        clear HA
        simp only [impl_Yard_holder.l0] at H
        by_cases c15 : x19_1 < (l0_1.length : Int)
        · rw [if_pos c15] at H
          have c15b0 : decide (x19_1 < (l0_1.length : Int)) = true := decide_eq_true c15
          clear c15
          by_cases c16 : 0 ≤ x19_1
          · rw [if_pos c16] at H
            have c16b0 : decide (0 ≤ x19_1) = true := decide_eq_true c16
            clear c16
            by_cases c17 : x19_1 < (l0_1.length : Int)
            · rw [if_pos c17] at H
              have c17b0 : decide (x19_1 < (l0_1.length : Int)) = true := decide_eq_true c17
              clear c17
              replace H := Option.bind_eq_some_iff.mp H
              obtain ⟨t419, A180, H⟩ := H
              replace H : (if t419 ≥ 0 then (some (x19_1, (t419 == (wrap64 (((rd_L1 l0_1 x19_1).length : Int) - 1))))) else (impl_Yard_holder.l0 k1 t417 l0_1 (l0_1.length : Int) (wrap64 (x19_1 + 1)))) = some (r1, r2) := H
              have A18 := Aside0.mk A180
              clear A180
              by_cases c19 : t419 ≥ 0
              · rw [if_pos c19] at H
                have c19b0 : decide (0 ≤ t419) = true := decide_eq_true c19
                clear c19
                simp only [Option.some.injEq, Prod.mk.injEq] at H
                obtain ⟨rfl, rfl⟩ := H
                have p418 : 0 ≤ (x19_1 : Int) := of_decide_eq_true (by first | (with_reducible assumption) | assumption)
                have q418 : x19_1 < (l0_1.length : Int) := of_decide_eq_true (by first | (with_reducible assumption) | assumption)
                obtain ⟨ad418, A418_0, c418_0, e418, hx418_0, hl418_0, hi418_0⟩ := at_L1 HR0_1.out x19_1 p418 q418
                cases e418
                replace hx418_0 := (HB.out.cell (World.block_lt_of_cell? w _ hx418_0)).trans hx418_0
                have HR418_0 := Aside0.mk hi418_0
                have HC418_0 := Aside0.mk hl418_0
                clear hi418_0 hl418_0
                replace p418 := eq_true p418
                replace q418 := eq_true q418
                go_wp2_with (first | ((with_reducible refine gate_callee (f := 73) rfl ?_); refine goesL_ (some 26) rfl rfl Try.func73 (by kernel_rfl) rfl #[.slice A418_0 (rd_L1 l0_1 x19_1).length c418_0, .int .i64 t417] rfl (by (try simp only [List.map_toArray, List.map_cons, List.map_nil]); first | done | rfl | (simp only [List.length_drop, List.length_take]; rfl)) ?_; (with_reducible refine (slices_Index_int64_int64.calls k1 _ _ (rd_L1 l0_1 x19_1) t417 t419 _ ?side1 ?side2 A18.out).mono ?_); (case side1 => repeat (first | exact (Kd.C_below HR418_0.out HB.out) | (with_reducible refine Kd.C_alloc ?_ _) | (with_reducible refine Kd.C_drewN ?_ _) | (with_reducible refine Kd.C_drew ?_))); (case side2 => exact HC418_0.out); rintro e w' ⟨rfl, ⟨nd, rfl⟩⟩; refine ⟨_, rfl, ?_⟩))
                go_ret2
                exact ⟨by first | rfl | (simp [errW_none, errW_some] <;> rfl) | (simp [*, errW_none, errW_some] <;> rfl), by repeat (first | (with_reducible first | exact HB.out | apply below_alloc | apply pw_below_drewN | apply below_drew1 | refine below_set ?_ GE413.out) | exact HB.out)⟩
              · rw [if_neg c19] at H
                have c19b0 : decide (0 ≤ t419) = false := decide_eq_false c19
                clear c19
                have H' := Aside0.mk H
                clear H
                have p418 : 0 ≤ (x19_1 : Int) := of_decide_eq_true (by first | (with_reducible assumption) | assumption)
                have q418 : x19_1 < (l0_1.length : Int) := of_decide_eq_true (by first | (with_reducible assumption) | assumption)
                obtain ⟨ad418, A418_0, c418_0, e418, hx418_0, hl418_0, hi418_0⟩ := at_L1 HR0_1.out x19_1 p418 q418
                cases e418
                replace hx418_0 := (HB.out.cell (World.block_lt_of_cell? w _ hx418_0)).trans hx418_0
                have HR418_0 := Aside0.mk hi418_0
                have HC418_0 := Aside0.mk hl418_0
                clear hi418_0 hl418_0
                replace p418 := eq_true p418
                replace q418 := eq_true q418
                go_wp2_with (first | ((with_reducible refine gate_callee (f := 73) rfl ?_); refine goesL_ (some 26) rfl rfl Try.func73 (by kernel_rfl) rfl #[.slice A418_0 (rd_L1 l0_1 x19_1).length c418_0, .int .i64 t417] rfl (by (try simp only [List.map_toArray, List.map_cons, List.map_nil]); first | done | rfl | (simp only [List.length_drop, List.length_take]; rfl)) ?_; (with_reducible refine (slices_Index_int64_int64.calls k1 _ _ (rd_L1 l0_1 x19_1) t417 t419 _ ?side1 ?side2 A18.out).mono ?_); (case side1 => repeat (first | exact (Kd.C_below HR418_0.out HB.out) | (with_reducible refine Kd.C_alloc ?_ _) | (with_reducible refine Kd.C_drewN ?_ _) | (with_reducible refine Kd.C_drew ?_))); (case side2 => exact HC418_0.out); rintro e w' ⟨rfl, ⟨nd, rfl⟩⟩; refine ⟨_, rfl, ?_⟩))
                go_roundg k1
                case measure => have := HK1.out; omega
                case rel => exact ⟨(wrap64 (x19_1 + 1)), (by first | rfl | (simp; done) | (simp [*]; done)), H', ⟨by have := HK1.out; omega⟩, ⟨by (with_reducible repeat (first | refine blk_drewN ?_ _ | refine blk_drew ?_ | refine blk_alloc ?_ _)); exact BK413.out⟩, ⟨by repeat (first | (with_reducible first | exact HB.out | apply below_alloc | apply pw_below_drewN | apply below_drew1 | refine below_set ?_ GE413.out) | exact HB.out)⟩⟩
            · rw [if_neg c17] at H
              exact absurd H (by simp)
          · rw [if_neg c16] at H
            exact absurd H (by simp)
        · rw [if_neg c15] at H
          have c15b0 : decide (x19_1 < (l0_1.length : Int)) = false := decide_eq_false c15
          clear c15
          simp only [Option.some.injEq, Prod.mk.injEq] at H
          obtain ⟨rfl, rfl⟩ := H
          go_wp2
          go_ret2
          exact ⟨by first | rfl | (simp [errW_none, errW_some] <;> rfl) | (simp [*, errW_none, errW_some] <;> rfl), by repeat (first | (with_reducible first | exact HB.out | apply below_alloc | apply pw_below_drewN | apply below_drew1 | refine below_set ?_ GE413.out) | exact HB.out)⟩

end Go.Proofs.Ytibaiaenfeppcaa.Q

