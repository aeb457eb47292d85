/- Parts of the proof that the law of this seat holds: PuTO, LBO. -/
import Derived.Test.YtibaiaenfeppcaaGBOpb
set_option linter.unusedVariables false
set_option linter.unusedSimpArgs false
/- Plain: the topmost lots and the blockers of a yard, by both sides. -/
namespace Go.Proofs.Ytibaiaenfeppcaa.PuTO
open Go.RowKit Go.Proofs.YtibaiaenfeppcaaW.PrintWords Go.Proofs.Ytibaiaenfeppcaa.Q Go.Proofs.Ytibaiaenfeppcaa.PuY
def topOf (s : List Int) : Int := if s.length = 0 then -1 else rd s ((s.length : Int) - 1)
theorem implTops_loop (xs : List (List Int)) (hl : xs.length ≤ 4) (hr : ∀ r ∈ xs, r.length ≤ 4) : ∀ (d k i : Nat) (acc : List Int), i + d = xs.length → d < k → acc.length ≤ i →
    impl_TopsOf.l0 k acc xs (xs.length : Int) (i : Int) = some (acc ++ (xs.drop i).map topOf, true) := by
  intro d
  induction d with
  | zero =>
    intro k i acc hi hk ha
    obtain ⟨k, rfl⟩ : ∃ m, k = m + 1 := ⟨k - 1, by omega⟩
    simp only [impl_TopsOf.l0]
    rw [if_neg (by omega), List.drop_eq_nil_of_le (by omega)]; simp
  | succ d ih =>
    intro k i acc hi hk ha
    obtain ⟨k, rfl⟩ : ∃ m, k = m + 1 := ⟨k - 1, by omega⟩
    have hlt : i < xs.length := by omega
    have hx := hr xs[i] (List.getElem_mem hlt)
    simp only [impl_TopsOf.l0]
    rw [if_pos (by omega), if_pos (by omega), if_pos (by omega), rdL_at xs i hlt, List.drop_eq_getElem_cons hlt, wrap_succ i (by omega), wrap_id (x := (xs[i].length : Int) - 1) (by omega) (by omega)]
    by_cases h0 : xs[i].length = 0
    · rw [if_pos (by omega), if_pos (by omega), ih k (i + 1) _ (by omega) (by omega) (by simp; omega)]
      rw [List.map_cons, show topOf xs[i] = -1 from if_pos h0, List.append_assoc]; rfl
    · rw [if_neg (by omega), if_pos (by omega), if_pos (by omega), if_pos (by omega), ih k (i + 1) _ (by omega) (by omega) (by simp; omega)]
      rw [List.map_cons, show topOf xs[i] = rd xs[i] ((xs[i].length : Int) - 1) from if_neg h0, List.append_assoc]; rfl
theorem specTops_loop (h : Int) (xs : List (List Int)) (hl : xs.length ≤ 4) (hr : ∀ r ∈ xs, r.length ≤ 4) : ∀ (d k i : Nat) (acc : List Int), i + d = xs.length → d < k → acc.length ≤ i →
    spec_TopsOf.l0 k acc (i : Int) h xs = some (acc ++ (xs.drop i).map topOf, true) := by
  intro d
  induction d with
  | zero =>
    intro k i acc hi hk ha
    obtain ⟨k, rfl⟩ : ∃ m, k = m + 1 := ⟨k - 1, by omega⟩
    simp only [spec_TopsOf.l0]
    rw [if_neg (by omega), List.drop_eq_nil_of_le (by omega)]; simp
  | succ d ih =>
    intro k i acc hi hk ha
    obtain ⟨k, rfl⟩ : ∃ m, k = m + 1 := ⟨k - 1, by omega⟩
    have hlt : i < xs.length := by omega
    have hx := hr xs[i] (List.getElem_mem hlt)
    simp only [spec_TopsOf.l0]
    rw [if_pos (by omega), if_pos (by omega), rdL_at xs i hlt, List.drop_eq_getElem_cons hlt, wrap_succ i (by omega), wrap_id (x := (xs[i].length : Int) - 1) (by omega) (by omega)]
    by_cases h0 : xs[i].length = 0
    · rw [if_neg (by omega), if_pos (by omega), ih k (i + 1) _ (by omega) (by omega) (by simp; omega)]
      rw [List.map_cons, show topOf xs[i] = -1 from if_pos h0, List.append_assoc]; rfl
    · rw [if_pos (by omega), if_pos (by omega), if_pos (by omega), if_pos (by omega), ih k (i + 1) _ (by omega) (by omega) (by simp; omega)]
      rw [List.map_cons, show topOf xs[i] = rd xs[i] ((xs[i].length : Int) - 1) from if_neg h0, List.append_assoc]; rfl
/-- What a valid yard is. -/
theorem valid_parts {h : Int} {xs : List (List Int)} (hv : Yv.valid h xs = true) : 1 ≤ h ∧ h ≤ 4 ∧ 1 ≤ xs.length ∧ xs.length ≤ 4 ∧ (∀ r ∈ xs, (r.length : Int) ≤ h) ∧ xs.flatten.Nodup ∧ xs.flatten.length ≤ 7 ∧ (∀ x ∈ xs.flatten, 0 ≤ x ∧ x ≤ 99) := by
  unfold Yv.valid Ha.inB Ha.areIn at hv
  simp only [Bool.and_eq_true, decide_eq_true_eq, List.all_eq_true] at hv
  obtain ⟨⟨a1, a2⟩, ⟨b1, b2⟩, c, d, e, f⟩ := hv
  refine ⟨a1, a2, by omega, by omega, c, d, by omega, fun x hx => ?_⟩
  have := f x hx
  unfold Ha.inB at this
  simpa using this
def topsR (h : Int) (xs : List (List Int)) : List Int := if Yv.valid h xs = true then xs.map topOf else []
theorem implTops (h : Int) (xs : List (List Int)) (k : Nat) (hk : 10 < k) : impl_TopsOf.f k h xs = some (topsR h xs, Yv.valid h xs) := by
  simp only [impl_TopsOf.f, impl_ValidYard.f, Option.bind_some, topsR]
  by_cases hv : Yv.valid h xs = true
  · obtain ⟨_, h2, _, h4, h5, _⟩ := valid_parts hv
    have := implTops_loop xs h4 (fun r hr => by have := h5 r hr; omega) xs.length k 0 [] (by omega) (by omega) (by simp)
    rw [if_pos hv, if_pos hv, hv]
    simpa using this
  · rw [if_neg hv, if_neg hv]; simp at hv; rw [hv]
theorem specTops (h : Int) (xs : List (List Int)) (hl : xs.length ≤ 1048576) (k : Nat) (hk : 300000 ≤ k) : spec_TopsOf.f k h xs = some (topsR h xs, Yv.valid h xs) := by
  simp only [spec_TopsOf.f, specYard_eq h xs hl k hk, Option.bind_some, topsR]
  by_cases hv : Yv.valid h xs = true
  · obtain ⟨_, h2, _, h4, h5, _⟩ := valid_parts hv
    have := specTops_loop h xs h4 (fun r hr => by have := h5 r hr; omega) xs.length k 0 [] (by omega) (by omega) (by simp)
    rw [if_pos hv, if_pos hv, hv]
    simpa using this
  · rw [if_neg hv, if_neg hv]; simp at hv; rw [hv]
theorem topsR_len (h : Int) (xs : List (List Int)) : (topsR h xs).length ≤ 1048576 := by
  unfold topsR
  by_cases hv : Yv.valid h xs = true
  · obtain ⟨_, h2, _, h4, h5, _⟩ := valid_parts hv
    rw [if_pos hv, List.length_map]; omega
  · rw [if_neg hv]; simp
/-! blockers -/
/-- The lots of a stack that lie above lesser ones; pre: those below. -/
def blk (pre : List Int) : List Int → List Int
  | [] => []
  | x :: t => (if pre.any (fun y => decide (y < x)) then [x] else []) ++ blk (pre ++ [x]) t
theorem blk_sub (l : List Int) : ∀ pre, (blk pre l).Sublist l := by
  induction l with
  | nil => intro pre; exact List.Sublist.refl _
  | cons x t ih =>
    intro pre
    unfold blk
    split
    · exact (ih _).cons_cons x
    · exact (ih _).cons x
def blkAll (xs : List (List Int)) : List Int := (xs.map (blk [])).flatten
theorem blkAll_cons (r : List Int) (rest : List (List Int)) : blkAll (r :: rest) = blk [] r ++ blkAll rest := rfl
theorem blkAll_sub (xs : List (List Int)) : (blkAll xs).Sublist xs.flatten := by
  induction xs with
  | nil => exact List.Sublist.refl _
  | cons r rest ih => rw [blkAll_cons, List.flatten_cons]; exact (blk_sub r []).append ih
/-- A number to its place among rising ones, once. -/
def put : List Int → Int → List Int
  | [], x => [x]
  | y :: t, x => if y < x then y :: put t x else if x < y then x :: y :: t else y :: t
theorem put_len (l : List Int) (x : Int) : (put l x).length ≤ l.length + 1 := by
  induction l with
  | nil => simp [put]
  | cons y t ih =>
    simp only [put]
    split
    · simp; omega
    · split <;> simp
theorem put_done (l : List Int) (x : Int) (hl : l.length ≤ 1000000) : ∀ (d k i : Nat) (acc : List Int), i + d = l.length → 2 * d < k → acc.length ≤ i + 1 → spec_l00Put.l0 k l x acc true (i : Int) = some (acc ++ l.drop i) := by
  intro d
  induction d with
  | zero =>
    intro k i acc hi hk ha
    obtain ⟨k, rfl⟩ : ∃ m, k = m + 1 := ⟨k - 1, by omega⟩
    simp only [spec_l00Put.l0]
    rw [if_neg (by omega), if_pos trivial, List.drop_eq_nil_of_le (by omega)]; simp
  | succ d ih =>
    intro k i acc hi hk ha
    obtain ⟨k, rfl⟩ : ∃ m, k = m + 2 := ⟨k - 2, by omega⟩
    have hlt : i < l.length := by omega
    simp only [spec_l00Put.l0, spec_l00Put.j1]
    rw [if_pos (by omega), if_pos trivial]
    rw [if_neg (by decide), if_pos (by omega), if_pos (by omega), if_pos (by omega), wrap_succ i (by omega), rd_at l i hlt, ih k (i + 1) _ (by omega) (by omega) (by simp; omega), List.drop_eq_getElem_cons hlt]
    simp
theorem put_loop (l : List Int) (x : Int) (hl : l.length ≤ 1000000) : ∀ (d k i : Nat) (acc : List Int), i + d = l.length → 2 * d < k → acc.length ≤ i → spec_l00Put.l0 k l x acc false (i : Int) = some (acc ++ put (l.drop i) x) := by
  intro d
  induction d with
  | zero =>
    intro k i acc hi hk ha
    obtain ⟨k, rfl⟩ : ∃ m, k = m + 1 := ⟨k - 1, by omega⟩
    simp only [spec_l00Put.l0]
    rw [if_neg (by omega), if_neg (by decide), if_pos (by omega), List.drop_eq_nil_of_le (by omega)]; simp [put]
  | succ d ih =>
    intro k i acc hi hk ha
    obtain ⟨k, rfl⟩ : ∃ m, k = m + 2 := ⟨k - 2, by omega⟩
    have hlt : i < l.length := by omega
    simp only [spec_l00Put.l0, spec_l00Put.j1, rd_at l i hlt]
    rw [if_pos (by omega), if_neg (by decide), if_pos (by omega), List.drop_eq_getElem_cons hlt, wrap_succ i (by omega)]
    generalize l[i] = y
    simp only [put]
    by_cases h1 : y < x
    · rw [if_pos h1, if_neg (by simpa using h1), if_pos (by omega), if_pos (by omega), if_pos (by omega), ih k (i + 1) _ (by omega) (by omega) (by simp; omega)]
      simp
    · rw [if_neg h1, if_pos (by simpa using h1), if_pos (by omega), if_pos (by omega)]
      by_cases h2 : x < y
      · rw [if_pos h2, if_pos h2, if_pos (by omega)]
        simp only [Option.bind_some]
        rw [if_pos (by simp; omega), put_done l x hl d k (i + 1) _ (by omega) (by omega) (by simp; omega)]
        simp
      · rw [if_neg h2, if_neg h2, if_pos (by omega), put_done l x hl d k (i + 1) _ (by omega) (by omega) (by simp; omega)]
        simp
theorem put_eq (l : List Int) (x : Int) (hl : l.length ≤ 1000000) (k : Nat) (hk : 3000000 ≤ k) : spec_l00Put.f k l x = some (put l x) := by
  have := put_loop l x hl l.length k 0 [] (by omega) (by omega) (by simp)
  simpa [spec_l00Put.f] using this
theorem put_perm (l : List Int) (x : Int) (hx : x ∉ l) : (put l x).Perm (x :: l) := by
  induction l with
  | nil => exact List.Perm.refl _
  | cons y t ih =>
    simp only [put]
    rw [List.mem_cons] at hx
    by_cases h1 : y < x
    · rw [if_pos h1]
      exact ((ih (fun h => hx (.inr h))).cons y).trans (List.Perm.swap x y t)
    · rw [if_neg h1, if_pos (by have : x ≠ y := fun h => hx (.inl h); omega)]
theorem put_sorted (l : List Int) (x : Int) (hs : l.Pairwise (fun a b => a ≤ b)) : (put l x).Pairwise (fun a b => a ≤ b) := by
  induction l with
  | nil => simp [put]
  | cons y t ih =>
    rw [List.pairwise_cons] at hs
    simp only [put]
    by_cases h1 : y < x
    · rw [if_pos h1, List.pairwise_cons]
      refine ⟨fun z hz => ?_, ih hs.2⟩
      have : ∀ (t : List Int), z ∈ put t x → z = x ∨ z ∈ t := by
        intro t
        induction t with
        | nil => intro h; simp [put] at h; exact .inl h
        | cons u t iht =>
          intro h
          simp only [put] at h
          split at h
          · rcases List.mem_cons.1 h with h | h
            · exact .inr (by simp [h])
            · rcases iht h with h | h
              · exact .inl h
              · exact .inr (by simp [h])
          · split at h
            · rcases List.mem_cons.1 h with h | h
              · exact .inl h
              · exact .inr h
            · exact .inr h
      rcases this t hz with h | h
      · omega
      · exact hs.1 z h
    · rw [if_neg h1]
      by_cases h2 : x < y
      · rw [if_pos h2, List.pairwise_cons]
        refine ⟨fun z hz => ?_, List.pairwise_cons.2 hs⟩
        rcases List.mem_cons.1 hz with rfl | h
        · omega
        · have := hs.1 z h; omega
      · rw [if_neg h2]; exact List.pairwise_cons.2 hs
theorem sorted_unique : ∀ (l m : List Int), l.Perm m → l.Pairwise (fun a b => a ≤ b) → m.Pairwise (fun a b => a ≤ b) → l = m := by
  intro l
  induction l with
  | nil => intro m hp _ _; exact (List.Perm.nil_eq hp)
  | cons a l ih =>
    intro m hp hl hm
    cases m with
    | nil => exact absurd hp.length_eq (by simp)
    | cons b m =>
      rw [List.pairwise_cons] at hl hm
      have h1 : a ≤ b := by
        have : b ∈ a :: l := hp.symm.mem_iff.1 (by simp)
        rcases List.mem_cons.1 this with rfl | h
        · omega
        · exact hl.1 b h
      have h2 : b ≤ a := by
        have : a ∈ b :: m := hp.mem_iff.1 (by simp)
        rcases List.mem_cons.1 this with rfl | h
        · omega
        · exact hm.1 a h
      obtain rfl : a = b := by omega
      rw [ih m (List.Perm.cons_inv hp) hl.2 hm.2]
theorem puts_perm (l : List Int) : ∀ (acc : List Int), (acc ++ l).Nodup → acc.Pairwise (fun a b => a ≤ b) → (l.foldl put acc).Perm (acc ++ l) ∧ (l.foldl put acc).Pairwise (fun a b => a ≤ b) := by
  induction l with
  | nil => intro acc _ hs; simp [hs]
  | cons x t ih =>
    intro acc hn hs
    have hx : x ∉ acc := by
      intro h
      rw [List.nodup_append] at hn
      exact hn.2.2 x h x (by simp) rfl
    have hp := put_perm acc x hx
    have hp2 : (put acc x ++ t).Perm (acc ++ x :: t) := (hp.append_right t).trans (by rw [List.cons_append]; exact List.perm_middle.symm)
    obtain ⟨h1, h2⟩ := ih (put acc x) (hp2.nodup_iff.2 hn) (put_sorted acc x hs)
    exact ⟨h1.trans hp2, h2⟩
theorem puts_eq (l : List Int) (hn : l.Nodup) : l.foldl put [] = Sv.srt l := by
  obtain ⟨h1, h2⟩ := puts_perm l [] (by simpa using hn) List.Pairwise.nil
  exact sorted_unique _ _ (h1.trans (by simpa using (Yv.srt_perm l).symm)) h2 (Yv.srt_sorted l)
theorem min_eq' (a b : Int) : spec_l00Min.f a b = some (min a b) := by
  unfold spec_l00Min.f
  by_cases h : a < b
  · rw [if_pos h]; congr 1; omega
  · rw [if_neg h]; congr 1; omega
def least (pre : List Int) : Int := pre.foldl min 100
theorem least_any (pre : List Int) (x : Int) (hx : x ≤ 99) : decide (least pre < x) = pre.any (fun y => decide (y < x)) := by
  have key : ∀ (pre : List Int) (m : Int), (pre.foldl min m < x) ↔ (m < x ∨ ∃ y ∈ pre, y < x) := by
    intro pre
    induction pre with
    | nil => intro m; simp
    | cons y t ih =>
      intro m
      rw [List.foldl_cons, ih]
      constructor
      · rintro (h | ⟨z, hz, h⟩)
        · by_cases hm : m < x
          · exact .inl hm
          · exact .inr ⟨y, by simp, by omega⟩
        · exact .inr ⟨z, by simp [hz], h⟩
      · rintro (h | ⟨z, hz, h⟩)
        · exact .inl (by omega)
        · rcases List.mem_cons.1 hz with rfl | hz
          · exact .inl (by omega)
          · exact .inr ⟨z, hz, h⟩
  rw [Bool.eq_iff_iff, decide_eq_true_eq, List.any_eq_true]
  unfold least
  rw [key]
  simp only [decide_eq_true_eq]
  constructor
  · rintro (h | h)
    · omega
    · exact h
  · exact .inr
theorem specRow_loop (h : Int) (xs : List (List Int)) (i : Nat) (hi : i < xs.length) (K0 : Nat) (hK : 4000000 ≤ K0) (hx99 : ∀ x ∈ xs[i], x ≤ 99) (hrl : xs[i].length ≤ 4) (hxl : xs.length ≤ 4) (res : List Int)
    (acc0 : List Int) (hnext : ∀ k, K0 ≤ k → spec_l09Blockers.l0 k ((blk [] xs[i]).foldl put acc0) ((i + 1 : Nat) : Int) h xs = some (res, h)) :
    ∀ (d k j : Nat) (acc : List Int), j + d = xs[i].length → K0 + d + 1 ≤ k → acc.length + d ≤ 100000 → (blk (xs[i].take j) (xs[i].drop j)).foldl put acc = (blk [] xs[i]).foldl put acc0 →
      spec_l09Blockers.l1 k acc (i : Int) (least (xs[i].take j)) (j : Int) h xs = some (res, h) := by
  intro d
  induction d with
  | zero =>
    intro k j acc hj hk ha he
    obtain ⟨k, rfl⟩ : ∃ m, k = m + 1 := ⟨k - 1, by omega⟩
    simp only [spec_l09Blockers.l1]
    rw [if_pos (by omega), if_pos (by omega), rdL_at xs i hi, if_neg (by omega), wrap_succ i (by omega)]
    rw [List.drop_eq_nil_of_le (by omega)] at he
    simp only [blk, List.foldl_nil] at he
    rw [he]
    exact hnext k (by omega)
  | succ d ih =>
    intro k j acc hj hk ha he
    obtain ⟨k, rfl⟩ : ∃ m, k = m + 1 := ⟨k - 1, by omega⟩
    have hlt : j < xs[i].length := by omega
    have htk : xs[i].take (j + 1) = xs[i].take j ++ [xs[i][j]] := List.take_succ_eq_append_getElem hlt
    have hle : least (xs[i].take (j + 1)) = min (least (xs[i].take j)) xs[i][j] := by rw [htk]; unfold least; rw [List.foldl_append]; rfl
    have hla := least_any (xs[i].take j) xs[i][j] (hx99 _ (List.getElem_mem hlt))
    rw [List.drop_eq_getElem_cons hlt] at he
    simp only [blk] at he
    rw [← htk, ← hla] at he
    simp only [spec_l09Blockers.l1]
    rw [if_pos (by omega), if_pos (by omega), rdL_at xs i hi, if_pos (by omega), if_pos (by omega), rd_at _ j hlt, wrap_succ j (by omega)]
    by_cases hc : least (xs[i].take j) < xs[i][j]
    · rw [if_pos hc, put_eq acc _ (by omega) k (by omega)]
      simp only [Option.bind_some, min_eq']
      rw [← hle]
      rw [if_pos (by simpa using hc), List.foldl_append] at he
      exact ih k (j + 1) _ (by omega) (by omega) (by have := put_len acc xs[i][j]; omega) he
    · rw [if_neg hc]
      simp only [Option.bind_some, min_eq']
      rw [← hle]
      rw [if_neg (by simpa using hc)] at he
      exact ih k (j + 1) _ (by omega) (by omega) (by omega) he
theorem specBlk_loop (h : Int) (xs : List (List Int)) (hxl : xs.length ≤ 4) (hr : ∀ r ∈ xs, r.length ≤ 4) (hx99 : ∀ r ∈ xs, ∀ x ∈ r, x ≤ 99) : ∀ (d i k : Nat) (acc : List Int), i + d = xs.length → 4000000 + 10 * d < k → acc.length ≤ 4 * i →
    spec_l09Blockers.l0 k acc (i : Int) h xs = some ((blkAll (xs.drop i)).foldl put acc, h) := by
  intro d
  induction d with
  | zero =>
    intro i k acc hi hk ha
    obtain ⟨k, rfl⟩ : ∃ m, k = m + 1 := ⟨k - 1, by omega⟩
    simp only [spec_l09Blockers.l0]
    rw [if_neg (by omega), List.drop_eq_nil_of_le (by omega)]; rfl
  | succ d ih =>
    intro i k acc hi hk ha
    obtain ⟨k, rfl⟩ : ∃ m, k = m + 1 := ⟨k - 1, by omega⟩
    have hlt : i < xs.length := by omega
    have hrl := hr _ (List.getElem_mem hlt)
    simp only [spec_l09Blockers.l0]
    rw [if_pos (by omega), List.drop_eq_getElem_cons hlt, blkAll_cons, List.foldl_append]
    have hlen : ∀ (l acc : List Int), (l.foldl put acc).length ≤ acc.length + l.length := by
      intro l
      induction l with
      | nil => intro acc; simp
      | cons x t iht => intro acc; rw [List.foldl_cons, List.length_cons]; have := iht (put acc x); have := put_len acc x; omega
    refine specRow_loop h xs i hlt (4000000 + 10 * d + 1) (by omega) (hx99 _ (List.getElem_mem hlt)) hrl hxl _ acc (fun k hk => ?_) xs[i].length k 0 acc (by omega) (by omega) (by omega) (by simp)
    refine ih (i + 1) k _ (by omega) (by omega) ?_
    have h1 := hlen (blk [] xs[i]) acc
    have h2 := (blk_sub xs[i] []).length_le
    omega
theorem minOf_any (pre : List Int) (x : Int) (hp : 0 < pre.length) : decide (Yv.minOf pre < x) = pre.any (fun y => decide (y < x)) := by
  cases pre with
  | nil => simp at hp
  | cons a t =>
    have key : ∀ (t : List Int) (m : Int), (t.foldl (fun m y => if y < m then y else m) m < x) ↔ (m < x ∨ ∃ y ∈ t, y < x) := by
      intro t
      induction t with
      | nil => intro m; simp
      | cons y t ih =>
        intro m
        rw [List.foldl_cons, ih]
        constructor
        · rintro (h | ⟨z, hz, h⟩)
          · by_cases hm : m < x
            · exact .inl hm
            · split at h
              · exact .inr ⟨y, by simp, h⟩
              · exact absurd h hm
          · exact .inr ⟨z, by simp [hz], h⟩
        · rintro (h | ⟨z, hz, h⟩)
          · refine .inl ?_
            split <;> omega
          · rcases List.mem_cons.1 hz with rfl | hz
            · refine .inl ?_
              split <;> omega
            · exact .inr ⟨z, hz, h⟩
    rw [Bool.eq_iff_iff, decide_eq_true_eq, List.any_eq_true]
    simp only [Yv.minOf, key, decide_eq_true_eq, List.mem_cons]
    constructor
    · rintro (h | ⟨y, hy, h⟩)
      · exact ⟨a, .inl rfl, h⟩
      · exact ⟨y, .inr hy, h⟩
    · rintro ⟨y, rfl | hy, h⟩
      · exact .inl h
      · exact .inr ⟨y, hy, h⟩
theorem implRow_loop (xs : List (List Int)) (i : Nat) (s : List Int) (hrl : s.length ≤ 4) (K0 : Nat) (res : List Int × Bool) (acc0 : List Int)
    (hnext : ∀ k, K0 ≤ k → impl_BlockersOf.l0 k (acc0 ++ blk [] s) xs (xs.length : Int) ((i + 1 : Nat) : Int) = some res) (hil : i ≤ 4) :
    ∀ (d k j : Nat) (acc : List Int), j + d = s.length → K0 + d + 1 ≤ k → acc.length + d ≤ 100000 → acc ++ blk (s.take j) (s.drop j) = acc0 ++ blk [] s →
      impl_BlockersOf.l1 k acc s xs (xs.length : Int) (i : Int) s (s.length : Int) (j : Int) = some res := by
  intro d
  induction d with
  | zero =>
    intro k j acc hj hk ha he
    obtain ⟨k, rfl⟩ : ∃ m, k = m + 1 := ⟨k - 1, by omega⟩
    simp only [impl_BlockersOf.l1]
    rw [if_neg (by omega), wrap_succ i (by omega)]
    rw [List.drop_eq_nil_of_le (by omega)] at he
    simp only [blk, List.append_nil] at he
    rw [he]
    exact hnext k (by omega)
  | succ d ih =>
    intro k j acc hj hk ha he
    obtain ⟨k, rfl⟩ : ∃ m, k = m + 1 := ⟨k - 1, by omega⟩
    have hlt : j < s.length := by omega
    have htk : s.take (j + 1) = s.take j ++ [s[j]] := List.take_succ_eq_append_getElem hlt
    rw [List.drop_eq_getElem_cons hlt] at he
    simp only [blk] at he
    rw [← htk] at he
    simp only [impl_BlockersOf.l1]
    rw [if_pos (by omega), if_pos (by omega), if_pos (by omega), wrap_succ j (by omega), rd_at _ j hlt]
    by_cases h0 : j = 0
    · subst h0
      rw [if_neg (by omega)]
      refine ih k 1 acc (by omega) (by omega) (by omega) ?_
      simpa using he
    · have hm := minOf_any (s.take j) s[j] (by rw [List.length_take]; omega)
      rw [← hm] at he
      rw [if_pos (by omega), if_pos (by omega), Int.toNat_natCast]
      simp only [slices_Min_int64_int64.f]
      rw [if_pos (by rw [List.length_take]; omega)]
      simp only [Option.bind_some]
      by_cases hc : Yv.minOf (s.take j) < s[j]
      · rw [if_pos hc, if_pos (by omega)]
        rw [if_pos (by simpa using hc), ← List.append_assoc] at he
        exact ih k (j + 1) _ (by omega) (by omega) (by simp; omega) he
      · rw [if_neg hc]
        rw [if_neg (by simpa using hc), List.nil_append] at he
        exact ih k (j + 1) _ (by omega) (by omega) (by omega) he
theorem implBlk_loop (xs : List (List Int)) (hxl : xs.length ≤ 4) (hr : ∀ r ∈ xs, r.length ≤ 4) : ∀ (d i k : Nat) (acc : List Int), i + d = xs.length → 100 + 10 * d < k → acc.length ≤ 4 * i →
    impl_BlockersOf.l0 k acc xs (xs.length : Int) (i : Int) = some (Sv.srt (acc ++ blkAll (xs.drop i)), true) := by
  intro d
  induction d with
  | zero =>
    intro i k acc hi hk ha
    obtain ⟨k, rfl⟩ : ∃ m, k = m + 1 := ⟨k - 1, by omega⟩
    simp only [impl_BlockersOf.l0, slices_Sort_int64_int64.f]
    rw [if_neg (by omega), if_pos (by omega), List.drop_eq_nil_of_le (by omega)]; simp [blkAll]
  | succ d ih =>
    intro i k acc hi hk ha
    obtain ⟨k, rfl⟩ : ∃ m, k = m + 1 := ⟨k - 1, by omega⟩
    have hlt : i < xs.length := by omega
    have hrl := hr _ (List.getElem_mem hlt)
    simp only [impl_BlockersOf.l0]
    rw [if_pos (by omega), if_pos (by omega), if_pos (by omega), rdL_at xs i hlt, List.drop_eq_getElem_cons hlt, blkAll_cons, ← List.append_assoc]
    refine implRow_loop xs i xs[i] hrl (100 + 10 * d + 1) _ acc (fun k hk => ?_) (by omega) xs[i].length k 0 acc (by omega) (by omega) (by omega) (by simp)
    refine ih (i + 1) k _ (by omega) (by omega) ?_
    have h2 := (blk_sub xs[i] []).length_le
    rw [List.length_append]; omega
def blkR (h : Int) (xs : List (List Int)) : List Int := if Yv.valid h xs = true then Sv.srt (blkAll xs) else []
theorem implBlk (h : Int) (xs : List (List Int)) (k : Nat) (hk : 1000 < k) : impl_BlockersOf.f k h xs = some (blkR h xs, Yv.valid h xs) := by
  simp only [impl_BlockersOf.f, impl_ValidYard.f, Option.bind_some, blkR]
  by_cases hv : Yv.valid h xs = true
  · obtain ⟨_, h2, _, h4, h5, _⟩ := valid_parts hv
    have := implBlk_loop xs h4 (fun r hr => by have := h5 r hr; omega) xs.length 0 k [] (by omega) (by omega) (by simp)
    rw [if_pos hv, if_pos hv, hv]
    simpa using this
  · rw [if_neg hv, if_neg hv]; simp at hv; rw [hv]
theorem specBlk (h : Int) (xs : List (List Int)) (hl : xs.length ≤ 1048576) (k : Nat) (hk : 5000000 ≤ k) : spec_BlockersOf.f k h xs = some (blkR h xs, Yv.valid h xs) := by
  simp only [spec_BlockersOf.f, specYard_eq h xs hl k (by omega), Option.bind_some, blkR]
  by_cases hv : Yv.valid h xs = true
  · obtain ⟨_, h2, _, h4, h5, h6, h7, h8⟩ := valid_parts hv
    have := specBlk_loop h xs h4 (fun r hr => by have := h5 r hr; omega) (fun r hr x hx => (h8 x (List.mem_flatten.2 ⟨r, hr, hx⟩)).2) xs.length 0 k [] (by omega) (by omega) (by simp)
    rw [if_pos hv, if_pos hv, hv]
    simp only [spec_l09Blockers.f]
    have h0 : ((0 : Nat) : Int) = 0 := rfl
    rw [h0] at this
    rw [this]
    simp only [Option.bind_some, List.drop_zero]
    rw [puts_eq _ (h6.sublist (blkAll_sub xs))]
  · rw [if_neg hv, if_neg hv]; simp at hv; rw [hv]
theorem blkR_len (h : Int) (xs : List (List Int)) : (blkR h xs).length ≤ 1048576 := by
  unfold blkR
  by_cases hv : Yv.valid h xs = true
  · obtain ⟨_, h2, _, h4, h5, _, h7, _⟩ := valid_parts hv
    rw [if_pos hv, Sv.srt_len]
    have := (blkAll_sub xs).length_le
    omega
  · rw [if_neg hv]; simp
end Go.Proofs.Ytibaiaenfeppcaa.PuTO

/- The law on BlockersOf, walked where both sides hand back the same. -/
namespace Go.Proofs.Ytibaiaenfeppcaa.LBO
open Go Go.RowKit Go.Proofs.YtibaiaenfeppcaaW.PrintWords Go.Proofs.YtibaiaenfeppcaaW.PrintLast Go.Proofs.YtibaiaenfeppcaaW.PrintMore Go.Proofs.Ytibaiaenfeppcaa.Q Go.Proofs.Ytibaiaenfeppcaa.PuY Go.Proofs.Ytibaiaenfeppcaa.Lw
set_option linter.unusedVariables false
set_option linter.unusedSimpArgs false
/-- What both sides hand back of a yard. -/
def Hands (f : FuncId) (h : Int) (xs : List (List Int)) (r : List Int) (b : Bool) : Prop :=
  ∀ (W : World) (A : Option Addr) (c : Nat), Kd.C dR W A xs.length xs → xs.length ≤ c → Calls Try.prog f #[.agg #[.int .i64 h, .slice A xs.length c]] W fun e w' => ∃ v, e = .returned (.tuple #[v, .bool b]) ∧ Kd.R (Kd.int .i64) 2 w' W.heap.size (fun _ => True) v r ∧ Below W.heap.size W w'
set_option maxRecDepth 100000 in
set_option maxHeartbeats 4000000 in
theorem walk (h : Int) (A : Option Addr) (c : Nat) (xs : List (List Int)) (r : List Int) (b : Bool) (hsm : Small xs) (hrl : r.length ≤ 1048576) (t : Int) (hsz : laws_szYard.f 4000000 h xs 1048576 = some t) (ht : 0 ≤ t)
    (h1 : Hands 28 h xs r b) (h2 : Hands 23 h xs r b) (w : World) (hr : Kd.C dR w A xs.length xs) (hc : xs.length ≤ c) :
    Calls Try.prog 6 #[.agg #[.int .i64 h, .slice A xs.length c]] w fun e w' => e = .returned (.bool true) ∧ Below w.heap.size w w' := by
  have hu := Try.underlying24
  have hu2 := Try.underlying27
  have HR := Aside0.mk hr
  have HC := Aside0.mk hc
  have HSM := Aside0.mk hsm
  have H1 := Aside0.mk h1
  have H2 := Aside0.mk h2
  have HSZ := Aside0.mk hsz
  have HT := Aside0.mk (toYard_eq h xs hsm 4000000 (by decide))
  have HEY := Aside0.mk (eqYard_eq h xs hsm 4000000 (by decide))
  have HEI := Aside0.mk (eqS_eq r hrl 4000000 (by decide))
  have HMK := Aside0.mk (mark_eq r hrl 1 (by decide) (by decide) 4000000 (by decide))
  have HRL := Aside0.mk hrl
  obtain ⟨q, hq⟩ : ∃ q, q = xs.flatten.length := ⟨_, rfl⟩
  have HQ := Aside0.mk hq
  obtain ⟨n, hn⟩ : ∃ n, n = r.length := ⟨_, rfl⟩
  have HN := Aside0.mk hn
  have hb0 : (b != b) = false := bne_self_eq_false b
  have c1 : decide (t < 0) = false := decide_eq_false (by omega)
  have c3 : decide (1 + (q : Int) < 0) = false := decide_eq_false (by omega)
  have c4 : decide (1 + (n : Int) < 0) = false := decide_eq_false (by omega)
  have c5 : ((1 + (n : Int)) != (1 + (n : Int))) = false := bne_self_eq_false _
  clear hr hc hsm h1 h2 hsz hrl hq hn ht
  go_enter Try.func6, Try.ntmps6
  go_wp2_with (fail)
  refine (laws_szYard.calls 4000000 h A c xs 1048576 t _ (Kd.C_below HR.out (below_alloc (Below.refl _ _) (.cells #[.int .i64 h, .slice A xs.length c] 24))) HC.out HSZ.out).mono ?_
  rintro e w1 ⟨rfl, hb⟩
  have HB := Aside0.mk (below_step (below_alloc (Below.refl w.heap.size w) (.cells #[.int .i64 h, .slice A xs.length c] 24)) hb)
  have K := Aside0.mk (blk_below (blk_new w (.cells #[.int .i64 h, .slice A xs.length c] 24)) hb)
  clear hb
  have hcK0 : w1.cell? ⟨w.heap.size, 0, none⟩ = some (.int .i64 h) := (blk_cell K.out 0).trans rfl
  have hcK1 : w1.cell? ⟨w.heap.size, 1, none⟩ = some (.slice A xs.length c) := (blk_cell K.out 1).trans rfl
  go_wp2_with (fail)
  refine (laws_toYard.calls 4000000 h A c xs h xs _ (Kd.C_below HR.out HB.out) HC.out HT.out).mono ?_
  rintro e w2 ⟨v, rfl, hS, hb⟩
  clear hcK0 hcK1
  have hzw2 := hb.size
  have Y := Aside0.mk (YS.make hS)
  have HB := Aside0.mk (below_step HB.out hb)
  have K := Aside0.mk (blk_below K.out hb)
  obtain ⟨AY, cY, rfl, hcY, _⟩ := Y.out.reads
  have HCY := Aside0.mk hcY
  clear hcY hS
  clear hb
  have hcK0 : w2.cell? ⟨w.heap.size, 0, none⟩ = some (.int .i64 h) := (blk_cell K.out 0).trans rfl
  have hcK1 : w2.cell? ⟨w.heap.size, 1, none⟩ = some (.slice A xs.length c) := (blk_cell K.out 1).trans rfl
  go_wp2_with (fail)
  refine (H1.out w2 AY cY Y.out.c HCY.out).mono ?_
  rintro e w3 ⟨v, rfl, hR, hb⟩
  clear hcK0 hcK1
  have hzw3 := hb.size
  have Z := Aside0.mk (ZS.make hR)
  have HB := Aside0.mk (below_step HB.out hb)
  have K := Aside0.mk (blk_below K.out hb)
  obtain ⟨AZ, cZ, rfl, hcZ, _⟩ := Z.out.reads
  have HCZ := Aside0.mk hcZ
  clear hcZ hR hb Y HCY
  have HB3 := HB
  have hlt3 : w.heap.size < w3.heap.size := blk_lt K.out
  have hcK0 : w3.cell? ⟨w.heap.size, 0, none⟩ = some (.int .i64 h) := (blk_cell K.out 0).trans rfl
  have hcK1 : w3.cell? ⟨w.heap.size, 1, none⟩ = some (.slice A xs.length c) := (blk_cell K.out 1).trans rfl
  go_wp2_with (fail)
  refine (laws_toYard.calls 4000000 h A c xs h xs _ (Kd.C_below HR.out HB.out) HC.out HT.out).mono ?_
  rintro e w4 ⟨v, rfl, hS, hb⟩
  clear hcK0 hcK1
  have hzw4 := hb.size
  have Z := Aside0.mk (Z.out.below hb)
  have X := Aside0.mk (YS.make hS)
  have HB := Aside0.mk (below_step HB.out hb)
  have K := Aside0.mk (blk_below K.out hb)
  obtain ⟨AX, cX, rfl, hcX, _⟩ := X.out.reads
  have HCX := Aside0.mk hcX
  clear hcX hS
  have BX := Aside0.mk hb
  clear hb
  have hcK0 : w4.cell? ⟨w.heap.size, 0, none⟩ = some (.int .i64 h) := (blk_cell K.out 0).trans rfl
  have hcK1 : w4.cell? ⟨w.heap.size, 1, none⟩ = some (.slice A xs.length c) := (blk_cell K.out 1).trans rfl
  go_wp2_with (fail)
  refine (H2.out (w4.alloc (.cells #[.int .i64 h, .slice AX xs.length cX] 27)) AX cX (Kd.C_below X.out.c (below_alloc (Below.refl _ _) (.cells #[.int .i64 h, .slice AX xs.length cX] 27))) HCX.out).mono ?_
  rintro e w5 ⟨v, rfl, hR, hb⟩
  clear hcK0 hcK1
  have b45 := below_step (below_alloc (Below.refl w4.heap.size w4) (.cells #[.int .i64 h, .slice AX xs.length cX] 27)) hb
  have hzw5 := hb.size
  have Z := Aside0.mk (Z.out.below b45)
  have X := Aside0.mk (X.out.below b45)
  have G := Aside0.mk (ZS.make hR)
  have HB := Aside0.mk (below_step HB.out b45)
  have BX := Aside0.mk (below_step BX.out b45)
  have K := Aside0.mk (blk_below K.out b45)
  have L := Aside0.mk (blk_below (blk_new w4 (.cells #[.int .i64 h, .slice AX xs.length cX] 27)) hb)
  obtain ⟨AG, cG, rfl, hcG, _⟩ := G.out.reads
  have HCG := Aside0.mk hcG
  clear hcG hR hb b45
  simp only [World.size_alloc] at hzw5
  have hcK0 : w5.cell? ⟨w.heap.size, 0, none⟩ = some (.int .i64 h) := (blk_cell K.out 0).trans rfl
  have hcK1 : w5.cell? ⟨w.heap.size, 1, none⟩ = some (.slice A xs.length c) := (blk_cell K.out 1).trans rfl
  have hcL0 : w5.cell? ⟨w4.heap.size, 0, none⟩ = some (.int .i64 h) := (blk_cell L.out 0).trans rfl
  have hcL1 : w5.cell? ⟨w4.heap.size, 1, none⟩ = some (.slice AX xs.length cX) := (blk_cell L.out 1).trans rfl
  go_wp2_with (fail)
  refine (laws_eqInt64S.calls 4000000 AG cG r AZ cZ r true _ G.out.c HCG.out Z.out.c HCZ.out HEI.out).mono ?_
  rintro e w6 ⟨rfl, hd⟩
  clear hcK0 hcK1 hcL0 hcL1
  have hb := Drawn0.below hd
  have Z := Aside0.mk (Z.out.below hb)
  have X := Aside0.mk (X.out.below hb)
  have G := Aside0.mk (G.out.below hb)
  have BX := Aside0.mk (below_step BX.out hb)
  have HB := Aside0.mk (below_step HB.out hb)
  have K := Aside0.mk (blk_below K.out hb)
  have L := Aside0.mk (blk_below L.out hb)
  clear hd hb
  have hcK0 : w6.cell? ⟨w.heap.size, 0, none⟩ = some (.int .i64 h) := (blk_cell K.out 0).trans rfl
  have hcK1 : w6.cell? ⟨w.heap.size, 1, none⟩ = some (.slice A xs.length c) := (blk_cell K.out 1).trans rfl
  have hcL0 : w6.cell? ⟨w4.heap.size, 0, none⟩ = some (.int .i64 h) := (blk_cell L.out 0).trans rfl
  have hcL1 : w6.cell? ⟨w4.heap.size, 1, none⟩ = some (.slice AX xs.length cX) := (blk_cell L.out 1).trans rfl
  go_wp2_with (fail)
  refine start_ (n := 5) (S := fun w' => w'.cell? ⟨w4.heap.size, 0, none⟩ = some (.int .i64 h) ∧ w'.cell? ⟨w4.heap.size, 1, none⟩ = some (.slice AX xs.length cX) ∧ w'.cell? ⟨w.heap.size, 0, none⟩ = some (.int .i64 h) ∧ w'.cell? ⟨w.heap.size, 1, none⟩ = some (.slice A xs.length c)) (ds := []) #[false, false, false, false, false] (by kernel_rfl) rfl rfl ⟨(blk_cell L.out 0).trans rfl, (blk_cell L.out 1).trans rfl, (blk_cell K.out 0).trans rfl, (blk_cell K.out 1).trans rfl⟩ (fun hHeld => ?_)
  clear hcK0 hcK1 hcL0 hcL1
  have hb := below_drew (Below.refl w6.heap.size w6)
  have Z := Aside0.mk (Z.out.below hb)
  have X := Aside0.mk (X.out.below hb)
  have G := Aside0.mk (G.out.below hb)
  have BX := Aside0.mk (below_step BX.out hb)
  have HB := Aside0.mk (below_step HB.out hb)
  have K := Aside0.mk (blk_below K.out hb)
  have L := Aside0.mk (blk_below L.out hb)
  clear hb
  generalize w6.drew = w7 at Z X G K L BX HB hHeld ⊢
  refine take_ (i := 0) (N := some 41) (v := ?_) (a' := ?_) #[true, false, false, false, false] rfl rfl (by kernel_rfl) (fun _ _ _ h => h) (Or.inl ⟨by rfl, ?_⟩) hHeld ?_ ?_
  rotate_left
  · rintro w' ⟨s0, s1, s2, s3⟩
    go_simp
    with_reducible rfl
  rotate_left
  · simp only [Act.put, List.setIfInBounds_toArray, List.set_cons_zero, List.set_cons_succ, i64_w, i32_w]
    rfl
  refine take_ (i := 1) (N := some 42) (v := ?_) (a' := ?_) #[true, true, false, false, false] rfl rfl (by kernel_rfl) (fun _ _ _ h => h) (Or.inl ⟨by rfl, ?_⟩) hHeld ?_ ?_
  rotate_left
  · rintro w' ⟨s0, s1, s2, s3⟩
    go_simp
    with_reducible rfl
  rotate_left
  · simp only [Act.put, List.setIfInBounds_toArray, List.set_cons_zero, List.set_cons_succ, i64_w, i32_w]
    rfl
  refine one_ (i := 2) (N := some 43) #[true, true, true, false, false] rfl rfl (by kernel_rfl) (by decide) (fun K_ hK => ?_)
  refine goes_ Try.func12 (by kernel_rfl) rfl #[.agg #[.int .i64 h, .slice A xs.length c]] (by rfl) rfl rfl (by (try simp only [List.map_toArray, List.map_cons, List.map_nil]); first | done | rfl) ?_
  refine (laws_toYard.calls 4000000 h A c xs h xs w7 (Kd.C_below HR.out HB.out) HC.out HT.out).mono ?_
  rintro e w8 ⟨v, rfl, hS, hb⟩
  refine ⟨_, rfl, ?_⟩
  have hzw8 := hb.size
  have Z := Aside0.mk (Z.out.below hb)
  have X := Aside0.mk (X.out.below hb)
  have G := Aside0.mk (G.out.below hb)
  have BX := Aside0.mk (below_step BX.out hb)
  have HB := Aside0.mk (below_step HB.out hb)
  have K := Aside0.mk (blk_below K.out hb)
  have L := Aside0.mk (blk_below L.out hb)
  have Y := Aside0.mk (YS.make hS)
  obtain ⟨AY, cY, rfl, hcY, _⟩ := Y.out.reads
  have HCY := Aside0.mk hcY
  clear hcY hS hb hHeld
  refine hK.out _ _ ⟨(blk_cell L.out 0).trans rfl, (blk_cell L.out 1).trans rfl, (blk_cell K.out 0).trans rfl, (blk_cell K.out 1).trans rfl⟩ (fun hHeld => ?_)
  clear hK K_
  refine norm_ (a' := ?_) ?_ ?_
  rotate_left
  · show Act.put _ (some 43) _ = _
    simp only [Act.put, List.setIfInBounds_toArray, List.set_cons_zero, List.set_cons_succ, i64_w, i32_w]
    rfl
  refine one_ (i := 3) (N := some 44) #[true, true, true, true, false] rfl rfl (by kernel_rfl) (by decide) (fun K_ hK => ?_)
  refine goes_ Try.func14 (by kernel_rfl) rfl #[.agg #[.int .i64 h, .slice AX xs.length cX], .agg #[.int .i64 h, .slice AY xs.length cY]] (by rfl) rfl rfl (by (try simp only [List.map_toArray, List.map_cons, List.map_nil]); first | done | rfl) ?_
  refine (laws_eqYard.calls 4000000 h AX cX xs h AY cY xs true w8 X.out.c HCX.out Y.out.c HCY.out HEY.out).mono ?_
  rintro e w9 ⟨rfl, hb⟩
  refine ⟨_, rfl, ?_⟩
  have Z := Aside0.mk (Z.out.below hb)
  have X := Aside0.mk (X.out.below hb)
  have G := Aside0.mk (G.out.below hb)
  have BX := Aside0.mk (below_step BX.out hb)
  have HB := Aside0.mk (below_step HB.out hb)
  have K := Aside0.mk (blk_below K.out hb)
  have L := Aside0.mk (blk_below L.out hb)
  clear hb hHeld Y HCY
  refine hK.out _ _ ⟨(blk_cell L.out 0).trans rfl, (blk_cell L.out 1).trans rfl, (blk_cell K.out 0).trans rfl, (blk_cell K.out 1).trans rfl⟩ (fun hHeld => ?_)
  clear hK K_
  refine norm_ (a' := ?_) ?_ ?_
  rotate_left
  · show Act.put _ (some 44) _ = _
    simp only [Act.put, List.setIfInBounds_toArray, List.set_cons_zero, List.set_cons_succ, i64_w, i32_w]
    rfl
  refine pure_ (i := 4) (N := some 45) (v := ?_) (a' := ?_) #[true, true, true, true, true] rfl rfl (by kernel_rfl) (fun _ _ _ h => h) (Or.inl ⟨by rfl, ?_⟩) ?_ ?_
  rotate_left
  · intro w'
    go_simp
    with_reducible rfl
  rotate_left
  · simp only [Act.put, List.setIfInBounds_toArray, List.set_cons_zero, List.set_cons_succ, i64_w, i32_w]
    rfl
  refine done_ (by kernel_rfl) ?_
  clear hHeld
  have hcK0 : w9.cell? ⟨w.heap.size, 0, none⟩ = some (.int .i64 h) := (blk_cell K.out 0).trans rfl
  have hcK1 : w9.cell? ⟨w.heap.size, 1, none⟩ = some (.slice A xs.length c) := (blk_cell K.out 1).trans rfl
  have hcL0 : w9.cell? ⟨w4.heap.size, 0, none⟩ = some (.int .i64 h) := (blk_cell L.out 0).trans rfl
  have hcL1 : w9.cell? ⟨w4.heap.size, 1, none⟩ = some (.slice AX xs.length cX) := (blk_cell L.out 1).trans rfl
  go_wp2_with (fail)
  refine (markYard_any h _ _ xs HSM.out w3 w9 BX.out X.out.s).mono ?_
  rintro e w10 ⟨he, _, hb, hk⟩
  rw [← HQ.out] at he
  subst he
  clear hcK0 hcK1 hcL0 hcL1
  have G := Aside0.mk (G.out.kept hk (fun k a1 a2 a3 => by simp only [World.size_alloc] at a1; omega))
  have Z := Aside0.mk (Z.out.kept hk (fun k a1 a2 a3 => by omega))
  have BX := Aside0.mk hb
  have HB := Aside0.mk (below_step HB3.out hb)
  have K := Aside0.mk (blk_kept K.out hk (fun a1 => by have a2 := a1.1; omega))
  have L := Aside0.mk (blk_kept L.out hk (fun a1 => by have a2 := a1.2; omega))
  clear hk hb X HCX
  have hcK0 : w10.cell? ⟨w.heap.size, 0, none⟩ = some (.int .i64 h) := (blk_cell K.out 0).trans rfl
  have hcK1 : w10.cell? ⟨w.heap.size, 1, none⟩ = some (.slice A xs.length c) := (blk_cell K.out 1).trans rfl
  have hcL0 : w10.cell? ⟨w4.heap.size, 0, none⟩ = some (.int .i64 h) := (blk_cell L.out 0).trans rfl
  have hcL1 : w10.cell? ⟨w4.heap.size, 1, none⟩ = some (.slice AX xs.length cX) := (blk_cell L.out 1).trans rfl
  go_wp2_with (fail)
  refine (laws_eqInt64S.calls 4000000 AG cG r AZ cZ r true _ G.out.c HCG.out Z.out.c HCZ.out HEI.out).mono ?_
  rintro e w11 ⟨rfl, hd⟩
  clear hcK0 hcK1 hcL0 hcL1
  have hb := Drawn0.below hd
  have Z := Aside0.mk (Z.out.below hb)
  have G := Aside0.mk (G.out.below hb)
  have BX := Aside0.mk (below_step BX.out hb)
  have HB := Aside0.mk (below_step HB.out hb)
  have K := Aside0.mk (blk_below K.out hb)
  have L := Aside0.mk (blk_below L.out hb)
  clear hd hb
  have hcK0 : w11.cell? ⟨w.heap.size, 0, none⟩ = some (.int .i64 h) := (blk_cell K.out 0).trans rfl
  have hcK1 : w11.cell? ⟨w.heap.size, 1, none⟩ = some (.slice A xs.length c) := (blk_cell K.out 1).trans rfl
  have hcL0 : w11.cell? ⟨w4.heap.size, 0, none⟩ = some (.int .i64 h) := (blk_cell L.out 0).trans rfl
  have hcL1 : w11.cell? ⟨w4.heap.size, 1, none⟩ = some (.slice AX xs.length cX) := (blk_cell L.out 1).trans rfl
  go_wp2_with (fail)
  refine (laws_markInt64S.calls 4000000 _ _ r 1 (1 + (r.length : Int)) (upTo 1 r.length) w3 w11 BX.out (Kd.R_lower G.out.r (by simp only [World.size_alloc]; omega)) HMK.out).mono ?_
  rintro e w12 ⟨he, hG, hb, hk⟩
  rw [← HN.out] at he
  subst he
  clear hcK0 hcK1 hcL0 hcL1
  have Z := Aside0.mk (Z.out.kept hk (fun k a1 a2 a3 => by have a4 := a3.1; simp only [World.size_alloc] at a4; omega))
  have BX := Aside0.mk hb
  have HB := Aside0.mk (below_step HB3.out hb)
  have K := Aside0.mk (blk_kept K.out hk (fun a1 => by have a2 := a1.1; simp only [World.size_alloc] at a2; omega))
  have M := Aside0.mk (Kd.R_reads' hG).2.2
  clear hk hb hG G L
  have hcK0 : w12.cell? ⟨w.heap.size, 0, none⟩ = some (.int .i64 h) := (blk_cell K.out 0).trans rfl
  have hcK1 : w12.cell? ⟨w.heap.size, 1, none⟩ = some (.slice A xs.length c) := (blk_cell K.out 1).trans rfl
  go_wp2_with (fail)
  refine (held_any (n := r.length) (W := w12) HRL.out M.out HCG.out).mono ?_
  rintro e w13 ⟨he, hb⟩
  rw [← HN.out] at he
  subst he
  clear hcK0 hcK1
  have Z := Aside0.mk (Z.out.below hb)
  have BX := Aside0.mk (below_step BX.out hb)
  have HB := Aside0.mk (below_step HB.out hb)
  have K := Aside0.mk (blk_below K.out hb)
  have M := Aside0.mk (Kd.C_below M.out hb)
  clear hb
  have hcK0 : w13.cell? ⟨w.heap.size, 0, none⟩ = some (.int .i64 h) := (blk_cell K.out 0).trans rfl
  have hcK1 : w13.cell? ⟨w.heap.size, 1, none⟩ = some (.slice A xs.length c) := (blk_cell K.out 1).trans rfl
  go_wp2_with (fail)
  refine (laws_toYard.calls 4000000 h A c xs h xs _ (Kd.C_below HR.out HB.out) HC.out HT.out).mono ?_
  rintro e w14 ⟨v, rfl, hS, hb⟩
  clear hcK0 hcK1
  have hzw14 := hb.size
  have Z := Aside0.mk (Z.out.below hb)
  have Y := Aside0.mk (YS.make hS)
  have HB := Aside0.mk (below_step HB.out hb)
  have K := Aside0.mk (blk_below K.out hb)
  obtain ⟨AY, cY, rfl, hcY, _⟩ := Y.out.reads
  have HCY := Aside0.mk hcY
  clear hcY hS
  have BX := Aside0.mk (below_step BX.out hb)
  have M := Aside0.mk (Kd.C_below M.out hb)
  clear hb
  have hcK0 : w14.cell? ⟨w.heap.size, 0, none⟩ = some (.int .i64 h) := (blk_cell K.out 0).trans rfl
  have hcK1 : w14.cell? ⟨w.heap.size, 1, none⟩ = some (.slice A xs.length c) := (blk_cell K.out 1).trans rfl
  go_wp2_with (fail)
  refine (H2.out w14 AY cY Y.out.c HCY.out).mono ?_
  rintro e w15 ⟨v, rfl, hR, hb⟩
  clear hcK0 hcK1
  have Z := Aside0.mk (Z.out.below hb)
  have BX := Aside0.mk (below_step BX.out hb)
  have HB := Aside0.mk (below_step HB.out hb)
  have K := Aside0.mk (blk_below K.out hb)
  have M := Aside0.mk (Kd.C_below M.out hb)
  have H := Aside0.mk (ZS.make hR)
  obtain ⟨AH, cH, rfl, hcH, _⟩ := H.out.reads
  have HCH := Aside0.mk hcH
  clear hcH hR hb Y HCY
  have hcK0 : w15.cell? ⟨w.heap.size, 0, none⟩ = some (.int .i64 h) := (blk_cell K.out 0).trans rfl
  have hcK1 : w15.cell? ⟨w.heap.size, 1, none⟩ = some (.slice A xs.length c) := (blk_cell K.out 1).trans rfl
  go_wp2_with (fail)
  refine (laws_eqInt64S.calls 4000000 AH cH r AZ cZ r true _ H.out.c HCH.out Z.out.c HCZ.out HEI.out).mono ?_
  rintro e w16 ⟨rfl, hd⟩
  clear hcK0 hcK1
  have hb := Drawn0.below hd
  have Z := Aside0.mk (Z.out.below hb)
  have BX := Aside0.mk (below_step BX.out hb)
  have HB := Aside0.mk (below_step HB.out hb)
  have K := Aside0.mk (blk_below K.out hb)
  have M := Aside0.mk (Kd.C_below M.out hb)
  clear hd hb
  have hcK0 : w16.cell? ⟨w.heap.size, 0, none⟩ = some (.int .i64 h) := (blk_cell K.out 0).trans rfl
  have hcK1 : w16.cell? ⟨w.heap.size, 1, none⟩ = some (.slice A xs.length c) := (blk_cell K.out 1).trans rfl
  go_wp2_with (fail)
  refine (held_any (n := r.length) (W := w16) HRL.out M.out HCG.out).mono ?_
  rintro e w17 ⟨he, hb⟩
  rw [← HN.out] at he
  subst he
  clear hcK0 hcK1
  have Z := Aside0.mk (Z.out.below hb)
  have BX := Aside0.mk (below_step BX.out hb)
  have HB := Aside0.mk (below_step HB.out hb)
  have K := Aside0.mk (blk_below K.out hb)
  have M := Aside0.mk (Kd.C_below M.out hb)
  clear hb
  go_wp2_with (fail)
  go_ret
  exact ⟨rfl, HB.out⟩
set_option maxRecDepth 100000 in
theorem walk_big (h : Int) (A : Option Addr) (c : Nat) (xs : List (List Int)) (t : Int) (hsz : laws_szYard.f 4000000 h xs 1048576 = some t) (ht : t < 0) (w : World) (hr : Kd.C dR w A xs.length xs) (hc : xs.length ≤ c) :
    Calls Try.prog 6 #[.agg #[.int .i64 h, .slice A xs.length c]] w fun e w' => e = .returned (.bool true) ∧ Below w.heap.size w w' := by
  have hu := Try.underlying24
  have HR := Aside0.mk hr
  have HC := Aside0.mk hc
  have HSZ := Aside0.mk hsz
  have c1 : decide (t < 0) = true := decide_eq_true ht
  clear hr hc hsz ht
  go_enter Try.func6, Try.ntmps6
  go_wp2_with (fail)
  refine (laws_szYard.calls 4000000 h A c xs 1048576 t _ (Kd.C_below HR.out (below_alloc (Below.refl _ _) (.cells #[.int .i64 h, .slice A xs.length c] 24))) HC.out HSZ.out).mono ?_
  rintro e w1 ⟨rfl, hb⟩
  have HB := Aside0.mk (below_step (below_alloc (Below.refl w.heap.size w) (.cells #[.int .i64 h, .slice A xs.length c] 24)) hb)
  clear hb
  go_wp2_with (fail)
  go_ret
  exact ⟨rfl, HB.out⟩
theorem calls (h : Int) (A : Option Addr) (c : Nat) (xs : List (List Int)) (w : World) (hr : Kd.C dR w A xs.length xs) (hc : xs.length ≤ c) (hl : xs.length ≤ 9223372036854775807) (hrr : ∀ r ∈ xs, r.length ≤ 9223372036854775807) :
    Calls Try.prog 6 #[.agg #[.int .i64 h, .slice A xs.length c]] w fun e w' => e = .returned (.bool true) ∧ Below w.heap.size w w' := by
  obtain ⟨t, ht, ht1, hs⟩ := szYard_eq h xs hl hrr 4000000 (by decide)
  by_cases hn : t < 0
  · exact walk_big h A c xs t ht hn w hr hc
  · have hsm := hs (by omega)
    exact walk h A c xs (PuTO.blkR h xs) (Yv.valid h xs) hsm (PuTO.blkR_len h xs) t ht (by omega) (fun W A c hC hc => spec_BlockersOf.calls 6000000 h A c xs _ _ W hC hc (PuTO.specBlk h xs hsm.1 6000000 (by decide))) (fun W A c hC hc => impl_BlockersOf.calls 6000000 h A c xs _ _ W hC hc (PuTO.implBlk h xs 6000000 (by decide))) w hr hc
end Go.Proofs.Ytibaiaenfeppcaa.LBO

