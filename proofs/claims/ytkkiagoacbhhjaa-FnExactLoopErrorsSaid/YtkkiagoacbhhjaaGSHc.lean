/- Parts of the proof that the law of this seat holds: PuS, PuT, He, Vh0, PuH. -/
import Derived.Test.YtkkiagoacbhhjaaGSHb
import Derived.Test.YtkkiagoacbhhjaaGSHa
/- What the laws' own helpers compute on surveys: the size that a law lets in, a survey's copy, that a copy equals itself, and the program's ValidSurvey. -/
namespace Go.Proofs.Ytkkiagoacbhhjaa.PuS
open Go.RowKit Go.Proofs.YtkkiagoacbhhjaaW.PrintWords Go.Proofs.Ytkkiagoacbhhjaa.Q

theorem wrap_id {x : Int} (h1 : -9223372036854775808 ≤ x) (h2 : x ≤ 9223372036854775807) : wrap64 x = x := by unfold wrap64; omega
theorem getD_nat {α : Type} (l : List α) (k : Nat) (z : α) (h : k < l.length) : l.getD (k : Int).toNat z = l[k] := by
  simp [List.getD_eq_getElem?_getD, h]
theorem rd64_at (l : List S64) (k : Nat) (h : k < l.length) : rd_T64 l k = l[k] := getD_nat l k z64 h
theorem rd78_at (l : List S78) (k : Nat) (h : k < l.length) : rd_T78 l k = l[k] := getD_nat l k z78 h

def conv (x : S78) : S64 := ⟨x.f0, x.f1, x.f2, x.f3⟩

theorem szSurvey_eq (p : Int) (l : List S78) (h : l.length ≤ 9223372036854775807) : laws_szSurvey.f p l 1048576 = some (if l.length ≤ 1048576 then 1048576 - (l.length : Int) else -1) := by
  have e : wrap64 (1048576 - (l.length : Int)) = 1048576 - (l.length : Int) := wrap_id (by omega) (by omega)
  simp only [laws_szSurvey.f, laws_szSightS.f, e]
  by_cases hl : l.length ≤ 1048576
  · rw [if_neg (by omega), if_pos hl]; simp only [Option.bind_some]; rw [if_neg (by omega)]
  · rw [if_pos (by omega), if_neg hl]; simp

theorem toSightS_loop (l : List S78) (hl : l.length ≤ 1048576) : ∀ (d k i : Nat) (x : List S64), x.length = l.length → i + d = l.length → d < k → (∀ j, j < i → x[j]? = (l.map conv)[j]?) → laws_toSightS.l0 k l x i = some (l.map conv) := by
  intro d
  induction d with
  | zero =>
    intro k i x hx hi hk hj
    obtain ⟨k, rfl⟩ : ∃ m, k = m + 1 := ⟨k - 1, by omega⟩
    simp only [laws_toSightS.l0]
    rw [if_neg (by omega)]
    congr 1
    apply List.ext_getElem?
    intro j
    by_cases h : j < i
    · exact hj j h
    · rw [List.getElem?_eq_none (by omega), List.getElem?_eq_none (by simp; omega)]
  | succ d ih =>
    intro k i x hx hi hk hj
    obtain ⟨k, rfl⟩ : ∃ m, k = m + 1 := ⟨k - 1, by omega⟩
    simp only [laws_toSightS.l0, laws_toSight.f, Option.bind_some]
    rw [if_pos (by omega), if_pos (by omega), if_pos (by omega), wrap_id (by omega) (by omega), Int.toNat_natCast, show (i : Int) + 1 = ((i + 1 : Nat) : Int) by omega]
    refine ih k (i + 1) _ (by simp [hx]) (by omega) (by omega) ?_
    intro j hlt
    by_cases h : j = i
    · subst h
      rw [List.getElem?_set_self (by omega), List.getElem?_map, List.getElem?_eq_getElem (by omega), rd78_at l j (by omega)]
      rfl
    · rw [List.getElem?_set_ne (by omega)]; exact hj j (by omega)

theorem toSurvey_eq (p : Int) (l : List S78) (hl : l.length ≤ 1048576) (k : Nat) (hk : l.length < k) : laws_toSurvey.f k p l = some (p, l.map conv) := by
  have : laws_toSightS.f k l = some (l.map conv) := by
    simp only [laws_toSightS.f, Int.toNat_natCast]
    rw [if_pos (by omega), if_pos (by omega)]
    exact toSightS_loop l hl l.length k 0 _ (by simp) (by omega) hk (by intro j hj; omega)
  simp [laws_toSurvey.f, this]

theorem eqSightS_loop (l : List S64) (hl : l.length ≤ 1048576) : ∀ (d k i : Nat), i + d = l.length → d < k → laws_eqSightS.l0 k l l i = some true := by
  intro d
  induction d with
  | zero =>
    intro k i hi hk
    obtain ⟨k, rfl⟩ : ∃ m, k = m + 1 := ⟨k - 1, by omega⟩
    simp only [laws_eqSightS.l0]
    rw [if_neg (by omega)]
  | succ d ih =>
    intro k i hi hk
    obtain ⟨k, rfl⟩ : ∃ m, k = m + 1 := ⟨k - 1, by omega⟩
    simp only [laws_eqSightS.l0, laws_eqSight.f, if_true, Option.bind_some]
    rw [if_pos (by omega), if_pos (by omega), if_pos (by omega), wrap_id (by omega) (by omega), show (i : Int) + 1 = ((i + 1 : Nat) : Int) by omega]
    exact ih k (i + 1) (by omega) (by omega)

theorem eqSurvey_eq (p : Int) (l : List S64) (hl : l.length ≤ 1048576) (k : Nat) (hk : l.length < k) : laws_eqSurvey.f k p l p l = some true := by
  have : laws_eqSightS.f k l l = some true := by
    simp only [laws_eqSightS.f, if_true]
    exact eqSightS_loop l hl l.length k 0 (by omega) hk
  simp [laws_eqSurvey.f, this]

theorem within_eq (a b c : Int) : impl_within.f a b c = some (Ha.inB b c a) := by
  unfold impl_within.f Ha.inB; split <;> simp_all <;> (intros; omega)

theorem implValid_loop (p : Int) (l : List S64) (hl : l.length ≤ 1048576) : ∀ (d k i : Nat), i + d = l.length → d < k →
    impl_ValidSurvey.l0 k l l.length i p l = some ((l.drop i).all (Hb.sightB p) && (Ha.inB 2 5 p && decide ((l.length : Int) ≤ 8))) := by
  intro d
  induction d with
  | zero =>
    intro k i hi hk
    obtain ⟨k, rfl⟩ : ∃ m, k = m + 1 := ⟨k - 1, by omega⟩
    simp only [impl_ValidSurvey.l0, within_eq, Option.bind_some]
    rw [if_neg (by omega)]
    obtain rfl : i = l.length := by omega
    cases h : Ha.inB 2 5 p <;> simp
  | succ d ih =>
    intro k i hi hk
    obtain ⟨k, rfl⟩ : ∃ m, k = m + 1 := ⟨k - 1, by omega⟩
    have hlt : i < l.length := by omega
    simp only [impl_ValidSurvey.l0, within_eq, Option.bind_some, impl_areWithin.f]
    rw [if_pos (by omega), if_pos (by omega), if_pos (by omega), wrap_id (x := (i : Int) + 1) (by omega) (by omega), show (i : Int) + 1 = ((i + 1 : Nat) : Int) by omega, ih k (i + 1) (by omega) (by omega),
      List.drop_eq_getElem_cons hlt, rd64_at l i hlt]
    generalize l[i] = s
    simp only [List.all_cons, Hb.sightB, Ha.areIn, List.all_nil, Bool.and_true, show (s.f0 == s.f1) = decide (s.f0 = s.f1) from by by_cases e : s.f0 = s.f1 <;> simp [e]]
    cases h0 : Ha.inB 0 (wrap64 (p - 1)) s.f0 <;> cases h1 : Ha.inB 0 (wrap64 (p - 1)) s.f1 <;> cases h3 : Ha.inB (-100) 100 s.f2 <;> cases h4 : Ha.inB 1 3 s.f3 <;> by_cases h2 : s.f0 = s.f1 <;> simp [h2]

theorem implValid_eq (p : Int) (l : List S64) (hl : l.length ≤ 1048576) (k : Nat) (hk : l.length < k) : impl_ValidSurvey.f k p l = some (Hb.surveyB p l) := by
  simp only [impl_ValidSurvey.f]
  have := implValid_loop p l hl l.length k 0 (by omega) hk
  rw [show ((0 : Nat) : Int) = 0 from rfl] at this
  rw [this]
  simp only [List.drop_zero, Hb.surveyB]
  rw [Bool.and_comm]

theorem specValid_eq (p : Int) (l : List S64) : spec_ValidSurvey.f p l = some (Hb.surveyB p l) := by
  simp [spec_ValidSurvey.f, spec_l10Is.f]

end Go.Proofs.Ytkkiagoacbhhjaa.PuS

/- The program's choice of sights without loops and the reference's are the same: both keep the same parts of connected points. -/
namespace Go.Proofs.Ytkkiagoacbhhjaa.PuT
open Go.RowKit Go.Proofs.YtkkiagoacbhhjaaW.PrintWords Go.Proofs.Ytkkiagoacbhhjaa.Q Go.Proofs.Ytkkiagoacbhhjaa.PuS Go.Proofs.Ytkkiagoacbhhjaa.Hb Go.Proofs.Ytkkiagoacbhhjaa.Hc Go.Proofs.Ytkkiagoacbhhjaa.Hd

structure Sg where
  out : List Int
  grp : List Int
def stepG (st : Sg) (x : S64 × Nat) : Sg :=
  if rd st.grp x.1.f0 = rd st.grp x.1.f1 then st
  else ⟨st.out ++ [(x.2 : Int)], st.grp.map fun v => if v = rd st.grp x.1.f1 then rd st.grp x.1.f0 else v⟩
def startG (pts : Int) : Sg := ⟨[], (List.range pts.toNat).map fun k : Nat => (k : Int)⟩
def atG (pts : Int) (l : List S64) (k : Nat) : Sg := (l.zipIdx.take k).foldl stepG (startG pts)
def treeG (pts : Int) (l : List S64) : Sg := atG pts l l.length
theorem atG_succ (pts : Int) (l : List S64) (k : Nat) (h : k < l.length) : atG pts l (k + 1) = stepG (atG pts l k) (rd_T64 l k, k) := by
  unfold atG
  rw [List.take_succ_eq_append_getElem (by simpa using h), List.foldl_append]
  simp [rd_T64, h, List.getElem_zipIdx]
theorem stepG_len (st : Sg) (x : S64 × Nat) : (stepG st x).grp.length = st.grp.length := by unfold stepG; split <;> simp
theorem atG_len (pts : Int) (l : List S64) (k : Nat) : (atG pts l k).grp.length = pts.toNat := by
  unfold atG
  generalize l.zipIdx.take k = m
  have : ∀ st : Sg, (m.foldl stepG st).grp.length = st.grp.length := by
    induction m with
    | nil => intro st; rfl
    | cons x xs ih => intro st; simp only [List.foldl_cons]; rw [ih, stepG_len]
  rw [this]; simp [startG]
theorem atG_out (pts : Int) (l : List S64) (k : Nat) : (atG pts l k).out.length ≤ k := by
  induction k with
  | zero => simp [atG, startG]
  | succ k ih =>
    by_cases h : k < l.length
    · rw [atG_succ pts l k h]; unfold stepG; split
      · omega
      · simp only [List.length_append, List.length_cons, List.length_nil]; omega
    · have : atG pts l (k + 1) = atG pts l k := by unfold atG; rw [List.take_of_length_le (by simp; omega), List.take_of_length_le (by simp; omega)]
      rw [this]; omega

theorem tree_l0 (n : Nat) (hn : n ≤ 5) (l : List S64) (out : List Int) : ∀ (d i k : Nat), i + d = n → impl_Survey_tree.l0 (k + d + 1) out ((List.range i).map fun j : Nat => (j : Int)) n i n l = impl_Survey_tree.l1 k out ((List.range n).map fun j : Nat => (j : Int)) l l.length 0 := by
  intro d
  induction d with
  | zero =>
    intro i k hi
    obtain rfl : i = n := by omega
    simp only [impl_Survey_tree.l0]
    rw [if_neg (by omega)]
  | succ d ih =>
    intro i k hi
    rw [show k + (d + 1) + 1 = (k + d + 1) + 1 by omega]
    simp only [impl_Survey_tree.l0]
    rw [if_pos (by omega), if_pos (by simp; omega), wrap_id (by omega) (by omega)]
    have := ih (i + 1) k (by omega)
    rw [List.range_succ, List.map_append] at this
    exact this

theorem tree_l2 (out grp : List Int) (a b : Int) (l : List S64) (len idx : Int) (hg : grp.length ≤ 5) : ∀ (d j k : Nat), j + d = grp.length →
    impl_Survey_tree.l2 (k + d + 1) out (upd (grp.map fun v => if v = b then a else v) grp j) a b l len idx grp.length j = impl_Survey_tree.l1 k out (grp.map fun v => if v = b then a else v) l len (wrap64 (idx + 1)) := by
  intro d
  have hnl : (grp.map fun v => if v = b then a else v).length = grp.length := by simp
  induction d with
  | zero =>
    intro j k hj
    obtain rfl : j = grp.length := by omega
    simp only [impl_Survey_tree.l2]
    rw [if_neg (by omega), upd_all hnl]
  | succ d ih =>
    intro j k hj
    have hlt : j < grp.length := by omega
    rw [show k + (d + 1) + 1 = (k + d + 1) + 1 by omega]
    simp only [impl_Survey_tree.l2]
    rw [if_pos (by omega), if_pos (by omega), if_pos (by rw [upd_len hnl (by omega)]; omega), rd_upd hnl hlt, wrap_id (x := (j : Int) + 1) (by omega) (by omega), show (j : Int) + 1 = ((j + 1 : Nat) : Int) by omega, Int.toNat_natCast]
    by_cases hb : rd grp j = b
    · rw [if_pos hb]
      have e : (grp.map fun v => if v = b then a else v)[j]'(by simpa using hlt) = a := by rw [rd_nat _ _ hlt] at hb; simp [hb]
      have := upd_set hnl hlt
      rw [e] at this
      rw [this]
      exact ih (j + 1) k (by omega)
    · rw [if_neg hb]
      have e : (grp.map fun v => if v = b then a else v)[j]'(by simpa using hlt) = grp[j] := by rw [rd_nat _ _ hlt] at hb; simp [hb]
      rw [← upd_same hnl hlt e]
      exact ih (j + 1) k (by omega)

theorem tree_l1 (n : Nat) (l : List S64) (hv : surveyB n l = true) : ∀ (d i k : Nat), i + d = l.length → (n + 3) * d + 1 ≤ k → impl_Survey_tree.l1 k (atG n l i).out (atG n l i).grp l l.length i = some ((treeG n l).out, (treeG n l).grp) := by
  have hp := valid_pts hv
  have hn5 : n ≤ 5 := by omega
  have hl8 : l.length ≤ 8 := hp.2.2
  intro d
  induction d with
  | zero =>
    intro i k hi hk
    obtain rfl : i = l.length := by omega
    obtain ⟨k, rfl⟩ : ∃ m, k = m + 1 := ⟨k - 1, by omega⟩
    simp only [impl_Survey_tree.l1]
    rw [if_neg (by omega)]; rfl
  | succ d ih =>
    intro i k hi hk
    rw [Nat.mul_succ] at hk
    have hlt : i < l.length := by omega
    have e1 : (i + 1) + d = l.length := by omega
    obtain ⟨k, rfl⟩ : ∃ m, k = m + 1 := ⟨k - 1, by omega⟩
    have e2 : (n + 3) * d + 1 ≤ k := by omega
    have e3 : ∃ k2, k = k2 + n + 1 ∧ (n + 3) * d + 1 ≤ k2 := ⟨k - n - 1, by omega, by omega⟩
    have hw : wrap64 ((i : Int) + 1) = ((i + 1 : Nat) : Int) := by rw [wrap_id (by omega) (by omega)]; omega
    have c1 : (i : Int) < (l.length : Int) := by omega
    have hi9 : i < 17592186044416 := by have := hl8; omega
    clear hk hi hp
    have hgl : (atG n l i).grp.length = n := by rw [atG_len]; simp
    have hol := atG_out n l i
    have hs := atG_succ n l i hlt
    obtain ⟨h0, h1, h2, h3⟩ := valid_at hv i hlt
    obtain ⟨s, hsr⟩ : ∃ s, rd_T64 l i = s := ⟨_, rfl⟩
    rw [hsr] at h0 h1 h2 h3 hs
    have c2 : (0 : Int) ≤ (i : Int) := Int.natCast_nonneg i
    have c3 : s.f0 < ((atG n l i).grp.length : Int) := by rw [hgl]; exact h1
    have c4 : s.f1 < ((atG n l i).grp.length : Int) := by rw [hgl]; exact h3
    have c5 : (atG n l i).out.length < 17592186044416 := Nat.lt_of_le_of_lt hol hi9
    have hlt5 : (atG n l i).grp.length ≤ 5 := by rw [hgl]; exact hn5
    obtain ⟨g, hg⟩ : ∃ g, atG n l i = g := ⟨_, rfl⟩
    rw [hg] at hgl hs c3 c4 c5 hlt5
    rw [hg]
    clear hol hi9 hv h1 h3 hg
    simp only [impl_Survey_tree.l1, hsr, c1, c2, c3, c4, c5, h0, h2, if_true]
    by_cases hab : rd g.grp s.f0 = rd g.grp s.f1
    · rw [if_pos hab, hw]
      have h := ih (i + 1) k e1 e2
      rw [hs] at h
      simp only [stepG, hab, if_true] at h
      exact h
    · rw [if_neg hab]
      obtain ⟨k2, rfl, e4⟩ := e3
      have h2' := tree_l2 (g.out ++ [(i : Int)]) g.grp (rd g.grp s.f0) (rd g.grp s.f1) l l.length i hlt5 n 0 k2 (by rw [hgl]; exact Nat.zero_add n)
      rw [upd_zero, hw] at h2'
      have h := ih (i + 1) k2 e1 e4
      rw [hs] at h
      simp only [stepG, hab, if_false] at h
      exact h2'.trans h

theorem implTree_eq (n : Nat) (l : List S64) (hv : surveyB n l = true) (k : Nat) (hk : 80 ≤ k) : impl_Survey_tree.f k n l = some ((treeG n l).out, (treeG n l).grp) := by
  have hp := valid_pts hv
  obtain ⟨k2, rfl⟩ : ∃ m, k = m + n + 1 := ⟨k - n - 1, by omega⟩
  have h0 := tree_l0 n (by omega) l [] n 0 k2 (by omega)
  rw [List.range_zero, List.map_nil] at h0
  have h1 := tree_l1 n l hv l.length 0 k2 (by omega) (by
    have h5 : (n + 3) * l.length ≤ 8 * 8 := Nat.mul_le_mul (by omega) hp.2.2
    omega)
  unfold impl_Survey_tree.f
  exact h0.trans h1

theorem rd_map (f : Int → Int) (p : List Int) (x : Nat) (h : x < p.length) : rd (p.map f) x = f (rd p x) := by
  rw [rd_nat _ _ (by simpa using h), rd_nat _ _ h]; simp

theorem merge_eq {a b mn mx px py : Int} (_hab : a ≠ b) (h : (mn = a ∧ mx = b) ∨ (mn = b ∧ mx = a)) :
    ((if px = mx then mn else px) = (if py = mx then mn else py)) ↔ (px = py ∨ ((px = a ∨ px = b) ∧ (py = a ∨ py = b))) := by
  split <;> split <;> omega

def cnt (n : Nat) (p : List Int) : Nat := ((List.range n).filter fun x : Nat => decide (rd p x = (x : Int))).length

theorem filter_drop_one {l : List Nat} (hn : l.Nodup) {q q' : Nat → Bool} {m : Nat} (hm : m ∈ l) (hq : q m = true) (h : ∀ x, x ∈ l → (q' x = true ↔ q x = true ∧ x ≠ m)) : (l.filter q').length + 1 = (l.filter q).length := by
  induction l with
  | nil => simp at hm
  | cons x xs ih =>
    rw [List.nodup_cons] at hn
    have hx := h x (by simp)
    by_cases e : x = m
    · subst e
      have h1 : q' x = false := by
        cases hc : q' x
        · rfl
        · exact absurd rfl (hx.1 hc).2
      have h2 : xs.filter q' = xs.filter q := by
        apply List.filter_congr
        intro y hy
        have hy2 := h y (by simp [hy])
        have : y ≠ x := fun e => hn.1 (e ▸ hy)
        cases hc : q y <;> cases hd : q' y <;> simp_all
      simp [h1, hq, h2]
    · have hm' : m ∈ xs := by
        rcases List.mem_cons.1 hm with h | h
        · exact absurd h.symm e
        · exact h
      have := ih hn.2 hm' (fun y hy => h y (by simp [hy]))
      have hqq : q' x = q x := by
        cases hc : q x <;> cases hd : q' x <;> simp_all
      by_cases hc : q x = true
      · simp [hqq, hc]; omega
      · simp [hqq, hc]; omega

structure Inv (n : Nat) (o : List Int) (p g : List Int) : Prop where
  lp : p.length = n
  lg : g.length = n
  eqv : ∀ x y : Nat, x < n → y < n → (rd p x = rd p y ↔ rd g x = rd g y)
  lo : ∀ x : Nat, x < n → 0 ≤ rd p x ∧ rd p x ≤ x
  rep : ∀ x : Nat, x < n → rd p (rd p x) = rd p x
  cn : o.length + cnt n p = n

theorem rd_range (n : Nat) (x : Nat) (h : x < n) : rd ((List.range n).map fun j : Nat => (j : Int)) x = x := by
  rw [rd_nat _ _ (by simpa using h)]; simp
theorem inv_start (n : Nat) : Inv n (Hd.start n).out (Hd.start n).part (startG n).grp where
  lp := by simp [Hd.start]
  lg := by simp [startG]
  eqv := fun x y hx hy => by simp [Hd.start, startG]
  lo := fun x hx => by simp only [Hd.start, Int.toNat_natCast]; rw [rd_range n x hx]; omega
  rep := fun x hx => by simp only [Hd.start, Int.toNat_natCast]; rw [rd_range n x hx, rd_range n x hx]
  cn := by
    have e : ∀ x : Nat, x < n → rd (Hd.start (n : Int)).part x = x := fun x hx => by simp only [Hd.start, Int.toNat_natCast]; exact rd_range n x hx
    have : (List.range n).filter (fun x : Nat => decide (rd (Hd.start (n : Int)).part x = (x : Int))) = List.range n := by
      rw [List.filter_eq_self]
      intro x hx
      exact decide_eq_true (e x (by simpa using hx))
    unfold cnt
    rw [this]; simp [Hd.start]

theorem inv_step {n : Nat} {st : St} {sg : Sg} (h : Inv n st.out st.part sg.grp) (ho : st.out = sg.out) (x : S64 × Nat) (h0 : 0 ≤ x.1.f0) (h1 : x.1.f0 < n) (h2 : 0 ≤ x.1.f1) (h3 : x.1.f1 < n) :
    Inv n (Hd.step st x).out (Hd.step st x).part (stepG sg x).grp ∧ (Hd.step st x).out = (stepG sg x).out := by
  obtain ⟨s, i⟩ := x
  obtain ⟨u, hu⟩ : ∃ u : Nat, s.f0 = (u : Int) := ⟨s.f0.toNat, by simp at h0; omega⟩
  obtain ⟨v, hv⟩ : ∃ v : Nat, s.f1 = (v : Int) := ⟨s.f1.toNat, by simp at h2; omega⟩
  simp only [hu, hv] at h1 h3
  have hun : u < n := by omega
  have hvn : v < n := by omega
  clear h0 h1 h2 h3
  have huv := h.eqv u v hun hvn
  unfold Hd.step stepG
  simp only [hu, hv]
  by_cases hab : rd st.part u = rd st.part v
  · rw [if_pos hab, if_pos (huv.1 hab)]; exact ⟨h, ho⟩
  · rw [if_neg hab, if_neg (fun e => hab (huv.2 e))]
    have hmm : (mnI (rd st.part u) (rd st.part v) = rd st.part u ∧ mxI (rd st.part u) (rd st.part v) = rd st.part v) ∨ (mnI (rd st.part u) (rd st.part v) = rd st.part v ∧ mxI (rd st.part u) (rd st.part v) = rd st.part u) := by
      unfold mnI mxI; split <;> split <;> omega
    have hlt : mnI (rd st.part u) (rd st.part v) < mxI (rd st.part u) (rd st.part v) := by unfold mnI mxI; split <;> split <;> omega
    have hP : ∀ y : Nat, y < n → rd (newPart st.part (rd st.part u) (rd st.part v)) y = if rd st.part y = mxI (rd st.part u) (rd st.part v) then mnI (rd st.part u) (rd st.part v) else rd st.part y := fun y hy => rd_map _ _ _ (by rw [h.lp]; exact hy)
    have hG : ∀ y : Nat, y < n → rd (sg.grp.map fun z => if z = rd sg.grp v then rd sg.grp u else z) y = if rd sg.grp y = rd sg.grp v then rd sg.grp u else rd sg.grp y := fun y hy => rd_map _ _ _ (by rw [h.lg]; exact hy)
    have rmn : rd st.part (mnI (rd st.part u) (rd st.part v)) = mnI (rd st.part u) (rd st.part v) := by
      rcases hmm with ⟨e, _⟩ | ⟨e, _⟩ <;> rw [e]
      · exact h.rep u hun
      · exact h.rep v hvn
    have rmx : rd st.part (mxI (rd st.part u) (rd st.part v)) = mxI (rd st.part u) (rd st.part v) := by
      rcases hmm with ⟨_, e⟩ | ⟨_, e⟩ <;> rw [e]
      · exact h.rep v hvn
      · exact h.rep u hun
    have bu := h.lo u hun
    have bv := h.lo v hvn
    have bmx : 0 ≤ mxI (rd st.part u) (rd st.part v) ∧ mxI (rd st.part u) (rd st.part v) < n := by rcases hmm with ⟨_, e⟩ | ⟨_, e⟩ <;> rw [e] <;> omega
    have bmn : 0 ≤ mnI (rd st.part u) (rd st.part v) := by rcases hmm with ⟨e, _⟩ | ⟨e, _⟩ <;> rw [e] <;> omega
    have hau : ∀ y : Nat, y < n → (rd st.part y = rd st.part u ↔ rd sg.grp y = rd sg.grp u) := fun y hy => h.eqv y u hy hun
    have hav : ∀ y : Nat, y < n → (rd st.part y = rd st.part v ↔ rd sg.grp y = rd sg.grp v) := fun y hy => h.eqv y v hy hvn
    generalize hmn : mnI (rd st.part u) (rd st.part v) = mn at *
    generalize hmx : mxI (rd st.part u) (rd st.part v) = mx at *
    refine ⟨⟨by rw [newPart_len]; exact h.lp, by simp [h.lg], ?_, ?_, ?_, ?_⟩, by rw [ho]⟩
    · intro y z hy hz
      rw [hP y hy, hP z hz, hG y hy, hG z hz, merge_eq hab hmm, merge_eq (a := rd sg.grp u) (b := rd sg.grp v) (fun e => hab (huv.2 e)) (.inl ⟨rfl, rfl⟩), h.eqv y z hy hz, hau y hy, hav y hy, hau z hz, hav z hz]
    · intro y hy
      have := h.lo y hy
      rw [hP y hy]; split <;> omega
    · intro y hy
      have hl := h.lo y hy
      have hr := h.rep y hy
      rw [hP y hy]
      split
      · obtain ⟨m, hm⟩ : ∃ m : Nat, mn = (m : Int) := ⟨mn.toNat, by omega⟩
        rw [hm] at rmn hlt ⊢
        rw [hP m (by omega), rmn, if_neg (by omega)]
      · rename_i hne
        obtain ⟨m, hm⟩ : ∃ m : Nat, rd st.part y = (m : Int) := ⟨(rd st.part y).toNat, by omega⟩
        rw [hm] at hr hne hl ⊢
        rw [hP m (by omega), hr, if_neg hne]
    · obtain ⟨m, hm⟩ : ∃ m : Nat, mx = (m : Int) := ⟨mx.toNat, by omega⟩
      have hc : cnt n (newPart st.part (rd st.part u) (rd st.part v)) + 1 = cnt n st.part := by
        refine filter_drop_one List.nodup_range (m := m) (by simp; omega) (by rw [hm] at rmx; simp [rmx]) ?_
        intro y hy
        have hy' : y < n := by simpa using hy
        rw [hP y hy']
        simp only [decide_eq_true_eq]
        split
        · rename_i e
          constructor
          · intro e2
            rw [e2] at rmn
            omega
          · rintro ⟨e2, e3⟩
            omega
        · rename_i e
          constructor
          · intro e2; exact ⟨e2, by omega⟩
          · intro e2; exact e2.1
      have := h.cn
      simp only [List.length_append, List.length_cons, List.length_nil]
      omega

theorem inv_at {n : Nat} {l : List S64} (hv : surveyB n l = true) : ∀ k, k ≤ l.length → Inv n (at_ n l k).out (at_ n l k).part (atG n l k).grp ∧ (at_ n l k).out = (atG n l k).out := by
  intro k
  induction k with
  | zero => intro _; exact ⟨by rw [at_zero]; exact inv_start n, by simp [at_zero, atG, Hd.start, startG]⟩
  | succ k ih =>
    intro hk
    obtain ⟨h1, h2⟩ := ih (by omega)
    obtain ⟨a, b, c, d⟩ := valid_at hv k (by omega)
    rw [at_succ n l k (by omega), atG_succ n l k (by omega)]
    exact inv_step h1 h2 (rd_T64 l k, k) a b c d

theorem all_zero {n : Nat} {o p g : List Int} (h : Inv n o p g) (hn : 1 ≤ n) : p.all (· == 0) = true ↔ o.length = n - 1 := by
  have hc := h.cn
  have z0 : rd p 0 = 0 := by have := h.lo 0 (by omega); simp at this; omega
  have e1 : p.all (· == 0) = true ↔ ∀ x : Nat, x < n → rd p x = 0 := by
    rw [List.all_eq_true]
    constructor
    · intro ha x hx
      have := ha (rd p x) (by rw [rd_nat _ _ (by rw [h.lp]; exact hx)]; exact List.getElem_mem _)
      simpa using this
    · intro ha y hy
      obtain ⟨i, hi, rfl⟩ := List.getElem_of_mem hy
      have := ha i (by rw [← h.lp]; exact hi)
      rw [rd_nat _ _ hi] at this
      simpa using this
  rw [e1]
  constructor
  · intro ha
    have : (List.range n).filter (fun x : Nat => decide (rd p x = (x : Int))) = [0] := by
      obtain ⟨m, rfl⟩ : ∃ m, n = m + 1 := ⟨n - 1, by omega⟩
      rw [List.range_succ_eq_map, List.filter_cons]
      have h0 : decide (rd p ((0 : Nat) : Int) = ((0 : Nat) : Int)) = true := by simpa using z0
      rw [if_pos h0]
      congr 1
      rw [List.filter_eq_nil_iff]
      intro x hx
      simp only [List.mem_map, List.mem_range] at hx
      obtain ⟨y, hy, rfl⟩ := hx
      have := ha (y + 1) (by omega)
      simp only [Nat.succ_eq_add_one, decide_eq_true_eq]
      omega
    unfold cnt at hc
    rw [this] at hc
    simp at hc; omega
  · intro hl x hx
    have h1 : cnt n p = 1 := by omega
    have hr := h.rep x hx
    have hb := h.lo x hx
    obtain ⟨m, hm⟩ : ∃ m : Nat, rd p x = (m : Int) := ⟨(rd p x).toNat, by omega⟩
    rw [hm] at hr hb ⊢
    by_cases e : m = 0
    · simp [e]
    · exfalso
      unfold cnt at h1
      obtain ⟨y, hy⟩ := List.length_eq_one_iff.1 h1
      have m0 : 0 ∈ (List.range n).filter (fun x : Nat => decide (rd p x = (x : Int))) := by simp; exact ⟨by omega, z0⟩
      have mm : m ∈ (List.range n).filter (fun x : Nat => decide (rd p x = (x : Int))) := by simp; exact ⟨by omega, hr⟩
      rw [hy] at m0 mm
      simp at m0 mm
      omega

theorem out_eq {n : Nat} {l : List S64} (hv : surveyB n l = true) : (treeS n l).out = (treeG n l).out := by
  have := (inv_at hv l.length (Nat.le_refl _)).2
  rwa [at_all] at this
theorem conn_eq {n : Nat} {l : List S64} (hv : surveyB n l = true) : ((treeS n l).part.all (· == 0) = true) ↔ (((treeG n l).out.length : Int) = (n : Int) - 1) := by
  have hp := valid_pts hv
  have h := (inv_at hv l.length (Nat.le_refl _)).1
  rw [at_all] at h
  have := all_zero h (by omega)
  rw [this, ← out_eq hv]
  omega

/-- a valid survey's points are a natural number. -/
theorem nat_pts {p : Int} {l : List S64} (hv : surveyB p l = true) : ∃ n : Nat, p = n := ⟨p.toNat, by have := valid_pts hv; omega⟩
def connB (p : Int) (l : List S64) : Bool := surveyB p l && (treeS p l).part.all (· == 0)
theorem specConn_eq (p : Int) (l : List S64) : spec_IsConnected.f p l = some (connB p l) := by
  simp only [spec_IsConnected.f, spec_l10Whole.f, spec_l10Is.f, Option.bind_some, connB]
  by_cases hv : surveyB p l = true
  · simp only [hv, if_true, spec_l10Tree.f, Bool.true_and]
    cases h : (treeS p l).part.all (· == 0) <;> simp
  · simp [hv]
theorem implConn_eq (p : Int) (l : List S64) (hl : l.length ≤ 1048576) (k : Nat) (hk : l.length < k) (hk2 : 80 ≤ k) : impl_IsConnected.f k p l = some (connB p l) := by
  simp only [impl_IsConnected.f, implValid_eq p l hl k hk, Option.bind_some, connB]
  by_cases hv : surveyB p l = true
  · obtain ⟨n, rfl⟩ := nat_pts hv
    have hp := valid_pts hv
    simp only [hv, if_true, impl_Survey_connected.f, implTree_eq n l hv k hk2, Option.bind_some, Bool.true_and]
    rw [wrap_id (by omega) (by omega)]
    have := conn_eq hv
    congr 1
    rw [Bool.eq_iff_iff, this]
    simp
  · simp [hv]
end Go.Proofs.Ytkkiagoacbhhjaa.PuT

/- The program's treeHeights: the heights that follow from the chosen sights. -/
namespace Go.Proofs.Ytkkiagoacbhhjaa.He
open Go.Proofs.Ytkkiagoacbhhjaa.Hd Go.RowKit Go.Proofs.YtkkiagoacbhhjaaW.PrintWords Go.Proofs.YtkkiagoacbhhjaaW.PrintLast Go.Proofs.YtkkiagoacbhhjaaW.PrintMore Go.Proofs.Ytkkiagoacbhhjaa.Q Go.Proofs.Ytkkiagoacbhhjaa.Ha Go.Proofs.Ytkkiagoacbhhjaa.Hb Go.Proofs.Ytkkiagoacbhhjaa.Hc Go.Proofs.Ytkkiagoacbhhjaa.PuT

theorem tree_any (n : Nat) (l : List S64) (hv : surveyB n l = true) (A : Option Addr) (c : Nat) (w : World) (hr : Kd.C k64 w A l.length l) (hc : l.length ≤ c) :
    Calls Try.prog 54 #[.agg #[.int .i64 n, .slice A l.length c]] w fun e w' => ∃ v0 v1 : Value, e = .returned (.tuple #[v0, v1]) ∧ T w.heap.size w' v0 (treeG n l).out ∧ Below w.heap.size w w' := by
  refine (impl_Survey_tree.calls 80 n A c l _ _ w hr hc (implTree_eq n l hv 80 (Nat.le_refl _))).mono ?_
  rintro e w' ⟨v0, v1, he, h0, _, hb⟩
  exact ⟨v0, v1, he, T.of h0, hb⟩

theorem mk47 (n : Nat) (hn : n ≤ 5) : ∀ W : World, (Instr.makeSlice 47 (.int .i64 (n : Int)) (.int .i64 (n : Int))).run Try.prog W = .ok (.slice (some ⟨W.heap.size, 0, none⟩) n n) (W.alloc (.cells (madeCells #[.int .i64 0] n) 2)) :=
  print_make_of 47 2 (.int .i64 0) 8 Try.underlying47 info2 rfl (by decide) n (by omega)
theorem mk83 (n : Nat) (hn : n ≤ 5) : ∀ W : World, (Instr.makeSlice 83 (.int .i64 (n : Int)) (.int .i64 (n : Int))).run Try.prog W = .ok (.slice (some ⟨W.heap.size, 0, none⟩) n n) (W.alloc (.cells (madeCells #[.bool false] n) 4)) :=
  print_make_of 83 4 (.bool false) 1 Try.underlying83 info4 rfl (by decide) n (by omega)
theorem T.made {B : Nat} (W : World) (n : Nat) (hn : n ≤ 5) (hB : B ≤ W.heap.size) : T B (W.alloc (.cells (madeCells #[.int .i64 0] n) 2)) (.slice (some ⟨W.heap.size, 0, none⟩) n n) (List.replicate n 0) := by
  have h := own_made_of (enc := Value.int .i64) (d := 0) W B 2 n hB (by omega)
  exact Kd.R_of_own (by simpa using h) (fun _ _ => trivial)
theorem TB.made {B : Nat} (W : World) (n : Nat) (hn : n ≤ 5) (hB : B ≤ W.heap.size) : TB B (W.alloc (.cells (madeCells #[.bool false] n) 4)) (.slice (some ⟨W.heap.size, 0, none⟩) n n) (List.replicate n false) := by
  have h := own_made_of (enc := Value.bool) (d := false) W B 4 n hB (by omega)
  exact Kd.R_of_own (by simpa using h) (fun _ _ => trivial)

structure Sh where
  h : List Int
  kn : List Bool
def stepH (l : List S64) (st : Sh) (j : Int) : Sh :=
  if rdOf false st.kn (rd_T64 l j).f0 = true ∧ rdOf false st.kn (rd_T64 l j).f1 = false then ⟨st.h.set (rd_T64 l j).f1.toNat (wrap64 (rd st.h (rd_T64 l j).f0 + (rd_T64 l j).f2)), st.kn.set (rd_T64 l j).f1.toNat true⟩
  else if rdOf false st.kn (rd_T64 l j).f1 = true ∧ rdOf false st.kn (rd_T64 l j).f0 = false then ⟨st.h.set (rd_T64 l j).f0.toNat (wrap64 (rd st.h (rd_T64 l j).f1 - (rd_T64 l j).f2)), st.kn.set (rd_T64 l j).f0.toNat true⟩
  else st
def startH (n : Nat) : Sh := ⟨List.replicate n 0, (List.replicate n false).set 0 true⟩
def itH (n : Nat) (l : List S64) (o : List Int) : Nat → Sh
  | 0 => startH n
  | i + 1 => o.foldl (stepH l) (itH n l o i)
def inH (n : Nat) (l : List S64) (o : List Int) (i j : Nat) : Sh := (o.take j).foldl (stepH l) (itH n l o i)
theorem inH_zero (n : Nat) (l : List S64) (o : List Int) (i : Nat) : inH n l o i 0 = itH n l o i := by simp [inH]
theorem inH_all (n : Nat) (l : List S64) (o : List Int) (i : Nat) : inH n l o i o.length = itH n l o (i + 1) := by simp [inH, itH]
theorem inH_succ (n : Nat) (l : List S64) (o : List Int) (i j : Nat) (h : j < o.length) : inH n l o i (j + 1) = stepH l (inH n l o i j) (rd o j) := by
  unfold inH
  rw [List.take_succ_eq_append_getElem h, List.foldl_append]
  simp [rd_nat _ _ h]
theorem stepH_len (l : List S64) (st : Sh) (j : Int) : (stepH l st j).h.length = st.h.length ∧ (stepH l st j).kn.length = st.kn.length := by
  unfold stepH; split
  · simp
  · split <;> simp
theorem foldH_len (l : List S64) (o : List Int) (st : Sh) : (o.foldl (stepH l) st).h.length = st.h.length ∧ (o.foldl (stepH l) st).kn.length = st.kn.length := by
  induction o generalizing st with
  | nil => exact ⟨rfl, rfl⟩
  | cons x xs ih => simp only [List.foldl_cons]; rw [(ih _).1, (ih _).2]; exact stepH_len l st x
theorem itH_len (n : Nat) (l : List S64) (o : List Int) (i : Nat) : (itH n l o i).h.length = n ∧ (itH n l o i).kn.length = n := by
  induction i with
  | zero => simp [itH, startH]
  | succ i ih => simp only [itH]; rw [(foldH_len ..).1, (foldH_len ..).2]; exact ih
theorem inH_len (n : Nat) (l : List S64) (o : List Int) (i j : Nat) : (inH n l o i j).h.length = n ∧ (inH n l o i j).kn.length = n := by
  unfold inH; rw [(foldH_len ..).1, (foldH_len ..).2]; exact itH_len n l o i
def hgt (n : Nat) (l : List S64) : List Int := (itH n l (treeG n l).out (treeG n l).out.length).h

theorem outG_lt (n : Nat) (l : List S64) : ∀ k, k ≤ l.length → ∀ x ∈ (atG n l k).out, 0 ≤ x ∧ x < k := by
  intro k
  induction k with
  | zero => intro _ x hx; simp [atG, startG] at hx
  | succ k ih =>
    intro hk x hx
    rw [atG_succ n l k (by omega)] at hx
    unfold PuT.stepG at hx
    split at hx
    · have := ih (by omega) x hx; omega
    · simp only [List.mem_append, List.mem_singleton] at hx
      rcases hx with hx | hx
      · have := ih (by omega) x hx; omega
      · subst hx; omega
theorem out_at (n : Nat) (l : List S64) (j : Nat) (h : j < (treeG n l).out.length) : 0 ≤ rd (treeG n l).out j ∧ rd (treeG n l).out j < l.length := by
  rw [rd_nat _ _ h]; exact outG_lt n l l.length (Nat.le_refl _) _ (List.getElem_mem _)

abbrev W0 (n : Nat) (A : Option Addr) (k c : Nat) (w : World) : World := w.alloc (.cells #[.int .i64 n, .slice A k c] 39)
def Made (w0 : World) (n : Nat) (u v5 v6 : Value) (o : List Int) (wz : World) : Prop :=
  ∃ g5 g6 : Nat, v5 = .slice (some ⟨g5, 0, none⟩) n n ∧ v6 = .slice (some ⟨g6, 0, none⟩) n n ∧ Aside0 (g5 ≠ g6) ∧ Aside0 (w0.heap.size ≤ g5) ∧ Aside0 (w0.heap.size ≤ g6) ∧ Aside0 (T w0.heap.size wz (.slice (some ⟨g5, 0, none⟩) n n) (List.replicate n 0)) ∧ Aside0 (TB w0.heap.size wz (.slice (some ⟨g6, 0, none⟩) n n) (List.replicate n false)) ∧
      Aside0 (T w0.heap.size wz u o) ∧ Aside0 (NE u (.slice (some ⟨g5, 0, none⟩) n n)) ∧ Aside0 (NE u (.slice (some ⟨g6, 0, none⟩) n n)) ∧ Aside0 (Below w0.heap.size w0 wz)
theorem made_a {w0 w1 : World} {n : Nat} (hn : n ≤ 5) {u : Value} {o : List Int} (h0 : T w0.heap.size w1 u o) (hb : Below w0.heap.size w0 w1) :
    Made w0 n u (.slice (some ⟨w1.heap.size, 0, none⟩) n n) (.slice (some ⟨w1.heap.size + 1, 0, none⟩) n n) o ((w1.alloc (.cells (madeCells #[.int .i64 0] n) 2)).alloc (.cells (madeCells #[.bool false] n) 4)).drew := by
  have hs := hb.size
  have t5 := T.made (B := w0.heap.size) w1 n hn hs
  have t6 := TB.made (B := w0.heap.size) (w1.alloc (.cells (madeCells #[.int .i64 0] n) 2)) n hn (by simp; omega)
  rw [World.size_alloc] at t6
  have k1 := below_alloc (Below.refl w1.heap.size w1) (.cells (madeCells #[.int .i64 0] n) 2)
  have k2 := (below_alloc (Below.refl (w1.alloc (.cells (madeCells #[.int .i64 0] n) 2)).heap.size (w1.alloc (.cells (madeCells #[.int .i64 0] n) 2))) (.cells (madeCells #[.bool false] n) 4)).drew
  have k3 := (below_alloc (below_alloc (Below.refl w1.heap.size w1) (.cells (madeCells #[.int .i64 0] n) 2)) (.cells (madeCells #[.bool false] n) 4)).drew
  exact ⟨_, _, rfl, rfl, ⟨by omega⟩, ⟨hs⟩, ⟨by omega⟩, ⟨t5.below k2⟩, ⟨Kd.R_drew t6⟩, ⟨h0.below k3⟩, ⟨NE.new h0 ⟨_, rfl, Nat.le_refl _⟩⟩, ⟨NE.new h0 ⟨_, rfl, Nat.le_succ _⟩⟩, ⟨below_step hb k3⟩⟩
theorem made_b {w0 w1 : World} {n : Nat} (hn : n ≤ 5) {u : Value} {o : List Int} (h0 : T w0.heap.size w1 u o) (hb : Below w0.heap.size w0 w1) :
    Made w0 n u (.slice (some ⟨w1.heap.size + 1, 0, none⟩) n n) (.slice (some ⟨w1.heap.size, 0, none⟩) n n) o ((w1.alloc (.cells (madeCells #[.bool false] n) 4)).alloc (.cells (madeCells #[.int .i64 0] n) 2)).drew := by
  have hs := hb.size
  have t6 := TB.made (B := w0.heap.size) w1 n hn hs
  have t5 := T.made (B := w0.heap.size) (w1.alloc (.cells (madeCells #[.bool false] n) 4)) n hn (by simp; omega)
  rw [World.size_alloc] at t5
  have k2 := (below_alloc (Below.refl (w1.alloc (.cells (madeCells #[.bool false] n) 4)).heap.size (w1.alloc (.cells (madeCells #[.bool false] n) 4))) (.cells (madeCells #[.int .i64 0] n) 2)).drew
  have k3 := (below_alloc (below_alloc (Below.refl w1.heap.size w1) (.cells (madeCells #[.bool false] n) 4)) (.cells (madeCells #[.int .i64 0] n) 2)).drew
  exact ⟨_, _, rfl, rfl, ⟨by omega⟩, ⟨by omega⟩, ⟨hs⟩, ⟨Kd.R_drew t5⟩, ⟨t6.below k2⟩, ⟨h0.below k3⟩, ⟨NE.new h0 ⟨_, rfl, Nat.le_succ _⟩⟩, ⟨NE.new h0 ⟨_, rfl, Nat.le_refl _⟩⟩, ⟨below_step hb k3⟩⟩
theorem NE.types {B : Nat} {W : World} {u v : Value} {xs : List Int} {bs : List Bool} (h : T B W u xs) (hv : TB B W v bs) : NE u v := by
  intro k hk hv'
  obtain ⟨c1, e1⟩ := Kd.R_typed h k hk
  obtain ⟨c2, e2⟩ := Kd.R_typed hv k hv'
  rw [e1] at e2; simp at e2
theorem T.lower {B B' : Nat} {W : World} {v : Value} {xs : List Int} (h : T B W v xs) (hb : B' ≤ B) : T B' W v xs := Kd.R_lower h hb

/-- the two stores of one step, in either order. -/
theorem two_a {B : Nat} {W : World} {u : Value} {o hs : List Int} {kn : List Bool} {g5 g6 n : Nat} (h0 : T B W u o) (h5 : T B W (.slice (some ⟨g5, 0, none⟩) n n) hs) (h6 : TB B W (.slice (some ⟨g6, 0, none⟩) n n) kn) (hne : g5 ≠ g6) (m5 : NE u (.slice (some ⟨g5, 0, none⟩) n n)) (m6 : NE u (.slice (some ⟨g6, 0, none⟩) n n)) (i : Nat) (x : Int) (b : Bool) :
    T B ((W.setCell ⟨g5, i, none⟩ (.int .i64 x)).setCell ⟨g6, i, none⟩ (.bool b)) u o ∧ T B ((W.setCell ⟨g5, i, none⟩ (.int .i64 x)).setCell ⟨g6, i, none⟩ (.bool b)) (.slice (some ⟨g5, 0, none⟩) n n) (hs.set i x) ∧ TB B ((W.setCell ⟨g5, i, none⟩ (.int .i64 x)).setCell ⟨g6, i, none⟩ (.bool b)) (.slice (some ⟨g6, 0, none⟩) n n) (kn.set i b) := by
  obtain ⟨p5, q5⟩ := h5.put i x
  have p6 := TB.grown (v := .slice (some ⟨g5, 0, none⟩) n n) h6 q5 (NE.of (n1 := n) (c1 := n) (n2 := n) (c2 := n) (Ne.symm hne))
  obtain ⟨r6, q6⟩ := p6.put i b
  exact ⟨T.grown (v := .slice (some ⟨g6, 0, none⟩) n n) (T.grown (v := .slice (some ⟨g5, 0, none⟩) n n) h0 q5 m5) q6 m6, T.grown (v := .slice (some ⟨g6, 0, none⟩) n n) p5 q6 (NE.of (n1 := n) (c1 := n) (n2 := n) (c2 := n) hne), r6⟩
theorem two_b {B : Nat} {W : World} {u : Value} {o hs : List Int} {kn : List Bool} {g5 g6 n : Nat} (h0 : T B W u o) (h5 : T B W (.slice (some ⟨g5, 0, none⟩) n n) hs) (h6 : TB B W (.slice (some ⟨g6, 0, none⟩) n n) kn) (hne : g5 ≠ g6) (m5 : NE u (.slice (some ⟨g5, 0, none⟩) n n)) (m6 : NE u (.slice (some ⟨g6, 0, none⟩) n n)) (i : Nat) (x : Int) (b : Bool) :
    T B ((W.setCell ⟨g6, i, none⟩ (.bool b)).setCell ⟨g5, i, none⟩ (.int .i64 x)) u o ∧ T B ((W.setCell ⟨g6, i, none⟩ (.bool b)).setCell ⟨g5, i, none⟩ (.int .i64 x)) (.slice (some ⟨g5, 0, none⟩) n n) (hs.set i x) ∧ TB B ((W.setCell ⟨g6, i, none⟩ (.bool b)).setCell ⟨g5, i, none⟩ (.int .i64 x)) (.slice (some ⟨g6, 0, none⟩) n n) (kn.set i b) := by
  obtain ⟨p6, q6⟩ := h6.put i b
  have p5 := T.grown (v := .slice (some ⟨g6, 0, none⟩) n n) h5 q6 (NE.of (n1 := n) (c1 := n) (n2 := n) (c2 := n) hne)
  obtain ⟨r5, q5⟩ := p5.put i x
  exact ⟨T.grown (v := .slice (some ⟨g5, 0, none⟩) n n) (T.grown (v := .slice (some ⟨g6, 0, none⟩) n n) h0 q6 m6) q5 m5, r5, TB.grown (v := .slice (some ⟨g5, 0, none⟩) n n) p6 q5 (NE.of (n1 := n) (c1 := n) (n2 := n) (c2 := n) (Ne.symm hne))⟩

set_option maxHeartbeats 4000000 in
set_option maxRecDepth 100000 in
theorem heights_any (n : Nat) (l : List S64) (hv : surveyB n l = true) (A : Option Addr) (c : Nat) (w : World) (hr : Kd.C k64 w A l.length l) (hc : l.length ≤ c) :
    Calls Try.prog 55 #[.agg #[.int .i64 n, .slice A l.length c]] w fun e w' => ∃ v, e = .returned v ∧ T w.heap.size w' v (hgt n l) ∧ Below w.heap.size w w' := by
  have hn5 : n ≤ 5 := by have := valid_pts hv; omega
  have hn2 : 2 ≤ n := by have := valid_pts hv; omega
  have hl8 : l.length ≤ 8 := by have := valid_pts hv; omega
  have hu64 := Try.underlying64
  have hu39 := Try.underlying39
  have HV := Aside0.mk hv
  have hbx := below_alloc (Below.refl w.heap.size w) (.cells #[.int .i64 n, .slice A l.length c] 39)
  have HR := Aside0.mk (Kd.C_below hr hbx)
  have HB := Aside0.mk hbx
  have hcall := tree_any n l hv A c _ (Kd.C_below hr hbx) hc
  have HX := Aside0.mk (heap_alloc_new w (.cells #[.int .i64 n, .slice A l.length c] 39))
  clear hr hv hbx
  go_enter Try.func55, Try.ntmps55
  go_wp2_with (go_at_call 54; refine hcall.mono ?_; rintro e w1 ⟨v0, v1, rfl, h0, hb1⟩)
  have hcx0 : w1.cell? ⟨w.heap.size, 0, none⟩ = some (.int .i64 n) := (blk_cell (blk_below HX.out hb1) 0).trans rfl
  have hm1 := mk47 n hn5
  have hm2 := mk83 n hn5
  have hB0 : w1.heap[w.heap.size]? = some (.cells #[.int .i64 n, .slice A l.length c] 39 (0, 0)) := blk_below HX.out hb1
  have hca : (w1.alloc (.cells (madeCells #[.int .i64 0] n) 2)).cell? ⟨w.heap.size, 0, none⟩ = some (.int .i64 n) := (blk_cell (blk_alloc hB0 _) 0).trans rfl
  have hcb : (w1.alloc (.cells (madeCells #[.bool false] n) 4)).cell? ⟨w.heap.size, 0, none⟩ = some (.int .i64 n) := (blk_cell (blk_alloc hB0 _) 0).trans rfl
  obtain ⟨Ao, co, rfl⟩ := Kd.R_slice h0
  have H0 := Aside0.mk h0
  have HB1 := Aside0.mk hb1
  have HB0 := Aside0.mk hB0
  clear h0 hb1 hB0 hcall
  go_cut [5, 6] from 15 to 20 (fun v5 v6 wz => Made (W0 n A l.length c w) n (.slice Ao (treeG n l).out.length co) v5 v6 (treeG n l).out wz)
  case first =>
    go_region
    all_goals go_wp2_with (fail)
    all_goals go_meet
    · exact made_a hn5 H0.out HB1.out
    · exact made_b hn5 H0.out HB1.out
  case rest =>
    clear hcx0 hm1 hm2 hca hcb H0 HB1 HB0
    obtain ⟨g5, g6, rfl, rfl, hne, hg5, hg6, t5, t6, t0, m5, m6, hb⟩ := hcut
    obtain ⟨hz0, hz1⟩ := t6.out.cell 0 (by omega)
    have s6 := Aside0.mk (t6.out.put 0 true)
    have s5 := Aside0.mk (T.grown (v := .slice (some ⟨g6, 0, none⟩) n n) t5.out s6.out.2 (NE.of (n1 := n) (c1 := n) (n2 := n) (c2 := n) hne.out))
    have s0 := Aside0.mk (T.grown (v := .slice (some ⟨g6, 0, none⟩) n n) t0.out s6.out.2 m6.out)
    have sb := Aside0.mk (hb.out.setCell (p := ⟨g6, 0, none⟩) hg6.out (.bool true))
    have hol := Nat.le_trans (atG_out n l l.length) hl8
    change (treeG n l).out.length ≤ 8 at hol
    have HO := Aside0.mk (out_at n l)
    have HL := Aside0.mk (inH_len n l (treeG n l).out)
    have HI := Aside0.mk (inH_succ n l (treeG n l).out)
    clear t5 t6 t0 hb
    go_wp2_with (fail)
    clear hz0 hz1
    go_loopw [25] (fun v25 wz => ∃ i : Nat, i ≤ (treeG n l).out.length ∧ v25 = .int .i64 i ∧ Aside0 (T (W0 n A l.length c w).heap.size wz (.slice Ao (treeG n l).out.length co) (treeG n l).out) ∧ Aside0 (T (W0 n A l.length c w).heap.size wz (.slice (some ⟨g5, 0, none⟩) n n) (itH n l (treeG n l).out i).h) ∧ Aside0 (TB (W0 n A l.length c w).heap.size wz (.slice (some ⟨g6, 0, none⟩) n n) (itH n l (treeG n l).out i).kn) ∧ Aside0 (Below (W0 n A l.length c w).heap.size (W0 n A l.length c w) wz)) (fun v _ => (treeG n l).out.length - (intOf v).toNat)
    case atStart => exact ⟨0, by omega, rfl, s0, s5, ⟨s6.out.1⟩, sb⟩
    case round =>
      clear s0 s5 s6 sb
      obtain ⟨i, hi, rfl, r0, r5, r6, rb⟩ := hrel
      by_cases hlt : i < (treeG n l).out.length
      · have hlt' : decide ((i : Int) < ((treeG n l).out.length : Int)) = true := by simpa using hlt
        go_wp2_with (fail)
        go_loopw [29] (fun v29 wz => ∃ j : Nat, j ≤ (treeG n l).out.length ∧ v29 = .int .i64 j ∧ Aside0 (T (W0 n A l.length c w).heap.size wz (.slice Ao (treeG n l).out.length co) (treeG n l).out) ∧ Aside0 (T (W0 n A l.length c w).heap.size wz (.slice (some ⟨g5, 0, none⟩) n n) (inH n l (treeG n l).out i j).h) ∧ Aside0 (TB (W0 n A l.length c w).heap.size wz (.slice (some ⟨g6, 0, none⟩) n n) (inH n l (treeG n l).out i j).kn) ∧ Aside0 (Below (W0 n A l.length c w).heap.size (W0 n A l.length c w) wz)) (fun v _ => (treeG n l).out.length - (intOf v).toNat)
        case atStart => exact ⟨0, by omega, rfl, r0, ⟨by rw [inH_zero]; exact r5.out⟩, ⟨by rw [inH_zero]; exact r6.out⟩, rb⟩
        case round =>
          clear r0 r5 r6 rb
          obtain ⟨j, hj, rfl, r0, r5, r6, rb⟩ := hrel
          by_cases hjt : j < (treeG n l).out.length
          · have hjt' : decide ((j : Int) < ((treeG n l).out.length : Int)) = true := by simpa using hjt
            obtain ⟨ao, rfl, hy⟩ := Kd.at_int (Kd.R_reads' r0.out).2.2 (j : Int) (by omega) (by omega)
            simp only [Int.toNat_natCast] at hy
            obtain ⟨hk0, hk1⟩ := HO.out j hjt
            have HS := Aside0.mk (HI.out i j hjt)
            obtain ⟨k, hk⟩ : ∃ k, k = rd (treeG n l).out j := ⟨_, rfl⟩
            rw [← hk] at hy hk0 hk1 HS
            clear hk
            have hr1 := Kd.C_below HR.out rb.out
            obtain ⟨ad, rfl, hx0, hx1, hx2, hx3⟩ := at_T64 hr1 k hk0 hk1
            clear hr1
            have HS2 := Aside0.mk (HS.out.trans (show stepH l (inH n l (treeG n l).out i j) k = _ from rfl))
            have hva := valid_at HV.out k.toNat (by omega)
            rw [Int.toNat_of_nonneg hk0] at hva
            obtain ⟨hs0, hs1, hs2, hs3⟩ := hva
            have HE := Aside0.mk (show stepH l (inH n l (treeG n l).out i j) k = if rdOf false (inH n l (treeG n l).out i j).kn (rd_T64 l k).f0 = true ∧ rdOf false (inH n l (treeG n l).out i j).kn (rd_T64 l k).f1 = false then ⟨(inH n l (treeG n l).out i j).h.set (rd_T64 l k).f1.toNat (wrap64 (rd (inH n l (treeG n l).out i j).h (rd_T64 l k).f0 + (rd_T64 l k).f2)), (inH n l (treeG n l).out i j).kn.set (rd_T64 l k).f1.toNat true⟩
              else if rdOf false (inH n l (treeG n l).out i j).kn (rd_T64 l k).f1 = true ∧ rdOf false (inH n l (treeG n l).out i j).kn (rd_T64 l k).f0 = false then ⟨(inH n l (treeG n l).out i j).h.set (rd_T64 l k).f0.toNat (wrap64 (rd (inH n l (treeG n l).out i j).h (rd_T64 l k).f1 - (rd_T64 l k).f2)), (inH n l (treeG n l).out i j).kn.set (rd_T64 l k).f0.toNat true⟩
              else inH n l (treeG n l).out i j from rfl)
            rw [HE.out] at HS
            clear HS2 HE
            obtain ⟨st, hst⟩ : ∃ st, st = inH n l (treeG n l).out i j := ⟨_, rfl⟩
            obtain ⟨s, hs⟩ : ∃ s, s = rd_T64 l k := ⟨_, rfl⟩
            have hlh : st.h.length = n ∧ st.kn.length = n := by rw [hst]; exact HL.out i j
            rw [← hst] at r5 r6 HS
            rw [← hs] at hx0 hx1 hx2 hx3 hs0 hs1 hs2 hs3 HS
            clear hst hs
            have hl5 : g5 < wr.heap.size := r5.out.lt rfl
            have hl6 : g6 < wr.heap.size := r6.out.lt rfl
            have hb0 : wr.heap[w.heap.size]? = some (.cells #[.int .i64 n, .slice (some ad) l.length c] 39 (0, 0)) := blk_below HX.out rb.out
            have hcw : wr.cell? ⟨w.heap.size, 1, none⟩ = some (.slice (some ad) l.length c) := (blk_cell hb0 1).trans rfl
            have hbl := below_alloc (Below.refl wr.heap.size wr) (.cells #[.int .i64 s.f0, .int .i64 s.f1, .int .i64 s.f2, .int .i64 s.f3] 64)
            obtain ⟨p0, p1⟩ := Kd.R_celln 0 r5.out s.f0 hs0 hs1
            obtain ⟨p2, p3⟩ := Kd.R_celln 0 r5.out s.f1 hs2 hs3
            obtain ⟨q0, q1⟩ := Kd.R_celln false r6.out s.f0 hs0 hs1
            obtain ⟨q2, q3⟩ := Kd.R_celln false r6.out s.f1 hs2 hs3
            change wr.cell? ⟨g5, s.f0.toNat, none⟩ = some (.int .i64 (rd st.h s.f0)) at p0
            change wr.cell? ⟨g5, s.f1.toNat, none⟩ = some (.int .i64 (rd st.h s.f1)) at p2
            have hn1 : g5 ≠ g6 := hne.out
            have hn2 : g6 ≠ g5 := hn1.symm
            cases ha : rdOf false st.kn s.f0 <;> cases hb : rdOf false st.kn s.f1
            · rw [ha] at q0; rw [hb] at q2
              have HN := Aside0.mk (show inH n l (treeG n l).out i (j + 1) = st by rw [HS.out, ha, hb]; simp)
              clear ha hb
              go_wp2_with (fail)
              go_roundw
              case rel => exact ⟨j + 1, by omega, by go_num, ⟨r0.out.below hbl⟩, ⟨by rw [HN.out]; exact r5.out.below hbl⟩, ⟨by rw [HN.out]; exact r6.out.below hbl⟩, ⟨below_step rb.out hbl⟩⟩
              case measure => simp [intOf]; omega
            · rw [ha] at q0; rw [hb] at q2
              have HN := Aside0.mk (show inH n l (treeG n l).out i (j + 1) = ⟨st.h.set s.f0.toNat (wrap64 (rd st.h s.f1 - s.f2)), st.kn.set s.f0.toNat true⟩ by rw [HS.out, ha, hb]; simp)
              have hA := Aside0.mk (two_a r0.out r5.out r6.out hn1 m5.out m6.out s.f0.toNat (wrap64 (rd st.h s.f1 - s.f2)) true)
              have kA := Aside0.mk (below_drew (below_alloc ((rb.out.setCell (p := ⟨g5, s.f0.toNat, none⟩) hg5.out (.int .i64 (wrap64 (rd st.h s.f1 - s.f2)))).setCell (p := ⟨g6, s.f0.toNat, none⟩) hg6.out (.bool true)) (.cells #[.int .i64 s.f0, .int .i64 s.f1, .int .i64 s.f2, .int .i64 s.f3] 64)))
              clear ha hb
              go_wp2_with (fail)
              go_region
              all_goals go_wp2_with (fail)
              · go_roundw
                case rel => exact ⟨j + 1, by omega, by go_num, ⟨Kd.R_drew (Kd.R_alloc hA.out.1 _)⟩, ⟨by rw [HN.out]; exact Kd.R_drew (Kd.R_alloc hA.out.2.1 _)⟩, ⟨by rw [HN.out]; exact Kd.R_drew (Kd.R_alloc hA.out.2.2 _)⟩, kA⟩
                case measure => simp [intOf]; omega
            · rw [ha] at q0; rw [hb] at q2
              have HN := Aside0.mk (show inH n l (treeG n l).out i (j + 1) = ⟨st.h.set s.f1.toNat (wrap64 (rd st.h s.f0 + s.f2)), st.kn.set s.f1.toNat true⟩ by rw [HS.out, ha, hb]; simp)
              have hA := Aside0.mk (two_a r0.out r5.out r6.out hn1 m5.out m6.out s.f1.toNat (wrap64 (rd st.h s.f0 + s.f2)) true)
              have kA := Aside0.mk (below_drew (below_alloc ((rb.out.setCell (p := ⟨g5, s.f1.toNat, none⟩) hg5.out (.int .i64 (wrap64 (rd st.h s.f0 + s.f2)))).setCell (p := ⟨g6, s.f1.toNat, none⟩) hg6.out (.bool true)) (.cells #[.int .i64 s.f0, .int .i64 s.f1, .int .i64 s.f2, .int .i64 s.f3] 64)))
              clear ha hb
              go_wp2_with (fail)
              go_region
              all_goals go_wp2_with (fail)
              · go_roundw
                case rel => exact ⟨j + 1, by omega, by go_num, ⟨Kd.R_drew (Kd.R_alloc hA.out.1 _)⟩, ⟨by rw [HN.out]; exact Kd.R_drew (Kd.R_alloc hA.out.2.1 _)⟩, ⟨by rw [HN.out]; exact Kd.R_drew (Kd.R_alloc hA.out.2.2 _)⟩, kA⟩
                case measure => simp [intOf]; omega
            · rw [ha] at q0; rw [hb] at q2
              have HN := Aside0.mk (show inH n l (treeG n l).out i (j + 1) = st by rw [HS.out, ha, hb]; simp)
              clear ha hb
              go_wp2_with (fail)
              go_roundw
              case rel => exact ⟨j + 1, by omega, by go_num, ⟨r0.out.below hbl⟩, ⟨by rw [HN.out]; exact r5.out.below hbl⟩, ⟨by rw [HN.out]; exact r6.out.below hbl⟩, ⟨below_step rb.out hbl⟩⟩
              case measure => simp [intOf]; omega
          · obtain rfl : j = (treeG n l).out.length := by omega
            have hjt' : decide (((treeG n l).out.length : Int) < ((treeG n l).out.length : Int)) = false := by simp
            go_wp2_with (fail)
            go_roundw
            case rel => exact ⟨i + 1, by omega, by go_num, r0, ⟨by rw [← inH_all]; exact r5.out⟩, ⟨by rw [← inH_all]; exact r6.out⟩, rb⟩
            case measure => simp [intOf]; omega
      · obtain rfl : i = (treeG n l).out.length := by omega
        have hlt' : decide (((treeG n l).out.length : Int) < ((treeG n l).out.length : Int)) = false := by simp
        go_wp2_with (fail)
        go_ret
        exact ⟨_, rfl, T.lower r5.out HB.out.size, below_weaken HB.out (by simp) rb.out⟩
end Go.Proofs.Ytkkiagoacbhhjaa.He

-- made by a patched copy of print.sh: this session's own
namespace Go.Proofs.Ytkkiagoacbhhjaa.Q
open Go.RowKit Go.Proofs.YtkkiagoacbhhjaaW.PrintWords Go.Proofs.YtkkiagoacbhhjaaW.PrintLast Go.Proofs.YtkkiagoacbhhjaaW.PrintMore
attribute [local go_sem] max2_int min2_int max_two min_two max_three min_three max_four min_four   -- for this text's walks alone
set_option linter.unusedVariables false
set_option linter.unusedSimpArgs false

/-! ### impl_Survey_treeHeights: function 55 -/
def impl_Survey_treeHeights.f (a0_0 : Int) (l0_1 : List (S64)) : Option (List Int) :=
  if Hb.surveyB a0_0 l0_1 = true then some (He.hgt a0_0.toNat l0_1) else none
theorem impl_Survey_treeHeights.calls (a0_0 : Int) (A0_1 : Option Addr) (c0_1 : Nat) (l0_1 : List (S64)) (r : List Int) (w : World) (hr0_1 : Kd.C k64 w A0_1 l0_1.length l0_1) (hc0_1 : l0_1.length ≤ c0_1) (h : impl_Survey_treeHeights.f a0_0 l0_1 = some r) :
    Calls Try.prog 55 #[.agg #[.int .i64 a0_0, .slice A0_1 l0_1.length c0_1]] w fun e w' => ∃ v0_ : Value, e = .returned (v0_) ∧ Kd.R (Kd.int .i64) 2 w' w.heap.size (fun _ => True) v0_ r ∧ Below w.heap.size w w' := by
  unfold impl_Survey_treeHeights.f at h
  by_cases hv : Hb.surveyB a0_0 l0_1 = true
  · rw [if_pos hv] at h
    obtain rfl := Option.some.inj h
    obtain ⟨n, rfl⟩ : ∃ n : Nat, a0_0 = (n : Int) := ⟨a0_0.toNat, by have := Hd.valid_pts hv; omega⟩
    exact (He.heights_any n l0_1 hv A0_1 c0_1 w hr0_1 hc0_1).mono (fun e w' ⟨v, he, ht, hb⟩ => ⟨v, he, ht, hb⟩)
  · rw [if_neg hv] at h; cases h

end Go.Proofs.Ytkkiagoacbhhjaa.Q

/- The program's heights and the reference's are the same in a connected survey. -/
namespace Go.Proofs.Ytkkiagoacbhhjaa.PuH
open Go.RowKit Go.Proofs.YtkkiagoacbhhjaaW.PrintWords Go.Proofs.Ytkkiagoacbhhjaa.Q Go.Proofs.Ytkkiagoacbhhjaa.PuS Go.Proofs.Ytkkiagoacbhhjaa.PuT Go.Proofs.Ytkkiagoacbhhjaa.Hb Go.Proofs.Ytkkiagoacbhhjaa.Hc Go.Proofs.Ytkkiagoacbhhjaa.Hd Go.Proofs.Ytkkiagoacbhhjaa.He

theorem rd_newHts (part hts : List Int) (a b lf : Int) (x : Nat) (h1 : x < part.length) (h2 : x < hts.length) : rd (newHts part hts a b lf) x = if rd part x = mxI a b then wrap64 (rd hts x + lf) else rd hts x := by
  have h3 : x < (newHts part hts a b lf).length := by simp [newHts]; omega
  rw [rd_nat _ _ h3, rd_nat _ _ h1, rd_nat _ _ h2]; simp [newHts]

/-- the heights ahead of a sight: those of the chosen sights agree; a part's least point has 0; what the chosen sights close holds whole parts. -/
structure HI (n : Nat) (l : List S64) (st : St) : Prop where
  ll : st.hts.length = n
  ch : ∀ j ∈ st.out, ∃ u v : Nat, u < n ∧ v < n ∧ (rd_T64 l j).f0 = u ∧ (rd_T64 l j).f1 = v ∧ rd st.part u = rd st.part v ∧ wrap64 (rd st.hts u + (rd_T64 l j).f2) = rd st.hts v
  rp : ∀ x : Nat, x < n → rd st.part x = x → rd st.hts x = 0
  wr : ∀ x : Nat, x < n → wrap64 (rd st.hts x) = rd st.hts x
  cl : ∀ K : Nat → Prop, (∀ j ∈ st.out, (K (rd_T64 l j).f0.toNat ↔ K (rd_T64 l j).f1.toNat)) → ∀ x y : Nat, x < n → y < n → rd st.part x = rd st.part y → (K x ↔ K y)

theorem hi_start (n : Nat) (l : List S64) : HI n l (Hd.start n) where
  ll := by simp [Hd.start]
  ch := fun j hj => by simp [Hd.start] at hj
  rp := fun x hx _ => by simp only [Hd.start, Int.toNat_natCast]; rw [rd_nat _ _ (by simpa using hx)]; simp
  wr := fun x hx => by simp only [Hd.start, Int.toNat_natCast]; rw [rd_nat _ _ (by simpa using hx)]; simp [wrap64]
  cl := fun K _ x y hx hy h => by
    simp only [Hd.start, Int.toNat_natCast] at h
    rw [rd_range n x hx, rd_range n y hy] at h
    obtain rfl : x = y := by omega
    exact Iff.rfl

theorem hi_step {n : Nat} {l : List S64} {st : St} {sg : Sg} (hi : HI n l st) (h : Inv n st.out st.part sg.grp) (i : Nat) (_ : i < l.length) (h0 : 0 ≤ (rd_T64 l i).f0) (h1 : (rd_T64 l i).f0 < n) (h2 : 0 ≤ (rd_T64 l i).f1) (h3 : (rd_T64 l i).f1 < n) :
    HI n l (Hd.step st (rd_T64 l i, i)) := by
  obtain ⟨s, hs⟩ : ∃ s, s = rd_T64 l i := ⟨_, rfl⟩
  rw [← hs] at h0 h1 h2 h3 ⊢
  obtain ⟨u, hu⟩ : ∃ u : Nat, s.f0 = (u : Int) := ⟨s.f0.toNat, by omega⟩
  obtain ⟨v, hv⟩ : ∃ v : Nat, s.f1 = (v : Int) := ⟨s.f1.toNat, by omega⟩
  rw [hu] at h1; rw [hv] at h3
  have hun : u < n := by omega
  have hvn : v < n := by omega
  clear h0 h1 h2 h3
  unfold Hd.step
  simp only [hu, hv]
  by_cases hab : rd st.part u = rd st.part v
  · rw [if_pos hab]; exact hi
  · rw [if_neg hab]
    have hmm : (mnI (rd st.part u) (rd st.part v) = rd st.part u ∧ mxI (rd st.part u) (rd st.part v) = rd st.part v) ∨ (mnI (rd st.part u) (rd st.part v) = rd st.part v ∧ mxI (rd st.part u) (rd st.part v) = rd st.part u) := by
      unfold mnI mxI; split <;> split <;> omega
    have hlt : mnI (rd st.part u) (rd st.part v) < mxI (rd st.part u) (rd st.part v) := by unfold mnI mxI; split <;> split <;> omega
    have hP : ∀ y : Nat, y < n → rd (newPart st.part (rd st.part u) (rd st.part v)) y = if rd st.part y = mxI (rd st.part u) (rd st.part v) then mnI (rd st.part u) (rd st.part v) else rd st.part y := fun y hy => rd_map _ _ _ (by rw [h.lp]; exact hy)
    have rmn : rd st.part (mnI (rd st.part u) (rd st.part v)) = mnI (rd st.part u) (rd st.part v) := by
      rcases hmm with ⟨e, _⟩ | ⟨e, _⟩ <;> rw [e]
      · exact h.rep u hun
      · exact h.rep v hvn
    obtain ⟨lf, hlf⟩ : ∃ lf, lf = liftOf st s := ⟨_, rfl⟩
    have hH : ∀ y : Nat, y < n → rd (newHts st.part st.hts (rd st.part u) (rd st.part v) lf) y = if rd st.part y = mxI (rd st.part u) (rd st.part v) then wrap64 (rd st.hts y + lf) else rd st.hts y := fun y hy => rd_newHts _ _ _ _ _ _ (by rw [h.lp]; exact hy) (by rw [hi.ll]; exact hy)
    have hnew : wrap64 (rd (newHts st.part st.hts (rd st.part u) (rd st.part v) lf) u + s.f2) = rd (newHts st.part st.hts (rd st.part u) (rd st.part v) lf) v := by
      rw [hH u hun, hH v hvn]
      have w1 := hi.wr u hun
      have w2 := hi.wr v hvn
      unfold liftOf at hlf
      simp only [hu, hv] at hlf
      generalize rd st.hts u = x at *
      generalize rd st.hts v = y at *
      generalize rd st.part u = a at *
      generalize rd st.part v = b at *
      unfold mxI
      by_cases hba : b < a
      · rw [if_pos hba] at hlf ⊢
        rw [if_pos rfl, if_neg (fun e => hab e.symm), hlf]
        unfold wrap64 at *
        omega
      · rw [if_neg hba] at hlf ⊢
        rw [if_neg hab, if_pos rfl, hlf]
        unfold wrap64 at *
        omega
    have hold : ∀ y z : Nat, y < n → z < n → rd st.part y = rd st.part z → ∀ r : Int, wrap64 (rd st.hts y + r) = rd st.hts z → wrap64 (rd (newHts st.part st.hts (rd st.part u) (rd st.part v) lf) y + r) = rd (newHts st.part st.hts (rd st.part u) (rd st.part v) lf) z := by
      intro y z hy hz hyz r hr
      rw [hH y hy, hH z hz, ← hyz]
      split
      · generalize rd st.hts y = p at *
        generalize rd st.hts z = q at *
        clear hnew hlf
        unfold wrap64 at *
        omega
      · exact hr
    rw [← hlf]
    refine ⟨by rw [newHts_len _ _ _ _ _ (by rw [h.lp, hi.ll])]; exact hi.ll, ?_, ?_, ?_, ?_⟩
    · intro j hj
      simp only [List.mem_append, List.mem_singleton] at hj
      rcases hj with hj | rfl
      · obtain ⟨y, z, hy, hz, e0, e1, e2, e3⟩ := hi.ch j hj
        exact ⟨y, z, hy, hz, e0, e1, by rw [hP y hy, hP z hz, e2], hold y z hy hz e2 _ e3⟩
      · refine ⟨u, v, hun, hvn, by rw [← hs]; exact hu, by rw [← hs]; exact hv, ?_, by rw [← hs]; exact hnew⟩
        rw [hP u hun, hP v hvn]
        rcases hmm with ⟨e1, e2⟩ | ⟨e1, e2⟩
        · rw [e1, e2, if_neg hab, if_pos rfl]
        · rw [e1, e2, if_pos rfl, if_neg (fun e => hab e.symm)]
    · intro x hx hpx
      rw [hP x hx] at hpx
      rw [hH x hx]
      by_cases e : rd st.part x = mxI (rd st.part u) (rd st.part v)
      · rw [if_pos e] at hpx
        rw [hpx] at rmn
        omega
      · rw [if_neg e] at hpx ⊢
        exact hi.rp x hx hpx
    · intro x hx
      rw [hH x hx]
      split
      · unfold wrap64; omega
      · exact hi.wr x hx
    · intro K hK x y hx hy hxy
      have hK1 : ∀ j ∈ st.out, (K (rd_T64 l j).f0.toNat ↔ K (rd_T64 l j).f1.toNat) := fun j hj => hK j (by simp [hj])
      have hK2 : K u ↔ K v := by
        have := hK i (by simp)
        rw [← hs, hu, hv] at this
        simpa using this
      have hc := hi.cl K hK1
      simp only [] at hxy
      rw [hP x hx, hP y hy, merge_eq hab hmm] at hxy
      rcases hxy with e | ⟨e1, e2⟩
      · exact hc x y hx hy e
      · rcases e1 with e1 | e1 <;> rcases e2 with e2 | e2
        · exact hc x y hx hy (e1.trans e2.symm)
        · exact (hc x u hx hun e1).trans (hK2.trans (hc y v hy hvn e2).symm)
        · exact (hc x v hx hvn e1).trans (hK2.symm.trans (hc y u hy hun e2).symm)
        · exact hc x y hx hy (e1.trans e2.symm)

theorem hi_at {n : Nat} {l : List S64} (hv : surveyB n l = true) : ∀ k, k ≤ l.length → HI n l (at_ n l k) := by
  intro k
  induction k with
  | zero => intro _; rw [at_zero]; exact hi_start n l
  | succ k ih =>
    intro hk
    obtain ⟨a, b, c, d⟩ := valid_at hv k (by omega)
    rw [at_succ n l k (by omega)]
    exact hi_step (ih (by omega)) (inv_at hv k (by omega)).1 k (by omega) a b c d

/-! the program's rounds. -/
theorem rdB_nat (l : List Bool) (k : Nat) (h : k < l.length) : rdOf false l k = l[k] := by simp [rdOf, List.getD_eq_getElem?_getD, h]
theorem rdB_set (l : List Bool) (i k : Nat) (b : Bool) (h : k < l.length) : rdOf false (l.set i b) k = if i = k then b else rdOf false l k := by
  rw [rdB_nat _ _ (by simpa using h), rdB_nat _ _ h, List.getElem_set]
theorem rd_set (l : List Int) (i k : Nat) (x : Int) (h : k < l.length) : rd (l.set i x) k = if i = k then x else rd l k := by
  rw [rd_nat _ _ (by simpa using h), rd_nat _ _ h, List.getElem_set]

/-- a sight's ends are points of the survey. -/
def InP (n : Nat) (l : List S64) (j : Int) : Prop := ∃ u v : Nat, u < n ∧ v < n ∧ (rd_T64 l j).f0 = u ∧ (rd_T64 l j).f1 = v
structure KI (n : Nat) (H : Nat → Int) (st : Sh) : Prop where
  lh : st.h.length = n
  lk : st.kn.length = n
  ok : ∀ x : Nat, x < n → rdOf false st.kn x = true → rd st.h x = H x

theorem step_cases {n : Nat} {l : List S64} {j : Int} {st : Sh} (hl : st.kn.length = n) (hp : InP n l j) :
    (stepH l st j = st ∧ rdOf false st.kn (rd_T64 l j).f0 = rdOf false st.kn (rd_T64 l j).f1) ∨ (stepH l st j).kn.count true = st.kn.count true + 1 := by
  obtain ⟨u, v, hu, hv, e0, e1⟩ := hp
  unfold stepH
  rw [e0, e1]
  cases ha : rdOf false st.kn u <;> cases hb : rdOf false st.kn v
  · exact .inl ⟨by simp, rfl⟩
  · refine .inr ?_
    simp only [Bool.false_eq_true, false_and, if_false, and_self, if_true, Int.toNat_natCast]
    rw [rdB_nat _ _ (by omega)] at ha
    rw [List.count_set (by omega), ha]; simp
  · refine .inr ?_
    simp only [and_self, if_true, Int.toNat_natCast]
    rw [rdB_nat _ _ (by omega)] at hb
    rw [List.count_set (by omega), hb]; simp
  · exact .inl ⟨by simp, rfl⟩

theorem step_ki {n : Nat} {l : List S64} {j : Int} {st : Sh} {H : Nat → Int} (h : KI n H st) (hp : InP n l j) (hH : ∀ u v : Nat, (rd_T64 l j).f0 = u → (rd_T64 l j).f1 = v → wrap64 (H u + (rd_T64 l j).f2) = H v ∧ wrap64 (H u) = H u) : KI n H (stepH l st j) := by
  obtain ⟨u, v, hu, hv, e0, e1⟩ := hp
  obtain ⟨h1, h2⟩ := hH u v e0 e1
  refine ⟨by rw [(stepH_len l st j).1]; exact h.lh, by rw [(stepH_len l st j).2]; exact h.lk, ?_⟩
  unfold stepH
  rw [e0, e1]
  cases ha : rdOf false st.kn u <;> cases hb : rdOf false st.kn v
  · simpa using h.ok
  · simp only [Bool.false_eq_true, false_and, if_false, and_self, if_true, Int.toNat_natCast]
    intro x hx hk
    rw [rdB_set _ _ _ _ (by rw [h.lk]; exact hx)] at hk
    rw [rd_set _ _ _ _ (by rw [h.lh]; exact hx)]
    by_cases e : u = x
    · subst e
      rw [if_pos rfl, h.ok v hv hb]
      generalize H u = p at *
      generalize H v = q at *
      unfold wrap64 at *
      omega
    · rw [if_neg e] at hk ⊢
      exact h.ok x hx hk
  · simp only [and_self, if_true, Int.toNat_natCast]
    intro x hx hk
    rw [rdB_set _ _ _ _ (by rw [h.lk]; exact hx)] at hk
    rw [rd_set _ _ _ _ (by rw [h.lh]; exact hx)]
    by_cases e : v = x
    · subst e
      rw [if_pos rfl, h.ok u hu ha]
      exact h1
    · rw [if_neg e] at hk ⊢
      exact h.ok x hx hk
  · simpa using h.ok

theorem fold_cases {n : Nat} {l : List S64} : ∀ (o : List Int) (st : Sh), st.kn.length = n → (∀ j ∈ o, InP n l j) →
    (o.foldl (stepH l) st = st ∧ ∀ j ∈ o, rdOf false st.kn (rd_T64 l j).f0 = rdOf false st.kn (rd_T64 l j).f1) ∨ st.kn.count true + 1 ≤ (o.foldl (stepH l) st).kn.count true := by
  intro o
  induction o with
  | nil => intro st _ _; exact .inl ⟨rfl, fun j hj => by cases hj⟩
  | cons x xs ih =>
    intro st hl hp
    simp only [List.foldl_cons]
    have hx := step_cases hl (hp x (by simp))
    have hr := ih (stepH l st x) (by rw [(stepH_len l st x).2]; exact hl) (fun j hj => hp j (by simp [hj]))
    rcases hx with ⟨e1, e2⟩ | e1
    · rw [e1] at hr ⊢
      rcases hr with ⟨e3, e4⟩ | e3
      · refine .inl ⟨e3, ?_⟩
        intro j hj
        rcases List.mem_cons.1 hj with rfl | hj
        · exact e2
        · exact e4 j hj
      · exact .inr e3
    · rcases hr with ⟨e3, _⟩ | e3
      · rw [e3]; exact .inr (by omega)
      · exact .inr (by omega)

theorem fold_ki {n : Nat} {l : List S64} {H : Nat → Int} : ∀ (o : List Int) (st : Sh), KI n H st → (∀ j ∈ o, InP n l j) → (∀ j ∈ o, ∀ u v : Nat, (rd_T64 l j).f0 = u → (rd_T64 l j).f1 = v → wrap64 (H u + (rd_T64 l j).f2) = H v ∧ wrap64 (H u) = H u) → KI n H (o.foldl (stepH l) st) := by
  intro o
  induction o with
  | nil => intro st h _ _; exact h
  | cons x xs ih =>
    intro st h hp hH
    simp only [List.foldl_cons]
    exact ih _ (step_ki h (hp x (by simp)) (hH x (by simp))) (fun j hj => hp j (by simp [hj])) (fun j hj => hH j (by simp [hj]))

theorem hgt_eq {n : Nat} {l : List S64} (hv : surveyB n l = true) (hc : (treeS n l).part.all (· == 0) = true) : hgt n l = (treeS n l).hts := by
  have hn := valid_pts hv
  have hi := hi_at hv l.length (Nat.le_refl _)
  have hinv := (inv_at hv l.length (Nat.le_refl _)).1
  rw [at_all] at hi hinv
  have ho := out_eq hv
  have hlen := (conn_eq hv).1 hc
  have hz : ∀ x : Nat, x < n → rd (treeS n l).part x = 0 := by
    intro x hx
    rw [List.all_eq_true] at hc
    have hx' : x < (treeS n l).part.length := by rw [hinv.lp]; exact hx
    have := hc (rd (treeS n l).part x) (by rw [rd_nat _ _ hx']; exact List.getElem_mem _)
    simpa using this
  have hP : ∀ j ∈ (treeG n l).out, InP n l j := by
    intro j hj
    rw [← ho] at hj
    obtain ⟨u, v, h1, h2, h3, h4, _⟩ := hi.ch j hj
    exact ⟨u, v, h1, h2, h3, h4⟩
  have hH : ∀ j ∈ (treeG n l).out, ∀ u v : Nat, (rd_T64 l j).f0 = u → (rd_T64 l j).f1 = v → wrap64 ((fun x : Nat => rd (treeS n l).hts x) u + (rd_T64 l j).f2) = (fun x : Nat => rd (treeS n l).hts x) v ∧ wrap64 ((fun x : Nat => rd (treeS n l).hts x) u) = (fun x : Nat => rd (treeS n l).hts x) u := by
    intro j hj u v hu hv'
    rw [← ho] at hj
    obtain ⟨u', v', h1, h2, h3, h4, _, h6⟩ := hi.ch j hj
    obtain rfl : u' = u := by rw [h3] at hu; omega
    obtain rfl : v' = v := by rw [h4] at hv'; omega
    exact ⟨h6, hi.wr u' h1⟩
  have hall : ∀ i : Nat, KI n (fun x : Nat => rd (treeS n l).hts x) (itH n l (treeG n l).out i) ∧ rdOf false (itH n l (treeG n l).out i).kn (0 : Nat) = true ∧ (i + 1 ≤ (itH n l (treeG n l).out i).kn.count true ∨ (itH n l (treeG n l).out i).kn.count true = n) := by
    intro i
    induction i with
    | zero =>
      simp only [itH, startH]
      have hk0 : rdOf false ((List.replicate n false).set 0 true) (0 : Nat) = true := by rw [rdB_set _ _ _ _ (by simp; omega)]; simp
      refine ⟨⟨by simp, by simp, ?_⟩, hk0, ?_⟩
      · intro x hx hk
        rw [rdB_set _ _ _ _ (by simpa using hx)] at hk
        by_cases e : 0 = x
        · subst e
          have h0 := hi.rp 0 (by omega) (by rw [hz 0 (by omega)]; rfl)
          rw [h0, rd_nat _ _ (by simp; omega)]; simp
        · rw [if_neg e, rdB_nat _ _ (by simpa using hx)] at hk
          simp at hk
      · left
        rw [List.count_set (by simp; omega)]; simp
    | succ i ih =>
      obtain ⟨h1, h2, h3⟩ := ih
      simp only [itH]
      have hki := fold_ki (treeG n l).out _ h1 hP hH
      have hle := List.count_le_length (a := true) (l := ((treeG n l).out.foldl (stepH l) (itH n l (treeG n l).out i)).kn)
      rw [hki.lk] at hle
      rcases fold_cases (treeG n l).out _ h1.lk hP with ⟨e1, e2⟩ | e1
      · rw [e1]
        refine ⟨h1, h2, .inr ?_⟩
        have hcl := hi.cl (fun x => rdOf false (itH n l (treeG n l).out i).kn x = true) (by
          intro j hj
          rw [ho] at hj
          obtain ⟨u, v, hu, hv', q0, q1⟩ := hP j hj
          have := e2 j hj
          rw [q0, q1] at this ⊢
          simp only [Int.toNat_natCast]
          rw [this])
        have hk : ∀ x : Nat, x < n → rdOf false (itH n l (treeG n l).out i).kn x = true := fun x hx => (hcl 0 x (by omega) hx (by rw [hz x hx]; exact hz 0 (by omega))).1 h2
        refine (List.count_eq_length.2 ?_).trans h1.lk
        intro b hb
        obtain ⟨x, hx, rfl⟩ := List.getElem_of_mem hb
        have := hk x (Nat.lt_of_lt_of_eq hx h1.lk)
        rw [rdB_nat _ _ hx] at this
        exact this.symm
      · refine ⟨hki, ?_, ?_⟩
        · have hmono : ∀ (o : List Int) (st : Sh), st.kn.length = n → (∀ j ∈ o, InP n l j) → rdOf false st.kn (0 : Nat) = true → rdOf false (o.foldl (stepH l) st).kn (0 : Nat) = true := by
            intro o
            induction o with
            | nil => intro st _ _ h; exact h
            | cons x xs ih =>
              intro st hl hp h
              simp only [List.foldl_cons]
              refine ih _ (by rw [(stepH_len l st x).2]; exact hl) (fun j hj => hp j (by simp [hj])) ?_
              unfold stepH
              split
              · simp only []; rw [rdB_set _ _ _ _ (by omega)]; split; (first | rfl | exact h); exact h
              · split
                · simp only []; rw [rdB_set _ _ _ _ (by omega)]; split; (first | rfl | exact h); exact h
                · exact h
          exact hmono _ _ h1.lk hP h2
        · rcases h3 with h3 | h3
          · left; omega
          · right; omega
  obtain ⟨h1, h2, h3⟩ := hall (treeG n l).out.length
  have hcnt : (itH n l (treeG n l).out (treeG n l).out.length).kn.count true = n := by
    have hle := List.count_le_length (a := true) (l := (itH n l (treeG n l).out (treeG n l).out.length).kn)
    rw [h1.lk] at hle
    omega
  unfold hgt
  apply List.ext_getElem
  · rw [h1.lh, hi.ll]
  · intro x hx1 hx2
    have hxn : x < n := Nat.lt_of_lt_of_eq hx1 h1.lh
    have hkx : rdOf false (itH n l (treeG n l).out (treeG n l).out.length).kn x = true := by
      have hcnt := hcnt.trans h1.lk.symm
      rw [List.count_eq_length] at hcnt
      rw [rdB_nat _ _ (by rw [h1.lk]; exact hxn)]
      exact (hcnt _ (List.getElem_mem _)).symm
    have := h1.ok x hxn hkx
    rw [rd_nat _ _ hx1, rd_nat _ _ hx2] at this
    exact this

theorem treeS_len {n : Nat} {l : List S64} : (treeS n l).hts.length = n := by
  have := (at_len n l l.length).2
  rw [at_all] at this; simpa using this
theorem implHgt {n : Nat} {l : List S64} (hv : surveyB n l = true) (hc : (treeS n l).part.all (· == 0) = true) : impl_Survey_treeHeights.f n l = some (treeS n l).hts := by
  unfold impl_Survey_treeHeights.f
  rw [if_pos hv]; simp [hgt_eq hv hc]
end Go.Proofs.Ytkkiagoacbhhjaa.PuH

