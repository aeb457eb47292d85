/- Parts of the proof that the law of this seat holds: Ytn, Q48, Q43, Q49, Q75, Q76, Q77, Q78, Q32, Q62, PuTO, Yq, Lx, Lz, PuTN, Yr, PuRM, Yc, Ye, RMi, RMs, RM, LRM. -/
import Derived.Test.YtibaiaenfeppcaaGRMpb
import Derived.Test.YtibaiaenfeppcaaGRMpa
set_option linter.unusedVariables false
set_option linter.unusedSimpArgs false
/- The program's (Yard).taken. -/
namespace Go.Proofs.Ytibaiaenfeppcaa.Ytn
open Go Go.RowKit Go.Proofs.Ytibaiaenfeppcaa.Ymv Go.Proofs.YtibaiaenfeppcaaW.PrintWords Go.Proofs.YtibaiaenfeppcaaW.PrintLast Go.Proofs.YtibaiaenfeppcaaW.PrintMore Go.Proofs.Ytibaiaenfeppcaa.Q Go.Proofs.Ytibaiaenfeppcaa.PuY Go.Proofs.Ytibaiaenfeppcaa.Lw Go.Proofs.Ytibaiaenfeppcaa.Ow Go.Proofs.Ytibaiaenfeppcaa.Yo Go.Proofs.Ytibaiaenfeppcaa.Yn Go.Proofs.Ytibaiaenfeppcaa.Yt
set_option linter.unusedVariables false
set_option linter.unusedSimpArgs false
set_option maxRecDepth 100000 in
set_option maxHeartbeats 1000000 in
theorem no (h : Int) (xs : List (List Int)) (hx4 : xs.length ≤ 4) (h4 : h ≤ 4) (hr4 : ∀ r ∈ xs, r.length ≤ 4) (k : Nat) (r : Int) (hho : impl_Yard_holder.f k h xs = some (r, false)) (A : Option Addr) (c : Nat) (w : World) (hC : Kd.C dR w A xs.length xs) (hcl : xs.length ≤ c) :
    Calls Try.prog 51 #[.agg #[.int .i64 h, .slice A xs.length c]] w fun e w' => e = .returned (.tuple #[.agg #[.int .i64 0, .slice none 0 0], .bool false]) ∧ Below w.heap.size w w' := by
  obtain ⟨n, hn⟩ : ∃ n, n = xs.length := ⟨_, rfl⟩
  have hu := Try.underlying27
  have HN := Aside0.mk hn
  have HC := Aside0.mk hC
  have HR4 := Aside0.mk hr4
  have HCL := Aside0.mk hcl
  have HHO := Aside0.mk hho
  have HCLN := Aside0.mk (cloned_eq h xs hx4 hr4)
  have hn4 : n ≤ 4 := by omega
  rw [← hn]
  clear hn hC hr4 hcl hho hx4
  go_enter Try.func51, Try.ntmps51
  go_wp2_with (fail)
  have hcc := impl_Yard_holder.calls k h A c xs r false ((w.alloc (.cells #[.int .i64 h, .slice A n c] 27)).alloc (.cells #[.int .i64 0, .slice none 0 0] 27)) (Kd.C_below HC.out (below_alloc (below_alloc (Below.refl w.heap.size w) (.cells #[.int .i64 h, .slice A n c] 27)) (.cells #[.int .i64 0, .slice none 0 0] 27))) HCL.out HHO.out
  rw [← HN.out] at hcc
  refine hcc.mono ?_
  clear hcc
  rintro e w0 ⟨rfl, hb⟩
  have HB0 := Aside0.mk (below_step (below_alloc (below_alloc (Below.refl w.heap.size w) (.cells #[.int .i64 h, .slice A n c] 27)) (.cells #[.int .i64 0, .slice none 0 0] 27)) hb)
  have HK0 := Aside0.mk (blk_below (show ((w.alloc (.cells #[.int .i64 h, .slice A n c] 27)).alloc (.cells #[.int .i64 0, .slice none 0 0] 27)).heap[w.heap.size + 1]? = some (.cells #[.int .i64 0, .slice none 0 0] 27 (0, 0)) from blk_new' w _ _) hb)
  have HP0 := Aside0.mk (blk_below (show ((w.alloc (.cells #[.int .i64 h, .slice A n c] 27)).alloc (.cells #[.int .i64 0, .slice none 0 0] 27)).heap[w.heap.size]? = some (.cells #[.int .i64 h, .slice A n c] 27 (0, 0)) from blk_alloc (blk_new w _) _) hb)
  clear hb
  have g0 : w0.cell? ⟨w.heap.size + 1, 0, none⟩ = some (.int .i64 0) := (blk_cell HK0.out 0).trans rfl
  have g1 : w0.cell? ⟨w.heap.size + 1, 1, none⟩ = some (.slice none 0 0) := (blk_cell HK0.out 1).trans rfl
  have g2 := blk_frozen HK0.out 0
  have g3 := blk_frozen HK0.out 1
  go_wp2_with (fail)
  have b7 := blk_put (blk_put HK0.out 0 (.int .i64 0) rfl) 1 (.slice none 0 0) rfl
  refine bodyPost_ret (results_ct rfl _ _ (w.heap.size + 1) 27 #[.int .i64 0, .slice none 0 0] (0, 0) _ rfl b7 Try.underlying27 rfl (by kernel_rfl)) rfl ?_
  exact ⟨rfl, (HB0.out.setCell (p := ⟨w.heap.size + 1, 0, none⟩) (Nat.le_succ _) _).setCell (p := ⟨w.heap.size + 1, 1, none⟩) (Nat.le_succ _) _⟩
set_option maxRecDepth 100000 in
set_option maxHeartbeats 1000000 in
theorem yes (h : Int) (xs : List (List Int)) (hx4 : xs.length ≤ 4) (h4 : h ≤ 4) (hr4 : ∀ r ∈ xs, r.length ≤ 4) (k : Nat) (i : Nat) (hi : i < xs.length) (h1 : 0 < xs[i].length) (hho : impl_Yard_holder.f k h xs = some ((i : Int), true)) (A : Option Addr) (c : Nat) (w : World) (hC : Kd.C dR w A xs.length xs) (hcl : xs.length ≤ c) :
    Calls Try.prog 51 #[.agg #[.int .i64 h, .slice A xs.length c]] w fun e w' => ∃ v, e = .returned (.tuple #[.agg #[.int .i64 h, v], .bool true]) ∧ Kd.S dW 31 w' w.heap.size (fun _ => True) v (xs.set i ((xs.getD i []).take ((xs.getD i []).length - 1))) ∧ Below w.heap.size w w' := by
  obtain ⟨n, hn⟩ : ∃ n, n = xs.length := ⟨_, rfl⟩
  have hu := Try.underlying27
  have HN := Aside0.mk hn
  have HC := Aside0.mk hC
  have HR4 := Aside0.mk hr4
  have HCL := Aside0.mk hcl
  have HHO := Aside0.mk hho
  have HCLN := Aside0.mk (cloned_eq h xs hx4 hr4)
  have hn4 : n ≤ 4 := by omega
  obtain ⟨rI, hrI⟩ : ∃ r, r = xs[i] := ⟨_, rfl⟩
  rw [← hrI] at h1
  have hrI4 : rI.length ≤ 4 := hr4 rI (by rw [hrI]; exact List.getElem_mem hi)
  have HRI := Aside0.mk hrI
  have hcn : n ≤ c := by omega
  have hi' : i < n := by omega
  obtain ⟨q, hq⟩ : ∃ q, wrap64 ((rI.length : Int) - 1) = q := ⟨_, rfl⟩
  have hqv : q = (rI.length : Int) - 1 := by rw [← hq]; unfold wrap64; omega
  have hqw : IntKind.i64.wrap ((rI.length : Int) - 1) = q := by rw [i64_w]; exact hq
  have pq : (0 ≤ q) = True := eq_true (by omega)
  have qq : (q < (rI.length : Int)) = True := eq_true (by omega)
  have HQ := Aside0.mk hqv
  have pi : (0 ≤ (i : Int)) = True := eq_true (by omega)
  have qi : ((i : Int) < (n : Int)) = True := eq_true (by omega)
  rw [← hn]
  clear hn hC hr4 hcl hho hrI hq hqv
  go_enter Try.func51, Try.ntmps51
  go_wp2_with (fail)
  have hcc := impl_Yard_holder.calls k h A c xs (i : Int) true ((w.alloc (.cells #[.int .i64 h, .slice A n c] 27)).alloc (.cells #[.int .i64 0, .slice none 0 0] 27)) (Kd.C_below HC.out (below_alloc (below_alloc (Below.refl w.heap.size w) (.cells #[.int .i64 h, .slice A n c] 27)) (.cells #[.int .i64 0, .slice none 0 0] 27))) HCL.out HHO.out
  rw [← HN.out] at hcc
  refine hcc.mono ?_
  clear hcc
  rintro e w0 ⟨rfl, hb⟩
  have HB0 := Aside0.mk (below_step (below_alloc (below_alloc (Below.refl w.heap.size w) (.cells #[.int .i64 h, .slice A n c] 27)) (.cells #[.int .i64 0, .slice none 0 0] 27)) hb)
  have HK0 := Aside0.mk (blk_below (show ((w.alloc (.cells #[.int .i64 h, .slice A n c] 27)).alloc (.cells #[.int .i64 0, .slice none 0 0] 27)).heap[w.heap.size + 1]? = some (.cells #[.int .i64 0, .slice none 0 0] 27 (0, 0)) from blk_new' w _ _) hb)
  have HP0 := Aside0.mk (blk_below (show ((w.alloc (.cells #[.int .i64 h, .slice A n c] 27)).alloc (.cells #[.int .i64 0, .slice none 0 0] 27)).heap[w.heap.size]? = some (.cells #[.int .i64 h, .slice A n c] 27 (0, 0)) from blk_alloc (blk_new w _) _) hb)
  clear hb
  have x0 : w0.cell? ⟨w.heap.size, 0, none⟩ = some (.int .i64 h) := (blk_cell HP0.out 0).trans rfl
  have x1 : w0.cell? ⟨w.heap.size, 1, none⟩ = some (.slice A n c) := (blk_cell HP0.out 1).trans rfl
  go_wp2_with (fail)
  have hcc := impl_Yard_cloned.calls 1000 h A c xs h xs w0 (Kd.C_below HC.out HB0.out) HCL.out HCLN.out
  rw [← HN.out] at hcc
  refine hcc.mono ?_
  clear hcc
  rintro e w1 ⟨v, rfl, hS0, hb1⟩
  have HBL := Aside0.mk (below_step HB0.out hb1)
  have HB6 := Aside0.mk (blk_below HK0.out hb1)
  have HLO := Aside0.mk (show w.heap.size + 1 < w1.heap.size from blk_lt HB6.out)
  have hS1 : Kd.S dR 31 w1 (w.heap.size + 2) (fun k => k ≠ w1.heap.size) v xs := Kd.S_mono (Kd.S_elderB (Kd.S_lower hS0 (by have := blk_lt HK0.out; omega)) w1.heap.size (Nat.le_refl _)) (fun k hk => hk.2)
  obtain ⟨Av, cv, hv⟩ := Kd.S_slice hS1
  rw [← HN.out] at hv
  subst hv
  have hS3 := Kd.S_alloc hS1 (.cells #[.int .i64 h, .slice Av n cv] 27)
  have hb3 : (w1.alloc (.cells #[.int .i64 h, .slice Av n cv] 27)).heap[w1.heap.size]? = some (.cells #[.int .i64 h, .slice Av n cv] 27 (0, 0)) := blk_new w1 _
  have HB6W := Aside0.mk (blk_alloc HB6.out (.cells #[.int .i64 h, .slice Av n cv] 27))
  have HBLW := Aside0.mk (below_alloc HBL.out (.cells #[.int .i64 h, .slice Av n cv] 27))
  have HB3 := Aside0.mk (Below.refl (w.heap.size + 2) (w1.alloc (.cells #[.int .i64 h, .slice Av n cv] 27)))
  have HB63 := HB6W
  clear hS0 hb1 hS1 x0 x1
  have hn' := HN.out
  have q0 := of_eq_true pq
  have q1 := of_eq_true qq
  have hl3 : xs.length = n := HN.out.symm
  have hlo3 := trivial
  obtain ⟨gs3, rfl⟩ : ∃ gs3, Av = some ⟨gs3, 0, none⟩ := by
    obtain ⟨gs3, cap, he, _⟩ := Kd.S_form hS3 (by omega)
    rw [hl3] at he
    injection he with he _ _
    exact ⟨gs3, he⟩
  obtain ⟨okK, cK, hMK, hclK, hcK, hokK, hbackK⟩ := row_out (d := dW) rfl (sW_of_sR hS3) i hi' (by omega) (fun k hk => by have := blk_lt hb3; omega)
  obtain ⟨vK, rfl, hRK⟩ := hMK
  have xK := hcK _ rfl
  have e4 : (xs)[i]'(by omega) = rI := HRI.out.symm
  rw [e4] at hRK
  obtain ⟨AK, capK, rfl, hcapK, -⟩ := hRK.reads
  have hcut := cutm_run AK rI.length capK q (by omega) (by omega) hcapK
  obtain ⟨f3, hf3⟩ := rows_f hS3
  obtain ⟨uK, k1, k2, -⟩ := hf3 i (by omega)
  obtain rfl : uK = .slice AK rI.length capK := by rw [xK] at k1; injection k1 with k1; exact k1.symm
  have yx1 : (w1.alloc (.cells #[.int .i64 h, .slice (some ⟨gs3, 0, none⟩) n cv] 27)).cell? ⟨w1.heap.size, 1, none⟩ = some (.slice (some ⟨gs3, 0, none⟩) n cv) := (blk_cell hb3 1).trans rfl
  have HRK := Aside0.mk (rowW_cut (m := q.toNat) hRK (by omega))
  have HBK := Aside0.mk hbackK
  have HB3' := Aside0.mk hb3
  have HGN3 := Aside0.mk (show w1.heap.size ≠ gs3 from fun e => by
    obtain ⟨f0, hS0, _⟩ := hS3
    exact hS0 gs3 (by simp [Value.ownBlock]) e.symm)
  have HGL3 := Aside0.mk (show (w.heap.size + 2) ≤ gs3 from Kd.S_base hS3 gs3 (by simp [Value.ownBlock]))
  have HX3 := Aside0.mk (And.intro yx1 xK)
  clear hb3 hlo3 hS3 hcK hokK hbackK hRK e4 hf3 hl3 hclK hn' q0 q1 hcapK
  go_wp2_with (fail)
  refine start_ (n := 13) (S := fun w' => w'.cell? ⟨w1.heap.size, 1, none⟩ = some (.slice (some ⟨gs3, 0, none⟩) n cv) ∧ w'.cell? ⟨gs3, i, none⟩ = some (.slice AK rI.length capK)) (ds := [12]) #[false, false, false, false, false, false, false, false, false, false, false, false, false] (by kernel_rfl) rfl rfl HX3.out (fun hHeld => ?_)
  refine pure_ (i := 0) (N := some 25) (v := ?_) (a' := ?_) #[true, false, false, false, false, false, false, false, false, false, false, false, false] rfl rfl (by kernel_rfl) (fun _ _ _ h => h) (Or.inl ⟨by rfl, ?_⟩) ?_ ?_
  rotate_left
  · intro w'
    go_simp
    with_reducible rfl
  rotate_left
  · simp only [Act.put, List.setIfInBounds_toArray, List.set_cons_zero, List.set_cons_succ, i64_w, i32_w]
    rfl
  refine pure_ (i := 2) (N := some 27) (v := ?_) (a' := ?_) #[true, false, true, false, false, false, false, false, false, false, false, false, false] rfl rfl (by kernel_rfl) (fun _ _ _ h => h) (Or.inl ⟨by rfl, ?_⟩) ?_ ?_
  rotate_left
  · intro w'
    go_simp
    with_reducible rfl
  rotate_left
  · simp only [Act.put, List.setIfInBounds_toArray, List.set_cons_zero, List.set_cons_succ, i64_w, i32_w]
    rfl
  refine pure_ (i := 3) (N := some 28) (v := ?_) (a' := ?_) #[true, false, true, true, false, false, false, false, false, false, false, false, false] rfl rfl (by kernel_rfl) (fun _ _ _ h => h) (Or.inl ⟨by rfl, ?_⟩) ?_ ?_
  rotate_left
  · intro w'
    go_simp
    with_reducible rfl
  rotate_left
  · simp only [Act.put, List.setIfInBounds_toArray, List.set_cons_zero, List.set_cons_succ, i64_w, i32_w]
    rfl
  refine pure_ (i := 5) (N := some 30) (v := ?_) (a' := ?_) #[true, false, true, true, false, true, false, false, false, false, false, false, false] rfl rfl (by kernel_rfl) (fun _ _ _ h => h) (Or.inl ⟨by rfl, ?_⟩) ?_ ?_
  rotate_left
  · intro w'
    go_simp
    with_reducible rfl
  rotate_left
  · simp only [Act.put, List.setIfInBounds_toArray, List.set_cons_zero, List.set_cons_succ, i64_w, i32_w]
    rfl
  refine pure_ (i := 8) (N := some 33) (v := ?_) (a' := ?_) #[true, false, true, true, false, true, false, false, true, false, false, false, false] rfl rfl (by kernel_rfl) (fun _ _ _ h => h) (Or.inl ⟨by rfl, ?_⟩) ?_ ?_
  rotate_left
  · intro w'
    go_simp
    with_reducible rfl
  rotate_left
  · simp only [Act.put, List.setIfInBounds_toArray, List.set_cons_zero, List.set_cons_succ, i64_w, i32_w]
    rfl
  refine pure_ (i := 9) (N := some 34) (v := ?_) (a' := ?_) #[true, false, true, true, false, true, false, false, true, true, false, false, false] rfl rfl (by kernel_rfl) (fun _ _ _ h => h) (Or.inl ⟨by rfl, ?_⟩) ?_ ?_
  rotate_left
  · intro w'
    go_simp
    with_reducible rfl
  rotate_left
  · simp only [Act.put, List.setIfInBounds_toArray, List.set_cons_zero, List.set_cons_succ, i64_w, i32_w]
    rfl
  refine take_ (i := 1) (N := some 26) (v := ?_) (a' := ?_) #[true, true, true, true, false, true, false, false, true, true, false, false, false] rfl rfl (by kernel_rfl) (fun _ _ _ h => h) (Or.inl ⟨by rfl, ?_⟩) hHeld ?_ ?_
  rotate_left
  · rintro w' ⟨s0, s1⟩
    go_simp
    with_reducible rfl
  rotate_left
  · simp only [Act.put, List.setIfInBounds_toArray, List.set_cons_zero, List.set_cons_succ, i64_w, i32_w]
    rfl
  refine take_ (i := 4) (N := some 29) (v := ?_) (a' := ?_) #[true, true, true, true, true, true, false, false, true, true, false, false, false] rfl rfl (by kernel_rfl) (fun _ _ _ h => h) (Or.inl ⟨by rfl, ?_⟩) hHeld ?_ ?_
  rotate_left
  · rintro w' ⟨s0, s1⟩
    go_simp
    with_reducible rfl
  rotate_left
  · simp only [Act.put, List.setIfInBounds_toArray, List.set_cons_zero, List.set_cons_succ, i64_w, i32_w]
    rfl
  refine pure_ (i := 6) (N := some 31) (v := ?_) (a' := ?_) #[true, true, true, true, true, true, true, false, true, true, false, false, false] rfl rfl (by kernel_rfl) (fun _ _ _ h => h) (Or.inl ⟨by rfl, ?_⟩) ?_ ?_
  rotate_left
  · intro w'
    go_simp
    with_reducible rfl
  rotate_left
  · simp only [Act.put, List.setIfInBounds_toArray, List.set_cons_zero, List.set_cons_succ, i64_w, i32_w]
    rfl
  refine take_ (i := 7) (N := some 32) (v := ?_) (a' := ?_) #[true, true, true, true, true, true, true, true, true, true, false, false, false] rfl rfl (by kernel_rfl) (fun _ _ _ h => h) (Or.inl ⟨by rfl, ?_⟩) hHeld ?_ ?_
  rotate_left
  · rintro w' ⟨s0, s1⟩
    go_simp
    with_reducible rfl
  rotate_left
  · simp only [Act.put, List.setIfInBounds_toArray, List.set_cons_zero, List.set_cons_succ, i64_w, i32_w]
    rfl
  refine pure_ (i := 10) (N := some 35) (v := ?_) (a' := ?_) #[true, true, true, true, true, true, true, true, true, true, true, false, false] rfl rfl (by kernel_rfl) (fun _ _ _ h => h) (Or.inl ⟨by rfl, ?_⟩) ?_ ?_
  rotate_left
  · intro w'
    go_simp
    with_reducible rfl
  rotate_left
  · simp only [Act.put, List.setIfInBounds_toArray, List.set_cons_zero, List.set_cons_succ, i64_w, i32_w]
    rfl
  refine pure_ (i := 11) (N := some 36) (v := ?_) (a' := ?_) #[true, true, true, true, true, true, true, true, true, true, true, true, false] rfl rfl (by kernel_rfl) (fun _ _ _ h => h) (Or.inl ⟨by rfl, ?_⟩) ?_ ?_
  rotate_left
  · intro w'
    go_simp
    with_reducible rfl
  rotate_left
  · simp only [Act.put, List.setIfInBounds_toArray, List.set_cons_zero, List.set_cons_succ, i64_w, i32_w]
    rfl
  refine last_ (i := 12) (N := none) #[true, true, true, true, true, true, true, true, true, true, true, true, true] rfl rfl (by kernel_rfl) (by decide) (fun K_ hK => ?_)
  refine skip_ (w1 := ?_) (by rfl) rfl ?_ ?_
  rotate_left
  · go_simp
    rfl
  refine hK.out _ _ ?_
  clear hK K_
  refine done_ (by kernel_rfl) ?_
  obtain ⟨p1, p2⟩ := HBK.out (w1.alloc (.cells #[.int .i64 h, .slice (some ⟨gs3, 0, none⟩) n cv] 27)) (.slice AK q.toNat q.toNat) (rI.take q.toNat) (Nat.le_refl _) (fun _ _ _ => rfl) ⟨_, rfl, by
    have := HRK.out
    rcases this with h | ⟨g1, cap1, cur1, hv, hb', ho, r1⟩
    · exact .inl h
    · exact .inr ⟨g1, cap1, cur1, hv, hb', .inl ho, r1⟩⟩
  have b5 : ((w1.alloc (.cells #[.int .i64 h, .slice (some ⟨gs3, 0, none⟩) n cv] 27)).setCell ⟨gs3, i, none⟩ (.slice AK q.toNat q.toNat)).drew.heap[w1.heap.size]? = some (.cells #[.int .i64 h, .slice (some ⟨gs3, 0, none⟩) n cv] 27 (0, 0)) := by
    show ((w1.alloc (.cells #[.int .i64 h, .slice (some ⟨gs3, 0, none⟩) n cv] 27)).setCell ⟨gs3, i, none⟩ (.slice AK q.toNat q.toNat)).heap[w1.heap.size]? = _
    rw [Below.heap_setCell _ _ _ _ HGN3.out]; exact HB3'.out
  have b6 : ((w1.alloc (.cells #[.int .i64 h, .slice (some ⟨gs3, 0, none⟩) n cv] 27)).setCell ⟨gs3, i, none⟩ (.slice AK q.toNat q.toNat)).drew.heap[w.heap.size + 1]? = some (.cells #[.int .i64 0, .slice none 0 0] 27 (0, 0)) := by
    show ((w1.alloc (.cells #[.int .i64 h, .slice (some ⟨gs3, 0, none⟩) n cv] 27)).setCell ⟨gs3, i, none⟩ (.slice AK q.toNat q.toNat)).heap[w.heap.size + 1]? = _
    rw [Below.heap_setCell _ _ _ _ (show w.heap.size + 1 ≠ gs3 by have := HGL3.out; omega)]; exact HB63.out
  have p3 := Kd.S_drew p1
  have p4 : Below (w.heap.size + 2) (w1.alloc (.cells #[.int .i64 h, .slice (some ⟨gs3, 0, none⟩) n cv] 27)) ((w1.alloc (.cells #[.int .i64 h, .slice (some ⟨gs3, 0, none⟩) n cv] 27)).setCell ⟨gs3, i, none⟩ (.slice AK q.toNat q.toNat)).drew := below_drew (HB3.out.setCell (p := ⟨gs3, i, none⟩) HGL3.out _)
  generalize hw5 : ((w1.alloc (.cells #[.int .i64 h, .slice (some ⟨gs3, 0, none⟩) n cv] 27)).setCell ⟨gs3, i, none⟩ (.slice AK q.toNat q.toNat)).drew = w5 at b5 b6 p3 p4 ⊢
  have y0 : w5.cell? ⟨w1.heap.size, 0, none⟩ = some (.int .i64 h) := (blk_cell b5 0).trans rfl
  have y1 : w5.cell? ⟨w1.heap.size, 1, none⟩ = some (.slice (some ⟨gs3, 0, none⟩) n cv) := (blk_cell b5 1).trans rfl
  have g0 : w5.cell? ⟨w.heap.size + 1, 0, none⟩ = some (.int .i64 0) := (blk_cell b6 0).trans rfl
  have g1 : w5.cell? ⟨w.heap.size + 1, 1, none⟩ = some (.slice none 0 0) := (blk_cell b6 1).trans rfl
  have g2 := blk_frozen b6 0
  have g3 := blk_frozen b6 1
  have B6 := Aside0.mk b6
  have P3 := Aside0.mk p3
  have P4 := Aside0.mk p4
  have HNE5 := Aside0.mk (show w1.heap.size ≠ w.heap.size + 1 by have := HLO.out; omega)
  clear hw5 p1 p2 p3 p4 b5 b6 hHeld yx1 xK k1 k2
  go_wp2_with (fail)
  have b7 := blk_put (blk_put B6.out 0 (.int .i64 h) rfl) 1 (.slice (some ⟨gs3, 0, none⟩) n cv) rfl
  have hm' : xs.set i ((xs.getD i []).take ((xs.getD i []).length - 1)) = xs.set i (rI.take q.toNat) := by
    have a1 := HQ.out
    have a2 : xs.getD i [] = rI := by rw [List.getD_eq_getElem?_getD, List.getElem?_eq_getElem hi, HRI.out]; rfl
    rw [a2, show q.toNat = rI.length - 1 by omega]
  refine bodyPost_ret (results_ct rfl _ _ (w.heap.size + 1) 27 #[.int .i64 h, .slice (some ⟨gs3, 0, none⟩) n cv] (0, 0) _ rfl b7 Try.underlying27 rfl (by kernel_rfl)) rfl ?_
  refine ⟨_, rfl, ?_, ?_⟩
  · rw [hm']
    exact Kd.S_mono (Kd.S_far (p := ⟨w.heap.size + 1, 1, none⟩) (Kd.S_far (p := ⟨w.heap.size + 1, 0, none⟩) (Kd.S_lower (Kd.S_bound P3.out) (by omega : w.heap.size ≤ (w.heap.size + 2))) (fun k hk => by have := hk.2.1; show k ≠ w.heap.size + 1; omega) _) (fun k hk => by have := hk.2.1; show k ≠ w.heap.size + 1; omega) _) (fun _ _ => trivial)
  · exact ((HBLW.out.trans (P4.out.mono (by omega))).setCell (p := ⟨w.heap.size + 1, 0, none⟩) (Nat.le_succ _) _).setCell (p := ⟨w.heap.size + 1, 1, none⟩) (Nat.le_succ _) _
end Go.Proofs.Ytibaiaenfeppcaa.Ytn

-- made by a patched copy of print.sh: this session's own
namespace Go.Proofs.Ytibaiaenfeppcaa.Q
open Go.RowKit Go.Proofs.YtibaiaenfeppcaaW.PrintWords Go.Proofs.YtibaiaenfeppcaaW.PrintLast Go.Proofs.YtibaiaenfeppcaaW.PrintMore
attribute [local go_sem] max2_int min2_int max_two min_two max_three min_three max_four min_four   -- for this text's walks alone
set_option linter.unusedVariables false
set_option linter.unusedSimpArgs false

/-! ### spec_TopsOf: function 15 -/
def spec_TopsOf.l0 : Nat → List Int → Int → Int → List (List Int) → Option (List Int × Bool)
  | 0, _, _, _, _ => none
  | k + 1, x4, x5, x288000, x288001 => if x5 < (x288001.length : Int) then (if 0 ≤ x5 then (if ((rd_L1 x288001 x5).length : Int) > 0 then (if 0 ≤ (wrap64 (((rd_L1 x288001 x5).length : Int) - 1)) then (if (wrap64 (((rd_L1 x288001 x5).length : Int) - 1)) < ((rd_L1 x288001 x5).length : Int) then (if x4.length < 17592186044416 then (spec_TopsOf.l0 k (x4 ++ [rd (rd_L1 x288001 x5) (wrap64 (((rd_L1 x288001 x5).length : Int) - 1))]) (wrap64 (x5 + 1)) x288000 x288001) else (none)) else (none)) else (none)) else (if x4.length < 17592186044416 then (spec_TopsOf.l0 k (x4 ++ [(-1)]) (wrap64 (x5 + 1)) x288000 x288001) else (none))) else (none)) else (some (x4, true))
def spec_TopsOf.f (k : Nat) (a0_0 : Int) (l0_1 : List (List Int)) : Option (List Int × Bool) := (spec_l09Yard.f k a0_0 l0_1).bind fun bt288 => (if bt288.1 = true then (spec_TopsOf.l0 k (([] : List Int)) 0 bt288.2 l0_1) else (some (([] : List Int), false)))
end Go.Proofs.Ytibaiaenfeppcaa.Q

-- mended

-- made by a patched copy of print.sh: this session's own
namespace Go.Proofs.Ytibaiaenfeppcaa.Q
open Go.RowKit Go.Proofs.YtibaiaenfeppcaaW.PrintWords Go.Proofs.YtibaiaenfeppcaaW.PrintLast Go.Proofs.YtibaiaenfeppcaaW.PrintMore
attribute [local go_sem] max2_int min2_int max_two min_two max_three min_three max_four min_four   -- for this text's walks alone
set_option linter.unusedVariables false
set_option linter.unusedSimpArgs false

/-! ### impl_ValidYard: function 13 -/
def impl_ValidYard.f (a0_0 : Int) (l0_1 : List (List Int)) : Option (Bool) := some (Yv.valid a0_0 l0_1)
theorem impl_ValidYard.calls (a0_0 : Int) (A0_1 : Option Addr) (c0_1 : Nat) (l0_1 : List (List Int)) (r : Bool) (w : World) (hr0_1 : Kd.C (Kd.slice 2 (Kd.int .i64)) w A0_1 l0_1.length l0_1) (hc0_1 : l0_1.length ≤ c0_1) (h : impl_ValidYard.f a0_0 l0_1 = some r) :
    Calls Try.prog 13 #[.agg #[.int .i64 a0_0, .slice A0_1 l0_1.length c0_1]] w fun e w' => e = .returned (.bool r) ∧ Below w.heap.size w w' := by
  obtain rfl := Option.some.inj h
  exact Yv.validYard_calls a0_0 A0_1 c0_1 l0_1 w hr0_1

end Go.Proofs.Ytibaiaenfeppcaa.Q

-- made by a patched copy of print.sh: this session's own
namespace Go.Proofs.Ytibaiaenfeppcaa.Q
open Go.RowKit Go.Proofs.YtibaiaenfeppcaaW.PrintWords Go.Proofs.YtibaiaenfeppcaaW.PrintLast Go.Proofs.YtibaiaenfeppcaaW.PrintMore
attribute [local go_sem] max2_int min2_int max_two min_two max_three min_three max_four min_four   -- for this text's walks alone
set_option linter.unusedVariables false
set_option linter.unusedSimpArgs false

/-! ### impl_TopsOf: function 16 -/
def impl_TopsOf.l0 : Nat → List Int → List (List Int) → Int → Int → Option (List Int × Bool)
  | 0, _, _, _, _ => none
  | k + 1, x4, x12, x13, x14 => if x14 < x13 then (if 0 ≤ x14 then (if x14 < (x12.length : Int) then (if ((rd_L1 x12 x14).length : Int) = 0 then (if x4.length < 17592186044416 then (impl_TopsOf.l0 k (x4 ++ [(-1)]) x12 x13 (wrap64 (x14 + 1))) else (none)) else (if 0 ≤ (wrap64 (((rd_L1 x12 x14).length : Int) - 1)) then (if (wrap64 (((rd_L1 x12 x14).length : Int) - 1)) < ((rd_L1 x12 x14).length : Int) then (if x4.length < 17592186044416 then (impl_TopsOf.l0 k (x4 ++ [rd (rd_L1 x12 x14) (wrap64 (((rd_L1 x12 x14).length : Int) - 1))]) x12 x13 (wrap64 (x14 + 1))) else (none)) else (none)) else (none))) else (none)) else (none)) else (some (x4, true))
def impl_TopsOf.f (k : Nat) (a0_0 : Int) (l0_1 : List (List Int)) : Option (List Int × Bool) := (impl_ValidYard.f a0_0 l0_1).bind fun t303 => (if t303 = true then (impl_TopsOf.l0 k (([] : List Int)) l0_1 (l0_1.length : Int) 0) else (some (([] : List Int), false)))
end Go.Proofs.Ytibaiaenfeppcaa.Q

-- made by a patched copy of print.sh: this session's own
namespace Go.Proofs.Ytibaiaenfeppcaa.Q
open Go.RowKit Go.Proofs.YtibaiaenfeppcaaW.PrintWords Go.Proofs.YtibaiaenfeppcaaW.PrintLast Go.Proofs.YtibaiaenfeppcaaW.PrintMore
attribute [local go_sem] max2_int min2_int max_two min_two max_three min_three max_four min_four   -- for this text's walks alone
set_option linter.unusedVariables false
set_option linter.unusedSimpArgs false

/-! ### spec_l00Put: function 74 -/
mutual
def spec_l00Put.l0 : Nat → List Int → Int → List Int → Bool → Int → Option (List Int)
  | 0, _, _, _, _, _ => none
  | k + 1, x0, x1, x5, x6, x7 => if x7 < (x0.length : Int) then (if x6 = true then (spec_l00Put.j1 k x0 x1 x5 x6 x7 false) else (if 0 ≤ x7 then (spec_l00Put.j1 k x0 x1 x5 x6 x7 (decide ((rd x0 x7) ≥ x1))) else (none))) else (if x6 = true then (some x5) else (if x5.length < 17592186044416 then (some (x5 ++ [x1])) else (none)))
def spec_l00Put.j1 : Nat → List Int → Int → List Int → Bool → Int → Bool → Option (List Int)
  | 0, _, _, _, _, _, _ => none
  | k + 1, x0, x1, x5, x6, x7, x24 => if x24 = true then (if 0 ≤ x7 then (if x7 < (x0.length : Int) then (if (rd x0 x7) > x1 then (if x5.length < 17592186044416 then ((some (x5 ++ [x1] : List Int)).bind fun y506 => (if y506.length < 17592186044416 then (spec_l00Put.l0 k x0 x1 (y506 ++ [rd x0 x7]) true (wrap64 (x7 + 1))) else (none))) else (none)) else (if x5.length < 17592186044416 then (spec_l00Put.l0 k x0 x1 (x5 ++ [rd x0 x7]) true (wrap64 (x7 + 1))) else (none))) else (none)) else (none)) else (if 0 ≤ x7 then (if x7 < (x0.length : Int) then (if x5.length < 17592186044416 then (spec_l00Put.l0 k x0 x1 (x5 ++ [rd x0 x7]) x6 (wrap64 (x7 + 1))) else (none)) else (none)) else (none))
end
def spec_l00Put.f (k : Nat) (l0 : List Int) (a1 : Int) : Option (List Int) := spec_l00Put.l0 k l0 a1 (([] : List Int)) false 0
end Go.Proofs.Ytibaiaenfeppcaa.Q

-- made by a patched copy of print.sh: this session's own
namespace Go.Proofs.Ytibaiaenfeppcaa.Q
open Go.RowKit Go.Proofs.YtibaiaenfeppcaaW.PrintWords Go.Proofs.YtibaiaenfeppcaaW.PrintLast Go.Proofs.YtibaiaenfeppcaaW.PrintMore
attribute [local go_sem] max2_int min2_int max_two min_two max_three min_three max_four min_four   -- for this text's walks alone
set_option linter.unusedVariables false
set_option linter.unusedSimpArgs false

/-! ### spec_l00Min: function 75 -/
def spec_l00Min.f (a0 : Int) (a1 : Int) : Option (Int) := if a0 < a1 then (some a0) else (some a1)
end Go.Proofs.Ytibaiaenfeppcaa.Q

-- made by a patched copy of print.sh: this session's own
namespace Go.Proofs.Ytibaiaenfeppcaa.Q
open Go.RowKit Go.Proofs.YtibaiaenfeppcaaW.PrintWords Go.Proofs.YtibaiaenfeppcaaW.PrintLast Go.Proofs.YtibaiaenfeppcaaW.PrintMore
attribute [local go_sem] max2_int min2_int max_two min_two max_three min_three max_four min_four   -- for this text's walks alone
set_option linter.unusedVariables false
set_option linter.unusedSimpArgs false

/-! ### spec_l09Blockers: function 53 -/
mutual
def spec_l09Blockers.l0 : Nat → List Int → Int → Int → List (List Int) → Option (List Int × Int)
  | 0, _, _, _, _ => none
  | k + 1, x3, x4, x1000, x1001 => if x4 < (x1001.length : Int) then (spec_l09Blockers.l1 k x3 x4 100 0 x1000 x1001) else (some (x3, x1000))
def spec_l09Blockers.l1 : Nat → List Int → Int → Int → Int → Int → List (List Int) → Option (List Int × Int)
  | 0, _, _, _, _, _, _ => none
  | k + 1, x3, x4, x5, x6, x1000, x1001 => if 0 ≤ x4 then (if x4 < (x1001.length : Int) then (if x6 < ((rd_L1 x1001 x4).length : Int) then (if 0 ≤ x6 then (if (rd (rd_L1 x1001 x4) x6) > x5 then ((spec_l00Put.f k x3 (rd (rd_L1 x1001 x4) x6)).bind fun t527 => ((spec_l00Min.f x5 (rd (rd_L1 x1001 x4) x6)).bind fun t530 => (spec_l09Blockers.l1 k t527 x4 t530 (wrap64 (x6 + 1)) x1000 x1001))) else ((spec_l00Min.f x5 (rd (rd_L1 x1001 x4) x6)).bind fun t531 => (spec_l09Blockers.l1 k x3 x4 t531 (wrap64 (x6 + 1)) x1000 x1001))) else (none)) else (spec_l09Blockers.l0 k x3 (wrap64 (x4 + 1)) x1000 x1001)) else (none)) else (none)
end
def spec_l09Blockers.f (k : Nat) (s0_0 : Int) (s0_1 : List (List Int)) : Option (List Int × Int) := spec_l09Blockers.l0 k (([] : List Int)) 0 s0_0 s0_1
end Go.Proofs.Ytibaiaenfeppcaa.Q

-- mended

-- made by a patched copy of print.sh: this session's own
namespace Go.Proofs.Ytibaiaenfeppcaa.Q
open Go.RowKit Go.Proofs.YtibaiaenfeppcaaW.PrintWords Go.Proofs.YtibaiaenfeppcaaW.PrintLast Go.Proofs.YtibaiaenfeppcaaW.PrintMore
attribute [local go_sem] max2_int min2_int max_two min_two max_three min_three max_four min_four   -- for this text's walks alone
set_option linter.unusedVariables false
set_option linter.unusedSimpArgs false

/-! ### spec_BlockersOf: function 28 -/
def spec_BlockersOf.f (k : Nat) (a0_0 : Int) (l0_1 : List (List Int)) : Option (List Int × Bool) := (spec_l09Yard.f k a0_0 l0_1).bind fun bt533 => (if bt533.1 = true then ((spec_l09Blockers.f k bt533.2 l0_1).bind fun bt535 => (some (bt535.1, true))) else (some (([] : List Int), false)))
end Go.Proofs.Ytibaiaenfeppcaa.Q

-- made by a patched copy of print.sh: this session's own
namespace Go.Proofs.Ytibaiaenfeppcaa.Q
open Go.RowKit Go.Proofs.YtibaiaenfeppcaaW.PrintWords Go.Proofs.YtibaiaenfeppcaaW.PrintLast Go.Proofs.YtibaiaenfeppcaaW.PrintMore
attribute [local go_sem] max2_int min2_int max_two min_two max_three min_three max_four min_four   -- for this text's walks alone
set_option linter.unusedVariables false
set_option linter.unusedSimpArgs false

/-! ### slices_Sort_int64_int64: function 47 -/
def slices_Sort_int64_int64.f (l0 : List Int) : Option (List Int) := if l0.length ≤ 1000000 then some (Sv.srt l0) else none
end Go.Proofs.Ytibaiaenfeppcaa.Q

-- made by a patched copy of print.sh: this session's own
namespace Go.Proofs.Ytibaiaenfeppcaa.Q
open Go.RowKit Go.Proofs.YtibaiaenfeppcaaW.PrintWords Go.Proofs.YtibaiaenfeppcaaW.PrintLast Go.Proofs.YtibaiaenfeppcaaW.PrintMore
attribute [local go_sem] max2_int min2_int max_two min_two max_three min_three max_four min_four   -- for this text's walks alone
set_option linter.unusedVariables false
set_option linter.unusedSimpArgs false

/-! ### impl_BlockersOf: function 23 -/
mutual
def impl_BlockersOf.l0 : Nat → List Int → List (List Int) → Int → Int → Option (List Int × Bool)
  | 0, _, _, _, _ => none
  | k + 1, x4, x14, x15, x16 => if x16 < x15 then (if 0 ≤ x16 then (if x16 < (x14.length : Int) then (impl_BlockersOf.l1 k x4 (rd_L1 x14 x16) x14 x15 x16 (rd_L1 x14 x16) ((rd_L1 x14 x16).length : Int) 0) else (none)) else (none)) else ((slices_Sort_int64_int64.f x4).bind fun t404 => (some (t404, true)))
def impl_BlockersOf.l1 : Nat → List Int → List Int → List (List Int) → Int → Int → List Int → Int → Int → Option (List Int × Bool)
  | 0, _, _, _, _, _, _, _, _ => none
  | k + 1, x4, x6, x14, x15, x16, x20, x21, x22 => if x22 < x21 then (if 0 ≤ x22 then (if x22 < (x20.length : Int) then (if x22 > 0 then (if x22 ≤ (x6.length : Int) then ((slices_Min_int64_int64.f (x6.take (x22 : Int).toNat)).bind fun t408 => (if t408 < (rd x20 x22) then (if x4.length < 17592186044416 then (impl_BlockersOf.l1 k (x4 ++ [rd x20 x22]) x6 x14 x15 x16 x20 x21 (wrap64 (x22 + 1))) else (none)) else (impl_BlockersOf.l1 k x4 x6 x14 x15 x16 x20 x21 (wrap64 (x22 + 1))))) else (none)) else (impl_BlockersOf.l1 k x4 x6 x14 x15 x16 x20 x21 (wrap64 (x22 + 1)))) else (none)) else (none)) else (impl_BlockersOf.l0 k x4 x14 x15 (wrap64 (x16 + 1)))
end
def impl_BlockersOf.f (k : Nat) (a0_0 : Int) (l0_1 : List (List Int)) : Option (List Int × Bool) := (impl_ValidYard.f a0_0 l0_1).bind fun t400 => (if t400 = true then (impl_BlockersOf.l0 k (([] : List Int)) l0_1 (l0_1.length : Int) 0) else (some (([] : List Int), false)))
end Go.Proofs.Ytibaiaenfeppcaa.Q

-- mended

/- Plain: the topmost lots and the blockers of a yard, by both sides. -/
namespace Go.Proofs.Ytibaiaenfeppcaa.PuTO
open Go.RowKit Go.Proofs.YtibaiaenfeppcaaW.PrintWords Go.Proofs.Ytibaiaenfeppcaa.Q Go.Proofs.Ytibaiaenfeppcaa.PuY
def topOf (s : List Int) : Int := if s.length = 0 then -1 else rd s ((s.length : Int) - 1)
/-- What a valid yard is. -/
theorem valid_parts {h : Int} {xs : List (List Int)} (hv : Yv.valid h xs = true) : 1 ≤ h ∧ h ≤ 4 ∧ 1 ≤ xs.length ∧ xs.length ≤ 4 ∧ (∀ r ∈ xs, (r.length : Int) ≤ h) ∧ xs.flatten.Nodup ∧ xs.flatten.length ≤ 7 ∧ (∀ x ∈ xs.flatten, 0 ≤ x ∧ x ≤ 99) := by
  unfold Yv.valid Ha.inB Ha.areIn at hv
  simp only [Bool.and_eq_true, decide_eq_true_eq, List.all_eq_true] at hv
  obtain ⟨⟨a1, a2⟩, ⟨b1, b2⟩, c, d, e, f⟩ := hv
  refine ⟨a1, a2, by omega, by omega, c, d, by omega, fun x hx => ?_⟩
  have := f x hx
  unfold Ha.inB at this
  simpa using this
def topsR (h : Int) (xs : List (List Int)) : List Int := if Yv.valid h xs = true then xs.map topOf else []
/-! blockers -/
/-- The lots of a stack that lie above lesser ones; pre: those below. -/
def blk (pre : List Int) : List Int → List Int
  | [] => []
  | x :: t => (if pre.any (fun y => decide (y < x)) then [x] else []) ++ blk (pre ++ [x]) t
def blkAll (xs : List (List Int)) : List Int := (xs.map (blk [])).flatten
/-- A number to its place among rising ones, once. -/
def put : List Int → Int → List Int
  | [], x => [x]
  | y :: t, x => if y < x then y :: put t x else if x < y then x :: y :: t else y :: t
def least (pre : List Int) : Int := pre.foldl min 100
def blkR (h : Int) (xs : List (List Int)) : List Int := if Yv.valid h xs = true then Sv.srt (blkAll xs) else []
end Go.Proofs.Ytibaiaenfeppcaa.PuTO

/- Moving and taking, told once for all arguments, by both sides. -/
namespace Go.Proofs.Ytibaiaenfeppcaa.Yq
open Go Go.RowKit Go.Proofs.YtibaiaenfeppcaaW.PrintWords Go.Proofs.YtibaiaenfeppcaaW.PrintLast Go.Proofs.YtibaiaenfeppcaaW.PrintMore Go.Proofs.Ytibaiaenfeppcaa.Q Go.Proofs.Ytibaiaenfeppcaa.PuY Go.Proofs.Ytibaiaenfeppcaa.PuTO Go.Proofs.Ytibaiaenfeppcaa.Lw Go.Proofs.Ytibaiaenfeppcaa.Ow Go.Proofs.Ytibaiaenfeppcaa.Yo Go.Proofs.Ytibaiaenfeppcaa.Yt
set_option linter.unusedVariables false
/-- A move that can be made. -/
def moveB (h : Int) (xs : List (List Int)) (f t : Int) : Bool :=
  decide (0 ≤ f ∧ f < (xs.length : Int) ∧ 0 ≤ t ∧ t < (xs.length : Int) ∧ f ≠ t ∧ 0 < (xs.getD f.toNat []).length ∧ ((xs.getD t.toNat []).length : Int) < h)
def moveR (h : Int) (xs : List (List Int)) (f t : Int) : Option (List (List Int)) := if moveB h xs f t = true then some (moveRows xs f.toNat t.toNat) else none
/-- A yard's height and rows, where there is one. -/
def hR (h : Int) (o : Option (List (List Int))) : Int × List (List Int) := match o with | some ys => (h, ys) | none => (0, [])
/-- What is handed back where a yard may come out. -/
def Out (h : Int) (o : Option (List (List Int))) (w : World) (e : Ending) (w' : World) : Prop :=
  ∃ v, e = .returned (.tuple #[.agg #[.int .i64 (hR h o).1, v], .bool o.isSome]) ∧ Kd.S dW 31 w' w.heap.size (fun _ => True) v (hR h o).2 ∧ Below w.heap.size w w'
theorem out_none {h : Int} {w w' : World} {e : Ending} (he : e = .returned (.tuple #[.agg #[.int .i64 0, .slice none 0 0], .bool false])) (hb : Below w.heap.size w w') : Out h none w e w' := ⟨_, he, Kd.S_nil _ _ _ _ _, hb⟩
theorem getD_at (xs : List (List Int)) (i : Nat) (hi : i < xs.length) : xs.getD i [] = xs[i] := by rw [List.getD_eq_getElem?_getD, List.getElem?_eq_getElem hi]; rfl
theorem flat_le (b : Nat) : ∀ ys : List (List Int), (∀ r ∈ ys, r.length ≤ b) → ys.flatten.length ≤ ys.length * b
  | [], _ => by simp
  | r :: rs, h => by
    have := flat_le b rs (fun s hs => h s (List.mem_cons_of_mem _ hs))
    have := h r (List.mem_cons_self ..)
    rw [List.flatten_cons, List.length_append, List.length_cons, Nat.add_mul]; omega
theorem small_of (ys : List (List Int)) (hl : ys.length ≤ 100) (hr : ∀ r ∈ ys, r.length ≤ 100) : Small ys :=
  ⟨by omega, by have := flat_le 100 ys hr; omega, fun r h => by have := hr r h; omega⟩
/-- Why a move cannot be made. -/
theorem move_cases (h : Int) (xs : List (List Int)) (f t : Int) : (f < 0 ∨ (xs.length : Int) ≤ f) ∨ ∃ i : Nat, f = (i : Int) ∧ ∃ hi : i < xs.length, (t < 0 ∨ (xs.length : Int) ≤ t) ∨ t = (i : Int) ∨ ∃ j : Nat, t = (j : Int) ∧ ∃ hj : j < xs.length, i ≠ j ∧ (xs[i].length = 0 ∨ 0 < xs[i].length ∧ (h ≤ (xs[j].length : Int) ∨ (xs[j].length : Int) < h)) := by
  by_cases h1 : f < 0 ∨ (xs.length : Int) ≤ f
  · exact .inl h1
  · refine .inr ⟨f.toNat, by omega, by omega, ?_⟩
    by_cases h2 : t < 0 ∨ (xs.length : Int) ≤ t
    · exact .inl h2
    · by_cases h3 : t = f
      · exact .inr (.inl (by omega))
      · refine .inr (.inr ⟨t.toNat, by omega, by omega, by omega, ?_⟩)
        by_cases h4 : xs[f.toNat].length = 0
        · exact .inl h4
        · exact .inr ⟨by omega, by omega⟩
theorem moveB_no1 {h : Int} {xs : List (List Int)} {f t : Int} (h1 : f < 0 ∨ (xs.length : Int) ≤ f) : moveB h xs f t = false := decide_eq_false (by omega)
theorem moveB_no2 {h : Int} {xs : List (List Int)} {f t : Int} (h1 : t < 0 ∨ (xs.length : Int) ≤ t) : moveB h xs f t = false := decide_eq_false (by omega)
theorem moveB_no3 {h : Int} {xs : List (List Int)} {f : Int} : moveB h xs f f = false := decide_eq_false (by omega)
theorem moveB_no4 {h : Int} {xs : List (List Int)} {i : Nat} {t : Int} (hi : i < xs.length) (h1 : xs[i].length = 0) : moveB h xs (i : Int) t = false := decide_eq_false (by rw [Int.toNat_natCast, getD_at xs i hi]; omega)
theorem moveB_no5 {h : Int} {xs : List (List Int)} {j : Nat} {f : Int} (hj : j < xs.length) (h1 : h ≤ (xs[j].length : Int)) : moveB h xs f (j : Int) = false := decide_eq_false (by rw [Int.toNat_natCast, getD_at xs j hj]; omega)
theorem moveB_yes {h : Int} {xs : List (List Int)} {i j : Nat} (hi : i < xs.length) (hj : j < xs.length) (hij : i ≠ j) (h1 : 0 < xs[i].length) (h2 : (xs[j].length : Int) < h) : moveB h xs (i : Int) (j : Int) = true :=
  decide_eq_true (by rw [Int.toNat_natCast, Int.toNat_natCast, getD_at xs i hi, getD_at xs j hj]; omega)
/-- The program's moved. -/
theorem moved_any (h : Int) (xs : List (List Int)) (hv : Yv.valid h xs = true) (f t : Int) (A : Option Addr) (c : Nat) (w : World) (hC : Kd.C dR w A xs.length xs) (hcl : xs.length ≤ c) :
    Calls Try.prog 50 #[.agg #[.int .i64 h, .slice A xs.length c], .int .i64 f, .int .i64 t] w (Out h (moveR h xs f t) w) := by
  obtain ⟨p1, p2, p3, p4, p5, -⟩ := valid_parts hv
  have hr4 : ∀ r ∈ xs, r.length ≤ 4 := fun r hr => by have := p5 r hr; omega
  rcases move_cases h xs f t with h1 | ⟨i, rfl, hi, h1 | rfl | ⟨j, rfl, hj, hij, h1 | ⟨h1, h2 | h2⟩⟩⟩
  · rw [moveR, if_neg (by rw [moveB_no1 h1]; decide)]
    exact (Ymv.no_from h xs p4 p2 hr4 f t h1 A c w hC hcl).mono fun e w' hh => out_none hh.1 hh.2
  · rw [moveR, if_neg (by rw [moveB_no2 h1]; decide)]
    exact (Ymv.no_to h xs p4 p2 hr4 i hi t h1 A c w hC hcl).mono fun e w' hh => out_none hh.1 hh.2
  · rw [moveR, if_neg (by rw [moveB_no3]; decide)]
    exact (Ymv.no_same h xs p4 p2 hr4 i hi A c w hC hcl).mono fun e w' hh => out_none hh.1 hh.2
  · rw [moveR, if_neg (by rw [moveB_no4 hi h1]; decide)]
    exact (Ymv.no_lot h xs p4 p2 hr4 i j hi hj hij h1 A c w hC hcl).mono fun e w' hh => out_none hh.1 hh.2
  · rw [moveR, if_neg (by rw [moveB_no5 hj h2]; decide)]
    have := p5 _ (List.getElem_mem hj)
    exact (Ymv.no_room h xs p4 p2 hr4 i j hi hj hij h1 (by omega) A c w hC hcl).mono fun e w' hh => out_none hh.1 hh.2
  · rw [moveR, if_pos (moveB_yes hi hj hij h1 h2)]
    exact (Ymv.yes h xs p4 p2 hr4 i j hi hj hij h1 h2 A c w hC hcl).mono fun e w' ⟨v, h1, h2, h3⟩ => ⟨v, h1, h2, h3⟩
/-- The reference's l09Move. -/
theorem move_any (lo g : Nat) (h : Int) (xs : List (List Int)) (hv : Yv.valid h xs = true) (f t : Int) (W : World) (y : YO lo W g h xs) :
    Calls Try.prog 55 #[.pointer (some ⟨g, 0, none⟩), .int .i64 f, .int .i64 t] W fun e w' => e = .returned (.bool (moveB h xs f t)) ∧ YO lo w' g h ((moveR h xs f t).getD xs) ∧ Below lo W w' := by
  obtain ⟨p1, p2, p3, p4, p5, -⟩ := valid_parts hv
  have hr4 : ∀ r ∈ xs, r.length ≤ 4 := fun r hr => by have := p5 r hr; omega
  have hlo : lo ≤ W.heap.size := y.choose_spec.choose_spec.2.2.1
  rcases move_cases h xs f t with h1 | ⟨i, rfl, hi, h1 | rfl | ⟨j, rfl, hj, hij, h1 | ⟨h1, h2 | h2⟩⟩⟩
  · rw [moveR, moveB_no1 h1, if_neg (by decide)]
    exact (Yx.no_from lo g h xs (by omega) f t h1 W y).mono fun e w' hh => ⟨hh.1, y.below hh.2, hh.2.mono hlo⟩
  · rw [moveR, moveB_no2 h1, if_neg (by decide)]
    exact (Yx.no_to lo g h xs (by omega) i hi t h1 W y).mono fun e w' hh => ⟨hh.1, y.below hh.2, hh.2.mono hlo⟩
  · rw [moveR, moveB_no3, if_neg (by decide)]
    exact (Yx.no_same lo g h xs (by omega) i hi W y).mono fun e w' hh => ⟨hh.1, y.below hh.2, hh.2.mono hlo⟩
  · rw [moveR, moveB_no4 hi h1, if_neg (by decide)]
    exact (Yx.no_lot lo g h xs (by omega) i j hi hj hij h1 W y).mono fun e w' hh => ⟨hh.1, y.below hh.2, hh.2.mono hlo⟩
  · rw [moveR, moveB_no5 hj h2, if_neg (by decide)]
    exact (Yx.no_room lo g h xs (by omega) i j hi hj hij h1 h2 W y).mono fun e w' hh => ⟨hh.1, y.below hh.2, hh.2.mono hlo⟩
  · rw [moveR, moveB_yes hi hj hij h1 h2, if_pos rfl]
    exact (Yt.move_yes lo g h xs i j hi hj hij h1 h2 p4 p2 hr4 W y).mono fun e w' hh => ⟨hh.1, hh.2.1, hh.2.2⟩
end Go.Proofs.Ytibaiaenfeppcaa.Yq

/- Words of the laws whose results are yards: rows of cut capacity made, marked, held. -/
namespace Go.Proofs.Ytibaiaenfeppcaa.Lx
set_option linter.unusedVariables false
open Go Go.RowKit Go.Proofs.YtibaiaenfeppcaaW.PrintWords Go.Proofs.YtibaiaenfeppcaaW.PrintLast Go.Proofs.YtibaiaenfeppcaaW.PrintMore Go.Proofs.Ytibaiaenfeppcaa.Q Go.Proofs.Ytibaiaenfeppcaa.PuY Go.Proofs.Ytibaiaenfeppcaa.Lw Go.Proofs.Ytibaiaenfeppcaa.Ow Go.Proofs.Ytibaiaenfeppcaa.Yq
/-- A list of rows that was made between two block numbers, rows cut or not. -/
structure WS (lo hi : Nat) (w : World) (v : Value) (xs : List (List Int)) : Prop where
  s : Kd.S dW 31 w lo (fun k => lo ≤ k ∧ k < hi) v xs
  le : hi ≤ w.heap.size
theorem WS.make {w w' : World} {v : Value} {xs : List (List Int)} (h : Kd.S dW 31 w' w.heap.size (fun _ => True) v xs) : WS w.heap.size w'.heap.size w' v xs := ⟨Kd.S_mono (Kd.S_bound h) (fun _ hk => ⟨hk.2.1, hk.2.2.1⟩), Nat.le_refl _⟩
theorem WS.below {lo hi : Nat} {w w' : World} {v : Value} {xs : List (List Int)} (h : WS lo hi w v xs) (hb : Below w.heap.size w w') : WS lo hi w' v xs := ⟨Kd.S_below h.s hb, Nat.le_trans h.le hb.size⟩
theorem WS.kept {lo hi : Nat} {w w' : World} {v : Value} {xs : List (List Int)} {T : Nat → Prop} (h : WS lo hi w v xs) (hk : Kept w w' T) (hT : ∀ k, lo ≤ k → k < hi → ¬ T k) : WS lo hi w' v xs :=
  ⟨Kd.S_kept (S := T) h.s hk (fun k hk => hT k hk.1 hk.2), Nat.le_trans h.le hk.1⟩
theorem WS.reads {lo hi : Nat} {w : World} {v : Value} {xs : List (List Int)} (h : WS lo hi w v xs) : ∃ A c, v = .slice A xs.length c ∧ xs.length ≤ c ∧ Kd.C dR w A xs.length xs := Kd.S_reads (d := dW) h.s
theorem WS.c {lo hi : Nat} {w : World} {A : Option Addr} {c n : Nat} {xs : List (List Int)} (h : WS lo hi w (.slice A n c) xs) : Kd.C dR w A xs.length xs := (Kd.S_reads' (d := dW) h.s).2.2
theorem upTo_snoc (a : Int) (j : Nat) : (upTo a (j + 1)) = upTo a j ++ [a + (j : Int)] := by simp [upTo, List.range_succ]
set_option maxRecDepth 100000 in
set_option maxHeartbeats 2000000 in
/-- Marking a row whose capacity may be cut. -/
theorem markW_any (P : Nat → Prop) (v : Value) (l : List Int) (hl : l.length ≤ 1048576) (a : Int) (ha : 0 ≤ a) (hb : a ≤ 100000000) (w0 w : World) (hB : Below w0.heap.size w0 w) (ho : RowW w w0.heap.size P v l) :
    Calls Try.prog 19 #[v, .int .i64 a] w fun e w' => e = .returned (.int .i64 (a + (l.length : Int))) ∧ RowW w' w0.heap.size (fun k => P k ∨ w.heap.size ≤ k) v (upTo a l.length) ∧ Below w0.heap.size w0 w' ∧ Kept w w' P := by
  obtain ⟨n, hn⟩ : ∃ n, n = l.length := ⟨_, rfl⟩
  have HB := Aside0.mk hB
  have HN := Aside0.mk hn
  have hn1 : n ≤ 1048576 := by omega
  rcases ho with ⟨rfl, rfl⟩ | ⟨g, cap, cur, rfl, hg, hp, hh, h1, h2, h3, h4⟩
  · simp only [List.length_nil] at hn ⊢
    subst hn
    clear hB HN
    go_enter Try.func19, Try.ntmps19
    go_wp2
    go_loopw [1, 5] (fun v1 v5 wz => v1 = .int .i64 a ∧ v5 = .int .i64 0 ∧ Aside0 (Below w0.heap.size w0 wz) ∧ Aside0 (Kept w wz P)) (fun _ v _ => 0)
    case atStart => exact ⟨rfl, rfl, HB, ⟨Kept.refl _ _⟩⟩
    case round =>
      obtain ⟨rfl, rfl, hb, hk⟩ := hrel
      go_wp2
      go_ret
      exact ⟨Ha.ret_int (by simp), .inl ⟨rfl, rfl⟩, hb.out, hk.out⟩
  · rw [← hn] at h1 h4 ⊢
    have HG := Aside0.mk hg
    have HP := Aside0.mk hp
    have HH := Aside0.mk hh
    have H123 := Aside0.mk (And.intro h1 (And.intro h2 h3))
    clear hB hn hg hp hh h1 h2 h3 h4
    go_enter Try.func19, Try.ntmps19
    go_wp2
    go_loopw [1, 5] (fun v1 v5 wz => ∃ j : Nat, j ≤ n ∧ v5 = .int .i64 (j : Int) ∧ v1 = .int .i64 (a + (j : Int)) ∧ Aside0 (∃ cz : Array Value, wz.heap[g]? = some (.cells cz 2 (0, 0)) ∧ cz.size = cur.size ∧ cz.toList.take j = nums .i64 (upTo a j)) ∧ Aside0 (Below w0.heap.size w0 wz) ∧ Aside0 (Kept w wz P)) (fun _ v _ => n - (intOf v).toNat)
    case atStart => exact ⟨0, by omega, rfl, by simp, ⟨cur, HH.out, rfl, by simp [upTo, nums]⟩, HB, ⟨Kept.refl _ _⟩⟩
    case round =>
      obtain ⟨j, hj, rfl, rfl, hZ, hb, hk⟩ := hrel
      by_cases hlt : j < n
      · have c0 : decide ((j : Int) < (n : Int)) = true := decide_eq_true (by omega)
        have p1 : (0 ≤ (j : Int)) = True := eq_true (by omega)
        have q1 : ((j : Int) < (n : Int)) = True := eq_true (by omega)
        obtain ⟨cz, z1, z2, z3⟩ := hZ.out
        have hjc : j < cz.size := by have := H123.out; omega
        have x1 : wr.cell? ⟨g, j, none⟩ = some cz[j] := (blk_cell z1 j).trans (Array.getElem?_eq_getElem hjc)
        have x2 := blk_frozen z1 j
        have Z := Aside0.mk (And.intro z1 (And.intro z2 z3))
        have HJ := Aside0.mk hlt
        have HJC := Aside0.mk hjc
        have HW := Aside0.mk (show wrap64 ((j : Int) + 1) = ((j + 1 : Nat) : Int) by unfold wrap64; omega)
        have HV := Aside0.mk (show wrap64 (a + (j : Int) + 1) = a + ((j + 1 : Nat) : Int) by unfold wrap64; omega)
        clear z1 z2 z3 hZ
        go_wp2_with (fail)
        go_roundw
        case rel =>
          refine ⟨j + 1, by have := HJ.out; omega, by have h2 := HW.out; first | (congr 1; done) | (congr 1; omega), by have := HV.out; first | (congr 1; done) | (congr 1; omega), ⟨cz.setIfInBounds j (.int .i64 (a + (j : Int))), ?_, by rw [Array.size_setIfInBounds, Z.out.2.1], ?_⟩, ⟨?_⟩, ⟨?_⟩⟩
          · first | exact blk_put Z.out.1 j _ rfl | exact blk_drewN (blk_put Z.out.1 j _ rfl) _
          · rw [upTo_snoc, Array.toList_setIfInBounds, List.take_succ_eq_append_getElem (by rw [List.length_set, Array.length_toList]; exact HJC.out), List.getElem_set_self, List.take_set_of_le (Nat.le_refl j), Z.out.2.2]
            simp [nums]
          · first | exact below_set hb.out HG.out | exact pw_below_drewN (below_set hb.out HG.out) _
          · exact Kept.setCell hk.out (p := ⟨g, j, none⟩) (.inl HP.out) _
        case measure => have := HJ.out; have h2 := HW.out; simp only [intOf]; omega
      · have c0 : decide ((j : Int) < (n : Int)) = false := decide_eq_false (by omega)
        obtain rfl : j = n := by omega
        clear hlt hj
        go_wp2
        go_ret
        obtain ⟨cz, z1, z2, z3⟩ := hZ.out
        refine ⟨Ha.ret_int rfl, .inr ⟨g, cap, cz, by rw [upTo_len], HG.out, .inl HP.out, ?_, by rw [upTo_len]; exact H123.out.1, H123.out.2.1, by rw [z2]; exact H123.out.2.2, by rw [upTo_len]; exact z3⟩, ?_, ?_⟩
        · exact z1
        · exact hb.out
        · exact hk.out
set_option maxRecDepth 100000 in
set_option maxHeartbeats 2000000 in
theorem markSSW_any (P : Nat → Prop) (v : Value) (l : List (List Int)) (hs : Small l) (w0 w : World) (hB : Below w0.heap.size w0 w) (ho : Kd.S dW 31 w w0.heap.size P v l) :
    Calls Try.prog 37 #[v, .int .i64 1] w fun e w' => e = .returned (.int .i64 (1 + (l.flatten.length : Int))) ∧ Kd.S dW 31 w' w0.heap.size (fun k => P k ∨ w.heap.size ≤ k) v (markL l 1) ∧ Below w0.heap.size w0 w' ∧ Kept w w' P := by
  obtain ⟨hs1, hs2, hs3⟩ := hs
  have HB := Aside0.mk hB
  have HS3 := Aside0.mk hs3
  obtain ⟨n, hn⟩ : ∃ n, n = l.length := ⟨_, rfl⟩
  have HN := Aside0.mk hn
  have hn1 : n ≤ 1048576 := by omega
  obtain ⟨A, c, hv⟩ := Kd.S_slice ho
  rw [← hn] at hv
  subst hv
  have HO := Aside0.mk (show Kd.S dW 31 w w0.heap.size (fun k => P k ∨ w.heap.size ≤ k) (.slice A n c) (markTo l 0) by
    have := Kd.S_mono (ok' := fun k => P k ∨ w.heap.size ≤ k) ho (fun k hk => .inl hk)
    simpa [markTo, markL] using this)
  clear ho hB hs3 hn hs1
  go_enter Try.func37, Try.ntmps37
  go_wp2
  go_loopw [1, 5] (fun v1 v5 wz => ∃ j : Nat, j ≤ n ∧ v5 = .int .i64 (j : Int) ∧ v1 = .int .i64 (1 + ((l.take j).flatten.length : Int)) ∧ Aside0 (Kd.S dW 31 wz w0.heap.size (fun k => P k ∨ w.heap.size ≤ k) (.slice A n c) (markTo l j)) ∧ Aside0 (Below w0.heap.size w0 wz) ∧ Aside0 (Kept w wz P)) (fun _ v _ => n - (intOf v).toNat)
  case atStart => exact ⟨0, by omega, rfl, by simp, HO, HB, ⟨Kept.refl _ _⟩⟩
  case round =>
    obtain ⟨j, hj, rfl, rfl, ho, hb, hk⟩ := hrel
    obtain ⟨m, hm⟩ : ∃ m, m = (l.take j).flatten.length := ⟨_, rfl⟩
    have hm1 := flat_take_le l j
    rw [← hm] at hm1 ⊢
    by_cases hlt : j < n
    · have hjl : j < l.length := by rw [← HN.out]; exact hlt
      have c0 : decide ((j : Int) < (n : Int)) = true := decide_eq_true (by omega)
      have p1 : 0 ≤ (j : Int) := by omega
      have q1 : (j : Int) < (n : Int) := by omega
      obtain ⟨g, rfl⟩ : ∃ g, A = some ⟨g, 0, none⟩ := by
        have hl : (markTo l j).length = n := by rw [markTo_len, HN.out]
        obtain ⟨g, cap, he, _⟩ := Kd.S_form ho.out (by omega)
        injection he with he _ _
        exact ⟨g, he⟩
      obtain ⟨oki, ce, hcl, hM, hcc, hoki, hH⟩ := Kd.S_lend ho.out [] (j : Int) p1 q1
      rw [Int.toNat_natCast, markTo_get l j hjl] at hM
      obtain ⟨u, rfl, hR⟩ := hM
      have hx : wr.cell? ⟨g, j, none⟩ = some u := by
        have := hcc 0 u rfl
        rw [Int.toNat_natCast] at this
        simpa [dW] using this
      have hx' : wr.cell? ((⟨g, 0, none⟩ : Addr).add j) = some u := by rw [add_plain]; exact hx
      obtain ⟨r, hr⟩ : ∃ r, r = l[j] := ⟨_, rfl⟩
      rw [← hr] at hR
      have hrl : r.length ≤ 1048576 := HS3.out r (by rw [hr]; exact List.getElem_mem hjl)
      have hfs := flat_succ l j hjl
      rw [← hr, ← hm] at hfs
      have hft := flat_take_le l (j + 1)
      have hmk := markTo_succ l j hjl
      rw [← hr, ← hm] at hmk
      have HR := Aside0.mk hR
      have HH := Aside0.mk hH
      have HOK := Aside0.mk hoki
      have HF := Aside0.mk hfs
      have HMK := Aside0.mk hmk
      have HW := Aside0.mk (show wrap64 ((j : Int) + 1) = ((j + 1 : Nat) : Int) by unfold wrap64; omega)
      have HMA := Aside0.mk (And.intro (show 0 ≤ 1 + (m : Int) by omega) (show 1 + (m : Int) ≤ 100000000 by omega))
      have HRL := Aside0.mk hrl
      have HJ := Aside0.mk hlt
      obtain ⟨Ar, cr, rfl, -, -⟩ := hR.reads
      replace p1 := eq_true p1
      replace q1 := eq_true q1
      clear hfs hmk hR hH hoki hcl hcc hr hm hft
      go_wp2_with (go_at_call 19; refine (markW_any oki (.slice Ar r.length cr) r HRL.out (1 + (m : Int)) HMA.out.1 HMA.out.2 w0 _ hb.out HR.out).mono ?_; rintro e w1 ⟨rfl, hR1, hb1, hk1⟩; have HR1 := Aside0.mk hR1; have HB1 := Aside0.mk hb1; have HK1 := Aside0.mk hk1; clear hR1 hb1 hk1 hx hx')
      go_roundw
      case rel =>
        refine ⟨j + 1, by have := HJ.out; omega, by have h2 := HW.out; first | (congr 1; done) | (congr 1; omega), by have := HF.out; congr 1; omega, ⟨?_⟩, HB1, ⟨?_⟩⟩
        · rw [← HMK.out]
          have hH2 := Kd.H_widen HH.out
          have hH3 := Kd.H_kept (S := oki) hH2 HK1.out (fun k hk1 hn h3 => hn (.inl h3))
          have := Kd.H_back hH3 (x' := upTo (1 + (m : Int)) r.length) ⟨_, rfl, HR1.out⟩ (fun k hk' => hk'.elim .inl (fun h => .inr ⟨.inr (Nat.le_trans hk.out.1 h), h⟩))
          rw [Int.toNat_natCast] at this; exact this
        · exact (hk.out.then_ HK1.out (fun k hk1 => by
            rcases (HOK.out k hk1).1 with h | h
            · exact .inl h
            · exact .inr h))
      case measure => have := HJ.out; have h2 := HW.out; simp only [intOf]; omega
    · have c0 : decide ((j : Int) < (n : Int)) = false := decide_eq_false (by omega)
      obtain rfl : j = n := by omega
      have HM := Aside0.mk hm
      clear hlt hj hm
      go_wp2
      go_ret
      have e1 : l.take j = l := by rw [HN.out, List.take_length]
      have e2 : markTo l j = markL l 1 := by unfold markTo; rw [e1, HN.out, List.drop_length, List.append_nil]
      refine ⟨Ha.ret_int (by rw [HM.out, e1]), by rw [← e2]; exact ho.out, hb.out, hk.out⟩
/-- Marking a yard. -/
theorem markYardW_any (h : Int) (P : Nat → Prop) (v : Value) (l : List (List Int)) (hs : Small l) (w0 w : World) (hB : Below w0.heap.size w0 w) (ho : Kd.S dW 31 w w0.heap.size P v l) :
    Calls Try.prog 18 #[.agg #[.int .i64 h, v], .int .i64 1] w fun e w' => e = .returned (.int .i64 (1 + (l.flatten.length : Int))) ∧ Kd.S dW 31 w' w0.heap.size (fun k => P k ∨ w.heap.size ≤ k) v (markL l 1) ∧ Below w0.heap.size w0 w' ∧ Kept w w' P := by
  obtain ⟨A, c, rfl⟩ := Kd.S_slice ho
  obtain ⟨n, hn⟩ : ∃ n, n = l.length := ⟨_, rfl⟩
  rw [← hn] at ho ⊢
  obtain ⟨q, hq⟩ : ∃ q, q = l.flatten.length := ⟨_, rfl⟩
  rw [← hq]
  have HQ := Aside0.mk hq
  have hu := Try.underlying27
  have HB := Aside0.mk hB
  have HO := Aside0.mk ho
  have HS := Aside0.mk hs
  clear hB ho hs hn hq
  go_enter Try.func18, Try.ntmps18
  go_wp2_with (go_at_call 37; refine (markSSW_any P _ l HS.out w0 _ (HB.out.trans (below_alloc (Below.refl _ _) (.cells #[.int .i64 h, .slice A n c] 27) |>.mono HB.out.size)) (Kd.S_alloc HO.out _)).mono ?_; rintro e w1 ⟨he, h1, h2, h3⟩; rw [← HQ.out] at he; subst he; have H1 := Aside0.mk h1; have H2 := Aside0.mk h2; have H3 := Aside0.mk h3; clear h1 h2 h3)
  go_ret
  refine ⟨rfl, Kd.S_mono H1.out (fun k hk => hk.elim .inl (fun h => .inr (Nat.le_trans (by simp) h))), H2.out, (Kept.alloc (Kept.refl w P) _).then_ H3.out (fun k hk => .inl hk)⟩
/-- What was marked is held. -/
theorem heldYard_any (h : Int) {A : Option Addr} {c n : Nat} {W : World} (xs : List (List Int)) (hs : Small xs) (hn : n = xs.length) (hM : Kd.C dR W A (markL xs 1).length (markL xs 1)) (hc : n ≤ c) :
    Calls Try.prog 31 #[.agg #[.int .i64 h, .slice A n c], .int .i64 1] W fun e w' => e = .returned (.int .i64 (1 + (xs.flatten.length : Int))) ∧ Below W.heap.size W w' := by
  have := laws_heldYard.calls 4000000 h A c (markL xs 1) 1 _ W hM (by rw [markL_len]; omega) (heldYard_eq h xs hs 4000000 (by decide))
  rw [markL_len, ← hn] at this
  exact this
end Go.Proofs.Ytibaiaenfeppcaa.Lx

/- Marking rows of rows from any number on. -/
namespace Go.Proofs.Ytibaiaenfeppcaa.Lz
set_option linter.unusedVariables false
open Go Go.RowKit Go.Proofs.YtibaiaenfeppcaaW.PrintWords Go.Proofs.YtibaiaenfeppcaaW.PrintLast Go.Proofs.YtibaiaenfeppcaaW.PrintMore Go.Proofs.Ytibaiaenfeppcaa.Q Go.Proofs.Ytibaiaenfeppcaa.PuY
open Go.Proofs.Ytibaiaenfeppcaa.Lw hiding markTo markTo_len markTo_get markTo_succ
/-- The first rows have their numbers. -/
def markTo (a : Int) (l : List (List Int)) (j : Nat) : List (List Int) := markL (l.take j) a ++ l.drop j
theorem markTo_len (a : Int) (l : List (List Int)) (j : Nat) : (markTo a l j).length = l.length := by
  simp only [markTo, List.length_append, markL_len, List.length_take, List.length_drop]; omega
theorem markTo_get (a : Int) (l : List (List Int)) (j : Nat) (h : j < l.length) : (markTo a l j).getD j [] = l[j] := by
  have : (markL (l.take j) a).length = j := by rw [markL_len, List.length_take]; omega
  rw [markTo, List.getD_eq_getElem?_getD, List.getElem?_append_right (by omega), this, Nat.sub_self, List.getElem?_drop, Nat.add_zero, List.getElem?_eq_getElem h]; rfl
theorem markTo_succ (a : Int) (l : List (List Int)) (j : Nat) (h : j < l.length) : (markTo a l j).set j (upTo (a + ((l.take j).flatten.length : Int)) l[j].length) = markTo a l (j + 1) := by
  have e : (markL (l.take j) a).length = j := by rw [markL_len, List.length_take]; omega
  unfold markTo
  rw [List.take_succ_eq_append_getElem h, markL_snoc, List.set_append_right _ _ (by omega), e, Nat.sub_self, List.drop_eq_getElem_cons h]
  simp only [List.set_cons_zero, List.append_assoc, List.cons_append, List.nil_append]
set_option maxRecDepth 100000 in
set_option maxHeartbeats 2000000 in
theorem markSSA_any (a : Int) (ha : 0 ≤ a) (ha2 : a ≤ 2000000) (P : Nat → Prop) (v : Value) (l : List (List Int)) (hs : Small l) (w0 w : World) (hB : Below w0.heap.size w0 w) (ho : Kd.S dR 31 w w0.heap.size P v l) :
    Calls Try.prog 37 #[v, .int .i64 a] w fun e w' => e = .returned (.int .i64 (a + (l.flatten.length : Int))) ∧ Kd.S dR 31 w' w0.heap.size (fun k => P k ∨ w.heap.size ≤ k) v (markL l a) ∧ Below w0.heap.size w0 w' ∧ Kept w w' P := by
  obtain ⟨hs1, hs2, hs3⟩ := hs
  have HB := Aside0.mk hB
  have HS3 := Aside0.mk hs3
  obtain ⟨n, hn⟩ : ∃ n, n = l.length := ⟨_, rfl⟩
  have HN := Aside0.mk hn
  have hn1 : n ≤ 1048576 := by omega
  obtain ⟨A, c, hv⟩ := Kd.S_slice ho
  rw [← hn] at hv
  subst hv
  have HO := Aside0.mk (show Kd.S dR 31 w w0.heap.size (fun k => P k ∨ w.heap.size ≤ k) (.slice A n c) (markTo a l 0) by
    have := Kd.S_mono (ok' := fun k => P k ∨ w.heap.size ≤ k) ho (fun k hk => .inl hk)
    simpa [markTo, markL] using this)
  clear ho hB hs3 hn hs1
  go_enter Try.func37, Try.ntmps37
  go_wp2
  go_loopw [1, 5] (fun v1 v5 wz => ∃ j : Nat, j ≤ n ∧ v5 = .int .i64 (j : Int) ∧ v1 = .int .i64 (a + ((l.take j).flatten.length : Int)) ∧ Aside0 (Kd.S dR 31 wz w0.heap.size (fun k => P k ∨ w.heap.size ≤ k) (.slice A n c) (markTo a l j)) ∧ Aside0 (Below w0.heap.size w0 wz) ∧ Aside0 (Kept w wz P)) (fun _ v _ => n - (intOf v).toNat)
  case atStart => exact ⟨0, by omega, rfl, by simp, HO, HB, ⟨Kept.refl _ _⟩⟩
  case round =>
    obtain ⟨j, hj, rfl, rfl, ho, hb, hk⟩ := hrel
    obtain ⟨m, hm⟩ : ∃ m, m = (l.take j).flatten.length := ⟨_, rfl⟩
    have hm1 := flat_take_le l j
    rw [← hm] at hm1 ⊢
    by_cases hlt : j < n
    · have hjl : j < l.length := by rw [← HN.out]; exact hlt
      have c0 : decide ((j : Int) < (n : Int)) = true := decide_eq_true (by omega)
      have p1 : 0 ≤ (j : Int) := by omega
      have q1 : (j : Int) < (n : Int) := by omega
      obtain ⟨g, rfl⟩ : ∃ g, A = some ⟨g, 0, none⟩ := by
        have hl : (markTo a l j).length = n := by rw [markTo_len, HN.out]
        obtain ⟨g, cap, he, _⟩ := Kd.S_form ho.out (by omega)
        injection he with he _ _
        exact ⟨g, he⟩
      obtain ⟨oki, ce, hcl, hM, hcc, hoki, hH⟩ := Kd.S_lend ho.out [] (j : Int) p1 q1
      rw [Int.toNat_natCast, markTo_get a l j hjl] at hM
      obtain ⟨u, rfl, hR⟩ := hM
      have hx : wr.cell? ⟨g, j, none⟩ = some u := by
        have := hcc 0 u rfl
        rw [Int.toNat_natCast] at this
        simpa [dR, Kd.slice] using this
      have hx' : wr.cell? ((⟨g, 0, none⟩ : Addr).add j) = some u := by rw [add_plain]; exact hx
      obtain ⟨r, hr⟩ : ∃ r, r = l[j] := ⟨_, rfl⟩
      rw [← hr] at hR
      have hrl : r.length ≤ 1048576 := HS3.out r (by rw [hr]; exact List.getElem_mem hjl)
      have hfs := flat_succ l j hjl
      rw [← hr, ← hm] at hfs
      have hft := flat_take_le l (j + 1)
      have hmk := markTo_succ a l j hjl
      rw [← hr, ← hm] at hmk
      have HR := Aside0.mk hR
      have HH := Aside0.mk hH
      have HOK := Aside0.mk hoki
      have HF := Aside0.mk hfs
      have HMK := Aside0.mk hmk
      have HW := Aside0.mk (show wrap64 ((j : Int) + 1) = ((j + 1 : Nat) : Int) by unfold wrap64; omega)
      have HME := Aside0.mk (mark_eq r hrl (a + (m : Int)) (by omega) (by omega) 2000000 (by decide))
      have HJ := Aside0.mk hlt
      obtain ⟨Ar, cr, rfl⟩ := Kd.R_slice hR
      replace p1 := eq_true p1
      replace q1 := eq_true q1
      clear hfs hmk hR hH hoki hcl hcc hr hm hft
      go_wp2_with (go_at_call 19; refine (laws_markInt64S.calls 2000000 oki (.slice Ar r.length cr) r (a + (m : Int)) (a + (m : Int) + (r.length : Int)) (upTo (a + (m : Int)) r.length) w0 _ hb.out HR.out HME.out).mono ?_; rintro e w1 ⟨rfl, hR1, hb1, hk1⟩; have HR1 := Aside0.mk hR1; have HB1 := Aside0.mk hb1; have HK1 := Aside0.mk hk1; clear hR1 hb1 hk1 hx hx')
      go_roundw
      case rel =>
        refine ⟨j + 1, by have := HJ.out; omega, by have h2 := HW.out; first | (congr 1; done) | (congr 1; omega), by have := HF.out; congr 1; omega, ⟨?_⟩, HB1, ⟨?_⟩⟩
        · rw [← HMK.out]
          have hH2 := Kd.H_widen HH.out
          have hH3 := Kd.H_kept (S := oki) hH2 HK1.out (fun k hk1 hn h3 => hn (.inl h3))
          have := Kd.H_back hH3 (x' := upTo (a + (m : Int)) r.length) ⟨_, rfl, HR1.out⟩ (fun k hk' => hk'.elim .inl (fun h => .inr ⟨.inr (Nat.le_trans hk.out.1 h), h⟩))
          rw [Int.toNat_natCast] at this; exact this
        · exact (hk.out.then_ HK1.out (fun k hk1 => by
            rcases (HOK.out k hk1).1 with h | h
            · exact .inl h
            · exact .inr h))
      case measure => have := HJ.out; have h2 := HW.out; simp only [intOf]; omega
    · have c0 : decide ((j : Int) < (n : Int)) = false := decide_eq_false (by omega)
      obtain rfl : j = n := by omega
      have HM := Aside0.mk hm
      clear hlt hj hm
      go_wp2
      go_ret
      have e1 : l.take j = l := by rw [HN.out, List.take_length]
      have e2 : markTo a l j = markL l a := by unfold markTo; rw [e1, HN.out, List.drop_length, List.append_nil]
      refine ⟨Ha.ret_int (by rw [HM.out, e1]), by rw [← e2]; exact ho.out, hb.out, hk.out⟩
end Go.Proofs.Ytibaiaenfeppcaa.Lz

/- The next lot: both sides find it. -/
namespace Go.Proofs.Ytibaiaenfeppcaa.PuTN
open Go Go.RowKit Go.Proofs.YtibaiaenfeppcaaW.PrintWords Go.Proofs.YtibaiaenfeppcaaW.PrintLast Go.Proofs.YtibaiaenfeppcaaW.PrintMore Go.Proofs.Ytibaiaenfeppcaa.Q Go.Proofs.Ytibaiaenfeppcaa.PuY Go.Proofs.Ytibaiaenfeppcaa.PuTO Go.Proofs.Ytibaiaenfeppcaa.Lw Go.Proofs.Ytibaiaenfeppcaa.Ow Go.Proofs.Ytibaiaenfeppcaa.Yo Go.Proofs.Ytibaiaenfeppcaa.Yk Go.Proofs.Ytibaiaenfeppcaa.Yq
set_option linter.unusedVariables false
theorem minOf_spec (l : List Int) : ∀ m : Int, (l.foldl (fun m x => if x < m then x else m) m ≤ m ∧ ∀ x ∈ l, l.foldl (fun m x => if x < m then x else m) m ≤ x) ∧ (l.foldl (fun m x => if x < m then x else m) m = m ∨ l.foldl (fun m x => if x < m then x else m) m ∈ l) := by
  induction l with
  | nil => intro m; exact ⟨⟨Int.le_refl _, fun x hx => by simp at hx⟩, .inl rfl⟩
  | cons y l ih =>
    intro m
    simp only [List.foldl_cons]
    obtain ⟨⟨h1, h2⟩, h3⟩ := ih (if y < m then y else m)
    have e : (if y < m then y else m) ≤ m ∧ (if y < m then y else m) ≤ y := by split <;> omega
    refine ⟨⟨Int.le_trans h1 e.1, fun x hx => ?_⟩, ?_⟩
    · rcases List.mem_cons.1 hx with rfl | hx
      · exact Int.le_trans h1 e.2
      · exact h2 x hx
    · rcases h3 with h3 | h3
      · rw [h3]
        by_cases c : y < m
        · rw [if_pos c]; exact .inr (List.mem_cons_self ..)
        · rw [if_neg c]; exact .inl rfl
      · exact .inr (List.mem_cons_of_mem _ h3)
theorem minOf_mem (l : List Int) (h : l ≠ []) : Yv.minOf l ∈ l ∧ ∀ x ∈ l, Yv.minOf l ≤ x := by
  cases l with
  | nil => exact absurd rfl h
  | cons y l =>
    obtain ⟨⟨h1, h2⟩, h3⟩ := minOf_spec l y
    refine ⟨?_, fun x hx => ?_⟩
    · rcases h3 with h3 | h3
      · show l.foldl _ y ∈ _
        rw [h3]; exact List.mem_cons_self ..
      · exact List.mem_cons_of_mem _ h3
    · rcases List.mem_cons.1 hx with rfl | hx
      · exact h1
      · exact h2 x hx
/-- The stack with the next lot. -/
def nextR (xs : List (List Int)) : Option Nat := if xs.flatten = [] then none else some (xs.findIdx fun r => decide (Yv.minOf xs.flatten ∈ r))
def nextI (xs : List (List Int)) : Int := match nextR xs with | none => -1 | some i => (i : Int)
theorem nextR_some {xs : List (List Int)} {i : Nat} (h : nextR xs = some i) : ∃ hi : i < xs.length, Yv.minOf xs.flatten ∈ xs[i] ∧ (∀ x ∈ xs.flatten, Yv.minOf xs.flatten ≤ x) ∧ ∀ j (hj : j < i), Yv.minOf xs.flatten ∉ xs[j] := by
  unfold nextR at h
  by_cases h0 : xs.flatten = []
  · rw [if_pos h0] at h; cases h
  rw [if_neg h0] at h
  injection h with h
  obtain ⟨hm, hle⟩ := minOf_mem _ h0
  obtain ⟨r, hr, hmr⟩ := List.mem_flatten.1 hm
  have hi : xs.findIdx (fun r => decide (Yv.minOf xs.flatten ∈ r)) < xs.length := List.findIdx_lt_length_of_exists ⟨r, hr, by simpa using hmr⟩
  subst h
  refine ⟨hi, ?_, hle, fun j hj => ?_⟩
  · have := List.findIdx_getElem (w := hi); simpa using this
  · have := List.not_of_lt_findIdx hj; simpa using this
theorem nextR_is {xs : List (List Int)} {i : Nat} (hi : i < xs.length) (h1 : Yv.minOf xs.flatten ∈ xs[i]) (h2 : ∀ j (hj : j < i), Yv.minOf xs.flatten ∉ xs[j]) : nextR xs = some i := by
  have h0 : xs.flatten ≠ [] := fun h => by
    have := List.mem_flatten.2 ⟨xs[i], List.getElem_mem hi, h1⟩
    rw [h] at this; simp at this
  unfold nextR
  rw [if_neg h0]
  congr 1
  exact (List.findIdx_eq hi).2 ⟨by simpa using h1, fun j hj => by simpa using h2 j hj⟩
/-! the reference's -/
def At (xs : List (List Int)) (S : List Int) (best least : Int) : Prop :=
  (S = [] ∧ best = -1 ∧ least = 100) ∨ ∃ b : Nat, ∃ hb : b < xs.length, best = (b : Int) ∧ least ∈ xs[b] ∧ least ∈ S ∧ (∀ x ∈ S, least ≤ x) ∧ ∀ b' (hb' : b' < b), least ∉ xs[b']
theorem At.step {xs : List (List Int)} {S : List Int} {best least : Int} (h : At xs S best least) (i : Nat) (hi : i < xs.length) (x : Int) (hx : x ∈ xs[i]) (h99 : x ≤ 99) (hS : ∀ b' (hb' : b' < i), ∀ y ∈ xs[b'], y ∈ S) :
    (x < least → At xs (S ++ [x]) (i : Int) x) ∧ (¬ x < least → At xs (S ++ [x]) best least) := by
  constructor
  · intro hlt
    refine .inr ⟨i, hi, rfl, hx, by simp, fun y hy => ?_, fun b' hb' hm => ?_⟩
    · rcases List.mem_append.1 hy with hy | hy
      · rcases h with ⟨rfl, _, _⟩ | ⟨b, hb, _, _, _, h4, _⟩
        · simp at hy
        · have := h4 y hy; omega
      · rcases List.mem_singleton.1 hy with rfl; exact Int.le_refl _
    · have hm' := hS b' hb' x hm
      rcases h with ⟨rfl, _, _⟩ | ⟨b, hb, _, _, _, h4, _⟩
      · simp at hm'
      · have := h4 x hm'; omega
  · intro hge
    rcases h with ⟨rfl, rfl, rfl⟩ | ⟨b, hb, rfl, h2, h3, h4, h5⟩
    · omega
    · refine .inr ⟨b, hb, rfl, h2, by simp [h3], fun y hy => ?_, h5⟩
      rcases List.mem_append.1 hy with hy | hy
      · exact h4 y hy
      · rcases List.mem_singleton.1 hy with rfl; omega
theorem At.last {xs : List (List Int)} {best least : Int} (h : At xs xs.flatten best least) : best = nextI xs := by
  rcases h with ⟨h1, rfl, _⟩ | ⟨b, hb, rfl, h2, h3, h4, h5⟩
  · unfold nextI nextR; rw [if_pos h1]
  · have h0 : xs.flatten ≠ [] := fun h => by rw [h] at h3; simp at h3
    obtain ⟨hm, hle⟩ := minOf_mem _ h0
    have e : Yv.minOf xs.flatten = least := by have a1 := hle _ h3; have a2 := h4 _ hm; omega
    unfold nextI
    rw [nextR_is hb (by rw [e]; exact h2) (by rw [e]; exact h5)]
theorem inner (h : Int) (xs : List (List Int)) (i : Nat) (hi : i < xs.length) (r : List Int) (hr : r = xs[i]) (h99 : ∀ x ∈ r, x ≤ 99) (hl : r.length ≤ 1000) (hn : xs.length ≤ 1000) (F : Nat) (R : Option (Int × Int)) (S0 : List Int) (hS0 : ∀ b' (hb' : b' < i), ∀ y ∈ xs[b'], y ∈ S0)
    (hnext : ∀ best least f, F ≤ f → At xs (S0 ++ r) best least → spec_l09Next.l0 f best least ((i + 1 : Nat) : Int) h xs = R) :
    ∀ (d k f : Nat) (best least : Int), k + d = r.length → F + d + 1 ≤ f → At xs (S0 ++ r.take k) best least → spec_l09Next.l1 f best least (i : Int) (k : Int) h xs = R := by
  intro d
  induction d with
  | zero =>
    intro k f best least hk hf ha
    obtain ⟨f, rfl⟩ : ∃ m, f = m + 1 := ⟨f - 1, by omega⟩
    simp only [spec_l09Next.l1]
    rw [if_pos (by omega), if_pos (by omega), rdL_at xs i hi, ← hr, if_neg (by omega), wrap_succ i (by omega)]
    rw [List.take_of_length_le (by omega)] at ha
    exact hnext best least f (by omega) ha
  | succ d ih =>
    intro k f best least hk hf ha
    obtain ⟨f, rfl⟩ : ∃ m, f = m + 1 := ⟨f - 1, by omega⟩
    have hkl : k < r.length := by omega
    simp only [spec_l09Next.l1]
    rw [if_pos (by omega), if_pos (by omega), rdL_at xs i hi, ← hr, if_pos (by omega), if_pos (by omega), rd_at r k hkl, wrap_succ k (by omega)]
    have hs := ha.step i hi r[k] (by rw [← hr]; exact List.getElem_mem hkl) (h99 _ (List.getElem_mem hkl)) (fun b' hb' y hy => List.mem_append_left _ (hS0 b' hb' y hy))
    rw [List.append_assoc, ← List.take_succ_eq_append_getElem hkl] at hs
    by_cases hc : r[k] < least
    · rw [if_pos hc]; exact ih (k + 1) f _ _ (by omega) (by omega) (hs.1 hc)
    · rw [if_neg hc]; exact ih (k + 1) f _ _ (by omega) (by omega) (hs.2 hc)
theorem outer (h : Int) (xs : List (List Int)) (h99 : ∀ x ∈ xs.flatten, x ≤ 99) (hl : ∀ r ∈ xs, r.length ≤ 1000) (hn : xs.length ≤ 1000) :
    ∀ (d i f : Nat) (best least : Int), i + d = xs.length → 1003 * d + 1 ≤ f → At xs (xs.take i).flatten best least → spec_l09Next.l0 f best least (i : Int) h xs = some (nextI xs, h) := by
  intro d
  induction d with
  | zero =>
    intro i f best least hi hf ha
    obtain ⟨f, rfl⟩ : ∃ m, f = m + 1 := ⟨f - 1, by omega⟩
    simp only [spec_l09Next.l0]
    rw [List.take_of_length_le (by omega)] at ha
    rw [if_neg (by omega), ha.last]
  | succ d ih =>
    intro i f best least hi hf ha
    obtain ⟨f, rfl⟩ : ∃ m, f = m + 1 := ⟨f - 1, by omega⟩
    have hil : i < xs.length := by omega
    have hrl := hl xs[i] (List.getElem_mem hil)
    simp only [spec_l09Next.l0]
    rw [if_pos (by omega)]
    refine inner h xs i hil xs[i] rfl (fun x hx => h99 x (List.mem_flatten.2 ⟨_, List.getElem_mem hil, hx⟩)) hrl hn (1003 * d + 1) _ (xs.take i).flatten (fun b' hb' y hy => List.mem_flatten.2 ⟨_, List.mem_take_iff_getElem.2 ⟨b', by omega, rfl⟩, hy⟩) (fun best least f hf ha => ?_) xs[i].length 0 f best least (by omega) (by omega) (by simpa using ha)
    refine ih (i + 1) f best least (by omega) hf ?_
    rw [List.take_succ_eq_append_getElem hil, List.flatten_append]
    simpa using ha
theorem next_eq (h : Int) (xs : List (List Int)) (h99 : ∀ x ∈ xs.flatten, x ≤ 99) (hl : ∀ r ∈ xs, r.length ≤ 1000) (hn : xs.length ≤ 1000) : spec_l09Next.f 2000000 h xs = some (nextI xs, h) :=
  outer h xs h99 hl hn xs.length 0 2000000 (-1) 100 (by omega) (by omega) (.inl ⟨by simp, rfl, rfl⟩)
/-! the program's -/
theorem index_eq (r : List Int) (m : Int) (hl : r.length ≤ 1000) : ∀ (d i f : Nat), i + d = r.length → d + 1 ≤ f → (∀ j (hj : j < r.length), j < i → r[j] ≠ m) →
    ∃ p : Int, slices_Index_int64_int64.l0 f r m (r.length : Int) (i : Int) = some p ∧ ((m ∉ r ∧ p = -1) ∨ ∃ q : Nat, p = (q : Int) ∧ ∃ hq : q < r.length, r[q] = m) := by
  intro d
  induction d with
  | zero =>
    intro i f hi hf hj
    obtain ⟨f, rfl⟩ : ∃ m, f = m + 1 := ⟨f - 1, by omega⟩
    simp only [slices_Index_int64_int64.l0]
    rw [if_neg (by omega)]
    refine ⟨_, rfl, .inl ⟨fun hm => ?_, rfl⟩⟩
    obtain ⟨j, hjl, e⟩ := List.mem_iff_getElem.1 hm
    exact hj j hjl (by omega) e
  | succ d ih =>
    intro i f hi hf hj
    obtain ⟨f, rfl⟩ : ∃ m, f = m + 1 := ⟨f - 1, by omega⟩
    have hil : i < r.length := by omega
    simp only [slices_Index_int64_int64.l0]
    rw [if_pos (by omega), if_pos (by omega), if_pos (by omega), rd_at r i hil, wrap_succ i (by omega)]
    by_cases hc : m = r[i]
    · rw [if_pos hc]; exact ⟨_, rfl, .inr ⟨i, rfl, hil, hc.symm⟩⟩
    · rw [if_neg hc]
      refine ih (i + 1) f (by omega) (by omega) (fun j hjl hlt => ?_)
      by_cases h : j = i
      · subst h; exact fun e => hc e.symm
      · exact hj j hjl (by omega)
def topB (xs : List (List Int)) : Bool := match nextR xs with | none => false | some i => !lowB (xs.getD i [])
/-- The next lot lies topmost just where no lot of its stack lies below a greater topmost one. -/
theorem top_iff (r : List Int) (hnd : r.Nodup) (m : Int) (hle : ∀ x ∈ r, m ≤ x) (q : Nat) (hq : q < r.length) (e : r[q] = m) : ((q : Int) == wrap64 ((r.length : Int) - 1)) = !lowB r ∨ 1000 < r.length := by
  by_cases hl : r.length ≤ 1000
  · left
    have hw : wrap64 ((r.length : Int) - 1) = (r.length : Int) - 1 := wrap_id (by omega) (by omega)
    have hlast : rd r ((r.length : Int) - 1) = r[r.length - 1]'(by omega) := by
      rw [show (r.length : Int) - 1 = ((r.length - 1 : Nat) : Int) by omega, rd_at r _ (by omega)]
    rw [hw]
    by_cases h : q = r.length - 1
    · rw [show ((q : Int) == (r.length : Int) - 1) = true from beq_iff_eq.2 (by omega)]
      rw [low_no r (fun k hk => ?_)]
      · rfl
      · rw [hlast, rd_at r k (by omega)]
        have := hle r[k] (List.getElem_mem _)
        subst h
        omega
    · rw [show ((q : Int) == (r.length : Int) - 1) = false from beq_eq_false_iff_ne.2 (by omega)]
      rw [low_yes r q (by omega)]
      · rfl
      · rw [hlast, rd_at r q hq]
        have h1 := hle (r[r.length - 1]'(by omega)) (List.getElem_mem _)
        have h2 : r[q] ≠ r[r.length - 1]'(by omega) := fun e' => h ((List.getElem_inj hnd).1 e')
        omega
  · right; omega
theorem holder_loop (xs : List (List Int)) (hl : ∀ r ∈ xs, r.length ≤ 1000) (hn : xs.length ≤ 1000) (hnd : ∀ r ∈ xs, r.Nodup) (i0 : Nat) (h0 : nextR xs = some i0) :
    ∀ (d i f : Nat), i + d = xs.length → i ≤ i0 → 2000 + d ≤ f → impl_Yard_holder.l0 f (Yv.minOf xs.flatten) xs (xs.length : Int) (i : Int) = some ((i0 : Int), !lowB (xs.getD i0 [])) := by
  obtain ⟨hi0, hm, hle, hbef⟩ := nextR_some h0
  intro d
  induction d with
  | zero => intro i f hi hii; omega
  | succ d ih =>
    intro i f hi hii hf
    obtain ⟨f, rfl⟩ : ∃ m, f = m + 1 := ⟨f - 1, by omega⟩
    have hil : i < xs.length := by omega
    have hrl := hl xs[i] (List.getElem_mem hil)
    simp only [impl_Yard_holder.l0]
    rw [if_pos (by omega), if_pos (by omega), if_pos (by omega), rdL_at xs i hil, wrap_succ i (by omega)]
    obtain ⟨p, hp, hcase⟩ := index_eq xs[i] (Yv.minOf xs.flatten) hrl xs[i].length 0 f (by omega) (by omega) (fun j _ hj => absurd hj (by omega))
    have hp' : slices_Index_int64_int64.f f xs[i] (Yv.minOf xs.flatten) = some p := hp
    rw [hp', Option.bind_some]
    rcases hcase with ⟨hnm, rfl⟩ | ⟨q, rfl, hq, e⟩
    · rw [if_neg (by decide)]
      have : i ≠ i0 := fun h => by subst h; exact hnm hm
      exact ih (i + 1) f (by omega) (by omega) (by omega)
    · have hii0 : i = i0 := by
        by_cases h : i < i0
        · exact absurd (e ▸ List.getElem_mem hq) (hbef i h)
        · omega
      subst hii0
      rw [if_pos (by omega), getD_at xs i hil]
      rcases top_iff xs[i] (hnd _ (List.getElem_mem hil)) (Yv.minOf xs.flatten) (fun x hx => hle x (List.mem_flatten.2 ⟨_, List.getElem_mem hil, hx⟩)) q hq e with h | h
      · rw [h]
      · omega
theorem holder_eq (h : Int) (xs : List (List Int)) (hl : ∀ r ∈ xs, r.length ≤ 1000) (hn : xs.length ≤ 1000) (hnd : ∀ r ∈ xs, r.Nodup) : impl_Yard_holder.f 2000000 h xs = some (nextI xs, topB xs) := by
  have hfl := flat_le 1000 xs hl
  have hfl2 : xs.length * 1000 ≤ 1000000 := by omega
  simp only [impl_Yard_holder.f, impl_Yard_lots.f]
  rw [if_pos ⟨by omega, by omega⟩, Option.bind_some]
  by_cases h0 : xs.flatten = []
  · rw [if_pos (by rw [h0]; rfl)]
    unfold nextI topB nextR
    rw [if_pos h0]
  · have hpos : 0 < xs.flatten.length := List.length_pos_iff.2 h0
    rw [if_neg (by omega)]
    simp only [slices_Min_int64_int64.f]
    rw [if_pos hpos, Option.bind_some]
    obtain ⟨i0, hi0⟩ : ∃ i0, nextR xs = some i0 := ⟨_, by unfold nextR; rw [if_neg h0]⟩
    unfold nextI topB
    rw [hi0]
    exact holder_loop xs hl hn hnd i0 hi0 xs.length 0 2000000 (by omega) (by omega) (by omega)
/-! taking -/
def takeR (xs : List (List Int)) : Option (List (List Int)) := match nextR xs with
  | none => none
  | some i => if lowB (xs.getD i []) = true then none else some (xs.set i ((xs.getD i []).take ((xs.getD i []).length - 1)))
end Go.Proofs.Ytibaiaenfeppcaa.PuTN

/- Taking the next lot, told once for all arguments, by both sides. -/
namespace Go.Proofs.Ytibaiaenfeppcaa.Yr
open Go Go.RowKit Go.Proofs.YtibaiaenfeppcaaW.PrintWords Go.Proofs.YtibaiaenfeppcaaW.PrintLast Go.Proofs.YtibaiaenfeppcaaW.PrintMore Go.Proofs.Ytibaiaenfeppcaa.Q Go.Proofs.Ytibaiaenfeppcaa.PuY Go.Proofs.Ytibaiaenfeppcaa.PuTO Go.Proofs.Ytibaiaenfeppcaa.PuTN Go.Proofs.Ytibaiaenfeppcaa.Lw Go.Proofs.Ytibaiaenfeppcaa.Ow Go.Proofs.Ytibaiaenfeppcaa.Yo Go.Proofs.Ytibaiaenfeppcaa.Yk Go.Proofs.Ytibaiaenfeppcaa.Yq
set_option linter.unusedVariables false
theorem row_nodup {xs : List (List Int)} (h : xs.flatten.Nodup) : ∀ r ∈ xs, r.Nodup := fun r hr => h.sublist (List.sublist_flatten_of_mem hr)
theorem take_parts {h : Int} {xs : List (List Int)} (hv : Yv.valid h xs = true) : xs.length ≤ 4 ∧ h ≤ 4 ∧ (∀ r ∈ xs, r.length ≤ 4) ∧ spec_l09Next.f 2000000 h xs = some (nextI xs, h) ∧ impl_Yard_holder.f 2000000 h xs = some (nextI xs, topB xs) := by
  obtain ⟨p1, p2, p3, p4, p5, p6, p7, p8⟩ := valid_parts hv
  have h4 : ∀ r ∈ xs, r.length ≤ 4 := fun r hr => by have := p5 r hr; omega
  exact ⟨p4, p2, h4, next_eq h xs (fun x hx => (p8 x hx).2) (fun r hr => by have := h4 r hr; omega) (by omega), holder_eq h xs (fun r hr => by have := h4 r hr; omega) (by omega) (row_nodup p6)⟩
theorem nextR_pos {xs : List (List Int)} {i : Nat} (h : nextR xs = some i) : ∃ hi : i < xs.length, 0 < xs[i].length := by
  obtain ⟨hi, hm, -⟩ := nextR_some h
  exact ⟨hi, List.length_pos_of_mem hm⟩
/-- The program's taken. -/
theorem taken_any (h : Int) (xs : List (List Int)) (hv : Yv.valid h xs = true) (A : Option Addr) (c : Nat) (w : World) (hC : Kd.C dR w A xs.length xs) (hcl : xs.length ≤ c) :
    Calls Try.prog 51 #[.agg #[.int .i64 h, .slice A xs.length c]] w (Out h (takeR xs) w) := by
  obtain ⟨h1, h2, h3, -, h5⟩ := take_parts hv
  cases hn : nextR xs with
  | none =>
    have e : takeR xs = none := by unfold takeR; rw [hn]
    have e2 : topB xs = false := by unfold topB; rw [hn]
    rw [e2] at h5
    rw [e]
    exact (Ytn.no h xs h1 h2 h3 2000000 _ h5 A c w hC hcl).mono fun e w' hh => out_none hh.1 hh.2
  | some i =>
    obtain ⟨hi, hp⟩ := nextR_pos hn
    have e3 : nextI xs = (i : Int) := by unfold nextI; rw [hn]
    have e2 : topB xs = !lowB (xs.getD i []) := by unfold topB; rw [hn]
    rw [e2, e3] at h5
    by_cases hl : lowB (xs.getD i []) = true
    · have e : takeR xs = none := by unfold takeR; rw [hn]; simp only [hl, if_true]
      rw [e]
      rw [hl] at h5
      exact (Ytn.no h xs h1 h2 h3 2000000 _ h5 A c w hC hcl).mono fun e w' hh => out_none hh.1 hh.2
    · have e : takeR xs = some (xs.set i ((xs.getD i []).take ((xs.getD i []).length - 1))) := by unfold takeR; rw [hn]; simp only [hl]; rfl
      rw [e]
      have hl' : lowB (xs.getD i []) = false := by simpa using hl
      rw [hl'] at h5
      exact (Ytn.yes h xs h1 h2 h3 2000000 i hi hp h5 A c w hC hcl).mono fun e w' ⟨v, a1, a2, a3⟩ => ⟨v, a1, a2, a3⟩
/-- The reference's l09Take. -/
theorem take_any (lo g : Nat) (h : Int) (xs : List (List Int)) (hv : Yv.valid h xs = true) (W : World) (y : YO lo W g h xs) :
    Calls Try.prog 57 #[.pointer (some ⟨g, 0, none⟩)] W fun e w' => e = .returned (.bool (takeR xs).isSome) ∧ YO lo w' g h ((takeR xs).getD xs) ∧ Below lo W w' := by
  obtain ⟨h1, h2, h3, h4, -⟩ := take_parts hv
  have hlo : lo ≤ W.heap.size := y.choose_spec.choose_spec.2.2.1
  cases hn : nextR xs with
  | none =>
    have e : takeR xs = none := by unfold takeR; rw [hn]
    have e3 : nextI xs = -1 := by unfold nextI; rw [hn]
    rw [e]
    rw [e3] at h4
    exact (take_none lo g h xs (-1) (by decide) 2000000 h4 W y).mono fun e w' hh => ⟨hh.1, y.below hh.2, hh.2.mono hlo⟩
  | some i =>
    obtain ⟨hi, hp⟩ := nextR_pos hn
    have e3 : nextI xs = (i : Int) := by unfold nextI; rw [hn]
    rw [e3] at h4
    refine (take_row lo g h xs i hi h1 h3 hp 2000000 h4 W y).mono fun e w' hh => ?_
    obtain ⟨q1, q2, q3⟩ := hh
    have eg := getD_at xs i hi
    by_cases hl : lowB (xs.getD i []) = true
    · have e : takeR xs = none := by unfold takeR; rw [hn]; simp only [hl, if_true]
      rw [eg] at hl
      rw [hl] at q1 q2
      rw [e]
      exact ⟨q1, q2, q3⟩
    · have e : takeR xs = some (xs.set i ((xs.getD i []).take ((xs.getD i []).length - 1))) := by unfold takeR; rw [hn]; simp only [hl]; rfl
      rw [eg] at hl
      have hl' : lowB xs[i] = false := by simpa using hl
      rw [hl'] at q1 q2
      rw [e, eg]
      exact ⟨q1, q2, q3⟩
end Go.Proofs.Ytibaiaenfeppcaa.Yr

/- Clearing a yard and running moves, in plain words. -/
namespace Go.Proofs.Ytibaiaenfeppcaa.PuRM
open Go Go.RowKit Go.Proofs.YtibaiaenfeppcaaW.PrintWords Go.Proofs.YtibaiaenfeppcaaW.PrintLast Go.Proofs.YtibaiaenfeppcaaW.PrintMore Go.Proofs.Ytibaiaenfeppcaa.Q Go.Proofs.Ytibaiaenfeppcaa.PuY Go.Proofs.Ytibaiaenfeppcaa.PuTO Go.Proofs.Ytibaiaenfeppcaa.PuTN Go.Proofs.Ytibaiaenfeppcaa.Yt Go.Proofs.Ytibaiaenfeppcaa.Yk Go.Proofs.Ytibaiaenfeppcaa.Yq Go.Proofs.Ytibaiaenfeppcaa.Yr
set_option linter.unusedVariables false
theorem valid_of {h : Int} {xs : List (List Int)} (p1 : 1 ≤ h) (p2 : h ≤ 4) (p3 : 1 ≤ xs.length) (p4 : xs.length ≤ 4) (p5 : ∀ r ∈ xs, (r.length : Int) ≤ h) (p6 : xs.flatten.Nodup) (p7 : xs.flatten.length ≤ 7) (p8 : ∀ x ∈ xs.flatten, 0 ≤ x ∧ x ≤ 99) : Yv.valid h xs = true := by
  unfold Yv.valid Ha.inB Ha.areIn
  simp only [Bool.and_eq_true, decide_eq_true_eq, List.all_eq_true]
  refine ⟨⟨p1, p2⟩, ⟨by omega, by omega⟩, p5, p6, by omega, fun x hx => ?_⟩
  unfold Ha.inB
  simpa using p8 x hx
theorem flat_split (xs : List (List Int)) (i : Nat) (hi : i < xs.length) : xs.flatten = (xs.take i).flatten ++ (xs[i] ++ (xs.drop (i + 1)).flatten) := by
  conv => lhs; rw [← List.take_append_drop i xs, List.drop_eq_getElem_cons hi]
  rw [List.flatten_append, List.flatten_cons]
theorem flat_set (xs : List (List Int)) (i : Nat) (hi : i < xs.length) (r : List Int) : (xs.set i r).flatten = (xs.take i).flatten ++ (r ++ (xs.drop (i + 1)).flatten) := by
  have hi' : i < (xs.set i r).length := by rw [List.length_set]; exact hi
  rw [flat_split (xs.set i r) i hi', List.getElem_set_self, List.take_set_of_le (Nat.le_refl i), List.drop_set_of_lt (Nat.lt_succ_self i)]
/-- The lots behind taking one out: one fewer, in the same order. -/
theorem cut_sub (xs : List (List Int)) (i : Nat) (hi : i < xs.length) : ((xs.set i (xs[i].take (xs[i].length - 1))).flatten).Sublist xs.flatten := by
  rw [flat_set xs i hi, flat_split xs i hi]
  exact (List.Sublist.refl _).append ((List.take_sublist _ _).append (List.Sublist.refl _))
theorem cut_len (xs : List (List Int)) (i : Nat) (hi : i < xs.length) (hp : 0 < xs[i].length) : (xs.set i (xs[i].take (xs[i].length - 1))).flatten.length + 1 = xs.flatten.length := by
  rw [flat_set xs i hi, flat_split xs i hi]
  simp only [List.length_append, List.length_take]
  omega
theorem take_is {xs ys : List (List Int)} (h : takeR xs = some ys) : ∃ i, nextR xs = some i ∧ ∃ hi : i < xs.length, 0 < xs[i].length ∧ lowB xs[i] = false ∧ ys = xs.set i (xs[i].take (xs[i].length - 1)) := by
  unfold takeR at h
  cases hn : nextR xs with
  | none => rw [hn] at h; cases h
  | some i =>
    obtain ⟨hi, hp⟩ := nextR_pos hn
    rw [hn] at h
    simp only [getD_at xs i hi] at h
    by_cases hl : lowB xs[i] = true
    · simp only [hl, if_true] at h; cases h
    · simp only [hl] at h
      injection h with h
      exact ⟨i, rfl, hi, hp, by simpa using hl, h.symm⟩
theorem take_valid {h : Int} {xs ys : List (List Int)} (hv : Yv.valid h xs = true) (ht : takeR xs = some ys) : Yv.valid h ys = true := by
  obtain ⟨p1, p2, p3, p4, p5, p6, p7, p8⟩ := valid_parts hv
  obtain ⟨i, -, hi, hp, -, rfl⟩ := take_is ht
  have hs := cut_sub xs i hi
  refine valid_of p1 p2 (by rw [List.length_set]; exact p3) (by rw [List.length_set]; exact p4) (fun r hr => ?_) (p6.sublist hs) (by have := hs.length_le; omega) (fun x hx => p8 x (hs.subset hx))
  rcases List.mem_or_eq_of_mem_set hr with hr | rfl
  · exact p5 r hr
  · have := p5 _ (List.getElem_mem hi); rw [List.length_take]; omega
theorem take_less {xs ys : List (List Int)} (ht : takeR xs = some ys) : ys.flatten.length + 1 = xs.flatten.length := by
  obtain ⟨i, -, hi, hp, -, rfl⟩ := take_is ht
  exact cut_len xs i hi hp
/-- The lots behind a move are the same. -/
theorem move_perm (xs : List (List Int)) (i j : Nat) (hi : i < xs.length) (hj : j < xs.length) (hij : i ≠ j) (hp : 0 < xs[i].length) : (moveRows xs i j).flatten.Perm xs.flatten := by
  unfold moveRows
  rw [getD_at xs i hi, getD_at xs j hj, show (xs[i].length : Int) - 1 = ((xs[i].length - 1 : Nat) : Int) by omega, rd_at xs[i] _ (by omega)]
  obtain ⟨x, hx⟩ : ∃ x, x = xs[i][xs[i].length - 1]'(by omega) := ⟨_, rfl⟩
  rw [← hx]
  have hi2 : i < (xs.set j (xs[j] ++ [x])).length := by rw [List.length_set]; exact hi
  have e : (xs.set j (xs[j] ++ [x]))[i] = xs[i] := List.getElem_set_ne (fun h => hij h.symm) _
  have h1 : (xs.set j (xs[j] ++ [x])).flatten.Perm (x :: xs.flatten) := by
    rw [flat_set xs j hj, flat_split xs j hj]
    have : (xs[j] ++ [x] ++ (xs.drop (j + 1)).flatten) = xs[j] ++ x :: (xs.drop (j + 1)).flatten := by simp
    rw [this]
    have h2 : ((xs.take j).flatten ++ (xs[j] ++ x :: (xs.drop (j + 1)).flatten)) = ((xs.take j).flatten ++ xs[j]) ++ x :: (xs.drop (j + 1)).flatten := by simp
    rw [h2]
    refine List.perm_middle.trans ?_
    rw [List.append_assoc]
  have h3 : (x :: ((xs.set j (xs[j] ++ [x])).set i (xs[i].take (xs[i].length - 1))).flatten).Perm (xs.set j (xs[j] ++ [x])).flatten := by
    rw [flat_set _ i hi2, flat_split _ i hi2, e]
    have h4 : xs[i] = xs[i].take (xs[i].length - 1) ++ [x] := by
      conv => lhs; rw [← List.take_append_drop (xs[i].length - 1) xs[i]]
      congr 1
      rw [List.drop_eq_getElem_cons (by omega), List.drop_eq_nil_of_le (by omega), hx]
    conv => rhs; rw [h4]
    have h5 : ∀ (a b c : List Int), (a ++ (b ++ [x] ++ c)) = (a ++ b) ++ x :: c := fun a b c => by simp
    rw [h5, ← List.append_assoc]
    exact List.perm_middle.symm
  exact (List.perm_cons x).1 (h3.trans h1)
theorem move_is {h : Int} {xs ys : List (List Int)} {f t : Int} (hm : moveR h xs f t = some ys) : ∃ i j : Nat, f = (i : Int) ∧ t = (j : Int) ∧ ∃ hi : i < xs.length, ∃ hj : j < xs.length, i ≠ j ∧ 0 < xs[i].length ∧ (xs[j].length : Int) < h ∧ ys = moveRows xs i j := by
  unfold moveR at hm
  by_cases c : moveB h xs f t = true
  · rw [if_pos c] at hm
    injection hm with hm
    unfold moveB at c
    obtain ⟨a1, a2, a3, a4, a5, a6, a7⟩ := of_decide_eq_true c
    have hi : f.toNat < xs.length := by omega
    have hj : t.toNat < xs.length := by omega
    rw [getD_at xs _ hi] at a6
    rw [getD_at xs _ hj] at a7
    exact ⟨f.toNat, t.toNat, by omega, by omega, hi, hj, by omega, a6, a7, hm.symm⟩
  · rw [if_neg c] at hm; cases hm
theorem move_valid {h : Int} {xs ys : List (List Int)} {f t : Int} (hv : Yv.valid h xs = true) (hm : moveR h xs f t = some ys) : Yv.valid h ys = true := by
  obtain ⟨p1, p2, p3, p4, p5, p6, p7, p8⟩ := valid_parts hv
  obtain ⟨i, j, -, -, hi, hj, hij, hp, hr, rfl⟩ := move_is hm
  have hpm := move_perm xs i j hi hj hij hp
  have hl : (moveRows xs i j).length = xs.length := by unfold moveRows; rw [List.length_set, List.length_set]
  refine valid_of p1 p2 (by rw [hl]; exact p3) (by rw [hl]; exact p4) (fun r hr' => ?_) (hpm.nodup_iff.2 p6) (by rw [hpm.length_eq]; exact p7) (fun x hx => p8 x (hpm.subset hx))
  unfold moveRows at hr'
  rw [getD_at xs i hi, getD_at xs j hj] at hr'
  rcases List.mem_or_eq_of_mem_set hr' with hr' | rfl
  · rcases List.mem_or_eq_of_mem_set hr' with hr' | rfl
    · exact p5 r hr'
    · rw [List.length_append, List.length_singleton]; omega
  · have := p5 _ (List.getElem_mem hi); rw [List.length_take]; omega
/-! clearing -/
def clearN : Nat → List (List Int) → List (List Int)
  | 0, xs => xs
  | n + 1, xs => match takeR xs with
    | none => xs
    | some ys => clearN n ys
def clearR (xs : List (List Int)) : List (List Int) := clearN xs.flatten.length xs
theorem take_empty {xs : List (List Int)} (h : xs.flatten.length = 0) : takeR xs = none := by
  cases ht : takeR xs with
  | none => rfl
  | some ys => have := take_less ht; omega
theorem clear_none {xs : List (List Int)} (h : takeR xs = none) : clearR xs = xs := by
  unfold clearR
  cases xs.flatten.length with
  | zero => rfl
  | succ n => simp only [clearN, h]
theorem clear_some {xs ys : List (List Int)} (h : takeR xs = some ys) : clearR xs = clearR ys := by
  have := take_less h
  unfold clearR
  rw [← this]
  simp only [clearN, h]
theorem clear_valid {h : Int} : ∀ (n : Nat) (xs : List (List Int)), xs.flatten.length = n → Yv.valid h xs = true → Yv.valid h (clearR xs) = true := by
  intro n
  induction n with
  | zero => intro xs hn hv; rw [clear_none (take_empty hn)]; exact hv
  | succ n ih =>
    intro xs hn hv
    cases ht : takeR xs with
    | none => rw [clear_none ht]; exact hv
    | some ys =>
      rw [clear_some ht]
      exact ih ys (by have := take_less ht; omega) (take_valid hv ht)
/-! running -/
/-- One move of a plan, and the clearing behind it. -/
def runOne (h : Int) (xs : List (List Int)) (m : List Int) : Option (List (List Int)) :=
  if m.length = 2 ∧ rd m 0 = nextI xs then (moveR h xs (rd m 0) (rd m 1)).map clearR else none
def runL (h : Int) : List (List Int) → List (List Int) → Option (List (List Int))
  | xs, [] => some xs
  | xs, m :: ms => (runOne h xs m).bind fun ys => runL h ys ms
def runR (h : Int) (xs : List (List Int)) (ms : List (List Int)) : Option (List (List Int)) :=
  if Yv.valid h xs = true ∧ ms.length ≤ 21 then runL h (clearR xs) ms else none
theorem runOne_some (h : Int) (xs : List (List Int)) (m : List Int) (hs : (runOne h xs m).isSome = true) : m.length = 2 ∧ rd m 0 = nextI xs ∧ 0 ≤ nextI xs := by
  unfold runOne at hs
  split at hs
  · next hc =>
    refine ⟨hc.1, hc.2, ?_⟩
    cases hm : moveR h xs (rd m 0) (rd m 1) with
    | none => rw [hm] at hs; cases hs
    | some ys =>
      obtain ⟨i, j, hf, -⟩ := move_is hm
      rw [← hc.2, hf]; omega
  · cases hs
theorem runOne_eq (h : Int) (xs : List (List Int)) (m : List Int) (h1 : m.length = 2) (h2 : rd m 0 = nextI xs) : runOne h xs m = (moveR h xs (rd m 0) (rd m 1)).map clearR := by
  unfold runOne; rw [if_pos ⟨h1, h2⟩]
theorem runOne_valid {h : Int} {xs ys : List (List Int)} {m : List Int} (hv : Yv.valid h xs = true) (hr : runOne h xs m = some ys) : Yv.valid h ys = true := by
  unfold runOne at hr
  split at hr
  · obtain ⟨zs, hz, rfl⟩ := Option.map_eq_some_iff.1 hr
    exact clear_valid _ zs rfl (move_valid hv hz)
  · cases hr
theorem runL_valid {h : Int} : ∀ (ms xs : List (List Int)) {ys : List (List Int)}, Yv.valid h xs = true → runL h xs ms = some ys → Yv.valid h ys = true := by
  intro ms
  induction ms with
  | nil => intro xs ys hv hr; simp only [runL] at hr; injection hr with hr; rw [← hr]; exact hv
  | cons m ms ih =>
    intro xs ys hv hr
    simp only [runL] at hr
    obtain ⟨zs, hz, hr⟩ := Option.bind_eq_some_iff.1 hr
    exact ih zs (runOne_valid hv hz) hr
theorem valid_small {h : Int} {xs : List (List Int)} (hv : Yv.valid h xs = true) : Small xs := by
  obtain ⟨p1, p2, p3, p4, p5, -⟩ := valid_parts hv
  exact small_of xs (by omega) (fun r hr => by have := p5 r hr; omega)
end Go.Proofs.Ytibaiaenfeppcaa.PuRM

/- The reference's l09Clear: taking as long as it can be done. -/
namespace Go.Proofs.Ytibaiaenfeppcaa.Yc
open Go Go.RowKit Go.Proofs.YtibaiaenfeppcaaW.PrintWords Go.Proofs.YtibaiaenfeppcaaW.PrintLast Go.Proofs.YtibaiaenfeppcaaW.PrintMore Go.Proofs.Ytibaiaenfeppcaa.Q Go.Proofs.Ytibaiaenfeppcaa.PuY Go.Proofs.Ytibaiaenfeppcaa.PuTO Go.Proofs.Ytibaiaenfeppcaa.PuTN Go.Proofs.Ytibaiaenfeppcaa.PuRM Go.Proofs.Ytibaiaenfeppcaa.Lw Go.Proofs.Ytibaiaenfeppcaa.Ow Go.Proofs.Ytibaiaenfeppcaa.Yo Go.Proofs.Ytibaiaenfeppcaa.Yk Go.Proofs.Ytibaiaenfeppcaa.Yq Go.Proofs.Ytibaiaenfeppcaa.Yr
set_option linter.unusedVariables false
set_option maxRecDepth 100000 in
set_option maxHeartbeats 2000000 in
theorem clear_any (lo g : Nat) (h : Int) (xs : List (List Int)) (hv : Yv.valid h xs = true) (W : World) (y : YO lo W g h xs) :
    Calls Try.prog 59 #[.pointer (some ⟨g, 0, none⟩)] W fun e w' => e = .returned (.tuple #[]) ∧ YO lo w' g h (clearR xs) ∧ Below lo W w' := by
  have Y := Aside0.mk y
  have HV := Aside0.mk hv
  have HLO : lo ≤ W.heap.size := y.choose_spec.choose_spec.2.2.1
  clear y hv
  go_enter Try.func59, Try.ntmps59
  go_wp2_with (fail)
  go_loopg [] (xs.flatten.length) (fun kq wz => Aside0 (∃ zs : List (List Int), zs.flatten.length ≤ kq ∧ Yv.valid h zs = true ∧ clearR zs = clearR xs ∧ YO lo wz g h zs) ∧ Aside0 (Below lo W wz))
  case atStart => exact ⟨⟨xs, Nat.le_refl _, HV.out, rfl, Y.out⟩, ⟨Below.mono (Below.refl W.heap.size W) HLO⟩⟩
  case round =>
    obtain ⟨hZ, hb⟩ := hrel
    obtain ⟨zs, z1, z2, z3, z4⟩ := hZ.out
    have Z := Aside0.mk (And.intro z1 (And.intro z2 (And.intro z3 z4)))
    clear hZ z1 z2 z3 z4
    go_wp2_with (fail)
    refine (take_any lo g h zs Z.out.2.1 _ Z.out.2.2.2).mono ?_
    rintro e w1 ⟨rfl, hY, hb1⟩
    have Y1 := Aside0.mk hY
    have B1 := Aside0.mk (hb.out.trans hb1)
    clear hY hb1 hb
    cases ht : takeR zs with
    | none =>
      have HT := Aside0.mk ht
      have c0 : (none : Option (List (List Int))).isSome = false := rfl
      clear ht
      go_wp2_with (fail)
      go_end0
      have := Y1.out
      rw [HT.out] at this
      refine ⟨rfl, ?_, B1.out⟩
      rw [← Z.out.2.2.1, clear_none HT.out]
      exact this
    | some ys =>
      have HT := Aside0.mk ht
      have c0 : (some ys).isSome = true := rfl
      clear ht
      go_wp2_with (fail)
      go_roundg ys.flatten.length
      case measure => have := take_less HT.out; have := Z.out.1; omega
      case rel =>
        have h1 := Y1.out
        rw [HT.out] at h1
        exact ⟨⟨ys, Nat.le_refl _, take_valid Z.out.2.1 HT.out, by rw [← clear_some HT.out]; exact Z.out.2.2.1, h1⟩, B1⟩
end Go.Proofs.Ytibaiaenfeppcaa.Yc

/- The program's (Yard).emptied. -/
namespace Go.Proofs.Ytibaiaenfeppcaa.Ye
open Go Go.RowKit Go.Proofs.YtibaiaenfeppcaaW.PrintWords Go.Proofs.YtibaiaenfeppcaaW.PrintLast Go.Proofs.YtibaiaenfeppcaaW.PrintMore Go.Proofs.Ytibaiaenfeppcaa.Q Go.Proofs.Ytibaiaenfeppcaa.PuY Go.Proofs.Ytibaiaenfeppcaa.PuTO Go.Proofs.Ytibaiaenfeppcaa.PuTN Go.Proofs.Ytibaiaenfeppcaa.PuRM Go.Proofs.Ytibaiaenfeppcaa.Lw Go.Proofs.Ytibaiaenfeppcaa.Ow Go.Proofs.Ytibaiaenfeppcaa.Yo Go.Proofs.Ytibaiaenfeppcaa.Yn Go.Proofs.Ytibaiaenfeppcaa.Yk Go.Proofs.Ytibaiaenfeppcaa.Yq Go.Proofs.Ytibaiaenfeppcaa.Yr
set_option linter.unusedVariables false
set_option maxRecDepth 100000 in
set_option maxHeartbeats 4000000 in
theorem emptied_any (h : Int) (xs : List (List Int)) (hv : Yv.valid h xs = true) (A : Option Addr) (c : Nat) (w : World) (hC : Kd.C dR w A xs.length xs) (hcl : xs.length ≤ c) :
    Calls Try.prog 48 #[.agg #[.int .i64 h, .slice A xs.length c]] w fun e w' => ∃ v, e = .returned (.agg #[.int .i64 h, v]) ∧ Kd.S dW 31 w' w.heap.size (fun _ => True) v (clearR xs) ∧ Below w.heap.size w w' := by
  have hu := Try.underlying27
  obtain ⟨p1, p2, p3, p4, p5, -⟩ := valid_parts hv
  have HCLN := Aside0.mk (Ymv.cloned_eq h xs p4 (fun r hr => by have := p5 r hr; omega))
  have HV := Aside0.mk hv
  have HR := Aside0.mk hC
  have HC := Aside0.mk hcl
  clear hC hcl hv p1 p2 p3 p4 p5
  go_enter Try.func48, Try.ntmps48
  go_wp2_with (fail)
  have b2 := below_alloc (below_alloc (Below.refl w.heap.size w) (.cells #[.int .i64 h, .slice A xs.length c] 27)) (.cells #[.int .i64 0, .slice none 0 0] 27)
  refine (impl_Yard_cloned.calls 1000 h A c xs h xs _ (Kd.C_below HR.out b2) HC.out HCLN.out).mono ?_
  rintro e w1 ⟨v, rfl, hS, hb⟩
  have HB := Aside0.mk (below_step b2 hb)
  have B6 := Aside0.mk (blk_below (blk_new' w (.cells #[.int .i64 h, .slice A xs.length c] 27) (.cells #[.int .i64 0, .slice none 0 0] 27)) hb)
  have K := Aside0.mk (blk_below (blk_alloc (blk_new w (.cells #[.int .i64 h, .slice A xs.length c] 27)) (.cells #[.int .i64 0, .slice none 0 0] 27)) hb)
  obtain ⟨Av, cv, rfl⟩ := Kd.S_slice hS
  have HS := Aside0.mk (sW_of_sR hS)
  have HS0 := Aside0.mk (show ((w.alloc (.cells #[.int .i64 h, .slice A xs.length c] 27)).alloc (.cells #[.int .i64 0, .slice none 0 0] 27)).heap.size = w.heap.size + 2 by simp)
  clear b2 hS hb
  have y0 : w1.cell? ⟨w.heap.size, 0, none⟩ = some (.int .i64 h) := (blk_cell K.out 0).trans rfl
  have y1 : w1.cell? ⟨w.heap.size, 1, none⟩ = some (.slice A xs.length c) := (blk_cell K.out 1).trans rfl
  have g2 := blk_frozen K.out 0
  have g3 := blk_frozen K.out 1
  go_wp2_with (fail)
  go_loopg [] (xs.flatten.length) (fun kq wz => Aside0 (∃ zs : List (List Int), zs.flatten.length ≤ kq ∧ Yv.valid h zs = true ∧ clearR zs = clearR xs ∧ ∃ A1 c1, zs.length ≤ c1 ∧ wz.heap[w.heap.size]? = some (.cells #[.int .i64 h, .slice A1 zs.length c1] 27 (0, 0)) ∧ Kd.S dW 31 wz w.heap.size (fun k => w.heap.size + 2 ≤ k) (.slice A1 zs.length c1) zs) ∧ Aside0 (wz.heap[w.heap.size + 1]? = some (.cells #[.int .i64 0, .slice none 0 0] 27 (0, 0))) ∧ Aside0 (Below w.heap.size w wz))
  case atStart =>
    have hs0 := HS0.out
    refine ⟨⟨xs, Nat.le_refl _, HV.out, rfl, Av, cv, (Kd.S_reads' (d := dW) HS.out).2.1, blk_put (blk_put K.out 0 (.int .i64 h) rfl) 1 (.slice Av xs.length cv) rfl, ?_⟩, ⟨?_⟩, ⟨?_⟩⟩
    · refine Kd.S_far (p := ⟨w.heap.size, 1, none⟩) (Kd.S_far (p := ⟨w.heap.size, 0, none⟩) (Kd.S_mono (Kd.S_lower (Kd.S_bound HS.out) (by omega)) (fun k hk => by have := hk.2.1; show w.heap.size + 2 ≤ k; omega)) (fun k hk => by show k ≠ w.heap.size; omega) _) (fun k hk => by show k ≠ w.heap.size; omega) _
    · rw [Below.heap_setCell _ _ _ _ (show w.heap.size + 1 ≠ w.heap.size by omega), Below.heap_setCell _ _ _ _ (show w.heap.size + 1 ≠ w.heap.size by omega)]; exact B6.out
    · exact (HB.out.setCell (p := ⟨w.heap.size, 0, none⟩) (Nat.le_refl _) _).setCell (p := ⟨w.heap.size, 1, none⟩) (Nat.le_refl _) _
  case round =>
    obtain ⟨hZ, hb6, hb⟩ := hrel
    clear y0 y1 g2 g3
    obtain ⟨zs, z1, z2, z3, A1, c1, zl, zk, zS⟩ := hZ.out
    have Z := Aside0.mk (And.intro z1 (And.intro z2 z3))
    have ZL := Aside0.mk zl
    have K := Aside0.mk zk
    have ZS := Aside0.mk zS
    clear hZ z1 z2 z3 zl zk zS B6 HB HS
    have y0 : wr.cell? ⟨w.heap.size, 0, none⟩ = some (.int .i64 h) := (blk_cell K.out 0).trans rfl
    have y1 : wr.cell? ⟨w.heap.size, 1, none⟩ = some (.slice A1 zs.length c1) := (blk_cell K.out 1).trans rfl
    go_wp2_with (fail)
    refine (taken_any h zs Z.out.2.1 A1 c1 wr (Kd.S_reads' (d := dW) ZS.out).2.2 ZL.out).mono ?_
    rintro e w2 ⟨v, rfl, hS2, hb2⟩
    obtain ⟨A2, c2, rfl⟩ := Kd.S_slice hS2
    have S2 := Aside0.mk hS2
    have K := Aside0.mk (blk_below K.out hb2)
    have B6 := Aside0.mk (blk_below hb6.out hb2)
    have ZS := Aside0.mk (Kd.S_below ZS.out hb2)
    have HB := Aside0.mk (below_step hb.out hb2)
    have HLT := Aside0.mk (show w.heap.size + 1 < wr.heap.size from blk_lt hb6.out)
    clear hS2 hb2 y0 y1 hb hb6
    cases ht : takeR zs with
    | none =>
      have HT := Aside0.mk ht
      simp only [hR, ht] at S2 ⊢
      clear ht
      have B6W := Aside0.mk (blk_alloc B6.out (.cells #[.int .i64 0, .slice A2 0 c2] 27))
      have KW := Aside0.mk (blk_alloc K.out (.cells #[.int .i64 0, .slice A2 0 c2] 27))
      have y0 : (w2.alloc (.cells #[.int .i64 0, .slice A2 0 c2] 27)).cell? ⟨w.heap.size, 0, none⟩ = some (.int .i64 h) := (blk_cell KW.out 0).trans rfl
      have y1 : (w2.alloc (.cells #[.int .i64 0, .slice A2 0 c2] 27)).cell? ⟨w.heap.size, 1, none⟩ = some (.slice A1 zs.length c1) := (blk_cell KW.out 1).trans rfl
      have g0 : (w2.alloc (.cells #[.int .i64 0, .slice A2 0 c2] 27)).cell? ⟨w.heap.size + 1, 0, none⟩ = some (.int .i64 0) := (blk_cell B6W.out 0).trans rfl
      have g1 : (w2.alloc (.cells #[.int .i64 0, .slice A2 0 c2] 27)).cell? ⟨w.heap.size + 1, 1, none⟩ = some (.slice none 0 0) := (blk_cell B6W.out 1).trans rfl
      have g2 := blk_frozen B6W.out 0
      have g3 := blk_frozen B6W.out 1
      have g4 := blk_frozen KW.out 0
      have g5 := blk_frozen KW.out 1
      go_wp2_with (fail)
      have b7 := blk_put (blk_put B6W.out 0 (.int .i64 h) rfl) 1 (.slice A1 zs.length c1) rfl
      refine bodyPost_ret (results_cell_row rfl _ _ (w.heap.size + 1) 27 #[.int .i64 h, .slice A1 zs.length c1] (0, 0) _ rfl b7 Try.underlying27 rfl (by kernel_rfl)) rfl ?_
      refine ⟨_, rfl, ?_, ((below_alloc HB.out (.cells #[.int .i64 0, .slice A2 0 c2] 27)).setCell (p := ⟨w.heap.size + 1, 0, none⟩) (Nat.le_succ _) _).setCell (p := ⟨w.heap.size + 1, 1, none⟩) (Nat.le_succ _) _⟩
      rw [← Z.out.2.2, clear_none HT.out]
      exact Kd.S_mono (Kd.S_far (p := ⟨w.heap.size + 1, 1, none⟩) (Kd.S_far (p := ⟨w.heap.size + 1, 0, none⟩) (Kd.S_alloc ZS.out (.cells #[.int .i64 0, .slice A2 0 c2] 27)) (fun k hk => by show k ≠ w.heap.size + 1; omega) _) (fun k hk => by show k ≠ w.heap.size + 1; omega) _) (fun _ _ => trivial)
    | some ys =>
      have HT := Aside0.mk ht
      have HV2 := Aside0.mk (take_valid Z.out.2.1 ht)
      have HCL := Aside0.mk (clear_some ht)
      have HLS := Aside0.mk (take_less ht)
      simp only [hR, ht] at S2 ⊢
      clear ht
      have B6W := Aside0.mk (blk_alloc B6.out (.cells #[.int .i64 h, .slice A2 ys.length c2] 27))
      have KW := Aside0.mk (blk_alloc K.out (.cells #[.int .i64 h, .slice A2 ys.length c2] 27))
      have y0 : (w2.alloc (.cells #[.int .i64 h, .slice A2 ys.length c2] 27)).cell? ⟨w.heap.size, 0, none⟩ = some (.int .i64 h) := (blk_cell KW.out 0).trans rfl
      have y1 : (w2.alloc (.cells #[.int .i64 h, .slice A2 ys.length c2] 27)).cell? ⟨w.heap.size, 1, none⟩ = some (.slice A1 zs.length c1) := (blk_cell KW.out 1).trans rfl
      have g0 : (w2.alloc (.cells #[.int .i64 h, .slice A2 ys.length c2] 27)).cell? ⟨w.heap.size + 1, 0, none⟩ = some (.int .i64 0) := (blk_cell B6W.out 0).trans rfl
      have g1 : (w2.alloc (.cells #[.int .i64 h, .slice A2 ys.length c2] 27)).cell? ⟨w.heap.size + 1, 1, none⟩ = some (.slice none 0 0) := (blk_cell B6W.out 1).trans rfl
      have g2 := blk_frozen B6W.out 0
      have g3 := blk_frozen B6W.out 1
      have g4 := blk_frozen KW.out 0
      have g5 := blk_frozen KW.out 1
      go_wp2_with (fail)
      go_roundg ys.flatten.length
      case measure => have := HLS.out; have := Z.out.1; omega
      case rel =>
        refine ⟨⟨ys, Nat.le_refl _, HV2.out, by rw [← HCL.out]; exact Z.out.2.2, A2, c2, (Kd.S_reads' (d := dW) S2.out).2.1, blk_put (blk_put KW.out 0 (.int .i64 h) rfl) 1 (.slice A2 ys.length c2) rfl, ?_⟩, ⟨?_⟩, ⟨?_⟩⟩
        · refine Kd.S_far (p := ⟨w.heap.size, 1, none⟩) (Kd.S_far (p := ⟨w.heap.size, 0, none⟩) (Kd.S_alloc (Kd.S_mono (Kd.S_lower (Kd.S_bound S2.out) (by have := HLT.out; omega)) (fun k hk => by have := hk.2.1; have := HLT.out; show w.heap.size + 2 ≤ k; omega)) (.cells #[.int .i64 h, .slice A2 ys.length c2] 27)) (fun k hk => by show k ≠ w.heap.size; omega) _) (fun k hk => by show k ≠ w.heap.size; omega) _
        · rw [Below.heap_setCell _ _ _ _ (show w.heap.size + 1 ≠ w.heap.size by omega), Below.heap_setCell _ _ _ _ (show w.heap.size + 1 ≠ w.heap.size by omega)]; exact B6W.out
        · exact ((below_alloc HB.out (.cells #[.int .i64 h, .slice A2 ys.length c2] 27)).setCell (p := ⟨w.heap.size, 0, none⟩) (Nat.le_refl _) _).setCell (p := ⟨w.heap.size, 1, none⟩) (Nat.le_refl _) _
end Go.Proofs.Ytibaiaenfeppcaa.Ye

/- The program's RunMoves. -/
namespace Go.Proofs.Ytibaiaenfeppcaa.RMi
open Go Go.RowKit Go.Proofs.YtibaiaenfeppcaaW.PrintWords Go.Proofs.YtibaiaenfeppcaaW.PrintLast Go.Proofs.YtibaiaenfeppcaaW.PrintMore Go.Proofs.Ytibaiaenfeppcaa.Q Go.Proofs.Ytibaiaenfeppcaa.PuY Go.Proofs.Ytibaiaenfeppcaa.PuTO Go.Proofs.Ytibaiaenfeppcaa.PuTN Go.Proofs.Ytibaiaenfeppcaa.PuRM Go.Proofs.Ytibaiaenfeppcaa.Lw Go.Proofs.Ytibaiaenfeppcaa.Ow Go.Proofs.Ytibaiaenfeppcaa.Yo Go.Proofs.Ytibaiaenfeppcaa.Yn Go.Proofs.Ytibaiaenfeppcaa.Yt Go.Proofs.Ytibaiaenfeppcaa.Yq Go.Proofs.Ytibaiaenfeppcaa.Yr
set_option linter.unusedVariables false
set_option linter.unusedSimpArgs false
set_option maxRecDepth 100000 in
set_option maxHeartbeats 4000000 in
theorem impl_no (h : Int) (xs ms : List (List Int)) (hv : Yv.valid h xs = false) (A : Option Addr) (c : Nat) (A2 : Option Addr) (c2 : Nat) (w : World) (hC : Kd.C dR w A xs.length xs) (hcl : xs.length ≤ c) (hM : Kd.C dR w A2 ms.length ms) (hcm : ms.length ≤ c2) :
    Calls Try.prog 24 #[.agg #[.int .i64 h, .slice A xs.length c], .slice A2 ms.length c2] w (Out h none w) := by
  have hu := Try.underlying27
  have HR := Aside0.mk hC
  have HC := Aside0.mk hcl
  have HM := Aside0.mk hM
  have HCM := Aside0.mk hcm
  have HV := Aside0.mk (show impl_ValidYard.f h xs = some false from congrArg some hv)
  clear hC hcl hM hcm hv
  go_enter Try.func24, Try.ntmps24
  go_wp2_with (fail)
  have b2 := below_alloc (below_alloc (Below.refl w.heap.size w) (.cells #[.int .i64 h, .slice A xs.length c] 27)) (.cells #[.int .i64 0, .slice none 0 0] 27)
  refine (impl_ValidYard.calls h A c xs false _ (Kd.C_below HR.out b2) HC.out HV.out).mono ?_
  rintro e w1 ⟨rfl, hb⟩
  have HB := Aside0.mk (below_step b2 hb)
  have K := Aside0.mk (blk_below (blk_alloc (blk_new w (.cells #[.int .i64 h, .slice A xs.length c] 27)) (.cells #[.int .i64 0, .slice none 0 0] 27)) hb)
  have B6 := Aside0.mk (blk_below (blk_new' w (.cells #[.int .i64 h, .slice A xs.length c] 27) (.cells #[.int .i64 0, .slice none 0 0] 27)) hb)
  clear hb b2
  have g0 : w1.cell? ⟨w.heap.size + 1, 0, none⟩ = some (.int .i64 0) := (blk_cell B6.out 0).trans rfl
  have g1 : w1.cell? ⟨w.heap.size + 1, 1, none⟩ = some (.slice none 0 0) := (blk_cell B6.out 1).trans rfl
  have g2 := blk_frozen B6.out 0
  have g3 := blk_frozen B6.out 1
  go_wp2_with (fail)
  have b7 := blk_put (blk_put B6.out 0 (.int .i64 0) rfl) 1 (.slice none 0 0) rfl
  refine bodyPost_ret (results_ct rfl _ _ (w.heap.size + 1) 27 #[.int .i64 0, .slice none 0 0] (0, 0) _ rfl b7 Try.underlying27 rfl (by kernel_rfl)) rfl ?_
  exact out_none rfl (((HB.out).setCell (p := ⟨w.heap.size + 1, 0, none⟩) (Nat.le_succ _) _).setCell (p := ⟨w.heap.size + 1, 1, none⟩) (Nat.le_succ _) _)
set_option maxRecDepth 100000 in
set_option maxHeartbeats 4000000 in
theorem impl_long (h : Int) (xs ms : List (List Int)) (hv : Yv.valid h xs = true) (hl : 21 < ms.length) (A : Option Addr) (c : Nat) (A2 : Option Addr) (c2 : Nat) (w : World) (hC : Kd.C dR w A xs.length xs) (hcl : xs.length ≤ c) (hM : Kd.C dR w A2 ms.length ms) (hcm : ms.length ≤ c2) :
    Calls Try.prog 24 #[.agg #[.int .i64 h, .slice A xs.length c], .slice A2 ms.length c2] w (Out h none w) := by
  have hu := Try.underlying27
  have HR := Aside0.mk hC
  have HC := Aside0.mk hcl
  have HM := Aside0.mk hM
  have HCM := Aside0.mk hcm
  have HV := Aside0.mk (show impl_ValidYard.f h xs = some true from congrArg some hv)
  have c1 : decide (21 < ms.length) = true := decide_eq_true hl
  have c2_ : decide ((21 : Int) < (ms.length : Int)) = true := decide_eq_true (by omega)
  have c3_ : (21 < ms.length) = True := eq_true hl
  clear hC hcl hM hcm hv
  go_enter Try.func24, Try.ntmps24
  go_wp2_with (fail)
  have b2 := below_alloc (below_alloc (Below.refl w.heap.size w) (.cells #[.int .i64 h, .slice A xs.length c] 27)) (.cells #[.int .i64 0, .slice none 0 0] 27)
  refine (impl_ValidYard.calls h A c xs true _ (Kd.C_below HR.out b2) HC.out HV.out).mono ?_
  rintro e w1 ⟨rfl, hb⟩
  have HB := Aside0.mk (below_step b2 hb)
  have K := Aside0.mk (blk_below (blk_alloc (blk_new w (.cells #[.int .i64 h, .slice A xs.length c] 27)) (.cells #[.int .i64 0, .slice none 0 0] 27)) hb)
  have B6 := Aside0.mk (blk_below (blk_new' w (.cells #[.int .i64 h, .slice A xs.length c] 27) (.cells #[.int .i64 0, .slice none 0 0] 27)) hb)
  clear hb b2
  have g0 : w1.cell? ⟨w.heap.size + 1, 0, none⟩ = some (.int .i64 0) := (blk_cell B6.out 0).trans rfl
  have g1 : w1.cell? ⟨w.heap.size + 1, 1, none⟩ = some (.slice none 0 0) := (blk_cell B6.out 1).trans rfl
  have g2 := blk_frozen B6.out 0
  have g3 := blk_frozen B6.out 1
  go_wp2_with (fail)
  have b7 := blk_put (blk_put B6.out 0 (.int .i64 0) rfl) 1 (.slice none 0 0) rfl
  refine bodyPost_ret (results_ct rfl _ _ (w.heap.size + 1) 27 #[.int .i64 0, .slice none 0 0] (0, 0) _ rfl b7 Try.underlying27 rfl (by kernel_rfl)) rfl ?_
  exact out_none rfl (((HB.out).setCell (p := ⟨w.heap.size + 1, 0, none⟩) (Nat.le_succ _) _).setCell (p := ⟨w.heap.size + 1, 1, none⟩) (Nat.le_succ _) _)
set_option maxRecDepth 100000 in
set_option maxHeartbeats 4000000 in
theorem impl_run (h : Int) (xs ms : List (List Int)) (hv : Yv.valid h xs = true) (hl : ms.length ≤ 21) (A : Option Addr) (c : Nat) (A2 : Option Addr) (c2 : Nat) (w : World) (hC : Kd.C dR w A xs.length xs) (hcl : xs.length ≤ c) (hM : Kd.C dR w A2 ms.length ms) (hcm : ms.length ≤ c2) :
    Calls Try.prog 24 #[.agg #[.int .i64 h, .slice A xs.length c], .slice A2 ms.length c2] w (Out h (runL h (clearR xs) ms) w) := by
  have hu := Try.underlying27
  have HR := Aside0.mk hC
  have HC := Aside0.mk hcl
  have HM := Aside0.mk hM
  have HCM := Aside0.mk hcm
  have HV := Aside0.mk (show impl_ValidYard.f h xs = some true from congrArg some hv)
  have HVV := Aside0.mk hv
  have c1 : decide (21 < ms.length) = false := decide_eq_false (by omega)
  have c2_ : decide ((21 : Int) < (ms.length : Int)) = false := decide_eq_false (by omega)
  clear hC hcl hM hcm hv
  go_enter Try.func24, Try.ntmps24
  go_wp2_with (fail)
  have b2 := below_alloc (below_alloc (Below.refl w.heap.size w) (.cells #[.int .i64 h, .slice A xs.length c] 27)) (.cells #[.int .i64 0, .slice none 0 0] 27)
  refine (impl_ValidYard.calls h A c xs true _ (Kd.C_below HR.out b2) HC.out HV.out).mono ?_
  rintro e w1 ⟨rfl, hb⟩
  have HB := Aside0.mk (below_step b2 hb)
  have K := Aside0.mk (blk_below (blk_alloc (blk_new w (.cells #[.int .i64 h, .slice A xs.length c] 27)) (.cells #[.int .i64 0, .slice none 0 0] 27)) hb)
  have B6 := Aside0.mk (blk_below (blk_new' w (.cells #[.int .i64 h, .slice A xs.length c] 27) (.cells #[.int .i64 0, .slice none 0 0] 27)) hb)
  clear hb b2
  have y0 : w1.cell? ⟨w.heap.size, 0, none⟩ = some (.int .i64 h) := (blk_cell K.out 0).trans rfl
  have y1 : w1.cell? ⟨w.heap.size, 1, none⟩ = some (.slice A xs.length c) := (blk_cell K.out 1).trans rfl
  go_wp2_with (fail)
  refine (Ye.emptied_any h xs HVV.out A c w1 (Kd.C_below HR.out HB.out) HC.out).mono ?_
  rintro e w2 ⟨v, rfl, hS, hb⟩
  obtain ⟨Av, cv, rfl⟩ := Kd.S_slice hS
  have HLT := Aside0.mk (show w.heap.size + 1 < w1.heap.size from blk_lt B6.out)
  have HS := Aside0.mk hS
  have K := Aside0.mk (blk_below K.out hb)
  have B6 := Aside0.mk (blk_below B6.out hb)
  have HB := Aside0.mk (below_step HB.out hb)
  clear hS hb y0 y1
  have y0 : w2.cell? ⟨w.heap.size, 0, none⟩ = some (.int .i64 h) := (blk_cell K.out 0).trans rfl
  have y1 : w2.cell? ⟨w.heap.size, 1, none⟩ = some (.slice A xs.length c) := (blk_cell K.out 1).trans rfl
  have g2 := blk_frozen K.out 0
  have g3 := blk_frozen K.out 1
  go_wp2_with (fail)
  go_loopw [25] (fun v25 wz => ∃ j : Nat, j ≤ ms.length ∧ v25 = .int .i64 (j : Int) ∧ Aside0 (∃ zs : List (List Int), Yv.valid h zs = true ∧ runL h zs (ms.drop j) = runL h (clearR xs) ms ∧ ∃ A1 c1, zs.length ≤ c1 ∧ wz.heap[w.heap.size]? = some (.cells #[.int .i64 h, .slice A1 zs.length c1] 27 (0, 0)) ∧ Kd.S dW 31 wz w.heap.size (fun k => w.heap.size + 2 ≤ k) (.slice A1 zs.length c1) zs) ∧ Aside0 (wz.heap[w.heap.size + 1]? = some (.cells #[.int .i64 0, .slice none 0 0] 27 (0, 0))) ∧ Aside0 (Below w.heap.size w wz)) (fun v _ => ms.length - (intOf v).toNat)
  case atStart =>
    refine ⟨0, Nat.zero_le _, rfl, ⟨clearR xs, clear_valid _ xs rfl HVV.out, by rw [List.drop_zero], Av, cv, (Kd.S_reads' (d := dW) HS.out).2.1, blk_put (blk_put K.out 0 (.int .i64 h) rfl) 1 (.slice Av (clearR xs).length cv) rfl, ?_⟩, ⟨?_⟩, ⟨?_⟩⟩
    · refine Kd.S_far (p := ⟨w.heap.size, 1, none⟩) (Kd.S_far (p := ⟨w.heap.size, 0, none⟩) (Kd.S_mono (Kd.S_lower (Kd.S_bound HS.out) (by have := HLT.out; omega)) (fun k hk => by have := hk.2.1; have := HLT.out; show w.heap.size + 2 ≤ k; omega)) (fun k hk => by show k ≠ w.heap.size; omega) _) (fun k hk => by show k ≠ w.heap.size; omega) _
    · rw [Below.heap_setCell _ _ _ _ (show w.heap.size + 1 ≠ w.heap.size by omega), Below.heap_setCell _ _ _ _ (show w.heap.size + 1 ≠ w.heap.size by omega)]; exact B6.out
    · exact (HB.out.setCell (p := ⟨w.heap.size, 0, none⟩) (Nat.le_refl _) _).setCell (p := ⟨w.heap.size, 1, none⟩) (Nat.le_refl _) _
  case round =>
    clear y0 y1 g2 g3 K B6 HB HS HLT
    obtain ⟨j, hj, rfl, hZ, B6, HB⟩ := hrel
    obtain ⟨zs, z1, z2, A1, c1, zl, zk, zS⟩ := hZ.out
    have Z := Aside0.mk (And.intro z1 z2)
    have ZL := Aside0.mk zl
    have K := Aside0.mk zk
    have ZS := Aside0.mk zS
    clear hZ z1 z2 zl zk zS
    by_cases hlt : j < ms.length
    · have c0 : decide ((j : Int) < (ms.length : Int)) = true := decide_eq_true (by omega)
      have p1 : (0 ≤ (j : Int)) = True := eq_true (by omega)
      have q1 : ((j : Int) < (ms.length : Int)) = True := eq_true (by omega)
      obtain ⟨ad, Am, cm, rfl, hx, hcm, hCm⟩ := C_rows HM.out j hlt
      obtain ⟨m, hm⟩ : ∃ m, m = ms[j] := ⟨_, rfl⟩
      rw [← hm] at hx hcm hCm
      have HMJ := Aside0.mk (show runL h zs (ms.drop j) = (runOne h zs m).bind fun ys => runL h ys (ms.drop (j + 1)) by rw [List.drop_eq_getElem_cons hlt, ← hm]; rfl)
      have HX := Aside0.mk hx
      have HCm := Aside0.mk hCm
      have x1 := pw_cell_below HB.out hx
      have y0 : wr.cell? ⟨w.heap.size, 0, none⟩ = some (.int .i64 h) := (blk_cell K.out 0).trans rfl
      have y1 : wr.cell? ⟨w.heap.size, 1, none⟩ = some (.slice A1 zs.length c1) := (blk_cell K.out 1).trans rfl
      have HJ := Aside0.mk hlt
      clear hm hx hcm hCm
      go_wp2_with (fail)
      refine (impl_Yard_holder.calls 2000000 h A1 c1 zs (nextI zs) (topB zs) wr (Kd.S_reads' (d := dW) ZS.out).2.2 ZL.out (take_parts Z.out.1).2.2.2.2).mono ?_
      rintro e w1 ⟨rfl, hb⟩
      have K := Aside0.mk (blk_below K.out hb)
      have B6 := Aside0.mk (blk_below B6.out hb)
      have ZS := Aside0.mk (Kd.S_below ZS.out hb)
      have HB := Aside0.mk (below_step HB.out hb)
      clear hb x1 y0 y1
      have HM2 := Aside0.mk (show (runOne h zs m).isSome = true → m.length = 2 ∧ rd m 0 = nextI zs ∧ 0 ≤ nextI zs from runOne_some h zs m)
      by_cases h2 : m.length = 2
      · have e1 : ((m.length : Int) != 2) = false := bne_eq_false_iff_eq.2 (by omega)
        have e2 : (m.length != 2) = false := bne_eq_false_iff_eq.2 h2
        obtain ⟨gm, eg, hx0⟩ := Kd.at_int HCm.out 0 (by decide) (by omega)
        obtain ⟨gm', eg', hx1⟩ := Kd.at_int HCm.out 1 (by decide) (by omega)
        subst eg
        injection eg' with eg'
        subst eg'
        obtain ⟨m0, hm0⟩ : ∃ m0, m0 = rd m 0 := ⟨_, rfl⟩
        obtain ⟨m1, hm1⟩ : ∃ m1, m1 = rd m 1 := ⟨_, rfl⟩
        rw [← hm0] at hx0
        rw [← hm1] at hx1
        replace hx0 : w.cell? gm = some (.int .i64 m0) := hx0
        replace hx1 : w.cell? (gm.add 1) = some (.int .i64 m1) := hx1
        have HX0 := Aside0.mk hx0
        have HX1 := Aside0.mk hx1
        have v0 := pw_cell_below HB.out hx0
        have v1 := pw_cell_below HB.out hx1
        have l0 : ((0 : Int) < (m.length : Int)) = True := eq_true (by omega)
        have l1 : ((1 : Int) < (m.length : Int)) = True := eq_true (by omega)
        have l2 : (0 < m.length) = True := eq_true (by omega)
        have l3 : (1 < m.length) = True := eq_true (by omega)
        have HM0 := Aside0.mk hm0
        have HM1 := Aside0.mk hm1
        have H2 := Aside0.mk h2
        obtain ⟨nx, hnx⟩ : ∃ nx, nx = nextI zs := ⟨_, rfl⟩
        rw [← hnx]
        have HNX := Aside0.mk hnx
        clear hm0 hm1 h2 hnx hx0 hx1
        by_cases h3 : nx < 0
        · have e3 : decide (nx < 0) = true := decide_eq_true h3
          have HNO := Aside0.mk (show runL h (clearR xs) ms = none by
            rw [← Z.out.2, HMJ.out]
            cases hr : runOne h zs m with
            | none => rfl
            | some y => have := (HM2.out (by rw [hr]; rfl)).2.2; rw [← HNX.out] at this; omega)
          have g0 : w1.cell? ⟨w.heap.size + 1, 0, none⟩ = some (.int .i64 0) := (blk_cell B6.out 0).trans rfl
          have g1 : w1.cell? ⟨w.heap.size + 1, 1, none⟩ = some (.slice none 0 0) := (blk_cell B6.out 1).trans rfl
          have g2 := blk_frozen B6.out 0
          have g3 := blk_frozen B6.out 1
          go_wp2_with (fail)
          have b7 := blk_put (blk_put B6.out 0 (.int .i64 0) rfl) 1 (.slice none 0 0) rfl
          refine bodyPost_ret (results_ct rfl _ _ (w.heap.size + 1) 27 #[.int .i64 0, .slice none 0 0] (0, 0) _ rfl b7 Try.underlying27 rfl (by kernel_rfl)) rfl ?_
          rw [HNO.out]
          exact out_none rfl (((HB.out).setCell (p := ⟨w.heap.size + 1, 0, none⟩) (Nat.le_succ _) _).setCell (p := ⟨w.heap.size + 1, 1, none⟩) (Nat.le_succ _) _)
        · have e3 : decide (nx < 0) = false := decide_eq_false h3
          by_cases h4 : m0 = nx
          · subst h4
            have e4 : (m0 != m0) = false := bne_self_eq_false _
            go_wp2_with (fail)
            refine start_ (n := 14) (S := fun w' => w'.cell? ⟨w.heap.size, 0, none⟩ = some (.int .i64 h) ∧ w'.cell? ⟨w.heap.size, 1, none⟩ = some (.slice A1 zs.length c1) ∧ w'.cell? gm = some (.int .i64 m0) ∧ w'.cell? ⟨gm.block, gm.off + 1, none⟩ = some (.int .i64 m1)) (ds := [12]) #[false, false, false, false, false, false, false, false, false, false, false, false, false, false] (by kernel_rfl) rfl rfl ⟨(blk_cell K.out 0).trans rfl, (blk_cell K.out 1).trans rfl, pw_cell_below HB.out HX0.out, pw_cell_below HB.out HX1.out⟩ (fun hHeld => ?_)
            have hb : Below w1.heap.size w1 w1.drew := below_drew (Below.refl _ _)
            have K := Aside0.mk (blk_below K.out hb)
            have B6 := Aside0.mk (blk_below B6.out hb)
            have ZS := Aside0.mk (Kd.S_below ZS.out hb)
            have HB := Aside0.mk (below_step HB.out hb)
            clear hb
            generalize w1.drew = V at K B6 ZS HB hHeld ⊢
            refine pure_ (i := 1) (N := some 51) (v := ?_) (a' := ?_) #[false, true, false, false, false, false, false, false, false, false, false, false, false, false] rfl rfl (by kernel_rfl) (fun _ _ _ h => h) (Or.inl ⟨by rfl, ?_⟩) ?_ ?_
            rotate_left
            · intro w'
              go_simp
              with_reducible rfl
            rotate_left
            · simp only [Act.put, List.setIfInBounds_toArray, List.set_cons_zero, List.set_cons_succ, i64_w, i32_w]
              rfl
            refine pure_ (i := 2) (N := some 52) (v := ?_) (a' := ?_) #[false, true, true, false, false, false, false, false, false, false, false, false, false, false] rfl rfl (by kernel_rfl) (fun _ _ _ h => h) (Or.inl ⟨by rfl, ?_⟩) ?_ ?_
            rotate_left
            · intro w'
              go_simp
              with_reducible rfl
            rotate_left
            · simp only [Act.put, List.setIfInBounds_toArray, List.set_cons_zero, List.set_cons_succ, i64_w, i32_w]
              rfl
            refine pure_ (i := 4) (N := some 54) (v := ?_) (a' := ?_) #[false, true, true, false, true, false, false, false, false, false, false, false, false, false] rfl rfl (by kernel_rfl) (fun _ _ _ h => h) (Or.inl ⟨by rfl, ?_⟩) ?_ ?_
            rotate_left
            · intro w'
              go_simp
              with_reducible rfl
            rotate_left
            · simp only [Act.put, List.setIfInBounds_toArray, List.set_cons_zero, List.set_cons_succ, i64_w, i32_w]
              rfl
            refine pure_ (i := 5) (N := some 55) (v := ?_) (a' := ?_) #[false, true, true, false, true, true, false, false, false, false, false, false, false, false] rfl rfl (by kernel_rfl) (fun _ _ _ h => h) (Or.inl ⟨by rfl, ?_⟩) ?_ ?_
            rotate_left
            · intro w'
              go_simp
              with_reducible rfl
            rotate_left
            · simp only [Act.put, List.setIfInBounds_toArray, List.set_cons_zero, List.set_cons_succ, i64_w, i32_w]
              rfl
            refine take_ (i := 0) (N := some 50) (v := ?_) (a' := ?_) #[true, true, true, false, true, true, false, false, false, false, false, false, false, false] rfl rfl (by kernel_rfl) (fun _ _ _ h => h) (Or.inl ⟨by rfl, ?_⟩) hHeld ?_ ?_
            rotate_left
            · rintro w' ⟨s0, s1, s2, s3⟩
              go_simp
              with_reducible rfl
            rotate_left
            · simp only [Act.put, List.setIfInBounds_toArray, List.set_cons_zero, List.set_cons_succ, i64_w, i32_w]
              rfl
            refine take_ (i := 3) (N := some 53) (v := ?_) (a' := ?_) #[true, true, true, true, true, true, false, false, false, false, false, false, false, false] rfl rfl (by kernel_rfl) (fun _ _ _ h => h) (Or.inl ⟨by rfl, ?_⟩) hHeld ?_ ?_
            rotate_left
            · rintro w' ⟨s0, s1, s2, s3⟩
              go_simp
              with_reducible rfl
            rotate_left
            · simp only [Act.put, List.setIfInBounds_toArray, List.set_cons_zero, List.set_cons_succ, i64_w, i32_w]
              rfl
            refine take_ (i := 6) (N := some 56) (v := ?_) (a' := ?_) #[true, true, true, true, true, true, true, false, false, false, false, false, false, false] rfl rfl (by kernel_rfl) (fun _ _ _ h => h) (Or.inl ⟨by rfl, ?_⟩) hHeld ?_ ?_
            rotate_left
            · rintro w' ⟨s0, s1, s2, s3⟩
              go_simp
              with_reducible rfl
            rotate_left
            · simp only [Act.put, List.setIfInBounds_toArray, List.set_cons_zero, List.set_cons_succ, i64_w, i32_w]
              rfl
            have HVW := Aside0.mk (show w.heap.size + 1 < V.heap.size from blk_lt B6.out)
            clear hHeld
            refine join_ (σ := Value × Value × Nat) (fuel' := 2) #[true, true, true, true, true, true, true, true, true, true, true, true, false, false] (fun s => [(57, .tuple #[.agg #[s.1, s.2.1], .bool (moveR h zs m0 m1).isSome]), (49, .tuple #[.agg #[s.1, s.2.1], .bool (moveR h zs m0 m1).isSome]), (58, .agg #[s.1, s.2.1]), (59, .bool (moveR h zs m0 m1).isSome), (10, .pointer (some ⟨s.2.2, 0, none⟩))]) (fun s w2 => s.1 = .int .i64 (hR h (moveR h zs m0 m1)).1 ∧ w2.heap[s.2.2]? = some (.cells #[.int .i64 0, .slice none 0 0] 27 (0, 0)) ∧ w.heap.size + 1 < s.2.2 ∧ Kd.S dW 31 w2 (w.heap.size + 2) (fun k => k ≠ s.2.2) s.2.1 (hR h (moveR h zs m0 m1)).2 ∧ Below V.heap.size V w2) ?_ ?_
            rotate_left
            · intro hcont
              refine two_ (i := 7) (j := 11) (Ni := some 57) (Nj := some 10) #[true, true, true, true, true, true, true, true, false, false, false, false, false, false] #[true, true, true, true, true, true, true, false, false, false, false, true, false, false] rfl rfl rfl rfl (by kernel_rfl) (by decide) (by decide) (fun K_ hK => ?_) (fun K_ hK => ?_)
              · refine goes_ Try.func50 (by kernel_rfl) rfl #[.agg #[.int .i64 h, .slice A1 zs.length c1], .int .i64 m0, .int .i64 m1] (by rfl) rfl rfl (by (try simp only [List.map_toArray, List.map_cons, List.map_nil]); first | done | rfl) ?_
                refine (moved_any h zs Z.out.1 m0 m1 A1 c1 V (Kd.S_reads' (d := dW) ZS.out).2.2 ZL.out).mono ?_
                rintro e w2 ⟨v, rfl, hS2, hb⟩
                have S2 := Aside0.mk (Kd.S_bound hS2)
                have HW2 := Aside0.mk hb
                clear hS2
                have K := Aside0.mk (blk_below K.out hb)
                have B6 := Aside0.mk (blk_below B6.out hb)
                have HB := Aside0.mk (below_step HB.out hb)
                refine ⟨_, rfl, ?_⟩
                refine hK.out _ _ ⟨(blk_cell K.out 0).trans rfl, (blk_cell K.out 1).trans rfl, pw_cell_below HB.out HX0.out, pw_cell_below HB.out HX1.out⟩ (fun hHeld => ?_)
                clear hK K_ hHeld hb
                refine norm_ (a' := ?_) ?_ ?_
                rotate_left
                · show Act.put _ (some 57) _ = _
                  simp only [Act.put, List.setIfInBounds_toArray, List.set_cons_zero, List.set_cons_succ, i64_w, i32_w]
                  rfl
                refine pure_ (i := 8) (N := some 49) (v := ?_) (a' := ?_) #[true, true, true, true, true, true, true, true, true, false, false, false, false, false] rfl rfl (by kernel_rfl) (fun _ _ _ h => h) (Or.inl ⟨by rfl, ?_⟩) ?_ ?_
                rotate_left
                · intro w'
                  go_simp
                  with_reducible rfl
                rotate_left
                · simp only [Act.put, List.setIfInBounds_toArray, List.set_cons_zero, List.set_cons_succ, i64_w, i32_w]
                  rfl
                refine pure_ (i := 9) (N := some 58) (v := ?_) (a' := ?_) #[true, true, true, true, true, true, true, true, true, true, false, false, false, false] rfl rfl (by kernel_rfl) (fun _ _ _ h => h) (Or.inl ⟨by rfl, ?_⟩) ?_ ?_
                rotate_left
                · intro w'
                  go_simp
                  with_reducible rfl
                rotate_left
                · simp only [Act.put, List.setIfInBounds_toArray, List.set_cons_zero, List.set_cons_succ, i64_w, i32_w]
                  rfl
                refine pure_ (i := 10) (N := some 59) (v := ?_) (a' := ?_) #[true, true, true, true, true, true, true, true, true, true, true, false, false, false] rfl rfl (by kernel_rfl) (fun _ _ _ h => h) (Or.inl ⟨by rfl, ?_⟩) ?_ ?_
                rotate_left
                · intro w'
                  go_simp
                  with_reducible rfl
                rotate_left
                · simp only [Act.put, List.setIfInBounds_toArray, List.set_cons_zero, List.set_cons_succ, i64_w, i32_w]
                  rfl
                refine one_ (i := 11) (N := some 10) #[true, true, true, true, true, true, true, true, true, true, true, true, false, false] rfl rfl (by kernel_rfl) (by decide) (fun K_ hK => ?_)
                refine value_ (v := .pointer (some ⟨w2.heap.size, 0, none⟩)) (w1 := w2.alloc (.cells #[.int .i64 0, .slice none 0 0] 27)) (by rfl) rfl ?_ ?_
                · go_simp
                  first | done | exact ⟨rfl, rfl⟩ | rfl
                have hb := below_alloc (Below.refl w2.heap.size w2) (.cells #[.int .i64 0, .slice none 0 0] 27)
                have K := Aside0.mk (blk_below K.out hb)
                have B6 := Aside0.mk (blk_below B6.out hb)
                have HB := Aside0.mk (below_step HB.out hb)
                clear hb
                refine hK.out _ _ ⟨(blk_cell K.out 0).trans rfl, (blk_cell K.out 1).trans rfl, pw_cell_below HB.out HX0.out, pw_cell_below HB.out HX1.out⟩ (fun hHeld => ?_)
                clear hK K_ hHeld
                refine norm_ (a' := ?_) ?_ ?_
                rotate_left
                · show Act.put _ (some 10) _ = _
                  simp only [Act.put, List.setIfInBounds_toArray, List.set_cons_zero, List.set_cons_succ, i64_w, i32_w]
                  rfl
                refine norm_ (a' := _) ?_ (hcont (.int .i64 (hR h (moveR h zs m0 m1)).1, v, w2.heap.size) (w2.alloc (.cells #[.int .i64 0, .slice none 0 0] 27)) ⟨rfl, blk_new w2 (.cells #[.int .i64 0, .slice none 0 0] 27), by have := HVW.out; have := HW2.out.size; show w.heap.size + 1 < w2.heap.size; omega, Kd.S_alloc (Kd.S_mono (Kd.S_lower S2.out (by have := HVW.out; omega)) (fun k hk => by have := hk.2.2.1; show k ≠ w2.heap.size; omega)) (.cells #[.int .i64 0, .slice none 0 0] 27), below_alloc HW2.out (.cells #[.int .i64 0, .slice none 0 0] 27)⟩)
                · simp only [putAll, Act.put, List.setIfInBounds_toArray, List.set_cons_zero, List.set_cons_succ]
                  try rfl
              · refine value_ (v := .pointer (some ⟨V.heap.size, 0, none⟩)) (w1 := V.alloc (.cells #[.int .i64 0, .slice none 0 0] 27)) (by rfl) rfl ?_ ?_
                · go_simp
                  first | done | exact ⟨rfl, rfl⟩ | rfl
                have hb := below_alloc (Below.refl V.heap.size V) (.cells #[.int .i64 0, .slice none 0 0] 27)
                have K := Aside0.mk (blk_below K.out hb)
                have B6 := Aside0.mk (blk_below B6.out hb)
                have HB := Aside0.mk (below_step HB.out hb)
                have ZS := Aside0.mk (Kd.S_below ZS.out hb)
                have NB := Aside0.mk (blk_new V (.cells #[.int .i64 0, .slice none 0 0] 27))
                clear hb
                refine hK.out _ _ ⟨(blk_cell K.out 0).trans rfl, (blk_cell K.out 1).trans rfl, pw_cell_below HB.out HX0.out, pw_cell_below HB.out HX1.out⟩ (fun hHeld => ?_)
                clear hK K_ hHeld
                refine norm_ (a' := ?_) ?_ ?_
                rotate_left
                · show Act.put _ (some 10) _ = _
                  simp only [Act.put, List.setIfInBounds_toArray, List.set_cons_zero, List.set_cons_succ, i64_w, i32_w]
                  rfl
                refine one_ (i := 7) (N := some 57) #[true, true, true, true, true, true, true, true, false, false, false, true, false, false] rfl rfl (by kernel_rfl) (by decide) (fun K_ hK => ?_)
                refine goes_ Try.func50 (by kernel_rfl) rfl #[.agg #[.int .i64 h, .slice A1 zs.length c1], .int .i64 m0, .int .i64 m1] (by rfl) rfl rfl (by (try simp only [List.map_toArray, List.map_cons, List.map_nil]); first | done | rfl) ?_
                refine (moved_any h zs Z.out.1 m0 m1 A1 c1 (V.alloc (.cells #[.int .i64 0, .slice none 0 0] 27)) (Kd.S_reads' (d := dW) ZS.out).2.2 ZL.out).mono ?_
                rintro e w2 ⟨v, rfl, hS2, hb⟩
                have S2 := Aside0.mk (Kd.S_bound hS2)
                have HW2 := Aside0.mk (below_step (below_alloc (Below.refl V.heap.size V) (.cells #[.int .i64 0, .slice none 0 0] 27)) hb)
                have NB := Aside0.mk (blk_below NB.out hb)
                clear hS2
                have K := Aside0.mk (blk_below K.out hb)
                have B6 := Aside0.mk (blk_below B6.out hb)
                have HB := Aside0.mk (below_step HB.out hb)
                refine ⟨_, rfl, ?_⟩
                refine hK.out _ _ ⟨(blk_cell K.out 0).trans rfl, (blk_cell K.out 1).trans rfl, pw_cell_below HB.out HX0.out, pw_cell_below HB.out HX1.out⟩ (fun hHeld => ?_)
                clear hK K_ hHeld hb
                refine norm_ (a' := ?_) ?_ ?_
                rotate_left
                · show Act.put _ (some 57) _ = _
                  simp only [Act.put, List.setIfInBounds_toArray, List.set_cons_zero, List.set_cons_succ, i64_w, i32_w]
                  rfl
                refine pure_ (i := 8) (N := some 49) (v := ?_) (a' := ?_) #[true, true, true, true, true, true, true, true, true, false, false, true, false, false] rfl rfl (by kernel_rfl) (fun _ _ _ h => h) (Or.inl ⟨by rfl, ?_⟩) ?_ ?_
                rotate_left
                · intro w'
                  go_simp
                  with_reducible rfl
                rotate_left
                · simp only [Act.put, List.setIfInBounds_toArray, List.set_cons_zero, List.set_cons_succ, i64_w, i32_w]
                  rfl
                refine pure_ (i := 9) (N := some 58) (v := ?_) (a' := ?_) #[true, true, true, true, true, true, true, true, true, true, false, true, false, false] rfl rfl (by kernel_rfl) (fun _ _ _ h => h) (Or.inl ⟨by rfl, ?_⟩) ?_ ?_
                rotate_left
                · intro w'
                  go_simp
                  with_reducible rfl
                rotate_left
                · simp only [Act.put, List.setIfInBounds_toArray, List.set_cons_zero, List.set_cons_succ, i64_w, i32_w]
                  rfl
                refine pure_ (i := 10) (N := some 59) (v := ?_) (a' := ?_) #[true, true, true, true, true, true, true, true, true, true, true, true, false, false] rfl rfl (by kernel_rfl) (fun _ _ _ h => h) (Or.inl ⟨by rfl, ?_⟩) ?_ ?_
                rotate_left
                · intro w'
                  go_simp
                  with_reducible rfl
                rotate_left
                · simp only [Act.put, List.setIfInBounds_toArray, List.set_cons_zero, List.set_cons_succ, i64_w, i32_w]
                  rfl
                refine norm_ (a' := _) ?_ (hcont (.int .i64 (hR h (moveR h zs m0 m1)).1, v, V.heap.size) w2 ⟨rfl, NB.out, HVW.out, Kd.S_mono (Kd.S_lower S2.out (by have := HVW.out; rw [World.size_alloc]; omega)) (fun k hk => by have := hk.2.1; rw [World.size_alloc] at this; show k ≠ V.heap.size; omega), HW2.out⟩)
                · simp only [putAll, Act.put, List.setIfInBounds_toArray, List.set_cons_zero, List.set_cons_succ]
                  try rfl
            rintro ⟨v9, vs, gN⟩ w2 ⟨e9, hN, hgN, hS2, hb⟩
            replace e9 : v9 = .int .i64 (hR h (moveR h zs m0 m1)).1 := e9
            subst e9
            generalize hh9 : (hR h (moveR h zs m0 m1)).1 = h9
            replace hS2 : Kd.S dW 31 w2 (w.heap.size + 2) (fun k => k ≠ gN) vs (hR h (moveR h zs m0 m1)).2 := hS2
            generalize hys : (hR h (moveR h zs m0 m1)).2 = ys at hS2
            generalize hb9 : (moveR h zs m0 m1).isSome = b9
            obtain ⟨Az, cz, rfl⟩ := Kd.S_slice hS2
            have H9 := Aside0.mk (And.intro hh9 (And.intro hys hb9))
            have S2 := Aside0.mk hS2
            have NB := Aside0.mk (show w2.heap[gN]? = some (.cells #[.int .i64 0, .slice none 0 0] 27 (0, 0)) from hN)
            have HGN := Aside0.mk (show w.heap.size + 1 < gN from hgN)
            have K := Aside0.mk (blk_below K.out hb)
            have B6 := Aside0.mk (blk_below B6.out hb)
            have HB := Aside0.mk (below_step HB.out hb)
            clear hh9 hys hb9 hS2 hN hgN hb ZS
            refine norm_ (a' := ?_) ?_ ?_
            rotate_left
            · simp only [putAll, Act.put, List.setIfInBounds_toArray, List.set_cons_zero, List.set_cons_succ]
              rfl
            have n0 : w2.cell? ⟨gN, 0, none⟩ = some (.int .i64 0) := (blk_cell NB.out 0).trans rfl
            have n1 : w2.cell? ⟨gN, 1, none⟩ = some (.slice none 0 0) := (blk_cell NB.out 1).trans rfl
            have n2 := blk_frozen NB.out 0
            have n3 := blk_frozen NB.out 1
            refine last_ (i := 12) (N := none) #[true, true, true, true, true, true, true, true, true, true, true, true, true, false] rfl rfl (by kernel_rfl) (by decide) (fun K_ hK => ?_)
            refine skip_ (w1 := ?_) (by rfl) rfl ?_ ?_
            rotate_left
            · go_simp
              rfl
            refine hK.out _ _ ?_
            clear hK K_ n0 n1 n2 n3
            refine pure_ (i := 13) (N := some 11) (v := ?_) (a' := ?_) #[true, true, true, true, true, true, true, true, true, true, true, true, true, true] rfl rfl (by kernel_rfl) (fun _ _ _ h => h) (Or.inl ⟨by rfl, ?_⟩) ?_ ?_
            rotate_left
            · intro w'
              go_simp
              with_reducible rfl
            rotate_left
            · simp only [Act.put, List.setIfInBounds_toArray, List.set_cons_zero, List.set_cons_succ, i64_w, i32_w]
              rfl
            refine done_ (by kernel_rfl) ?_
            have NB := Aside0.mk (blk_put (blk_put NB.out 0 (.int .i64 h9) rfl) 1 (.slice Az ys.length cz) rfl)
            have hne : w.heap.size ≠ gN ∧ w.heap.size + 1 ≠ gN := by have := HGN.out; constructor <;> omega
            have K := Aside0.mk ((Below.heap_setCell _ ⟨gN, 1, none⟩ (.slice Az ys.length cz) _ hne.1).trans ((Below.heap_setCell _ ⟨gN, 0, none⟩ (.int .i64 h9) _ hne.1).trans K.out))
            have B6 := Aside0.mk ((Below.heap_setCell _ ⟨gN, 1, none⟩ (.slice Az ys.length cz) _ hne.2).trans ((Below.heap_setCell _ ⟨gN, 0, none⟩ (.int .i64 h9) _ hne.2).trans B6.out))
            have HB := Aside0.mk ((HB.out.setCell (p := ⟨gN, 0, none⟩) (show w.heap.size ≤ gN by have := HGN.out; omega) (.int .i64 h9)).setCell (p := ⟨gN, 1, none⟩) (show w.heap.size ≤ gN by have := HGN.out; omega) (.slice Az ys.length cz))
            have S3 := Aside0.mk (Kd.S_far (p := ⟨gN, 1, none⟩) (Kd.S_far (p := ⟨gN, 0, none⟩) S2.out (fun k hk => by show k ≠ gN; omega) (.int .i64 h9)) (fun k hk => by show k ≠ gN; omega) (.slice Az ys.length cz))
            clear S2 hne
            generalize ((w2.setCell ⟨gN, 0, none⟩ (.int .i64 h9)).setCell ⟨gN, 1, none⟩ (.slice Az ys.length cz)) = w3 at NB K B6 HB S3 ⊢
            have n0 : w3.cell? ⟨gN, 0, none⟩ = some (.int .i64 h9) := (blk_cell NB.out 0).trans rfl
            have n1 : w3.cell? ⟨gN, 1, none⟩ = some (.slice Az ys.length cz) := (blk_cell NB.out 1).trans rfl
            obtain ⟨hh9, hys, hb9⟩ := H9.out
            cases hmv : moveR h zs m0 m1 with
            | none =>
              have HNO := Aside0.mk (show runL h (clearR xs) ms = none by
                rw [← Z.out.2, HMJ.out, runOne_eq h zs m H2.out (HM0.out.symm.trans HNX.out), ← HM0.out, ← HM1.out, hmv]; rfl)
              rw [hmv] at hb9
              subst hb9
              clear hh9 hys hmv H9
              have g0 : w3.cell? ⟨w.heap.size + 1, 0, none⟩ = some (.int .i64 0) := (blk_cell B6.out 0).trans rfl
              have g1 : w3.cell? ⟨w.heap.size + 1, 1, none⟩ = some (.slice none 0 0) := (blk_cell B6.out 1).trans rfl
              have g2 := blk_frozen B6.out 0
              have g3 := blk_frozen B6.out 1
              go_wp2_with (fail)
              have b7 := blk_put (blk_put B6.out 0 (.int .i64 0) rfl) 1 (.slice none 0 0) rfl
              refine bodyPost_ret (results_ct rfl _ _ (w.heap.size + 1) 27 #[.int .i64 0, .slice none 0 0] (0, 0) _ rfl b7 Try.underlying27 rfl (by kernel_rfl)) rfl ?_
              rw [HNO.out]
              exact out_none rfl (((HB.out).setCell (p := ⟨w.heap.size + 1, 0, none⟩) (Nat.le_succ _) _).setCell (p := ⟨w.heap.size + 1, 1, none⟩) (Nat.le_succ _) _)
            | some zs2 =>
              have HST := Aside0.mk (show runL h (clearR zs2) (ms.drop (j + 1)) = runL h (clearR xs) ms by
                rw [← Z.out.2, HMJ.out, runOne_eq h zs m H2.out (HM0.out.symm.trans HNX.out), ← HM0.out, ← HM1.out, hmv]; rfl)
              have HV2 := Aside0.mk (move_valid Z.out.1 hmv)
              rw [hmv] at hb9 hh9 hys
              have hb8 : b9 = true := hb9.symm
              have hh8 : h = h9 := hh9
              have hy8 : zs2 = ys := hys
              subst hb8
              subst hh8
              subst hy8
              clear hh9 hys hb9 hmv H9
              go_wp2_with (fail)
              refine (Ye.emptied_any h zs2 HV2.out Az cz w3 (Kd.S_reads' (d := dW) S3.out).2.2 (Kd.S_reads' (d := dW) S3.out).2.1).mono ?_
              rintro e w4 ⟨v, rfl, hS, hb⟩
              obtain ⟨Ay, cy, rfl⟩ := Kd.S_slice hS
              have HLT := Aside0.mk (show w.heap.size + 1 < w3.heap.size from blk_lt B6.out)
              have HS := Aside0.mk hS
              have K := Aside0.mk (blk_below K.out hb)
              have B6 := Aside0.mk (blk_below B6.out hb)
              have HB := Aside0.mk (below_step HB.out hb)
              clear hS hb n0 n1
              have y0 : w4.cell? ⟨w.heap.size, 0, none⟩ = some (.int .i64 h) := (blk_cell K.out 0).trans rfl
              have y1 : w4.cell? ⟨w.heap.size, 1, none⟩ = some (.slice A1 zs.length c1) := (blk_cell K.out 1).trans rfl
              have g2 := blk_frozen K.out 0
              have g3 := blk_frozen K.out 1
              go_wp2_with (fail)
              go_roundw
              case rel =>
                refine ⟨j + 1, by have := HJ.out; omega, by have := HJ.out; first | (congr 1; done) | (congr 1; unfold wrap64; omega), ⟨clearR zs2, clear_valid _ zs2 rfl HV2.out, HST.out, Ay, cy, (Kd.S_reads' (d := dW) HS.out).2.1, blk_put (blk_put K.out 0 (.int .i64 h) rfl) 1 (.slice Ay (clearR zs2).length cy) rfl, ?_⟩, ⟨?_⟩, ⟨?_⟩⟩
                · refine Kd.S_far (p := ⟨w.heap.size, 1, none⟩) (Kd.S_far (p := ⟨w.heap.size, 0, none⟩) (Kd.S_mono (Kd.S_lower (Kd.S_bound HS.out) (by have := HLT.out; omega)) (fun k hk => by have := hk.2.1; have := HLT.out; show w.heap.size + 2 ≤ k; omega)) (fun k hk => by show k ≠ w.heap.size; omega) _) (fun k hk => by show k ≠ w.heap.size; omega) _
                · rw [Below.heap_setCell _ _ _ _ (show w.heap.size + 1 ≠ w.heap.size by omega), Below.heap_setCell _ _ _ _ (show w.heap.size + 1 ≠ w.heap.size by omega)]; exact B6.out
                · exact (HB.out.setCell (p := ⟨w.heap.size, 0, none⟩) (Nat.le_refl _) _).setCell (p := ⟨w.heap.size, 1, none⟩) (Nat.le_refl _) _
              case measure => have := HJ.out; simp only [intOf]; first | omega | (unfold wrap64; omega)
          · have e4 : (m0 != nx) = true := bne_iff_ne.2 h4
            have HNO := Aside0.mk (show runL h (clearR xs) ms = none by
              rw [← Z.out.2, HMJ.out]
              cases hr : runOne h zs m with
              | none => rfl
              | some y => exact absurd (HM0.out.trans ((HM2.out (by rw [hr]; rfl)).2.1.trans HNX.out.symm)) h4)
            have g0 : w1.cell? ⟨w.heap.size + 1, 0, none⟩ = some (.int .i64 0) := (blk_cell B6.out 0).trans rfl
            have g1 : w1.cell? ⟨w.heap.size + 1, 1, none⟩ = some (.slice none 0 0) := (blk_cell B6.out 1).trans rfl
            have g2 := blk_frozen B6.out 0
            have g3 := blk_frozen B6.out 1
            go_wp2_with (fail)
            have b7 := blk_put (blk_put B6.out 0 (.int .i64 0) rfl) 1 (.slice none 0 0) rfl
            refine bodyPost_ret (results_ct rfl _ _ (w.heap.size + 1) 27 #[.int .i64 0, .slice none 0 0] (0, 0) _ rfl b7 Try.underlying27 rfl (by kernel_rfl)) rfl ?_
            rw [HNO.out]
            exact out_none rfl (((HB.out).setCell (p := ⟨w.heap.size + 1, 0, none⟩) (Nat.le_succ _) _).setCell (p := ⟨w.heap.size + 1, 1, none⟩) (Nat.le_succ _) _)
      · have e1 : ((m.length : Int) != 2) = true := bne_iff_ne.2 (by omega)
        have e2 : (m.length != 2) = true := bne_iff_ne.2 h2
        have HNO := Aside0.mk (show runL h (clearR xs) ms = none by
          rw [← Z.out.2, HMJ.out]
          cases hr : runOne h zs m with
          | none => rfl
          | some y => exact absurd (HM2.out (by rw [hr]; rfl)).1 h2)
        have g0 : w1.cell? ⟨w.heap.size + 1, 0, none⟩ = some (.int .i64 0) := (blk_cell B6.out 0).trans rfl
        have g1 : w1.cell? ⟨w.heap.size + 1, 1, none⟩ = some (.slice none 0 0) := (blk_cell B6.out 1).trans rfl
        have g2 := blk_frozen B6.out 0
        have g3 := blk_frozen B6.out 1
        go_wp2_with (fail)
        have b7 := blk_put (blk_put B6.out 0 (.int .i64 0) rfl) 1 (.slice none 0 0) rfl
        refine bodyPost_ret (results_ct rfl _ _ (w.heap.size + 1) 27 #[.int .i64 0, .slice none 0 0] (0, 0) _ rfl b7 Try.underlying27 rfl (by kernel_rfl)) rfl ?_
        rw [HNO.out]
        exact out_none rfl (((HB.out).setCell (p := ⟨w.heap.size + 1, 0, none⟩) (Nat.le_succ _) _).setCell (p := ⟨w.heap.size + 1, 1, none⟩) (Nat.le_succ _) _)
    · have c0 : decide ((j : Int) < (ms.length : Int)) = false := decide_eq_false (by omega)
      obtain rfl : j = ms.length := by omega
      have HEND := Aside0.mk (show runL h (clearR xs) ms = some zs by rw [← Z.out.2, List.drop_length]; rfl)
      have y0 : wr.cell? ⟨w.heap.size, 0, none⟩ = some (.int .i64 h) := (blk_cell K.out 0).trans rfl
      have y1 : wr.cell? ⟨w.heap.size, 1, none⟩ = some (.slice A1 zs.length c1) := (blk_cell K.out 1).trans rfl
      clear hlt
      have g0 : wr.cell? ⟨w.heap.size + 1, 0, none⟩ = some (.int .i64 0) := (blk_cell B6.out 0).trans rfl
      have g1 : wr.cell? ⟨w.heap.size + 1, 1, none⟩ = some (.slice none 0 0) := (blk_cell B6.out 1).trans rfl
      have g2 := blk_frozen B6.out 0
      have g3 := blk_frozen B6.out 1
      go_wp2_with (fail)
      have b7 := blk_put (blk_put B6.out 0 (.int .i64 h) rfl) 1 (.slice A1 zs.length c1) rfl
      refine bodyPost_ret (results_ct rfl _ _ (w.heap.size + 1) 27 #[.int .i64 h, .slice A1 zs.length c1] (0, 0) _ rfl b7 Try.underlying27 rfl (by kernel_rfl)) rfl ?_
      rw [HEND.out]
      refine ⟨_, rfl, ?_, (((HB.out).setCell (p := ⟨w.heap.size + 1, 0, none⟩) (Nat.le_succ _) _).setCell (p := ⟨w.heap.size + 1, 1, none⟩) (Nat.le_succ _) _)⟩
      exact Kd.S_mono (Kd.S_far (p := ⟨w.heap.size + 1, 1, none⟩) (Kd.S_far (p := ⟨w.heap.size + 1, 0, none⟩) ZS.out (fun k hk => by show k ≠ w.heap.size + 1; omega) _) (fun k hk => by show k ≠ w.heap.size + 1; omega) _) (fun _ _ => trivial)
end Go.Proofs.Ytibaiaenfeppcaa.RMi

/- The reference's RunMoves. -/
namespace Go.Proofs.Ytibaiaenfeppcaa.RMs
open Go Go.RowKit Go.Proofs.YtibaiaenfeppcaaW.PrintWords Go.Proofs.YtibaiaenfeppcaaW.PrintLast Go.Proofs.YtibaiaenfeppcaaW.PrintMore Go.Proofs.Ytibaiaenfeppcaa.Q Go.Proofs.Ytibaiaenfeppcaa.PuY Go.Proofs.Ytibaiaenfeppcaa.PuTO Go.Proofs.Ytibaiaenfeppcaa.PuTN Go.Proofs.Ytibaiaenfeppcaa.PuRM Go.Proofs.Ytibaiaenfeppcaa.Lw Go.Proofs.Ytibaiaenfeppcaa.Ow Go.Proofs.Ytibaiaenfeppcaa.Yo Go.Proofs.Ytibaiaenfeppcaa.Yn Go.Proofs.Ytibaiaenfeppcaa.Yt Go.Proofs.Ytibaiaenfeppcaa.Yq Go.Proofs.Ytibaiaenfeppcaa.Yr
set_option linter.unusedVariables false
set_option linter.unusedSimpArgs false
open Go.Proofs.Ytibaiaenfeppcaa.Yk
set_option maxRecDepth 100000 in
set_option maxHeartbeats 4000000 in
theorem spec_no (h : Int) (xs ms : List (List Int)) (hlx : xs.length ≤ 1048576) (hv : Yv.valid h xs = false) (A : Option Addr) (c : Nat) (A2 : Option Addr) (c2 : Nat) (w : World) (hC : Kd.C dR w A xs.length xs) (hcl : xs.length ≤ c) (hM : Kd.C dR w A2 ms.length ms) (hcm : ms.length ≤ c2) :
    Calls Try.prog 34 #[.agg #[.int .i64 h, .slice A xs.length c], .slice A2 ms.length c2] w (Out h none w) := by
  have hu := Try.underlying27
  have HR := Aside0.mk hC
  have HC := Aside0.mk hcl
  have HM := Aside0.mk hM
  have HCM := Aside0.mk hcm
  have HV := Aside0.mk (show spec_l09Yard.f 300000 h xs = some (false, h) by rw [specYard_eq h xs hlx 300000 (by decide), hv])
  clear hC hcl hM hcm hv
  go_enter Try.func34, Try.ntmps34
  go_wp2_with (fail)
  have b2 := below_alloc (below_alloc (Below.refl w.heap.size w) (.cells #[.int .i64 h, .slice A xs.length c] 27)) (.cells #[.int .i64 0, .slice none 0 0] 27)
  have hI : IsS27 w ((w.alloc (.cells #[.int .i64 h, .slice A xs.length c] 27)).alloc (.cells #[.int .i64 0, .slice none 0 0] 27)) w.heap.size h xs := ⟨A, c, blk_alloc (blk_new w (.cells #[.int .i64 h, .slice A xs.length c] 27)) (.cells #[.int .i64 0, .slice none 0 0] 27), Nat.le_refl _, HR.out⟩
  refine (spec_l09Yard.calls 300000 w.heap.size h xs false h w _ hI b2 HV.out).mono ?_
  rintro e w1 ⟨rfl, hI1, hb, hk⟩
  have HB := Aside0.mk hb
  have B6 := Aside0.mk ((hk.2 (w.heap.size + 1) (by simp) (by omega) (by simp)).trans (blk_new' w (.cells #[.int .i64 h, .slice A xs.length c] 27) (.cells #[.int .i64 0, .slice none 0 0] 27)))
  have HI := Aside0.mk hI1
  clear hb b2 hI hI1 hk
  have g0 : w1.cell? ⟨w.heap.size + 1, 0, none⟩ = some (.int .i64 0) := (blk_cell B6.out 0).trans rfl
  have g1 : w1.cell? ⟨w.heap.size + 1, 1, none⟩ = some (.slice none 0 0) := (blk_cell B6.out 1).trans rfl
  have g2 := blk_frozen B6.out 0
  have g3 := blk_frozen B6.out 1
  go_wp2_with (fail)
  have b7 := blk_put (blk_put B6.out 0 (.int .i64 0) rfl) 1 (.slice none 0 0) rfl
  refine bodyPost_ret (results_ct rfl _ _ (w.heap.size + 1) 27 #[.int .i64 0, .slice none 0 0] (0, 0) _ rfl b7 Try.underlying27 rfl (by kernel_rfl)) rfl ?_
  exact out_none rfl (((HB.out).setCell (p := ⟨w.heap.size + 1, 0, none⟩) (Nat.le_succ _) _).setCell (p := ⟨w.heap.size + 1, 1, none⟩) (Nat.le_succ _) _)
set_option maxRecDepth 100000 in
set_option maxHeartbeats 4000000 in
theorem spec_long (h : Int) (xs ms : List (List Int)) (hlx : xs.length ≤ 1048576) (hv : Yv.valid h xs = true) (hl : 21 < ms.length) (A : Option Addr) (c : Nat) (A2 : Option Addr) (c2 : Nat) (w : World) (hC : Kd.C dR w A xs.length xs) (hcl : xs.length ≤ c) (hM : Kd.C dR w A2 ms.length ms) (hcm : ms.length ≤ c2) :
    Calls Try.prog 34 #[.agg #[.int .i64 h, .slice A xs.length c], .slice A2 ms.length c2] w (Out h none w) := by
  have hu := Try.underlying27
  have HR := Aside0.mk hC
  have HC := Aside0.mk hcl
  have HM := Aside0.mk hM
  have HCM := Aside0.mk hcm
  have HV := Aside0.mk (show spec_l09Yard.f 300000 h xs = some (true, h) by rw [specYard_eq h xs hlx 300000 (by decide), hv])
  have c1 : decide (21 < ms.length) = true := decide_eq_true hl
  have c2_ : decide ((21 : Int) < (ms.length : Int)) = true := decide_eq_true (by omega)
  have c3_ : (21 < ms.length) = True := eq_true hl
  clear hC hcl hM hcm hv
  go_enter Try.func34, Try.ntmps34
  go_wp2_with (fail)
  have b2 := below_alloc (below_alloc (Below.refl w.heap.size w) (.cells #[.int .i64 h, .slice A xs.length c] 27)) (.cells #[.int .i64 0, .slice none 0 0] 27)
  have hI : IsS27 w ((w.alloc (.cells #[.int .i64 h, .slice A xs.length c] 27)).alloc (.cells #[.int .i64 0, .slice none 0 0] 27)) w.heap.size h xs := ⟨A, c, blk_alloc (blk_new w (.cells #[.int .i64 h, .slice A xs.length c] 27)) (.cells #[.int .i64 0, .slice none 0 0] 27), Nat.le_refl _, HR.out⟩
  refine (spec_l09Yard.calls 300000 w.heap.size h xs true h w _ hI b2 HV.out).mono ?_
  rintro e w1 ⟨rfl, hI1, hb, hk⟩
  have HB := Aside0.mk hb
  have B6 := Aside0.mk ((hk.2 (w.heap.size + 1) (by simp) (by omega) (by simp)).trans (blk_new' w (.cells #[.int .i64 h, .slice A xs.length c] 27) (.cells #[.int .i64 0, .slice none 0 0] 27)))
  have HI := Aside0.mk hI1
  clear hb b2 hI hI1 hk
  have g0 : w1.cell? ⟨w.heap.size + 1, 0, none⟩ = some (.int .i64 0) := (blk_cell B6.out 0).trans rfl
  have g1 : w1.cell? ⟨w.heap.size + 1, 1, none⟩ = some (.slice none 0 0) := (blk_cell B6.out 1).trans rfl
  have g2 := blk_frozen B6.out 0
  have g3 := blk_frozen B6.out 1
  go_wp2_with (fail)
  have b7 := blk_put (blk_put B6.out 0 (.int .i64 0) rfl) 1 (.slice none 0 0) rfl
  refine bodyPost_ret (results_ct rfl _ _ (w.heap.size + 1) 27 #[.int .i64 0, .slice none 0 0] (0, 0) _ rfl b7 Try.underlying27 rfl (by kernel_rfl)) rfl ?_
  exact out_none rfl (((HB.out).setCell (p := ⟨w.heap.size + 1, 0, none⟩) (Nat.le_succ _) _).setCell (p := ⟨w.heap.size + 1, 1, none⟩) (Nat.le_succ _) _)
set_option maxRecDepth 100000 in
set_option maxHeartbeats 4000000 in
theorem spec_run (h : Int) (xs ms : List (List Int)) (hlx : xs.length ≤ 1048576) (hv : Yv.valid h xs = true) (hl : ms.length ≤ 21) (A : Option Addr) (c : Nat) (A2 : Option Addr) (c2 : Nat) (w : World) (hC : Kd.C dR w A xs.length xs) (hcl : xs.length ≤ c) (hM : Kd.C dR w A2 ms.length ms) (hcm : ms.length ≤ c2) :
    Calls Try.prog 34 #[.agg #[.int .i64 h, .slice A xs.length c], .slice A2 ms.length c2] w (Out h (runL h (clearR xs) ms) w) := by
  have hu := Try.underlying27
  have HR := Aside0.mk hC
  have HC := Aside0.mk hcl
  have HM := Aside0.mk hM
  have HCM := Aside0.mk hcm
  have HV := Aside0.mk (show spec_l09Yard.f 300000 h xs = some (true, h) by rw [specYard_eq h xs hlx 300000 (by decide), hv])
  have HVV := Aside0.mk hv
  have c1 : decide (21 < ms.length) = false := decide_eq_false (by omega)
  have c2_ : decide ((21 : Int) < (ms.length : Int)) = false := decide_eq_false (by omega)
  clear hC hcl hM hcm hv
  go_enter Try.func34, Try.ntmps34
  go_wp2_with (fail)
  have b2 := below_alloc (below_alloc (Below.refl w.heap.size w) (.cells #[.int .i64 h, .slice A xs.length c] 27)) (.cells #[.int .i64 0, .slice none 0 0] 27)
  have hI : IsS27 w ((w.alloc (.cells #[.int .i64 h, .slice A xs.length c] 27)).alloc (.cells #[.int .i64 0, .slice none 0 0] 27)) w.heap.size h xs := ⟨A, c, blk_alloc (blk_new w (.cells #[.int .i64 h, .slice A xs.length c] 27)) (.cells #[.int .i64 0, .slice none 0 0] 27), Nat.le_refl _, HR.out⟩
  refine (spec_l09Yard.calls 300000 w.heap.size h xs true h w _ hI b2 HV.out).mono ?_
  rintro e w1 ⟨rfl, hI1, hb, hk⟩
  have HB := Aside0.mk hb
  have B6 := Aside0.mk ((hk.2 (w.heap.size + 1) (by simp) (by omega) (by simp)).trans (blk_new' w (.cells #[.int .i64 h, .slice A xs.length c] 27) (.cells #[.int .i64 0, .slice none 0 0] 27)))
  have HI := Aside0.mk hI1
  clear hb b2 hI hI1 hk
  obtain ⟨A1, c1, hb1, -, hC1⟩ := HI.out
  go_wp2_with (fail)
  obtain ⟨p1, p2, p3, p4, p5, -⟩ := valid_parts HVV.out
  refine (Yn.own_any h xs (by omega) (fun r hr => by have := p5 r hr; omega) w.heap.size xs.length c1 A1 w1 hb1 rfl (Kd.C_below hC1 HB.out)).mono ?_
  rintro e w2 ⟨v, rfl, hS, hb⟩
  have HLT := Aside0.mk (blk_lt B6.out)
  have B6 := Aside0.mk (blk_below B6.out hb)
  have HB := Aside0.mk (below_step HB.out hb)
  have hS1 : Kd.S dR 31 w2 w1.heap.size (fun k => k ≠ w2.heap.size) v xs := Kd.S_mono (Kd.S_elderB hS w2.heap.size (Nat.le_refl _)) (fun k hk => hk.2)
  have hz := hb.size
  obtain ⟨Av, cv, rfl⟩ := Kd.S_slice hS1
  have Y := Aside0.mk (show YO w1.heap.size (w2.alloc (.cells #[.int .i64 h, .slice Av xs.length cv] 27)) w2.heap.size h xs from ⟨Av, cv, blk_new w2 _, hz, by rw [World.size_alloc]; omega, Kd.S_alloc hS1 _⟩)
  have HZ := Aside0.mk hz
  clear hS hS1 hb hb1 hC1 hz p1 p2 p3 p4 p5
  go_wp2_with (fail)
  refine (Yc.clear_any w1.heap.size w2.heap.size h xs HVV.out _ Y.out).mono ?_
  rintro e w3 ⟨rfl, hY, hb⟩
  have HB := Aside0.mk (show Below w.heap.size w w3 from (HB.out.trans ((below_alloc (Below.refl w2.heap.size w2) (.cells #[.int .i64 h, .slice Av xs.length cv] 27)).mono HB.out.size)).trans (hb.mono (by have := HLT.out; omega)))
  have B6 := Aside0.mk ((hb.block (w.heap.size + 1) HLT.out).trans (blk_alloc B6.out (.cells #[.int .i64 h, .slice Av xs.length cv] 27)))
  have Y := Aside0.mk hY
  clear hb hY HI
  go_wp2_with (fail)
  go_loopw [7] (fun v7 wz => ∃ j : Nat, j ≤ ms.length ∧ v7 = .int .i64 (j : Int) ∧ Aside0 (∃ zs : List (List Int), Yv.valid h zs = true ∧ runL h zs (ms.drop j) = runL h (clearR xs) ms ∧ YO w1.heap.size wz w2.heap.size h zs) ∧ Aside0 (wz.heap[w.heap.size + 1]? = some (.cells #[.int .i64 0, .slice none 0 0] 27 (0, 0))) ∧ Aside0 (Below w.heap.size w wz)) (fun v _ => ms.length - (intOf v).toNat)
  case atStart => exact ⟨0, Nat.zero_le _, rfl, ⟨clearR xs, clear_valid _ xs rfl HVV.out, by rw [List.drop_zero], Y.out⟩, B6, HB⟩
  case round =>
    clear B6 HB Y
    obtain ⟨j, hj, rfl, hZ, B6, HB⟩ := hrel
    obtain ⟨zs, z1, z2, z3⟩ := hZ.out
    have Z := Aside0.mk (And.intro z1 z2)
    have Y := Aside0.mk z3
    clear hZ z1 z2 z3
    by_cases hlt : j < ms.length
    · have c0 : decide ((j : Int) < (ms.length : Int)) = true := decide_eq_true (by omega)
      have p1 : (0 ≤ (j : Int)) = True := eq_true (by omega)
      have q1 : ((j : Int) < (ms.length : Int)) = True := eq_true (by omega)
      obtain ⟨ad, Am, cm, rfl, hx, hcm, hCm⟩ := C_rows HM.out j hlt
      obtain ⟨m, hm⟩ : ∃ m, m = ms[j] := ⟨_, rfl⟩
      rw [← hm] at hx hcm hCm
      have HMJ := Aside0.mk (show runL h zs (ms.drop j) = (runOne h zs m).bind fun ys => runL h ys (ms.drop (j + 1)) by rw [List.drop_eq_getElem_cons hlt, ← hm]; rfl)
      have HX := Aside0.mk hx
      have HCm := Aside0.mk hCm
      have HJ := Aside0.mk hlt
      clear hm hx hcm hCm
      have HM2 := Aside0.mk (show (runOne h zs m).isSome = true → m.length = 2 ∧ rd m 0 = nextI zs ∧ 0 ≤ nextI zs from runOne_some h zs m)
      go_wp2_with (fail)
      by_cases h2 : m.length = 2
      · have e1 : ((m.length : Int) != 2) = false := bne_eq_false_iff_eq.2 (by omega)
        have e2 : (m.length != 2) = false := bne_eq_false_iff_eq.2 h2
        obtain ⟨gm, eg, hx0⟩ := Kd.at_int HCm.out 0 (by decide) (by omega)
        obtain ⟨gm', eg', hx1⟩ := Kd.at_int HCm.out 1 (by decide) (by omega)
        subst eg
        injection eg' with eg'
        subst eg'
        obtain ⟨m0, hm0⟩ : ∃ m0, m0 = rd m 0 := ⟨_, rfl⟩
        obtain ⟨m1, hm1⟩ : ∃ m1, m1 = rd m 1 := ⟨_, rfl⟩
        rw [← hm0] at hx0
        rw [← hm1] at hx1
        replace hx0 : w.cell? gm = some (.int .i64 m0) := hx0
        replace hx1 : w.cell? (gm.add 1) = some (.int .i64 m1) := hx1
        have HX0 := Aside0.mk hx0
        have HX1 := Aside0.mk hx1
        have l0 : ((0 : Int) < (m.length : Int)) = True := eq_true (by omega)
        have l1 : ((1 : Int) < (m.length : Int)) = True := eq_true (by omega)
        have l2 : (0 < m.length) = True := eq_true (by omega)
        have l3 : (1 < m.length) = True := eq_true (by omega)
        have HM0 := Aside0.mk hm0
        have HM1 := Aside0.mk hm1
        have H2 := Aside0.mk h2
        obtain ⟨nx, hnx⟩ : ∃ nx, nx = nextI zs := ⟨_, rfl⟩
        have HNQ := Aside0.mk (take_parts Z.out.1).2.2.2.1
        rw [← hnx] at HNQ
        have HNX := Aside0.mk hnx
        clear hm0 hm1 h2 hnx hx0 hx1
        by_cases h4 : m0 = nx
        · subst h4
          have e4 : (m0 != m0) = false := bne_self_eq_false _
          refine start_ (n := 32) (S := fun w' => w'.cell? (ad.add j) = some (.slice (some gm) m.length cm) ∧ w'.cell? gm = some (.int .i64 m0) ∧ w'.cell? ⟨gm.block, gm.off + 1, none⟩ = some (.int .i64 m1)) (ds := []) #[false, false, false, false, false, false, false, false, false, false, false, false, false, false, false, false, false, false, false, false, false, false, false, false, false, false, false, false, false, false, false, false] (by kernel_rfl) rfl rfl ⟨pw_cell_below HB.out HX.out, pw_cell_below HB.out HX0.out, pw_cell_below HB.out HX1.out⟩ (fun hHeld => ?_)
          have hb : Below wr.heap.size wr wr.drew := below_drew (Below.refl _ _)
          have Y := Aside0.mk (Y.out.below hb)
          have B6 := Aside0.mk (blk_below B6.out hb)
          have HB := Aside0.mk (below_step HB.out hb)
          have hz := hb.size
          clear hb
          generalize wr.drew = V at Y B6 HB hHeld hz ⊢
          refine pure_ (i := 0) (N := some 24) (v := ?_) (a' := ?_) #[true, false, false, false, false, false, false, false, false, false, false, false, false, false, false, false, false, false, false, false, false, false, false, false, false, false, false, false, false, false, false, false] rfl rfl (by kernel_rfl) (fun _ _ _ h => h) (Or.inl ⟨by rfl, ?_⟩) ?_ ?_
          rotate_left
          · intro w'
            go_simp
            with_reducible rfl
          rotate_left
          · simp only [Act.put, List.setIfInBounds_toArray, List.set_cons_zero, List.set_cons_succ, i64_w, i32_w]
            rfl
          refine pure_ (i := 1) (N := some 25) (v := ?_) (a' := ?_) #[true, true, false, false, false, false, false, false, false, false, false, false, false, false, false, false, false, false, false, false, false, false, false, false, false, false, false, false, false, false, false, false] rfl rfl (by kernel_rfl) (fun _ _ _ h => h) (Or.inl ⟨by rfl, ?_⟩) ?_ ?_
          rotate_left
          · intro w'
            go_simp
            with_reducible rfl
          rotate_left
          · simp only [Act.put, List.setIfInBounds_toArray, List.set_cons_zero, List.set_cons_succ, i64_w, i32_w]
            rfl
          refine pure_ (i := 2) (N := some 26) (v := ?_) (a' := ?_) #[true, true, true, false, false, false, false, false, false, false, false, false, false, false, false, false, false, false, false, false, false, false, false, false, false, false, false, false, false, false, false, false] rfl rfl (by kernel_rfl) (fun _ _ _ h => h) (Or.inl ⟨by rfl, ?_⟩) ?_ ?_
          rotate_left
          · intro w'
            go_simp
            with_reducible rfl
          rotate_left
          · simp only [Act.put, List.setIfInBounds_toArray, List.set_cons_zero, List.set_cons_succ, i64_w, i32_w]
            rfl
          refine take_ (i := 3) (N := some 27) (v := ?_) (a' := ?_) #[true, true, true, true, false, false, false, false, false, false, false, false, false, false, false, false, false, false, false, false, false, false, false, false, false, false, false, false, false, false, false, false] rfl rfl (by kernel_rfl) (fun _ _ _ h => h) (Or.inl ⟨by rfl, ?_⟩) hHeld ?_ ?_
          rotate_left
          · rintro w' ⟨s0, s1, s2⟩
            go_simp
            with_reducible rfl
          rotate_left
          · simp only [Act.put, List.setIfInBounds_toArray, List.set_cons_zero, List.set_cons_succ, i64_w, i32_w]
            rfl
          refine pure_ (i := 4) (N := some 28) (v := ?_) (a' := ?_) #[true, true, true, true, true, false, false, false, false, false, false, false, false, false, false, false, false, false, false, false, false, false, false, false, false, false, false, false, false, false, false, false] rfl rfl (by kernel_rfl) (fun _ _ _ h => h) (Or.inl ⟨by rfl, ?_⟩) ?_ ?_
          rotate_left
          · intro w'
            go_simp
            with_reducible rfl
          rotate_left
          · simp only [Act.put, List.setIfInBounds_toArray, List.set_cons_zero, List.set_cons_succ, i64_w, i32_w]
            rfl
          refine pure_ (i := 5) (N := some 29) (v := ?_) (a' := ?_) #[true, true, true, true, true, true, false, false, false, false, false, false, false, false, false, false, false, false, false, false, false, false, false, false, false, false, false, false, false, false, false, false] rfl rfl (by kernel_rfl) (fun _ _ _ h => h) (Or.inl ⟨by rfl, ?_⟩) ?_ ?_
          rotate_left
          · intro w'
            go_simp
            with_reducible rfl
          rotate_left
          · simp only [Act.put, List.setIfInBounds_toArray, List.set_cons_zero, List.set_cons_succ, i64_w, i32_w]
            rfl
          refine pure_ (i := 6) (N := some 30) (v := ?_) (a' := ?_) #[true, true, true, true, true, true, true, false, false, false, false, false, false, false, false, false, false, false, false, false, false, false, false, false, false, false, false, false, false, false, false, false] rfl rfl (by kernel_rfl) (fun _ _ _ h => h) (Or.inl ⟨by rfl, ?_⟩) ?_ ?_
          rotate_left
          · intro w'
            go_simp
            with_reducible rfl
          rotate_left
          · simp only [Act.put, List.setIfInBounds_toArray, List.set_cons_zero, List.set_cons_succ, i64_w, i32_w]
            rfl
          refine pure_ (i := 7) (N := some 31) (v := ?_) (a' := ?_) #[true, true, true, true, true, true, true, true, false, false, false, false, false, false, false, false, false, false, false, false, false, false, false, false, false, false, false, false, false, false, false, false] rfl rfl (by kernel_rfl) (fun _ _ _ h => h) (Or.inl ⟨by rfl, ?_⟩) ?_ ?_
          rotate_left
          · intro w'
            go_simp
            with_reducible rfl
          rotate_left
          · simp only [Act.put, List.setIfInBounds_toArray, List.set_cons_zero, List.set_cons_succ, i64_w, i32_w]
            rfl
          refine pure_ (i := 8) (N := some 32) (v := ?_) (a' := ?_) #[true, true, true, true, true, true, true, true, true, false, false, false, false, false, false, false, false, false, false, false, false, false, false, false, false, false, false, false, false, false, false, false] rfl rfl (by kernel_rfl) (fun _ _ _ h => h) (Or.inl ⟨by rfl, ?_⟩) ?_ ?_
          rotate_left
          · intro w'
            go_simp
            with_reducible rfl
          rotate_left
          · simp only [Act.put, List.setIfInBounds_toArray, List.set_cons_zero, List.set_cons_succ, i64_w, i32_w]
            rfl
          refine pure_ (i := 9) (N := some 33) (v := ?_) (a' := ?_) #[true, true, true, true, true, true, true, true, true, true, false, false, false, false, false, false, false, false, false, false, false, false, false, false, false, false, false, false, false, false, false, false] rfl rfl (by kernel_rfl) (fun _ _ _ h => h) (Or.inl ⟨by rfl, ?_⟩) ?_ ?_
          rotate_left
          · intro w'
            go_simp
            with_reducible rfl
          rotate_left
          · simp only [Act.put, List.setIfInBounds_toArray, List.set_cons_zero, List.set_cons_succ, i64_w, i32_w]
            rfl
          refine take_ (i := 10) (N := some 34) (v := ?_) (a' := ?_) #[true, true, true, true, true, true, true, true, true, true, true, false, false, false, false, false, false, false, false, false, false, false, false, false, false, false, false, false, false, false, false, false] rfl rfl (by kernel_rfl) (fun _ _ _ h => h) (Or.inl ⟨by rfl, ?_⟩) hHeld ?_ ?_
          rotate_left
          · rintro w' ⟨s0, s1, s2⟩
            go_simp
            with_reducible rfl
          rotate_left
          · simp only [Act.put, List.setIfInBounds_toArray, List.set_cons_zero, List.set_cons_succ, i64_w, i32_w]
            rfl
          refine pure_ (i := 11) (N := some 35) (v := ?_) (a' := ?_) #[true, true, true, true, true, true, true, true, true, true, true, true, false, false, false, false, false, false, false, false, false, false, false, false, false, false, false, false, false, false, false, false] rfl rfl (by kernel_rfl) (fun _ _ _ h => h) (Or.inl ⟨by rfl, ?_⟩) ?_ ?_
          rotate_left
          · intro w'
            go_simp
            with_reducible rfl
          rotate_left
          · simp only [Act.put, List.setIfInBounds_toArray, List.set_cons_zero, List.set_cons_succ, i64_w, i32_w]
            rfl
          refine take_ (i := 12) (N := some 36) (v := ?_) (a' := ?_) #[true, true, true, true, true, true, true, true, true, true, true, true, true, false, false, false, false, false, false, false, false, false, false, false, false, false, false, false, false, false, false, false] rfl rfl (by kernel_rfl) (fun _ _ _ h => h) (Or.inl ⟨by rfl, ?_⟩) hHeld ?_ ?_
          rotate_left
          · rintro w' ⟨s0, s1, s2⟩
            go_simp
            with_reducible rfl
          rotate_left
          · simp only [Act.put, List.setIfInBounds_toArray, List.set_cons_zero, List.set_cons_succ, i64_w, i32_w]
            rfl
          refine one_ (i := 13) (N := some 37) #[true, true, true, true, true, true, true, true, true, true, true, true, true, true, false, false, false, false, false, false, false, false, false, false, false, false, false, false, false, false, false, false] rfl rfl (by kernel_rfl) (by decide) (fun K_ hK => ?_)
          refine goes_ Try.func60 (by kernel_rfl) rfl #[.pointer (some ⟨w2.heap.size, 0, none⟩)] (by rfl) rfl rfl (by (try simp only [List.map_toArray, List.map_cons, List.map_nil]); first | done | rfl) ?_
          refine (next_any w1.heap.size w2.heap.size h zs m0 2000000 HNQ.out V Y.out).mono ?_
          rintro e w6 ⟨rfl, hb⟩
          refine ⟨_, rfl, ?_⟩
          have Y := Aside0.mk (Y.out.below hb)
          have B6 := Aside0.mk (blk_below B6.out hb)
          have HB := Aside0.mk (below_step HB.out hb)
          clear hb hHeld
          refine hK.out _ _ ⟨pw_cell_below HB.out HX.out, pw_cell_below HB.out HX0.out, pw_cell_below HB.out HX1.out⟩ (fun hHeld => ?_)
          clear hK K_
          refine norm_ (a' := ?_) ?_ ?_
          rotate_left
          · show Act.put _ (some 37) _ = _
            simp only [Act.put, List.setIfInBounds_toArray, List.set_cons_zero, List.set_cons_succ, i64_w, i32_w]
            rfl
          refine pure_ (i := 14) (N := some 38) (v := ?_) (a' := ?_) #[true, true, true, true, true, true, true, true, true, true, true, true, true, true, true, false, false, false, false, false, false, false, false, false, false, false, false, false, false, false, false, false] rfl rfl (by kernel_rfl) (fun _ _ _ h => h) (Or.inl ⟨by rfl, ?_⟩) ?_ ?_
          rotate_left
          · intro w'
            go_simp
            with_reducible rfl
          rotate_left
          · simp only [Act.put, List.setIfInBounds_toArray, List.set_cons_zero, List.set_cons_succ, i64_w, i32_w]
            rfl
          refine pure_ (i := 15) (N := some 39) (v := ?_) (a' := ?_) #[true, true, true, true, true, true, true, true, true, true, true, true, true, true, true, true, false, false, false, false, false, false, false, false, false, false, false, false, false, false, false, false] rfl rfl (by kernel_rfl) (fun _ _ _ h => h) (Or.inl ⟨by rfl, ?_⟩) ?_ ?_
          rotate_left
          · intro w'
            go_simp
            with_reducible rfl
          rotate_left
          · simp only [Act.put, List.setIfInBounds_toArray, List.set_cons_zero, List.set_cons_succ, i64_w, i32_w]
            rfl
          refine pure_ (i := 16) (N := some 40) (v := ?_) (a' := ?_) #[true, true, true, true, true, true, true, true, true, true, true, true, true, true, true, true, true, false, false, false, false, false, false, false, false, false, false, false, false, false, false, false] rfl rfl (by kernel_rfl) (fun _ _ _ h => h) (Or.inl ⟨by rfl, ?_⟩) ?_ ?_
          rotate_left
          · intro w'
            go_simp
            with_reducible rfl
          rotate_left
          · simp only [Act.put, List.setIfInBounds_toArray, List.set_cons_zero, List.set_cons_succ, i64_w, i32_w]
            rfl
          refine pure_ (i := 17) (N := some 41) (v := ?_) (a' := ?_) #[true, true, true, true, true, true, true, true, true, true, true, true, true, true, true, true, true, true, false, false, false, false, false, false, false, false, false, false, false, false, false, false] rfl rfl (by kernel_rfl) (fun _ _ _ h => h) (Or.inl ⟨by rfl, ?_⟩) ?_ ?_
          rotate_left
          · intro w'
            go_simp
            with_reducible rfl
          rotate_left
          · simp only [Act.put, List.setIfInBounds_toArray, List.set_cons_zero, List.set_cons_succ, i64_w, i32_w]
            rfl
          refine pure_ (i := 18) (N := some 42) (v := ?_) (a' := ?_) #[true, true, true, true, true, true, true, true, true, true, true, true, true, true, true, true, true, true, true, false, false, false, false, false, false, false, false, false, false, false, false, false] rfl rfl (by kernel_rfl) (fun _ _ _ h => h) (Or.inl ⟨by rfl, ?_⟩) ?_ ?_
          rotate_left
          · intro w'
            go_simp
            with_reducible rfl
          rotate_left
          · simp only [Act.put, List.setIfInBounds_toArray, List.set_cons_zero, List.set_cons_succ, i64_w, i32_w]
            rfl
          refine pure_ (i := 19) (N := some 43) (v := ?_) (a' := ?_) #[true, true, true, true, true, true, true, true, true, true, true, true, true, true, true, true, true, true, true, true, false, false, false, false, false, false, false, false, false, false, false, false] rfl rfl (by kernel_rfl) (fun _ _ _ h => h) (Or.inl ⟨by rfl, ?_⟩) ?_ ?_
          rotate_left
          · intro w'
            go_simp
            with_reducible rfl
          rotate_left
          · simp only [Act.put, List.setIfInBounds_toArray, List.set_cons_zero, List.set_cons_succ, i64_w, i32_w]
            rfl
          refine pure_ (i := 23) (N := some 47) (v := ?_) (a' := ?_) #[true, true, true, true, true, true, true, true, true, true, true, true, true, true, true, true, true, true, true, true, false, false, false, true, false, false, false, false, false, false, false, false] rfl rfl (by kernel_rfl) (fun _ _ _ h => h) (Or.inl ⟨by rfl, ?_⟩) ?_ ?_
          rotate_left
          · intro w'
            go_simp
            with_reducible rfl
          rotate_left
          · simp only [Act.put, List.setIfInBounds_toArray, List.set_cons_zero, List.set_cons_succ, i64_w, i32_w]
            rfl
          refine pure_ (i := 24) (N := some 48) (v := ?_) (a' := ?_) #[true, true, true, true, true, true, true, true, true, true, true, true, true, true, true, true, true, true, true, true, false, false, false, true, true, false, false, false, false, false, false, false] rfl rfl (by kernel_rfl) (fun _ _ _ h => h) (Or.inl ⟨by rfl, ?_⟩) ?_ ?_
          rotate_left
          · intro w'
            go_simp
            with_reducible rfl
          rotate_left
          · simp only [Act.put, List.setIfInBounds_toArray, List.set_cons_zero, List.set_cons_succ, i64_w, i32_w]
            rfl
          refine pure_ (i := 25) (N := some 49) (v := ?_) (a' := ?_) #[true, true, true, true, true, true, true, true, true, true, true, true, true, true, true, true, true, true, true, true, false, false, false, true, true, true, false, false, false, false, false, false] rfl rfl (by kernel_rfl) (fun _ _ _ h => h) (Or.inl ⟨by rfl, ?_⟩) ?_ ?_
          rotate_left
          · intro w'
            go_simp
            with_reducible rfl
          rotate_left
          · simp only [Act.put, List.setIfInBounds_toArray, List.set_cons_zero, List.set_cons_succ, i64_w, i32_w]
            rfl
          refine take_ (i := 20) (N := some 44) (v := ?_) (a' := ?_) #[true, true, true, true, true, true, true, true, true, true, true, true, true, true, true, true, true, true, true, true, true, false, false, true, true, true, false, false, false, false, false, false] rfl rfl (by kernel_rfl) (fun _ _ _ h => h) (Or.inl ⟨by rfl, ?_⟩) hHeld ?_ ?_
          rotate_left
          · rintro w' ⟨s0, s1, s2⟩
            go_simp
            with_reducible rfl
          rotate_left
          · simp only [Act.put, List.setIfInBounds_toArray, List.set_cons_zero, List.set_cons_succ, i64_w, i32_w]
            rfl
          refine pure_ (i := 21) (N := some 45) (v := ?_) (a' := ?_) #[true, true, true, true, true, true, true, true, true, true, true, true, true, true, true, true, true, true, true, true, true, true, false, true, true, true, false, false, false, false, false, false] rfl rfl (by kernel_rfl) (fun _ _ _ h => h) (Or.inl ⟨by rfl, ?_⟩) ?_ ?_
          rotate_left
          · intro w'
            go_simp
            with_reducible rfl
          rotate_left
          · simp only [Act.put, List.setIfInBounds_toArray, List.set_cons_zero, List.set_cons_succ, i64_w, i32_w]
            rfl
          refine take_ (i := 22) (N := some 46) (v := ?_) (a' := ?_) #[true, true, true, true, true, true, true, true, true, true, true, true, true, true, true, true, true, true, true, true, true, true, true, true, true, true, false, false, false, false, false, false] rfl rfl (by kernel_rfl) (fun _ _ _ h => h) (Or.inl ⟨by rfl, ?_⟩) hHeld ?_ ?_
          rotate_left
          · rintro w' ⟨s0, s1, s2⟩
            go_simp
            with_reducible rfl
          rotate_left
          · simp only [Act.put, List.setIfInBounds_toArray, List.set_cons_zero, List.set_cons_succ, i64_w, i32_w]
            rfl
          refine take_ (i := 26) (N := some 50) (v := ?_) (a' := ?_) #[true, true, true, true, true, true, true, true, true, true, true, true, true, true, true, true, true, true, true, true, true, true, true, true, true, true, true, false, false, false, false, false] rfl rfl (by kernel_rfl) (fun _ _ _ h => h) (Or.inl ⟨by rfl, ?_⟩) hHeld ?_ ?_
          rotate_left
          · rintro w' ⟨s0, s1, s2⟩
            go_simp
            with_reducible rfl
          rotate_left
          · simp only [Act.put, List.setIfInBounds_toArray, List.set_cons_zero, List.set_cons_succ, i64_w, i32_w]
            rfl
          refine pure_ (i := 27) (N := some 51) (v := ?_) (a' := ?_) #[true, true, true, true, true, true, true, true, true, true, true, true, true, true, true, true, true, true, true, true, true, true, true, true, true, true, true, true, false, false, false, false] rfl rfl (by kernel_rfl) (fun _ _ _ h => h) (Or.inl ⟨by rfl, ?_⟩) ?_ ?_
          rotate_left
          · intro w'
            go_simp
            with_reducible rfl
          rotate_left
          · simp only [Act.put, List.setIfInBounds_toArray, List.set_cons_zero, List.set_cons_succ, i64_w, i32_w]
            rfl
          refine take_ (i := 28) (N := some 52) (v := ?_) (a' := ?_) #[true, true, true, true, true, true, true, true, true, true, true, true, true, true, true, true, true, true, true, true, true, true, true, true, true, true, true, true, true, false, false, false] rfl rfl (by kernel_rfl) (fun _ _ _ h => h) (Or.inl ⟨by rfl, ?_⟩) hHeld ?_ ?_
          rotate_left
          · rintro w' ⟨s0, s1, s2⟩
            go_simp
            with_reducible rfl
          rotate_left
          · simp only [Act.put, List.setIfInBounds_toArray, List.set_cons_zero, List.set_cons_succ, i64_w, i32_w]
            rfl
          refine one_ (i := 29) (N := some 53) #[true, true, true, true, true, true, true, true, true, true, true, true, true, true, true, true, true, true, true, true, true, true, true, true, true, true, true, true, true, true, false, false] rfl rfl (by kernel_rfl) (by decide) (fun K_ hK => ?_)
          refine goes_ Try.func55 (by kernel_rfl) rfl #[.pointer (some ⟨w2.heap.size, 0, none⟩), .int .i64 m0, .int .i64 m1] (by rfl) rfl rfl (by (try simp only [List.map_toArray, List.map_cons, List.map_nil]); first | done | rfl) ?_
          refine (move_any w1.heap.size w2.heap.size h zs Z.out.1 m0 m1 _ Y.out).mono ?_
          rintro e w7 ⟨he, hY, hb⟩
          generalize hb9 : moveB h zs m0 m1 = b9 at he
          subst he
          refine ⟨_, rfl, ?_⟩
          have H9 := Aside0.mk hb9
          have Y := Aside0.mk hY
          have B6 := Aside0.mk ((hb.block (w.heap.size + 1) HLT.out).trans B6.out)
          have HB := Aside0.mk (HB.out.trans (hb.mono (by have := HLT.out; omega)))
          clear hb hHeld hY hb9
          refine hK.out _ _ ⟨pw_cell_below HB.out HX.out, pw_cell_below HB.out HX0.out, pw_cell_below HB.out HX1.out⟩ (fun hHeld => ?_)
          clear hK K_
          refine norm_ (a' := ?_) ?_ ?_
          rotate_left
          · show Act.put _ (some 53) _ = _
            simp only [Act.put, List.setIfInBounds_toArray, List.set_cons_zero, List.set_cons_succ, i64_w, i32_w]
            rfl
          refine pure_ (i := 30) (N := some 54) (v := ?_) (a' := ?_) #[true, true, true, true, true, true, true, true, true, true, true, true, true, true, true, true, true, true, true, true, true, true, true, true, true, true, true, true, true, true, true, false] rfl rfl (by kernel_rfl) (fun _ _ _ h => h) (Or.inl ⟨by rfl, ?_⟩) ?_ ?_
          rotate_left
          · intro w'
            go_simp
            with_reducible rfl
          rotate_left
          · simp only [Act.put, List.setIfInBounds_toArray, List.set_cons_zero, List.set_cons_succ, i64_w, i32_w]
            rfl
          refine pure_ (i := 31) (N := some 55) (v := ?_) (a' := ?_) #[true, true, true, true, true, true, true, true, true, true, true, true, true, true, true, true, true, true, true, true, true, true, true, true, true, true, true, true, true, true, true, true] rfl rfl (by kernel_rfl) (fun _ _ _ h => h) (Or.inl ⟨by rfl, ?_⟩) ?_ ?_
          rotate_left
          · intro w'
            go_simp
            with_reducible rfl
          rotate_left
          · simp only [Act.put, List.setIfInBounds_toArray, List.set_cons_zero, List.set_cons_succ, i64_w, i32_w]
            rfl
          refine done_ (by kernel_rfl) ?_
          have hb9 := H9.out
          cases hmv : moveR h zs m0 m1 with
          | none =>
            have HNO := Aside0.mk (show runL h (clearR xs) ms = none by
              rw [← Z.out.2, HMJ.out, runOne_eq h zs m H2.out (HM0.out.symm.trans HNX.out), ← HM0.out, ← HM1.out, hmv]; rfl)
            have hb8 : b9 = false := by
              rw [← hb9]
              unfold moveR at hmv
              split at hmv
              · cases hmv
              · next hc => simpa using hc
            subst hb8
            clear hb9 hmv H9
            have g0 : w7.cell? ⟨w.heap.size + 1, 0, none⟩ = some (.int .i64 0) := (blk_cell B6.out 0).trans rfl
            have g1 : w7.cell? ⟨w.heap.size + 1, 1, none⟩ = some (.slice none 0 0) := (blk_cell B6.out 1).trans rfl
            have g2 := blk_frozen B6.out 0
            have g3 := blk_frozen B6.out 1
            go_wp2_with (fail)
            have b7 := blk_put (blk_put B6.out 0 (.int .i64 0) rfl) 1 (.slice none 0 0) rfl
            refine bodyPost_ret (results_ct rfl _ _ (w.heap.size + 1) 27 #[.int .i64 0, .slice none 0 0] (0, 0) _ rfl b7 Try.underlying27 rfl (by kernel_rfl)) rfl ?_
            rw [HNO.out]
            exact out_none rfl (((HB.out).setCell (p := ⟨w.heap.size + 1, 0, none⟩) (Nat.le_succ _) _).setCell (p := ⟨w.heap.size + 1, 1, none⟩) (Nat.le_succ _) _)
          | some zs2 =>
            have HST := Aside0.mk (show runL h (clearR zs2) (ms.drop (j + 1)) = runL h (clearR xs) ms by
              rw [← Z.out.2, HMJ.out, runOne_eq h zs m H2.out (HM0.out.symm.trans HNX.out), ← HM0.out, ← HM1.out, hmv]; rfl)
            have HV2 := Aside0.mk (move_valid Z.out.1 hmv)
            have hb8 : b9 = true := by
              rw [← hb9]
              unfold moveR at hmv
              split at hmv
              · assumption
              · cases hmv
            subst hb8
            have hY2 := Y.out
            rw [hmv] at hY2
            have Y2 := Aside0.mk (show YO w1.heap.size w7 w2.heap.size h zs2 from hY2)
            clear hb9 hmv H9 hY2
            go_wp2_with (fail)
            refine (Yc.clear_any w1.heap.size w2.heap.size h zs2 HV2.out _ Y2.out).mono ?_
            rintro e w8 ⟨rfl, hY, hb⟩
            have B6 := Aside0.mk ((hb.block (w.heap.size + 1) HLT.out).trans B6.out)
            have HB := Aside0.mk (HB.out.trans (hb.mono (by have := HLT.out; omega)))
            have Y3 := Aside0.mk hY
            clear hb hY
            go_wp2_with (fail)
            go_roundw
            case rel => exact ⟨j + 1, by have := HJ.out; omega, by have := HJ.out; first | (congr 1; done) | (congr 1; unfold wrap64; omega), ⟨clearR zs2, clear_valid _ zs2 rfl HV2.out, HST.out, Y3.out⟩, B6, HB⟩
            case measure => have := HJ.out; simp only [intOf]; first | omega | (unfold wrap64; omega)
        · have e4 : (m0 != nx) = true := bne_iff_ne.2 h4
          have HNO := Aside0.mk (show runL h (clearR xs) ms = none by
            rw [← Z.out.2, HMJ.out]
            cases hr : runOne h zs m with
            | none => rfl
            | some y => exact absurd (HM0.out.trans ((HM2.out (by rw [hr]; rfl)).2.1.trans HNX.out.symm)) h4)
          refine start_ (n := 32) (S := fun w' => w'.cell? (ad.add j) = some (.slice (some gm) m.length cm) ∧ w'.cell? gm = some (.int .i64 m0) ∧ w'.cell? ⟨gm.block, gm.off + 1, none⟩ = some (.int .i64 m1)) (ds := []) #[false, false, false, false, false, false, false, false, false, false, false, false, false, false, false, false, false, false, false, false, false, false, false, false, false, false, false, false, false, false, false, false] (by kernel_rfl) rfl rfl ⟨pw_cell_below HB.out HX.out, pw_cell_below HB.out HX0.out, pw_cell_below HB.out HX1.out⟩ (fun hHeld => ?_)
          have hb : Below wr.heap.size wr wr.drew := below_drew (Below.refl _ _)
          have Y := Aside0.mk (Y.out.below hb)
          have B6 := Aside0.mk (blk_below B6.out hb)
          have HB := Aside0.mk (below_step HB.out hb)
          have hz := hb.size
          clear hb
          generalize wr.drew = V at Y B6 HB hHeld hz ⊢
          refine pure_ (i := 0) (N := some 24) (v := ?_) (a' := ?_) #[true, false, false, false, false, false, false, false, false, false, false, false, false, false, false, false, false, false, false, false, false, false, false, false, false, false, false, false, false, false, false, false] rfl rfl (by kernel_rfl) (fun _ _ _ h => h) (Or.inl ⟨by rfl, ?_⟩) ?_ ?_
          rotate_left
          · intro w'
            go_simp
            with_reducible rfl
          rotate_left
          · simp only [Act.put, List.setIfInBounds_toArray, List.set_cons_zero, List.set_cons_succ, i64_w, i32_w]
            rfl
          refine pure_ (i := 1) (N := some 25) (v := ?_) (a' := ?_) #[true, true, false, false, false, false, false, false, false, false, false, false, false, false, false, false, false, false, false, false, false, false, false, false, false, false, false, false, false, false, false, false] rfl rfl (by kernel_rfl) (fun _ _ _ h => h) (Or.inl ⟨by rfl, ?_⟩) ?_ ?_
          rotate_left
          · intro w'
            go_simp
            with_reducible rfl
          rotate_left
          · simp only [Act.put, List.setIfInBounds_toArray, List.set_cons_zero, List.set_cons_succ, i64_w, i32_w]
            rfl
          refine pure_ (i := 2) (N := some 26) (v := ?_) (a' := ?_) #[true, true, true, false, false, false, false, false, false, false, false, false, false, false, false, false, false, false, false, false, false, false, false, false, false, false, false, false, false, false, false, false] rfl rfl (by kernel_rfl) (fun _ _ _ h => h) (Or.inl ⟨by rfl, ?_⟩) ?_ ?_
          rotate_left
          · intro w'
            go_simp
            with_reducible rfl
          rotate_left
          · simp only [Act.put, List.setIfInBounds_toArray, List.set_cons_zero, List.set_cons_succ, i64_w, i32_w]
            rfl
          refine take_ (i := 3) (N := some 27) (v := ?_) (a' := ?_) #[true, true, true, true, false, false, false, false, false, false, false, false, false, false, false, false, false, false, false, false, false, false, false, false, false, false, false, false, false, false, false, false] rfl rfl (by kernel_rfl) (fun _ _ _ h => h) (Or.inl ⟨by rfl, ?_⟩) hHeld ?_ ?_
          rotate_left
          · rintro w' ⟨s0, s1, s2⟩
            go_simp
            with_reducible rfl
          rotate_left
          · simp only [Act.put, List.setIfInBounds_toArray, List.set_cons_zero, List.set_cons_succ, i64_w, i32_w]
            rfl
          refine pure_ (i := 4) (N := some 28) (v := ?_) (a' := ?_) #[true, true, true, true, true, false, false, false, false, false, false, false, false, false, false, false, false, false, false, false, false, false, false, false, false, false, false, false, false, false, false, false] rfl rfl (by kernel_rfl) (fun _ _ _ h => h) (Or.inl ⟨by rfl, ?_⟩) ?_ ?_
          rotate_left
          · intro w'
            go_simp
            with_reducible rfl
          rotate_left
          · simp only [Act.put, List.setIfInBounds_toArray, List.set_cons_zero, List.set_cons_succ, i64_w, i32_w]
            rfl
          refine pure_ (i := 5) (N := some 29) (v := ?_) (a' := ?_) #[true, true, true, true, true, true, false, false, false, false, false, false, false, false, false, false, false, false, false, false, false, false, false, false, false, false, false, false, false, false, false, false] rfl rfl (by kernel_rfl) (fun _ _ _ h => h) (Or.inl ⟨by rfl, ?_⟩) ?_ ?_
          rotate_left
          · intro w'
            go_simp
            with_reducible rfl
          rotate_left
          · simp only [Act.put, List.setIfInBounds_toArray, List.set_cons_zero, List.set_cons_succ, i64_w, i32_w]
            rfl
          refine pure_ (i := 6) (N := some 30) (v := ?_) (a' := ?_) #[true, true, true, true, true, true, true, false, false, false, false, false, false, false, false, false, false, false, false, false, false, false, false, false, false, false, false, false, false, false, false, false] rfl rfl (by kernel_rfl) (fun _ _ _ h => h) (Or.inl ⟨by rfl, ?_⟩) ?_ ?_
          rotate_left
          · intro w'
            go_simp
            with_reducible rfl
          rotate_left
          · simp only [Act.put, List.setIfInBounds_toArray, List.set_cons_zero, List.set_cons_succ, i64_w, i32_w]
            rfl
          refine pure_ (i := 7) (N := some 31) (v := ?_) (a' := ?_) #[true, true, true, true, true, true, true, true, false, false, false, false, false, false, false, false, false, false, false, false, false, false, false, false, false, false, false, false, false, false, false, false] rfl rfl (by kernel_rfl) (fun _ _ _ h => h) (Or.inl ⟨by rfl, ?_⟩) ?_ ?_
          rotate_left
          · intro w'
            go_simp
            with_reducible rfl
          rotate_left
          · simp only [Act.put, List.setIfInBounds_toArray, List.set_cons_zero, List.set_cons_succ, i64_w, i32_w]
            rfl
          refine pure_ (i := 8) (N := some 32) (v := ?_) (a' := ?_) #[true, true, true, true, true, true, true, true, true, false, false, false, false, false, false, false, false, false, false, false, false, false, false, false, false, false, false, false, false, false, false, false] rfl rfl (by kernel_rfl) (fun _ _ _ h => h) (Or.inl ⟨by rfl, ?_⟩) ?_ ?_
          rotate_left
          · intro w'
            go_simp
            with_reducible rfl
          rotate_left
          · simp only [Act.put, List.setIfInBounds_toArray, List.set_cons_zero, List.set_cons_succ, i64_w, i32_w]
            rfl
          refine pure_ (i := 9) (N := some 33) (v := ?_) (a' := ?_) #[true, true, true, true, true, true, true, true, true, true, false, false, false, false, false, false, false, false, false, false, false, false, false, false, false, false, false, false, false, false, false, false] rfl rfl (by kernel_rfl) (fun _ _ _ h => h) (Or.inl ⟨by rfl, ?_⟩) ?_ ?_
          rotate_left
          · intro w'
            go_simp
            with_reducible rfl
          rotate_left
          · simp only [Act.put, List.setIfInBounds_toArray, List.set_cons_zero, List.set_cons_succ, i64_w, i32_w]
            rfl
          refine take_ (i := 10) (N := some 34) (v := ?_) (a' := ?_) #[true, true, true, true, true, true, true, true, true, true, true, false, false, false, false, false, false, false, false, false, false, false, false, false, false, false, false, false, false, false, false, false] rfl rfl (by kernel_rfl) (fun _ _ _ h => h) (Or.inl ⟨by rfl, ?_⟩) hHeld ?_ ?_
          rotate_left
          · rintro w' ⟨s0, s1, s2⟩
            go_simp
            with_reducible rfl
          rotate_left
          · simp only [Act.put, List.setIfInBounds_toArray, List.set_cons_zero, List.set_cons_succ, i64_w, i32_w]
            rfl
          refine pure_ (i := 11) (N := some 35) (v := ?_) (a' := ?_) #[true, true, true, true, true, true, true, true, true, true, true, true, false, false, false, false, false, false, false, false, false, false, false, false, false, false, false, false, false, false, false, false] rfl rfl (by kernel_rfl) (fun _ _ _ h => h) (Or.inl ⟨by rfl, ?_⟩) ?_ ?_
          rotate_left
          · intro w'
            go_simp
            with_reducible rfl
          rotate_left
          · simp only [Act.put, List.setIfInBounds_toArray, List.set_cons_zero, List.set_cons_succ, i64_w, i32_w]
            rfl
          refine take_ (i := 12) (N := some 36) (v := ?_) (a' := ?_) #[true, true, true, true, true, true, true, true, true, true, true, true, true, false, false, false, false, false, false, false, false, false, false, false, false, false, false, false, false, false, false, false] rfl rfl (by kernel_rfl) (fun _ _ _ h => h) (Or.inl ⟨by rfl, ?_⟩) hHeld ?_ ?_
          rotate_left
          · rintro w' ⟨s0, s1, s2⟩
            go_simp
            with_reducible rfl
          rotate_left
          · simp only [Act.put, List.setIfInBounds_toArray, List.set_cons_zero, List.set_cons_succ, i64_w, i32_w]
            rfl
          refine one_ (i := 13) (N := some 37) #[true, true, true, true, true, true, true, true, true, true, true, true, true, true, false, false, false, false, false, false, false, false, false, false, false, false, false, false, false, false, false, false] rfl rfl (by kernel_rfl) (by decide) (fun K_ hK => ?_)
          refine goes_ Try.func60 (by kernel_rfl) rfl #[.pointer (some ⟨w2.heap.size, 0, none⟩)] (by rfl) rfl rfl (by (try simp only [List.map_toArray, List.map_cons, List.map_nil]); first | done | rfl) ?_
          refine (next_any w1.heap.size w2.heap.size h zs nx 2000000 HNQ.out V Y.out).mono ?_
          rintro e w6 ⟨rfl, hb⟩
          refine ⟨_, rfl, ?_⟩
          have Y := Aside0.mk (Y.out.below hb)
          have B6 := Aside0.mk (blk_below B6.out hb)
          have HB := Aside0.mk (below_step HB.out hb)
          clear hb hHeld
          refine hK.out _ _ ⟨pw_cell_below HB.out HX.out, pw_cell_below HB.out HX0.out, pw_cell_below HB.out HX1.out⟩ (fun hHeld => ?_)
          clear hK K_
          refine norm_ (a' := ?_) ?_ ?_
          rotate_left
          · show Act.put _ (some 37) _ = _
            simp only [Act.put, List.setIfInBounds_toArray, List.set_cons_zero, List.set_cons_succ, i64_w, i32_w]
            rfl
          refine pure_ (i := 14) (N := some 38) (v := ?_) (a' := ?_) #[true, true, true, true, true, true, true, true, true, true, true, true, true, true, true, false, false, false, false, false, false, false, false, false, false, false, false, false, false, false, false, false] rfl rfl (by kernel_rfl) (fun _ _ _ h => h) (Or.inl ⟨by rfl, ?_⟩) ?_ ?_
          rotate_left
          · intro w'
            go_simp
            with_reducible rfl
          rotate_left
          · simp only [Act.put, List.setIfInBounds_toArray, List.set_cons_zero, List.set_cons_succ, i64_w, i32_w]
            rfl
          refine pure_ (i := 15) (N := some 39) (v := ?_) (a' := ?_) #[true, true, true, true, true, true, true, true, true, true, true, true, true, true, true, true, false, false, false, false, false, false, false, false, false, false, false, false, false, false, false, false] rfl rfl (by kernel_rfl) (fun _ _ _ h => h) (Or.inl ⟨by rfl, ?_⟩) ?_ ?_
          rotate_left
          · intro w'
            go_simp
            with_reducible rfl
          rotate_left
          · simp only [Act.put, List.setIfInBounds_toArray, List.set_cons_zero, List.set_cons_succ, i64_w, i32_w]
            rfl
          refine pure_ (i := 16) (N := some 40) (v := ?_) (a' := ?_) #[true, true, true, true, true, true, true, true, true, true, true, true, true, true, true, true, true, false, false, false, false, false, false, false, false, false, false, false, false, false, false, false] rfl rfl (by kernel_rfl) (fun _ _ _ h => h) (Or.inl ⟨by rfl, ?_⟩) ?_ ?_
          rotate_left
          · intro w'
            go_simp
            with_reducible rfl
          rotate_left
          · simp only [Act.put, List.setIfInBounds_toArray, List.set_cons_zero, List.set_cons_succ, i64_w, i32_w]
            rfl
          refine pure_ (i := 17) (N := some 41) (v := undef) (a' := ?_) #[true, true, true, true, true, true, true, true, true, true, true, true, true, true, true, true, true, true, false, false, false, false, false, false, false, false, false, false, false, false, false, false] rfl rfl (by kernel_rfl) (fun _ _ _ h => h) (Or.inr ⟨by rfl, rfl⟩) ?_ ?_
          rotate_left
          · simp only [Act.put, List.setIfInBounds_toArray, List.set_cons_zero, List.set_cons_succ, i64_w, i32_w]
            rfl
          refine pure_ (i := 18) (N := some 42) (v := undef) (a' := ?_) #[true, true, true, true, true, true, true, true, true, true, true, true, true, true, true, true, true, true, true, false, false, false, false, false, false, false, false, false, false, false, false, false] rfl rfl (by kernel_rfl) (fun _ _ _ h => h) (Or.inr ⟨by rfl, rfl⟩) ?_ ?_
          rotate_left
          · simp only [Act.put, List.setIfInBounds_toArray, List.set_cons_zero, List.set_cons_succ, i64_w, i32_w]
            rfl
          refine pure_ (i := 19) (N := some 43) (v := undef) (a' := ?_) #[true, true, true, true, true, true, true, true, true, true, true, true, true, true, true, true, true, true, true, true, false, false, false, false, false, false, false, false, false, false, false, false] rfl rfl (by kernel_rfl) (fun _ _ _ h => h) (Or.inr ⟨by rfl, rfl⟩) ?_ ?_
          rotate_left
          · simp only [Act.put, List.setIfInBounds_toArray, List.set_cons_zero, List.set_cons_succ, i64_w, i32_w]
            rfl
          refine pure_ (i := 20) (N := some 44) (v := undef) (a' := ?_) #[true, true, true, true, true, true, true, true, true, true, true, true, true, true, true, true, true, true, true, true, true, false, false, false, false, false, false, false, false, false, false, false] rfl rfl (by kernel_rfl) (fun _ _ _ h => h) (Or.inr ⟨by rfl, rfl⟩) ?_ ?_
          rotate_left
          · simp only [Act.put, List.setIfInBounds_toArray, List.set_cons_zero, List.set_cons_succ, i64_w, i32_w]
            rfl
          refine pure_ (i := 21) (N := some 45) (v := undef) (a' := ?_) #[true, true, true, true, true, true, true, true, true, true, true, true, true, true, true, true, true, true, true, true, true, true, false, false, false, false, false, false, false, false, false, false] rfl rfl (by kernel_rfl) (fun _ _ _ h => h) (Or.inr ⟨by rfl, rfl⟩) ?_ ?_
          rotate_left
          · simp only [Act.put, List.setIfInBounds_toArray, List.set_cons_zero, List.set_cons_succ, i64_w, i32_w]
            rfl
          refine pure_ (i := 22) (N := some 46) (v := undef) (a' := ?_) #[true, true, true, true, true, true, true, true, true, true, true, true, true, true, true, true, true, true, true, true, true, true, true, false, false, false, false, false, false, false, false, false] rfl rfl (by kernel_rfl) (fun _ _ _ h => h) (Or.inr ⟨by rfl, rfl⟩) ?_ ?_
          rotate_left
          · simp only [Act.put, List.setIfInBounds_toArray, List.set_cons_zero, List.set_cons_succ, i64_w, i32_w]
            rfl
          refine pure_ (i := 23) (N := some 47) (v := undef) (a' := ?_) #[true, true, true, true, true, true, true, true, true, true, true, true, true, true, true, true, true, true, true, true, true, true, true, true, false, false, false, false, false, false, false, false] rfl rfl (by kernel_rfl) (fun _ _ _ h => h) (Or.inr ⟨by rfl, rfl⟩) ?_ ?_
          rotate_left
          · simp only [Act.put, List.setIfInBounds_toArray, List.set_cons_zero, List.set_cons_succ, i64_w, i32_w]
            rfl
          refine pure_ (i := 24) (N := some 48) (v := undef) (a' := ?_) #[true, true, true, true, true, true, true, true, true, true, true, true, true, true, true, true, true, true, true, true, true, true, true, true, true, false, false, false, false, false, false, false] rfl rfl (by kernel_rfl) (fun _ _ _ h => h) (Or.inr ⟨by rfl, rfl⟩) ?_ ?_
          rotate_left
          · simp only [Act.put, List.setIfInBounds_toArray, List.set_cons_zero, List.set_cons_succ, i64_w, i32_w]
            rfl
          refine pure_ (i := 25) (N := some 49) (v := undef) (a' := ?_) #[true, true, true, true, true, true, true, true, true, true, true, true, true, true, true, true, true, true, true, true, true, true, true, true, true, true, false, false, false, false, false, false] rfl rfl (by kernel_rfl) (fun _ _ _ h => h) (Or.inr ⟨by rfl, rfl⟩) ?_ ?_
          rotate_left
          · simp only [Act.put, List.setIfInBounds_toArray, List.set_cons_zero, List.set_cons_succ, i64_w, i32_w]
            rfl
          refine pure_ (i := 26) (N := some 50) (v := undef) (a' := ?_) #[true, true, true, true, true, true, true, true, true, true, true, true, true, true, true, true, true, true, true, true, true, true, true, true, true, true, true, false, false, false, false, false] rfl rfl (by kernel_rfl) (fun _ _ _ h => h) (Or.inr ⟨by rfl, rfl⟩) ?_ ?_
          rotate_left
          · simp only [Act.put, List.setIfInBounds_toArray, List.set_cons_zero, List.set_cons_succ, i64_w, i32_w]
            rfl
          refine pure_ (i := 27) (N := some 51) (v := undef) (a' := ?_) #[true, true, true, true, true, true, true, true, true, true, true, true, true, true, true, true, true, true, true, true, true, true, true, true, true, true, true, true, false, false, false, false] rfl rfl (by kernel_rfl) (fun _ _ _ h => h) (Or.inr ⟨by rfl, rfl⟩) ?_ ?_
          rotate_left
          · simp only [Act.put, List.setIfInBounds_toArray, List.set_cons_zero, List.set_cons_succ, i64_w, i32_w]
            rfl
          refine pure_ (i := 28) (N := some 52) (v := undef) (a' := ?_) #[true, true, true, true, true, true, true, true, true, true, true, true, true, true, true, true, true, true, true, true, true, true, true, true, true, true, true, true, true, false, false, false] rfl rfl (by kernel_rfl) (fun _ _ _ h => h) (Or.inr ⟨by rfl, rfl⟩) ?_ ?_
          rotate_left
          · simp only [Act.put, List.setIfInBounds_toArray, List.set_cons_zero, List.set_cons_succ, i64_w, i32_w]
            rfl
          refine pure_ (i := 29) (N := some 53) (v := undef) (a' := ?_) #[true, true, true, true, true, true, true, true, true, true, true, true, true, true, true, true, true, true, true, true, true, true, true, true, true, true, true, true, true, true, false, false] rfl rfl (by kernel_rfl) (fun _ _ _ h => h) (Or.inr ⟨by rfl, rfl⟩) ?_ ?_
          rotate_left
          · simp only [Act.put, List.setIfInBounds_toArray, List.set_cons_zero, List.set_cons_succ, i64_w, i32_w]
            rfl
          refine pure_ (i := 30) (N := some 54) (v := undef) (a' := ?_) #[true, true, true, true, true, true, true, true, true, true, true, true, true, true, true, true, true, true, true, true, true, true, true, true, true, true, true, true, true, true, true, false] rfl rfl (by kernel_rfl) (fun _ _ _ h => h) (Or.inr ⟨by rfl, rfl⟩) ?_ ?_
          rotate_left
          · simp only [Act.put, List.setIfInBounds_toArray, List.set_cons_zero, List.set_cons_succ, i64_w, i32_w]
            rfl
          refine pure_ (i := 31) (N := some 55) (v := ?_) (a' := ?_) #[true, true, true, true, true, true, true, true, true, true, true, true, true, true, true, true, true, true, true, true, true, true, true, true, true, true, true, true, true, true, true, true] rfl rfl (by kernel_rfl) (fun _ _ _ h => h) (Or.inl ⟨by rfl, ?_⟩) ?_ ?_
          rotate_left
          · intro w'
            go_simp
            with_reducible rfl
          rotate_left
          · simp only [Act.put, List.setIfInBounds_toArray, List.set_cons_zero, List.set_cons_succ, i64_w, i32_w]
            rfl
          refine done_ (by kernel_rfl) ?_
          have g0 : w6.cell? ⟨w.heap.size + 1, 0, none⟩ = some (.int .i64 0) := (blk_cell B6.out 0).trans rfl
          have g1 : w6.cell? ⟨w.heap.size + 1, 1, none⟩ = some (.slice none 0 0) := (blk_cell B6.out 1).trans rfl
          have g2 := blk_frozen B6.out 0
          have g3 := blk_frozen B6.out 1
          go_wp2_with (fail)
          have b7 := blk_put (blk_put B6.out 0 (.int .i64 0) rfl) 1 (.slice none 0 0) rfl
          refine bodyPost_ret (results_ct rfl _ _ (w.heap.size + 1) 27 #[.int .i64 0, .slice none 0 0] (0, 0) _ rfl b7 Try.underlying27 rfl (by kernel_rfl)) rfl ?_
          rw [HNO.out]
          exact out_none rfl (((HB.out).setCell (p := ⟨w.heap.size + 1, 0, none⟩) (Nat.le_succ _) _).setCell (p := ⟨w.heap.size + 1, 1, none⟩) (Nat.le_succ _) _)
      · have e1 : ((m.length : Int) != 2) = true := bne_iff_ne.2 (by omega)
        have e2 : (m.length != 2) = true := bne_iff_ne.2 h2
        have HNO := Aside0.mk (show runL h (clearR xs) ms = none by
          rw [← Z.out.2, HMJ.out]
          cases hr : runOne h zs m with
          | none => rfl
          | some y => exact absurd (HM2.out (by rw [hr]; rfl)).1 h2)
        refine start_ (n := 32) (S := fun w' => w'.cell? (ad.add j) = some (.slice Am m.length cm)) (ds := []) #[false, false, false, false, false, false, false, false, false, false, false, false, false, false, false, false, false, false, false, false, false, false, false, false, false, false, false, false, false, false, false, false] (by kernel_rfl) rfl rfl (pw_cell_below HB.out HX.out) (fun hHeld => ?_)
        have hb : Below wr.heap.size wr wr.drew := below_drew (Below.refl _ _)
        have Y := Aside0.mk (Y.out.below hb)
        have B6 := Aside0.mk (blk_below B6.out hb)
        have HB := Aside0.mk (below_step HB.out hb)
        have hz := hb.size
        clear hb
        generalize wr.drew = V at Y B6 HB hHeld hz ⊢
        refine pure_ (i := 0) (N := some 24) (v := ?_) (a' := ?_) #[true, false, false, false, false, false, false, false, false, false, false, false, false, false, false, false, false, false, false, false, false, false, false, false, false, false, false, false, false, false, false, false] rfl rfl (by kernel_rfl) (fun _ _ _ h => h) (Or.inl ⟨by rfl, ?_⟩) ?_ ?_
        rotate_left
        · intro w'
          go_simp
          with_reducible rfl
        rotate_left
        · simp only [Act.put, List.setIfInBounds_toArray, List.set_cons_zero, List.set_cons_succ, i64_w, i32_w]
          rfl
        refine pure_ (i := 1) (N := some 25) (v := ?_) (a' := ?_) #[true, true, false, false, false, false, false, false, false, false, false, false, false, false, false, false, false, false, false, false, false, false, false, false, false, false, false, false, false, false, false, false] rfl rfl (by kernel_rfl) (fun _ _ _ h => h) (Or.inl ⟨by rfl, ?_⟩) ?_ ?_
        rotate_left
        · intro w'
          go_simp
          with_reducible rfl
        rotate_left
        · simp only [Act.put, List.setIfInBounds_toArray, List.set_cons_zero, List.set_cons_succ, i64_w, i32_w]
          rfl
        refine pure_ (i := 2) (N := some 26) (v := ?_) (a' := ?_) #[true, true, true, false, false, false, false, false, false, false, false, false, false, false, false, false, false, false, false, false, false, false, false, false, false, false, false, false, false, false, false, false] rfl rfl (by kernel_rfl) (fun _ _ _ h => h) (Or.inl ⟨by rfl, ?_⟩) ?_ ?_
        rotate_left
        · intro w'
          go_simp
          with_reducible rfl
        rotate_left
        · simp only [Act.put, List.setIfInBounds_toArray, List.set_cons_zero, List.set_cons_succ, i64_w, i32_w]
          rfl
        refine take_ (i := 3) (N := some 27) (v := ?_) (a' := ?_) #[true, true, true, true, false, false, false, false, false, false, false, false, false, false, false, false, false, false, false, false, false, false, false, false, false, false, false, false, false, false, false, false] rfl rfl (by kernel_rfl) (fun _ _ _ h => h) (Or.inl ⟨by rfl, ?_⟩) hHeld ?_ ?_
        rotate_left
        · rintro w' s0
          go_simp
          with_reducible rfl
        rotate_left
        · simp only [Act.put, List.setIfInBounds_toArray, List.set_cons_zero, List.set_cons_succ, i64_w, i32_w]
          rfl
        refine pure_ (i := 4) (N := some 28) (v := ?_) (a' := ?_) #[true, true, true, true, true, false, false, false, false, false, false, false, false, false, false, false, false, false, false, false, false, false, false, false, false, false, false, false, false, false, false, false] rfl rfl (by kernel_rfl) (fun _ _ _ h => h) (Or.inl ⟨by rfl, ?_⟩) ?_ ?_
        rotate_left
        · intro w'
          go_simp
          with_reducible rfl
        rotate_left
        · simp only [Act.put, List.setIfInBounds_toArray, List.set_cons_zero, List.set_cons_succ, i64_w, i32_w]
          rfl
        refine pure_ (i := 5) (N := some 29) (v := ?_) (a' := ?_) #[true, true, true, true, true, true, false, false, false, false, false, false, false, false, false, false, false, false, false, false, false, false, false, false, false, false, false, false, false, false, false, false] rfl rfl (by kernel_rfl) (fun _ _ _ h => h) (Or.inl ⟨by rfl, ?_⟩) ?_ ?_
        rotate_left
        · intro w'
          go_simp
          with_reducible rfl
        rotate_left
        · simp only [Act.put, List.setIfInBounds_toArray, List.set_cons_zero, List.set_cons_succ, i64_w, i32_w]
          rfl
        refine pure_ (i := 6) (N := some 30) (v := ?_) (a' := ?_) #[true, true, true, true, true, true, true, false, false, false, false, false, false, false, false, false, false, false, false, false, false, false, false, false, false, false, false, false, false, false, false, false] rfl rfl (by kernel_rfl) (fun _ _ _ h => h) (Or.inl ⟨by rfl, ?_⟩) ?_ ?_
        rotate_left
        · intro w'
          go_simp
          with_reducible rfl
        rotate_left
        · simp only [Act.put, List.setIfInBounds_toArray, List.set_cons_zero, List.set_cons_succ, i64_w, i32_w]
          rfl
        refine pure_ (i := 7) (N := some 31) (v := undef) (a' := ?_) #[true, true, true, true, true, true, true, true, false, false, false, false, false, false, false, false, false, false, false, false, false, false, false, false, false, false, false, false, false, false, false, false] rfl rfl (by kernel_rfl) (fun _ _ _ h => h) (Or.inr ⟨by rfl, rfl⟩) ?_ ?_
        rotate_left
        · simp only [Act.put, List.setIfInBounds_toArray, List.set_cons_zero, List.set_cons_succ, i64_w, i32_w]
          rfl
        refine pure_ (i := 8) (N := some 32) (v := undef) (a' := ?_) #[true, true, true, true, true, true, true, true, true, false, false, false, false, false, false, false, false, false, false, false, false, false, false, false, false, false, false, false, false, false, false, false] rfl rfl (by kernel_rfl) (fun _ _ _ h => h) (Or.inr ⟨by rfl, rfl⟩) ?_ ?_
        rotate_left
        · simp only [Act.put, List.setIfInBounds_toArray, List.set_cons_zero, List.set_cons_succ, i64_w, i32_w]
          rfl
        refine pure_ (i := 9) (N := some 33) (v := undef) (a' := ?_) #[true, true, true, true, true, true, true, true, true, true, false, false, false, false, false, false, false, false, false, false, false, false, false, false, false, false, false, false, false, false, false, false] rfl rfl (by kernel_rfl) (fun _ _ _ h => h) (Or.inr ⟨by rfl, rfl⟩) ?_ ?_
        rotate_left
        · simp only [Act.put, List.setIfInBounds_toArray, List.set_cons_zero, List.set_cons_succ, i64_w, i32_w]
          rfl
        refine pure_ (i := 10) (N := some 34) (v := undef) (a' := ?_) #[true, true, true, true, true, true, true, true, true, true, true, false, false, false, false, false, false, false, false, false, false, false, false, false, false, false, false, false, false, false, false, false] rfl rfl (by kernel_rfl) (fun _ _ _ h => h) (Or.inr ⟨by rfl, rfl⟩) ?_ ?_
        rotate_left
        · simp only [Act.put, List.setIfInBounds_toArray, List.set_cons_zero, List.set_cons_succ, i64_w, i32_w]
          rfl
        refine pure_ (i := 11) (N := some 35) (v := undef) (a' := ?_) #[true, true, true, true, true, true, true, true, true, true, true, true, false, false, false, false, false, false, false, false, false, false, false, false, false, false, false, false, false, false, false, false] rfl rfl (by kernel_rfl) (fun _ _ _ h => h) (Or.inr ⟨by rfl, rfl⟩) ?_ ?_
        rotate_left
        · simp only [Act.put, List.setIfInBounds_toArray, List.set_cons_zero, List.set_cons_succ, i64_w, i32_w]
          rfl
        refine pure_ (i := 12) (N := some 36) (v := undef) (a' := ?_) #[true, true, true, true, true, true, true, true, true, true, true, true, true, false, false, false, false, false, false, false, false, false, false, false, false, false, false, false, false, false, false, false] rfl rfl (by kernel_rfl) (fun _ _ _ h => h) (Or.inr ⟨by rfl, rfl⟩) ?_ ?_
        rotate_left
        · simp only [Act.put, List.setIfInBounds_toArray, List.set_cons_zero, List.set_cons_succ, i64_w, i32_w]
          rfl
        refine pure_ (i := 13) (N := some 37) (v := undef) (a' := ?_) #[true, true, true, true, true, true, true, true, true, true, true, true, true, true, false, false, false, false, false, false, false, false, false, false, false, false, false, false, false, false, false, false] rfl rfl (by kernel_rfl) (fun _ _ _ h => h) (Or.inr ⟨by rfl, rfl⟩) ?_ ?_
        rotate_left
        · simp only [Act.put, List.setIfInBounds_toArray, List.set_cons_zero, List.set_cons_succ, i64_w, i32_w]
          rfl
        refine pure_ (i := 14) (N := some 38) (v := undef) (a' := ?_) #[true, true, true, true, true, true, true, true, true, true, true, true, true, true, true, false, false, false, false, false, false, false, false, false, false, false, false, false, false, false, false, false] rfl rfl (by kernel_rfl) (fun _ _ _ h => h) (Or.inr ⟨by rfl, rfl⟩) ?_ ?_
        rotate_left
        · simp only [Act.put, List.setIfInBounds_toArray, List.set_cons_zero, List.set_cons_succ, i64_w, i32_w]
          rfl
        refine pure_ (i := 15) (N := some 39) (v := ?_) (a' := ?_) #[true, true, true, true, true, true, true, true, true, true, true, true, true, true, true, true, false, false, false, false, false, false, false, false, false, false, false, false, false, false, false, false] rfl rfl (by kernel_rfl) (fun _ _ _ h => h) (Or.inl ⟨by rfl, ?_⟩) ?_ ?_
        rotate_left
        · intro w'
          go_simp
          with_reducible rfl
        rotate_left
        · simp only [Act.put, List.setIfInBounds_toArray, List.set_cons_zero, List.set_cons_succ, i64_w, i32_w]
          rfl
        refine pure_ (i := 16) (N := some 40) (v := ?_) (a' := ?_) #[true, true, true, true, true, true, true, true, true, true, true, true, true, true, true, true, true, false, false, false, false, false, false, false, false, false, false, false, false, false, false, false] rfl rfl (by kernel_rfl) (fun _ _ _ h => h) (Or.inl ⟨by rfl, ?_⟩) ?_ ?_
        rotate_left
        · intro w'
          go_simp
          with_reducible rfl
        rotate_left
        · simp only [Act.put, List.setIfInBounds_toArray, List.set_cons_zero, List.set_cons_succ, i64_w, i32_w]
          rfl
        refine pure_ (i := 17) (N := some 41) (v := undef) (a' := ?_) #[true, true, true, true, true, true, true, true, true, true, true, true, true, true, true, true, true, true, false, false, false, false, false, false, false, false, false, false, false, false, false, false] rfl rfl (by kernel_rfl) (fun _ _ _ h => h) (Or.inr ⟨by rfl, rfl⟩) ?_ ?_
        rotate_left
        · simp only [Act.put, List.setIfInBounds_toArray, List.set_cons_zero, List.set_cons_succ, i64_w, i32_w]
          rfl
        refine pure_ (i := 18) (N := some 42) (v := undef) (a' := ?_) #[true, true, true, true, true, true, true, true, true, true, true, true, true, true, true, true, true, true, true, false, false, false, false, false, false, false, false, false, false, false, false, false] rfl rfl (by kernel_rfl) (fun _ _ _ h => h) (Or.inr ⟨by rfl, rfl⟩) ?_ ?_
        rotate_left
        · simp only [Act.put, List.setIfInBounds_toArray, List.set_cons_zero, List.set_cons_succ, i64_w, i32_w]
          rfl
        refine pure_ (i := 19) (N := some 43) (v := undef) (a' := ?_) #[true, true, true, true, true, true, true, true, true, true, true, true, true, true, true, true, true, true, true, true, false, false, false, false, false, false, false, false, false, false, false, false] rfl rfl (by kernel_rfl) (fun _ _ _ h => h) (Or.inr ⟨by rfl, rfl⟩) ?_ ?_
        rotate_left
        · simp only [Act.put, List.setIfInBounds_toArray, List.set_cons_zero, List.set_cons_succ, i64_w, i32_w]
          rfl
        refine pure_ (i := 20) (N := some 44) (v := undef) (a' := ?_) #[true, true, true, true, true, true, true, true, true, true, true, true, true, true, true, true, true, true, true, true, true, false, false, false, false, false, false, false, false, false, false, false] rfl rfl (by kernel_rfl) (fun _ _ _ h => h) (Or.inr ⟨by rfl, rfl⟩) ?_ ?_
        rotate_left
        · simp only [Act.put, List.setIfInBounds_toArray, List.set_cons_zero, List.set_cons_succ, i64_w, i32_w]
          rfl
        refine pure_ (i := 21) (N := some 45) (v := undef) (a' := ?_) #[true, true, true, true, true, true, true, true, true, true, true, true, true, true, true, true, true, true, true, true, true, true, false, false, false, false, false, false, false, false, false, false] rfl rfl (by kernel_rfl) (fun _ _ _ h => h) (Or.inr ⟨by rfl, rfl⟩) ?_ ?_
        rotate_left
        · simp only [Act.put, List.setIfInBounds_toArray, List.set_cons_zero, List.set_cons_succ, i64_w, i32_w]
          rfl
        refine pure_ (i := 22) (N := some 46) (v := undef) (a' := ?_) #[true, true, true, true, true, true, true, true, true, true, true, true, true, true, true, true, true, true, true, true, true, true, true, false, false, false, false, false, false, false, false, false] rfl rfl (by kernel_rfl) (fun _ _ _ h => h) (Or.inr ⟨by rfl, rfl⟩) ?_ ?_
        rotate_left
        · simp only [Act.put, List.setIfInBounds_toArray, List.set_cons_zero, List.set_cons_succ, i64_w, i32_w]
          rfl
        refine pure_ (i := 23) (N := some 47) (v := undef) (a' := ?_) #[true, true, true, true, true, true, true, true, true, true, true, true, true, true, true, true, true, true, true, true, true, true, true, true, false, false, false, false, false, false, false, false] rfl rfl (by kernel_rfl) (fun _ _ _ h => h) (Or.inr ⟨by rfl, rfl⟩) ?_ ?_
        rotate_left
        · simp only [Act.put, List.setIfInBounds_toArray, List.set_cons_zero, List.set_cons_succ, i64_w, i32_w]
          rfl
        refine pure_ (i := 24) (N := some 48) (v := undef) (a' := ?_) #[true, true, true, true, true, true, true, true, true, true, true, true, true, true, true, true, true, true, true, true, true, true, true, true, true, false, false, false, false, false, false, false] rfl rfl (by kernel_rfl) (fun _ _ _ h => h) (Or.inr ⟨by rfl, rfl⟩) ?_ ?_
        rotate_left
        · simp only [Act.put, List.setIfInBounds_toArray, List.set_cons_zero, List.set_cons_succ, i64_w, i32_w]
          rfl
        refine pure_ (i := 25) (N := some 49) (v := undef) (a' := ?_) #[true, true, true, true, true, true, true, true, true, true, true, true, true, true, true, true, true, true, true, true, true, true, true, true, true, true, false, false, false, false, false, false] rfl rfl (by kernel_rfl) (fun _ _ _ h => h) (Or.inr ⟨by rfl, rfl⟩) ?_ ?_
        rotate_left
        · simp only [Act.put, List.setIfInBounds_toArray, List.set_cons_zero, List.set_cons_succ, i64_w, i32_w]
          rfl
        refine pure_ (i := 26) (N := some 50) (v := undef) (a' := ?_) #[true, true, true, true, true, true, true, true, true, true, true, true, true, true, true, true, true, true, true, true, true, true, true, true, true, true, true, false, false, false, false, false] rfl rfl (by kernel_rfl) (fun _ _ _ h => h) (Or.inr ⟨by rfl, rfl⟩) ?_ ?_
        rotate_left
        · simp only [Act.put, List.setIfInBounds_toArray, List.set_cons_zero, List.set_cons_succ, i64_w, i32_w]
          rfl
        refine pure_ (i := 27) (N := some 51) (v := undef) (a' := ?_) #[true, true, true, true, true, true, true, true, true, true, true, true, true, true, true, true, true, true, true, true, true, true, true, true, true, true, true, true, false, false, false, false] rfl rfl (by kernel_rfl) (fun _ _ _ h => h) (Or.inr ⟨by rfl, rfl⟩) ?_ ?_
        rotate_left
        · simp only [Act.put, List.setIfInBounds_toArray, List.set_cons_zero, List.set_cons_succ, i64_w, i32_w]
          rfl
        refine pure_ (i := 28) (N := some 52) (v := undef) (a' := ?_) #[true, true, true, true, true, true, true, true, true, true, true, true, true, true, true, true, true, true, true, true, true, true, true, true, true, true, true, true, true, false, false, false] rfl rfl (by kernel_rfl) (fun _ _ _ h => h) (Or.inr ⟨by rfl, rfl⟩) ?_ ?_
        rotate_left
        · simp only [Act.put, List.setIfInBounds_toArray, List.set_cons_zero, List.set_cons_succ, i64_w, i32_w]
          rfl
        refine pure_ (i := 29) (N := some 53) (v := undef) (a' := ?_) #[true, true, true, true, true, true, true, true, true, true, true, true, true, true, true, true, true, true, true, true, true, true, true, true, true, true, true, true, true, true, false, false] rfl rfl (by kernel_rfl) (fun _ _ _ h => h) (Or.inr ⟨by rfl, rfl⟩) ?_ ?_
        rotate_left
        · simp only [Act.put, List.setIfInBounds_toArray, List.set_cons_zero, List.set_cons_succ, i64_w, i32_w]
          rfl
        refine pure_ (i := 30) (N := some 54) (v := undef) (a' := ?_) #[true, true, true, true, true, true, true, true, true, true, true, true, true, true, true, true, true, true, true, true, true, true, true, true, true, true, true, true, true, true, true, false] rfl rfl (by kernel_rfl) (fun _ _ _ h => h) (Or.inr ⟨by rfl, rfl⟩) ?_ ?_
        rotate_left
        · simp only [Act.put, List.setIfInBounds_toArray, List.set_cons_zero, List.set_cons_succ, i64_w, i32_w]
          rfl
        refine pure_ (i := 31) (N := some 55) (v := ?_) (a' := ?_) #[true, true, true, true, true, true, true, true, true, true, true, true, true, true, true, true, true, true, true, true, true, true, true, true, true, true, true, true, true, true, true, true] rfl rfl (by kernel_rfl) (fun _ _ _ h => h) (Or.inl ⟨by rfl, ?_⟩) ?_ ?_
        rotate_left
        · intro w'
          go_simp
          with_reducible rfl
        rotate_left
        · simp only [Act.put, List.setIfInBounds_toArray, List.set_cons_zero, List.set_cons_succ, i64_w, i32_w]
          rfl
        refine done_ (by kernel_rfl) ?_
        have g0 : V.cell? ⟨w.heap.size + 1, 0, none⟩ = some (.int .i64 0) := (blk_cell B6.out 0).trans rfl
        have g1 : V.cell? ⟨w.heap.size + 1, 1, none⟩ = some (.slice none 0 0) := (blk_cell B6.out 1).trans rfl
        have g2 := blk_frozen B6.out 0
        have g3 := blk_frozen B6.out 1
        go_wp2_with (fail)
        have b7 := blk_put (blk_put B6.out 0 (.int .i64 0) rfl) 1 (.slice none 0 0) rfl
        refine bodyPost_ret (results_ct rfl _ _ (w.heap.size + 1) 27 #[.int .i64 0, .slice none 0 0] (0, 0) _ rfl b7 Try.underlying27 rfl (by kernel_rfl)) rfl ?_
        rw [HNO.out]
        exact out_none rfl (((HB.out).setCell (p := ⟨w.heap.size + 1, 0, none⟩) (Nat.le_succ _) _).setCell (p := ⟨w.heap.size + 1, 1, none⟩) (Nat.le_succ _) _)
    · have c0 : decide ((j : Int) < (ms.length : Int)) = false := decide_eq_false (by omega)
      obtain rfl : j = ms.length := by omega
      have HEND := Aside0.mk (show runL h (clearR xs) ms = some zs by rw [← Z.out.2, List.drop_length]; rfl)
      obtain ⟨A3, c3, hb3, -, -, hS3⟩ := Y.out
      have y0 : wr.cell? ⟨w2.heap.size, 0, none⟩ = some (.int .i64 h) := (blk_cell hb3 0).trans rfl
      have y1 : wr.cell? ⟨w2.heap.size, 1, none⟩ = some (.slice A3 zs.length c3) := (blk_cell hb3 1).trans rfl
      have HS3 := Aside0.mk hS3
      clear hlt hS3 hb3
      have g0 : wr.cell? ⟨w.heap.size + 1, 0, none⟩ = some (.int .i64 0) := (blk_cell B6.out 0).trans rfl
      have g1 : wr.cell? ⟨w.heap.size + 1, 1, none⟩ = some (.slice none 0 0) := (blk_cell B6.out 1).trans rfl
      have g2 := blk_frozen B6.out 0
      have g3 := blk_frozen B6.out 1
      go_wp2_with (fail)
      have b7 := blk_put (blk_put B6.out 0 (.int .i64 h) rfl) 1 (.slice A3 zs.length c3) rfl
      refine bodyPost_ret (results_ct rfl _ _ (w.heap.size + 1) 27 #[.int .i64 h, .slice A3 zs.length c3] (0, 0) _ rfl b7 Try.underlying27 rfl (by kernel_rfl)) rfl ?_
      rw [HEND.out]
      refine ⟨_, rfl, ?_, (((HB.out).setCell (p := ⟨w.heap.size + 1, 0, none⟩) (Nat.le_succ _) _).setCell (p := ⟨w.heap.size + 1, 1, none⟩) (Nat.le_succ _) _)⟩
      exact Kd.S_mono (Kd.S_far (p := ⟨w.heap.size + 1, 1, none⟩) (Kd.S_far (p := ⟨w.heap.size + 1, 0, none⟩) (Kd.S_lower (Kd.S_bound (sW_of_sR HS3.out)) (by have := HLT.out; omega)) (fun k hk => by have := hk.2.1; have := HLT.out; show k ≠ w.heap.size + 1; omega) _) (fun k hk => by have := hk.2.1; have := HLT.out; show k ≠ w.heap.size + 1; omega) _) (fun _ _ => trivial)
end Go.Proofs.Ytibaiaenfeppcaa.RMs

/- RunMoves, told once for all arguments, by both sides. -/
namespace Go.Proofs.Ytibaiaenfeppcaa.RM
open Go Go.RowKit Go.Proofs.YtibaiaenfeppcaaW.PrintWords Go.Proofs.YtibaiaenfeppcaaW.PrintLast Go.Proofs.YtibaiaenfeppcaaW.PrintMore Go.Proofs.Ytibaiaenfeppcaa.Q Go.Proofs.Ytibaiaenfeppcaa.PuY Go.Proofs.Ytibaiaenfeppcaa.PuTO Go.Proofs.Ytibaiaenfeppcaa.PuRM Go.Proofs.Ytibaiaenfeppcaa.Lw Go.Proofs.Ytibaiaenfeppcaa.Yq
set_option linter.unusedVariables false
theorem impl_calls (h : Int) (xs ms : List (List Int)) (A : Option Addr) (c : Nat) (A2 : Option Addr) (c2 : Nat) (w : World) (hC : Kd.C dR w A xs.length xs) (hcl : xs.length ≤ c) (hM : Kd.C dR w A2 ms.length ms) (hcm : ms.length ≤ c2) :
    Calls Try.prog 24 #[.agg #[.int .i64 h, .slice A xs.length c], .slice A2 ms.length c2] w (Out h (runR h xs ms) w) := by
  unfold runR
  by_cases hv : Yv.valid h xs = true
  · by_cases hl : ms.length ≤ 21
    · rw [if_pos ⟨hv, hl⟩]; exact RMi.impl_run h xs ms hv hl A c A2 c2 w hC hcl hM hcm
    · rw [if_neg (fun hh => hl hh.2)]; exact RMi.impl_long h xs ms hv (by omega) A c A2 c2 w hC hcl hM hcm
  · rw [if_neg (fun hh => hv hh.1)]; exact RMi.impl_no h xs ms (by simpa using hv) A c A2 c2 w hC hcl hM hcm
theorem spec_calls (h : Int) (xs ms : List (List Int)) (hlx : xs.length ≤ 1048576) (A : Option Addr) (c : Nat) (A2 : Option Addr) (c2 : Nat) (w : World) (hC : Kd.C dR w A xs.length xs) (hcl : xs.length ≤ c) (hM : Kd.C dR w A2 ms.length ms) (hcm : ms.length ≤ c2) :
    Calls Try.prog 34 #[.agg #[.int .i64 h, .slice A xs.length c], .slice A2 ms.length c2] w (Out h (runR h xs ms) w) := by
  unfold runR
  by_cases hv : Yv.valid h xs = true
  · by_cases hl : ms.length ≤ 21
    · rw [if_pos ⟨hv, hl⟩]; exact RMs.spec_run h xs ms hlx hv hl A c A2 c2 w hC hcl hM hcm
    · rw [if_neg (fun hh => hl hh.2)]; exact RMs.spec_long h xs ms hlx hv (by omega) A c A2 c2 w hC hcl hM hcm
  · rw [if_neg (fun hh => hv hh.1)]; exact RMs.spec_no h xs ms hlx (by simpa using hv) A c A2 c2 w hC hcl hM hcm
theorem small (h : Int) (xs ms : List (List Int)) : Small (hR h (runR h xs ms)).2 := by
  unfold runR
  by_cases hc : Yv.valid h xs = true ∧ ms.length ≤ 21
  · rw [if_pos hc]
    cases hr : runL h (clearR xs) ms with
    | none => exact small_of _ (by simp [hR]) (by simp [hR])
    | some ys => exact valid_small (runL_valid ms (clearR xs) (clear_valid _ xs rfl hc.1) hr)
  · rw [if_neg hc]; exact small_of _ (by simp [hR]) (by simp [hR])
end Go.Proofs.Ytibaiaenfeppcaa.RM

/- The law on RunMoves, walked where both sides hand back the same. -/
namespace Go.Proofs.Ytibaiaenfeppcaa.LRM
open Go Go.RowKit Go.Proofs.YtibaiaenfeppcaaW.PrintWords Go.Proofs.YtibaiaenfeppcaaW.PrintLast Go.Proofs.YtibaiaenfeppcaaW.PrintMore Go.Proofs.Ytibaiaenfeppcaa.Q Go.Proofs.Ytibaiaenfeppcaa.PuY Go.Proofs.Ytibaiaenfeppcaa.Lw Go.Proofs.Ytibaiaenfeppcaa.Ow Go.Proofs.Ytibaiaenfeppcaa.Yq Go.Proofs.Ytibaiaenfeppcaa.Lx
set_option linter.unusedVariables false
set_option linter.unusedSimpArgs false
/-- What both sides hand back of a yard. -/
def Hands (fn : FuncId) (h : Int) (xs : List (List Int)) (ms : List (List Int)) (h' : Int) (ys : List (List Int)) (b : Bool) : Prop :=
  ∀ (W : World) (A : Option Addr) (c : Nat) (A2 : Option Addr) (c2 : Nat), Kd.C dR W A xs.length xs → xs.length ≤ c → Kd.C dR W A2 ms.length ms → ms.length ≤ c2 → Calls Try.prog fn #[.agg #[.int .i64 h, .slice A xs.length c], .slice A2 ms.length c2] W fun e w' => ∃ v, e = .returned (.tuple #[.agg #[.int .i64 h', v], .bool b]) ∧ Kd.S dW 31 w' W.heap.size (fun _ => True) v ys ∧ Below W.heap.size W w'
set_option maxRecDepth 100000 in
set_option maxHeartbeats 4000000 in
theorem walk (h : Int) (A : Option Addr) (c : Nat) (xs : List (List Int)) (A2 : Option Addr) (c2 : Nat) (ms : List (List Int)) (h' : Int) (ys : List (List Int)) (b : Bool) (hsm : Small xs) (hsy : Small ys) (hsM : Small ms) (t_ : Int) (hsz : laws_szYard.f 4000000 h xs 1048576 = some t_) (ht : 0 ≤ t_) (u_ : Int) (hsz2 : laws_szInt64SS.f 4000000 ms t_ = some u_) (hu_ : 0 ≤ u_)
    (h1 : Hands 34 h xs ms h' ys b) (h2 : Hands 24 h xs ms h' ys b) (w : World) (hr : Kd.C dR w A xs.length xs) (hc : xs.length ≤ c) (hr2 : Kd.C dR w A2 ms.length ms) (hc2 : ms.length ≤ c2) :
    Calls Try.prog 9 #[.agg #[.int .i64 h, .slice A xs.length c], .slice A2 ms.length c2] w fun e w' => e = .returned (.bool true) ∧ Below w.heap.size w w' := by
  have hu := Try.underlying24
  have hu2 := Try.underlying27
  have HR := Aside0.mk hr
  have HC := Aside0.mk hc
  have HSM := Aside0.mk hsm
  have HSY := Aside0.mk hsy
  have H1 := Aside0.mk h1
  have H2 := Aside0.mk h2
  have HSZ := Aside0.mk hsz
  have HR2 := Aside0.mk hr2
  have HC2 := Aside0.mk hc2
  have HSM2 := Aside0.mk hsM
  have HSZ2 := Aside0.mk hsz2
  have HT := Aside0.mk (toYard_eq h xs hsm 4000000 (by decide))
  have HEY := Aside0.mk (eqYard_eq h xs hsm 4000000 (by decide))
  have HEI := Aside0.mk (eqYard_eq h' ys hsy 4000000 (by decide))
  have HT2 := Aside0.mk (toSS_eq ms hsM 4000000 (by decide))
  have HE2 := Aside0.mk (eqSS_eq ms hsM 4000000 (by decide))
  obtain ⟨q2, hq2⟩ : ∃ q2, q2 = ms.flatten.length := ⟨_, rfl⟩
  have HQ2 := Aside0.mk hq2
  have HQL := Aside0.mk (show q2 ≤ 1048576 by rw [hq2]; exact hsM.2.1)
  have c6 : decide (u_ < 0) = false := decide_eq_false (by omega)
  obtain ⟨q, hq⟩ : ∃ q, q = xs.flatten.length := ⟨_, rfl⟩
  have HQ := Aside0.mk hq
  obtain ⟨n, hn⟩ : ∃ n, n = ys.flatten.length := ⟨_, rfl⟩
  have HN := Aside0.mk hn
  have hb0 : (b != b) = false := bne_self_eq_false b
  have c1 : decide (t_ < 0) = false := decide_eq_false (by omega)
  have HQX := Aside0.mk (show q ≤ 1048576 by rw [hq]; exact hsm.2.1)
  have c3 : decide (1 + (q : Int) + (q2 : Int) < 0) = false := decide_eq_false (by omega)
  have c4 : decide (1 + (n : Int) < 0) = false := decide_eq_false (by omega)
  have c5 : ((1 + (n : Int)) != (1 + (n : Int))) = false := bne_self_eq_false _
  clear hr hc hsm hsy h1 h2 hsz hq hn ht hr2 hc2 hsM hsz2 hu_ hq2
  go_enter Try.func9, Try.ntmps9
  go_wp2_with (fail)
  refine (laws_szYard.calls 4000000 h A c xs 1048576 t_ _ (Kd.C_below HR.out (below_alloc (Below.refl _ _) (.cells #[.int .i64 h, .slice A xs.length c] 24))) HC.out HSZ.out).mono ?_
  rintro e w1 ⟨rfl, hb⟩
  have HB := Aside0.mk (below_step (below_alloc (Below.refl w.heap.size w) (.cells #[.int .i64 h, .slice A xs.length c] 24)) hb)
  have K := Aside0.mk (blk_below (blk_new w (.cells #[.int .i64 h, .slice A xs.length c] 24)) hb)
  clear hb
  have hcK0 : w1.cell? ⟨w.heap.size, 0, none⟩ = some (.int .i64 h) := (blk_cell K.out 0).trans rfl
  have hcK1 : w1.cell? ⟨w.heap.size, 1, none⟩ = some (.slice A xs.length c) := (blk_cell K.out 1).trans rfl
  go_wp2_with (fail)
  refine (laws_szInt64SS.calls 4000000 A2 c2 ms t_ u_ _ (Kd.C_below HR2.out HB.out) HC2.out HSZ2.out).mono ?_
  have HLK1 := Aside0.mk (show w.heap.size < w1.heap.size from blk_lt K.out)
  rintro e w1b ⟨rfl, hd⟩
  clear hcK0 hcK1
  have hb := Drawn0.below hd
  have hzw1b := hb.size
  have HB := Aside0.mk (below_step HB.out hb)
  have K := Aside0.mk (blk_below K.out hb)
  clear hb hd
  have hcK0 : w1b.cell? ⟨w.heap.size, 0, none⟩ = some (.int .i64 h) := (blk_cell K.out 0).trans rfl
  have hcK1 : w1b.cell? ⟨w.heap.size, 1, none⟩ = some (.slice A xs.length c) := (blk_cell K.out 1).trans rfl
  go_wp2_with (fail)
  refine (laws_toYard.calls 4000000 h A c xs h xs _ (Kd.C_below HR.out HB.out) HC.out HT.out).mono ?_
  rintro e w2 ⟨v, rfl, hS, hb⟩
  clear hcK0 hcK1
  have hzw2 := hb.size
  have HLK2 := Aside0.mk (Nat.lt_of_lt_of_le (Nat.lt_of_lt_of_le (show w.heap.size < w1.heap.size from HLK1.out) hzw1b) hzw2)
  have HB := Aside0.mk (below_step HB.out hb)
  have K := Aside0.mk (blk_below K.out hb)
  have Y := Aside0.mk (YS.make hS)
  obtain ⟨AY, cY, rfl, hcY, _⟩ := Y.out.reads
  have HCY := Aside0.mk hcY
  clear hcY hS
  clear hb
  have hcK0 : w2.cell? ⟨w.heap.size, 0, none⟩ = some (.int .i64 h) := (blk_cell K.out 0).trans rfl
  have hcK1 : w2.cell? ⟨w.heap.size, 1, none⟩ = some (.slice A xs.length c) := (blk_cell K.out 1).trans rfl
  go_wp2_with (fail)
  refine (laws_toInt64SS.calls 4000000 A2 c2 ms ms _ (Kd.C_below HR2.out HB.out) HC2.out HT2.out).mono ?_
  rintro e w2b ⟨v, rfl, hS, hb⟩
  clear hcK0 hcK1
  have hzw2b := hb.size
  have Y := Aside0.mk (Y.out.below hb)
  have HB := Aside0.mk (below_step HB.out hb)
  have K := Aside0.mk (blk_below K.out hb)
  have Pm := Aside0.mk (YS.make hS)
  obtain ⟨APm, cPm, rfl, hcPm, _⟩ := Pm.out.reads
  have HCPm := Aside0.mk hcPm
  clear hcPm hS
  clear hb
  have hcK0 : w2b.cell? ⟨w.heap.size, 0, none⟩ = some (.int .i64 h) := (blk_cell K.out 0).trans rfl
  have hcK1 : w2b.cell? ⟨w.heap.size, 1, none⟩ = some (.slice A xs.length c) := (blk_cell K.out 1).trans rfl
  go_wp2_with (fail)
  refine (H1.out w2b AY cY APm cPm Y.out.c HCY.out Pm.out.c HCPm.out).mono ?_
  rintro e w3 ⟨v, rfl, hS, hb⟩
  clear hcK0 hcK1
  have hzw3 := hb.size
  have Y := Aside0.mk (Y.out.below hb)
  have Pm := Aside0.mk (Pm.out.below hb)
  have HB := Aside0.mk (below_step HB.out hb)
  have K := Aside0.mk (blk_below K.out hb)
  have Z := Aside0.mk (WS.make hS)
  obtain ⟨AZ, cZ, rfl, hcZ, _⟩ := Z.out.reads
  have HCZ := Aside0.mk hcZ
  clear hcZ hS hb
  clear Y HCY
  clear Pm HCPm
  have hb := below_alloc (Below.refl w3.heap.size w3) (.cells #[.int .i64 h', .slice AZ ys.length cZ] 27)
  have Z := Aside0.mk (Z.out.below hb)
  have HB := Aside0.mk (below_step HB.out hb)
  have K := Aside0.mk (blk_below K.out hb)
  clear hb
  have S := Aside0.mk (blk_new w3 (.cells #[.int .i64 h', .slice AZ ys.length cZ] 27))
  have HB3 := HB
  have hcK0 : (w3.alloc (.cells #[.int .i64 h', .slice AZ ys.length cZ] 27)).cell? ⟨w.heap.size, 0, none⟩ = some (.int .i64 h) := (blk_cell K.out 0).trans rfl
  have hcK1 : (w3.alloc (.cells #[.int .i64 h', .slice AZ ys.length cZ] 27)).cell? ⟨w.heap.size, 1, none⟩ = some (.slice A xs.length c) := (blk_cell K.out 1).trans rfl
  have hcS0 : (w3.alloc (.cells #[.int .i64 h', .slice AZ ys.length cZ] 27)).cell? ⟨w3.heap.size, 0, none⟩ = some (.int .i64 h') := (blk_cell S.out 0).trans rfl
  have hcS1 : (w3.alloc (.cells #[.int .i64 h', .slice AZ ys.length cZ] 27)).cell? ⟨w3.heap.size, 1, none⟩ = some (.slice AZ ys.length cZ) := (blk_cell S.out 1).trans rfl
  have BX := Aside0.mk (Below.refl (w3.alloc (.cells #[.int .i64 h', .slice AZ ys.length cZ] 27)).heap.size (w3.alloc (.cells #[.int .i64 h', .slice AZ ys.length cZ] 27)))
  go_wp2_with (fail)
  refine (laws_toYard.calls 4000000 h A c xs h xs _ (Kd.C_below HR.out HB.out) HC.out HT.out).mono ?_
  rintro e w4 ⟨v, rfl, hS, hb⟩
  clear hcK0 hcK1 hcS0 hcS1
  have hzw4 := hb.size
  have Z := Aside0.mk (Z.out.below hb)
  have HB := Aside0.mk (below_step HB.out hb)
  have BX := Aside0.mk (below_step BX.out hb)
  have K := Aside0.mk (blk_below K.out hb)
  have S := Aside0.mk (blk_below S.out hb)
  have X := Aside0.mk (YS.make hS)
  obtain ⟨AX, cX, rfl, hcX, _⟩ := X.out.reads
  have HCX := Aside0.mk hcX
  clear hcX hS
  clear hb
  have hb := below_alloc (Below.refl w4.heap.size w4) (.cells #[.int .i64 h, .slice AX xs.length cX] 27)
  have Z := Aside0.mk (Z.out.below hb)
  have X := Aside0.mk (X.out.below hb)
  have HB := Aside0.mk (below_step HB.out hb)
  have BX := Aside0.mk (below_step BX.out hb)
  have K := Aside0.mk (blk_below K.out hb)
  have S := Aside0.mk (blk_below S.out hb)
  clear hb
  have XB := Aside0.mk (blk_new w4 (.cells #[.int .i64 h, .slice AX xs.length cX] 27))
  have hcK0 : (w4.alloc (.cells #[.int .i64 h, .slice AX xs.length cX] 27)).cell? ⟨w.heap.size, 0, none⟩ = some (.int .i64 h) := (blk_cell K.out 0).trans rfl
  have hcK1 : (w4.alloc (.cells #[.int .i64 h, .slice AX xs.length cX] 27)).cell? ⟨w.heap.size, 1, none⟩ = some (.slice A xs.length c) := (blk_cell K.out 1).trans rfl
  have hcS0 : (w4.alloc (.cells #[.int .i64 h, .slice AX xs.length cX] 27)).cell? ⟨w3.heap.size, 0, none⟩ = some (.int .i64 h') := (blk_cell S.out 0).trans rfl
  have hcS1 : (w4.alloc (.cells #[.int .i64 h, .slice AX xs.length cX] 27)).cell? ⟨w3.heap.size, 1, none⟩ = some (.slice AZ ys.length cZ) := (blk_cell S.out 1).trans rfl
  have hcXB0 : (w4.alloc (.cells #[.int .i64 h, .slice AX xs.length cX] 27)).cell? ⟨w4.heap.size, 0, none⟩ = some (.int .i64 h) := (blk_cell XB.out 0).trans rfl
  have hcXB1 : (w4.alloc (.cells #[.int .i64 h, .slice AX xs.length cX] 27)).cell? ⟨w4.heap.size, 1, none⟩ = some (.slice AX xs.length cX) := (blk_cell XB.out 1).trans rfl
  go_wp2_with (fail)
  refine (laws_toInt64SS.calls 4000000 A2 c2 ms ms _ (Kd.C_below HR2.out HB.out) HC2.out HT2.out).mono ?_
  rintro e w4b ⟨v, rfl, hS, hb⟩
  clear hcK0 hcK1 hcS0 hcS1 hcXB0 hcXB1
  have hzw4b := hb.size
  have Z := Aside0.mk (Z.out.below hb)
  have X := Aside0.mk (X.out.below hb)
  have HB := Aside0.mk (below_step HB.out hb)
  have BX := Aside0.mk (below_step BX.out hb)
  have K := Aside0.mk (blk_below K.out hb)
  have S := Aside0.mk (blk_below S.out hb)
  have XB := Aside0.mk (blk_below XB.out hb)
  have X1 := Aside0.mk (YS.make hS)
  obtain ⟨AX1, cX1, rfl, hcX1, _⟩ := X1.out.reads
  have HCX1 := Aside0.mk hcX1
  clear hcX1 hS
  clear hb
  have hcK0 : w4b.cell? ⟨w.heap.size, 0, none⟩ = some (.int .i64 h) := (blk_cell K.out 0).trans rfl
  have hcK1 : w4b.cell? ⟨w.heap.size, 1, none⟩ = some (.slice A xs.length c) := (blk_cell K.out 1).trans rfl
  have hcS0 : w4b.cell? ⟨w3.heap.size, 0, none⟩ = some (.int .i64 h') := (blk_cell S.out 0).trans rfl
  have hcS1 : w4b.cell? ⟨w3.heap.size, 1, none⟩ = some (.slice AZ ys.length cZ) := (blk_cell S.out 1).trans rfl
  have hcXB0 : w4b.cell? ⟨w4.heap.size, 0, none⟩ = some (.int .i64 h) := (blk_cell XB.out 0).trans rfl
  have hcXB1 : w4b.cell? ⟨w4.heap.size, 1, none⟩ = some (.slice AX xs.length cX) := (blk_cell XB.out 1).trans rfl
  go_wp2_with (fail)
  refine (H2.out w4b AX cX AX1 cX1 X.out.c HCX.out X1.out.c HCX1.out).mono ?_
  rintro e w5 ⟨v, rfl, hS, hb⟩
  clear hcK0 hcK1 hcS0 hcS1 hcXB0 hcXB1
  have hzw5 := hb.size
  have Z := Aside0.mk (Z.out.below hb)
  have X := Aside0.mk (X.out.below hb)
  have X1 := Aside0.mk (X1.out.below hb)
  have HB := Aside0.mk (below_step HB.out hb)
  have BX := Aside0.mk (below_step BX.out hb)
  have K := Aside0.mk (blk_below K.out hb)
  have S := Aside0.mk (blk_below S.out hb)
  have XB := Aside0.mk (blk_below XB.out hb)
  have G := Aside0.mk (WS.make hS)
  obtain ⟨AG, cG, rfl, hcG, _⟩ := G.out.reads
  have HCG := Aside0.mk hcG
  clear hcG hS hb
  have hb := below_alloc (Below.refl w5.heap.size w5) (.cells #[.int .i64 h', .slice AG ys.length cG] 27)
  have Z := Aside0.mk (Z.out.below hb)
  have X := Aside0.mk (X.out.below hb)
  have X1 := Aside0.mk (X1.out.below hb)
  have G := Aside0.mk (G.out.below hb)
  have HB := Aside0.mk (below_step HB.out hb)
  have BX := Aside0.mk (below_step BX.out hb)
  have K := Aside0.mk (blk_below K.out hb)
  have S := Aside0.mk (blk_below S.out hb)
  have XB := Aside0.mk (blk_below XB.out hb)
  clear hb
  have GB := Aside0.mk (blk_new w5 (.cells #[.int .i64 h', .slice AG ys.length cG] 27))
  have hcK0 : (w5.alloc (.cells #[.int .i64 h', .slice AG ys.length cG] 27)).cell? ⟨w.heap.size, 0, none⟩ = some (.int .i64 h) := (blk_cell K.out 0).trans rfl
  have hcK1 : (w5.alloc (.cells #[.int .i64 h', .slice AG ys.length cG] 27)).cell? ⟨w.heap.size, 1, none⟩ = some (.slice A xs.length c) := (blk_cell K.out 1).trans rfl
  have hcS0 : (w5.alloc (.cells #[.int .i64 h', .slice AG ys.length cG] 27)).cell? ⟨w3.heap.size, 0, none⟩ = some (.int .i64 h') := (blk_cell S.out 0).trans rfl
  have hcS1 : (w5.alloc (.cells #[.int .i64 h', .slice AG ys.length cG] 27)).cell? ⟨w3.heap.size, 1, none⟩ = some (.slice AZ ys.length cZ) := (blk_cell S.out 1).trans rfl
  have hcXB0 : (w5.alloc (.cells #[.int .i64 h', .slice AG ys.length cG] 27)).cell? ⟨w4.heap.size, 0, none⟩ = some (.int .i64 h) := (blk_cell XB.out 0).trans rfl
  have hcXB1 : (w5.alloc (.cells #[.int .i64 h', .slice AG ys.length cG] 27)).cell? ⟨w4.heap.size, 1, none⟩ = some (.slice AX xs.length cX) := (blk_cell XB.out 1).trans rfl
  have hcGB0 : (w5.alloc (.cells #[.int .i64 h', .slice AG ys.length cG] 27)).cell? ⟨w5.heap.size, 0, none⟩ = some (.int .i64 h') := (blk_cell GB.out 0).trans rfl
  have hcGB1 : (w5.alloc (.cells #[.int .i64 h', .slice AG ys.length cG] 27)).cell? ⟨w5.heap.size, 1, none⟩ = some (.slice AG ys.length cG) := (blk_cell GB.out 1).trans rfl
  go_wp2_with (fail)
  refine (laws_eqYard.calls 4000000 h' AG cG ys h' AZ cZ ys true _ G.out.c HCG.out Z.out.c HCZ.out HEI.out).mono ?_
  rintro e w6 ⟨rfl, hb⟩
  clear hcK0 hcK1 hcS0 hcS1 hcXB0 hcXB1 hcGB0 hcGB1
  have Z := Aside0.mk (Z.out.below hb)
  have X := Aside0.mk (X.out.below hb)
  have X1 := Aside0.mk (X1.out.below hb)
  have G := Aside0.mk (G.out.below hb)
  have HB := Aside0.mk (below_step HB.out hb)
  have BX := Aside0.mk (below_step BX.out hb)
  have K := Aside0.mk (blk_below K.out hb)
  have S := Aside0.mk (blk_below S.out hb)
  have XB := Aside0.mk (blk_below XB.out hb)
  have GB := Aside0.mk (blk_below GB.out hb)
  clear hb
  have hcK0 : w6.cell? ⟨w.heap.size, 0, none⟩ = some (.int .i64 h) := (blk_cell K.out 0).trans rfl
  have hcK1 : w6.cell? ⟨w.heap.size, 1, none⟩ = some (.slice A xs.length c) := (blk_cell K.out 1).trans rfl
  have hcS0 : w6.cell? ⟨w3.heap.size, 0, none⟩ = some (.int .i64 h') := (blk_cell S.out 0).trans rfl
  have hcS1 : w6.cell? ⟨w3.heap.size, 1, none⟩ = some (.slice AZ ys.length cZ) := (blk_cell S.out 1).trans rfl
  have hcXB0 : w6.cell? ⟨w4.heap.size, 0, none⟩ = some (.int .i64 h) := (blk_cell XB.out 0).trans rfl
  have hcXB1 : w6.cell? ⟨w4.heap.size, 1, none⟩ = some (.slice AX xs.length cX) := (blk_cell XB.out 1).trans rfl
  have hcGB0 : w6.cell? ⟨w5.heap.size, 0, none⟩ = some (.int .i64 h') := (blk_cell GB.out 0).trans rfl
  have hcGB1 : w6.cell? ⟨w5.heap.size, 1, none⟩ = some (.slice AG ys.length cG) := (blk_cell GB.out 1).trans rfl
  go_wp2_with (fail)
  refine start_ (n := 5) (S := fun w' => w'.cell? ⟨w4.heap.size, 0, none⟩ = some (.int .i64 h) ∧ w'.cell? ⟨w4.heap.size, 1, none⟩ = some (.slice AX xs.length cX) ∧ w'.cell? ⟨w.heap.size, 0, none⟩ = some (.int .i64 h) ∧ w'.cell? ⟨w.heap.size, 1, none⟩ = some (.slice A xs.length c)) (ds := []) #[false, false, false, false, false] (by kernel_rfl) rfl rfl ⟨(blk_cell XB.out 0).trans rfl, (blk_cell XB.out 1).trans rfl, (blk_cell K.out 0).trans rfl, (blk_cell K.out 1).trans rfl⟩ (fun hHeld => ?_)
  clear hcK0 hcK1 hcS0 hcS1 hcXB0 hcXB1 hcGB0 hcGB1
  have hb := below_drew (Below.refl w6.heap.size w6)
  have Z := Aside0.mk (Z.out.below hb)
  have X := Aside0.mk (X.out.below hb)
  have X1 := Aside0.mk (X1.out.below hb)
  have G := Aside0.mk (G.out.below hb)
  have HB := Aside0.mk (below_step HB.out hb)
  have BX := Aside0.mk (below_step BX.out hb)
  have K := Aside0.mk (blk_below K.out hb)
  have S := Aside0.mk (blk_below S.out hb)
  have XB := Aside0.mk (blk_below XB.out hb)
  have GB := Aside0.mk (blk_below GB.out hb)
  clear hb
  generalize w6.drew = w7 at Z X X1 G HB BX K S XB GB hHeld ⊢
  refine take_ (i := 0) (N := some 54) (v := ?_) (a' := ?_) #[true, false, false, false, false] rfl rfl (by kernel_rfl) (fun _ _ _ h => h) (Or.inl ⟨by rfl, ?_⟩) hHeld ?_ ?_
  rotate_left
  · rintro w' ⟨s0, s1, s2, s3⟩
    go_simp
    with_reducible rfl
  rotate_left
  · simp only [Act.put, List.setIfInBounds_toArray, List.set_cons_zero, List.set_cons_succ, i64_w, i32_w]
    rfl
  refine take_ (i := 1) (N := some 55) (v := ?_) (a' := ?_) #[true, true, false, false, false] rfl rfl (by kernel_rfl) (fun _ _ _ h => h) (Or.inl ⟨by rfl, ?_⟩) hHeld ?_ ?_
  rotate_left
  · rintro w' ⟨s0, s1, s2, s3⟩
    go_simp
    with_reducible rfl
  rotate_left
  · simp only [Act.put, List.setIfInBounds_toArray, List.set_cons_zero, List.set_cons_succ, i64_w, i32_w]
    rfl
  refine one_ (i := 2) (N := some 56) #[true, true, true, false, false] rfl rfl (by kernel_rfl) (by decide) (fun K_ hK => ?_)
  refine goes_ Try.func12 (by kernel_rfl) rfl #[.agg #[.int .i64 h, .slice A xs.length c]] (by rfl) rfl rfl (by (try simp only [List.map_toArray, List.map_cons, List.map_nil]); first | done | rfl) ?_
  refine (laws_toYard.calls 4000000 h A c xs h xs w7 (Kd.C_below HR.out HB.out) HC.out HT.out).mono ?_
  rintro e w8 ⟨v, rfl, hS, hb⟩
  refine ⟨_, rfl, ?_⟩
  have hzw8 := hb.size
  have Z := Aside0.mk (Z.out.below hb)
  have X := Aside0.mk (X.out.below hb)
  have X1 := Aside0.mk (X1.out.below hb)
  have G := Aside0.mk (G.out.below hb)
  have HB := Aside0.mk (below_step HB.out hb)
  have BX := Aside0.mk (below_step BX.out hb)
  have K := Aside0.mk (blk_below K.out hb)
  have S := Aside0.mk (blk_below S.out hb)
  have XB := Aside0.mk (blk_below XB.out hb)
  have GB := Aside0.mk (blk_below GB.out hb)
  have Y := Aside0.mk (YS.make hS)
  obtain ⟨AY, cY, rfl, hcY, _⟩ := Y.out.reads
  have HCY := Aside0.mk hcY
  clear hcY hS hb hHeld
  refine hK.out _ _ ⟨(blk_cell XB.out 0).trans rfl, (blk_cell XB.out 1).trans rfl, (blk_cell K.out 0).trans rfl, (blk_cell K.out 1).trans rfl⟩ (fun hHeld => ?_)
  clear hK K_
  refine norm_ (a' := ?_) ?_ ?_
  rotate_left
  · show Act.put _ (some 56) _ = _
    simp only [Act.put, List.setIfInBounds_toArray, List.set_cons_zero, List.set_cons_succ, i64_w, i32_w]
    rfl
  refine one_ (i := 3) (N := some 57) #[true, true, true, true, false] rfl rfl (by kernel_rfl) (by decide) (fun K_ hK => ?_)
  refine goes_ Try.func14 (by kernel_rfl) rfl #[.agg #[.int .i64 h, .slice AX xs.length cX], .agg #[.int .i64 h, .slice AY xs.length cY]] (by rfl) rfl rfl (by (try simp only [List.map_toArray, List.map_cons, List.map_nil]); first | done | rfl) ?_
  refine (laws_eqYard.calls 4000000 h AX cX xs h AY cY xs true w8 X.out.c HCX.out Y.out.c HCY.out HEY.out).mono ?_
  rintro e w9 ⟨rfl, hb⟩
  refine ⟨_, rfl, ?_⟩
  have Z := Aside0.mk (Z.out.below hb)
  have X := Aside0.mk (X.out.below hb)
  have X1 := Aside0.mk (X1.out.below hb)
  have G := Aside0.mk (G.out.below hb)
  have HB := Aside0.mk (below_step HB.out hb)
  have BX := Aside0.mk (below_step BX.out hb)
  have K := Aside0.mk (blk_below K.out hb)
  have S := Aside0.mk (blk_below S.out hb)
  have XB := Aside0.mk (blk_below XB.out hb)
  have GB := Aside0.mk (blk_below GB.out hb)
  clear hb hHeld Y HCY
  refine hK.out _ _ ⟨(blk_cell XB.out 0).trans rfl, (blk_cell XB.out 1).trans rfl, (blk_cell K.out 0).trans rfl, (blk_cell K.out 1).trans rfl⟩ (fun hHeld => ?_)
  clear hK K_
  refine norm_ (a' := ?_) ?_ ?_
  rotate_left
  · show Act.put _ (some 57) _ = _
    simp only [Act.put, List.setIfInBounds_toArray, List.set_cons_zero, List.set_cons_succ, i64_w, i32_w]
    rfl
  refine pure_ (i := 4) (N := some 58) (v := ?_) (a' := ?_) #[true, true, true, true, true] rfl rfl (by kernel_rfl) (fun _ _ _ h => h) (Or.inl ⟨by rfl, ?_⟩) ?_ ?_
  rotate_left
  · intro w'
    go_simp
    with_reducible rfl
  rotate_left
  · simp only [Act.put, List.setIfInBounds_toArray, List.set_cons_zero, List.set_cons_succ, i64_w, i32_w]
    rfl
  refine done_ (by kernel_rfl) ?_
  clear hHeld
  have hcK0 : w9.cell? ⟨w.heap.size, 0, none⟩ = some (.int .i64 h) := (blk_cell K.out 0).trans rfl
  have hcK1 : w9.cell? ⟨w.heap.size, 1, none⟩ = some (.slice A xs.length c) := (blk_cell K.out 1).trans rfl
  have hcS0 : w9.cell? ⟨w3.heap.size, 0, none⟩ = some (.int .i64 h') := (blk_cell S.out 0).trans rfl
  have hcS1 : w9.cell? ⟨w3.heap.size, 1, none⟩ = some (.slice AZ ys.length cZ) := (blk_cell S.out 1).trans rfl
  have hcXB0 : w9.cell? ⟨w4.heap.size, 0, none⟩ = some (.int .i64 h) := (blk_cell XB.out 0).trans rfl
  have hcXB1 : w9.cell? ⟨w4.heap.size, 1, none⟩ = some (.slice AX xs.length cX) := (blk_cell XB.out 1).trans rfl
  have hcGB0 : w9.cell? ⟨w5.heap.size, 0, none⟩ = some (.int .i64 h') := (blk_cell GB.out 0).trans rfl
  have hcGB1 : w9.cell? ⟨w5.heap.size, 1, none⟩ = some (.slice AG ys.length cG) := (blk_cell GB.out 1).trans rfl
  have hzw9 : True := trivial
  go_wp2_with (fail)
  refine (laws_toInt64SS.calls 4000000 A2 c2 ms ms _ (Kd.C_below HR2.out HB.out) HC2.out HT2.out).mono ?_
  rintro e w9b ⟨v, rfl, hS, hb⟩
  clear hcK0 hcK1 hcS0 hcS1 hcXB0 hcXB1 hcGB0 hcGB1
  have hzw9b := hb.size
  have Z := Aside0.mk (Z.out.below hb)
  have X := Aside0.mk (X.out.below hb)
  have X1 := Aside0.mk (X1.out.below hb)
  have G := Aside0.mk (G.out.below hb)
  have HB := Aside0.mk (below_step HB.out hb)
  have BX := Aside0.mk (below_step BX.out hb)
  have K := Aside0.mk (blk_below K.out hb)
  have S := Aside0.mk (blk_below S.out hb)
  have XB := Aside0.mk (blk_below XB.out hb)
  have GB := Aside0.mk (blk_below GB.out hb)
  have P2 := Aside0.mk (YS.make hS)
  obtain ⟨AP2, cP2, rfl, hcP2, _⟩ := P2.out.reads
  have HCP2 := Aside0.mk hcP2
  clear hcP2 hS
  clear hb
  have hcK0 : w9b.cell? ⟨w.heap.size, 0, none⟩ = some (.int .i64 h) := (blk_cell K.out 0).trans rfl
  have hcK1 : w9b.cell? ⟨w.heap.size, 1, none⟩ = some (.slice A xs.length c) := (blk_cell K.out 1).trans rfl
  have hcS0 : w9b.cell? ⟨w3.heap.size, 0, none⟩ = some (.int .i64 h') := (blk_cell S.out 0).trans rfl
  have hcS1 : w9b.cell? ⟨w3.heap.size, 1, none⟩ = some (.slice AZ ys.length cZ) := (blk_cell S.out 1).trans rfl
  have hcXB0 : w9b.cell? ⟨w4.heap.size, 0, none⟩ = some (.int .i64 h) := (blk_cell XB.out 0).trans rfl
  have hcXB1 : w9b.cell? ⟨w4.heap.size, 1, none⟩ = some (.slice AX xs.length cX) := (blk_cell XB.out 1).trans rfl
  have hcGB0 : w9b.cell? ⟨w5.heap.size, 0, none⟩ = some (.int .i64 h') := (blk_cell GB.out 0).trans rfl
  have hcGB1 : w9b.cell? ⟨w5.heap.size, 1, none⟩ = some (.slice AG ys.length cG) := (blk_cell GB.out 1).trans rfl
  go_wp2_with (fail)
  refine (laws_eqInt64SS.calls 4000000 AX1 cX1 ms AP2 cP2 ms true _ X1.out.c HCX1.out P2.out.c HCP2.out HE2.out).mono ?_
  rintro e w9c ⟨rfl, hd⟩
  clear hcK0 hcK1 hcS0 hcS1 hcXB0 hcXB1 hcGB0 hcGB1
  have hb := Drawn0.below hd
  have Z := Aside0.mk (Z.out.below hb)
  have X := Aside0.mk (X.out.below hb)
  have X1 := Aside0.mk (X1.out.below hb)
  have G := Aside0.mk (G.out.below hb)
  have P2 := Aside0.mk (P2.out.below hb)
  have HB := Aside0.mk (below_step HB.out hb)
  have BX := Aside0.mk (below_step BX.out hb)
  have K := Aside0.mk (blk_below K.out hb)
  have S := Aside0.mk (blk_below S.out hb)
  have XB := Aside0.mk (blk_below XB.out hb)
  have GB := Aside0.mk (blk_below GB.out hb)
  clear hb hd
  clear P2 HCP2
  have hcK0 : w9c.cell? ⟨w.heap.size, 0, none⟩ = some (.int .i64 h) := (blk_cell K.out 0).trans rfl
  have hcK1 : w9c.cell? ⟨w.heap.size, 1, none⟩ = some (.slice A xs.length c) := (blk_cell K.out 1).trans rfl
  have hcS0 : w9c.cell? ⟨w3.heap.size, 0, none⟩ = some (.int .i64 h') := (blk_cell S.out 0).trans rfl
  have hcS1 : w9c.cell? ⟨w3.heap.size, 1, none⟩ = some (.slice AZ ys.length cZ) := (blk_cell S.out 1).trans rfl
  have hcXB0 : w9c.cell? ⟨w4.heap.size, 0, none⟩ = some (.int .i64 h) := (blk_cell XB.out 0).trans rfl
  have hcXB1 : w9c.cell? ⟨w4.heap.size, 1, none⟩ = some (.slice AX xs.length cX) := (blk_cell XB.out 1).trans rfl
  have hcGB0 : w9c.cell? ⟨w5.heap.size, 0, none⟩ = some (.int .i64 h') := (blk_cell GB.out 0).trans rfl
  have hcGB1 : w9c.cell? ⟨w5.heap.size, 1, none⟩ = some (.slice AG ys.length cG) := (blk_cell GB.out 1).trans rfl
  have HLK := Aside0.mk (show w.heap.size < w9c.heap.size from blk_lt K.out)
  have HZ := Aside0.mk (show w.heap.size < w2.heap.size ∧ w2.heap.size ≤ w2b.heap.size ∧ w2b.heap.size ≤ w3.heap.size ∧ (w3.alloc (.cells #[.int .i64 h', .slice AZ ys.length cZ] 27)).heap.size = w3.heap.size + 1 ∧ (w3.alloc (.cells #[.int .i64 h', .slice AZ ys.length cZ] 27)).heap.size ≤ w4.heap.size ∧ (w4.alloc (.cells #[.int .i64 h, .slice AX xs.length cX] 27)).heap.size = w4.heap.size + 1 ∧ (w4.alloc (.cells #[.int .i64 h, .slice AX xs.length cX] 27)).heap.size ≤ w4b.heap.size ∧ w4b.heap.size ≤ w5.heap.size from ⟨HLK2.out, hzw2b, hzw3, by simp, hzw4, by simp, hzw4b, hzw5⟩)
  clear HLK2 hzw2 hzw2b hzw3 hzw4 hzw4b hzw5 hzw8 HLK hzw1b hzw9b
  go_wp2_with (fail)
  refine (markYard_any h _ _ xs HSM.out (w3.alloc (.cells #[.int .i64 h', .slice AZ ys.length cZ] 27)) w9c BX.out X.out.s).mono ?_
  rintro e w10 ⟨he, _, hb, hk⟩
  rw [← HQ.out] at he
  subst he
  clear hcK0 hcK1 hcS0 hcS1 hcXB0 hcXB1 hcGB0 hcGB1
  clear X HCX
  have hk2 := hk
  have Z := Aside0.mk (Z.out.kept hk (fun k a1 a2 a3 => by have a4 := a3.1; have a5 := a3.2; have a6 := HZ.out; omega))
  have X1 := Aside0.mk (X1.out.kept hk (fun k a1 a2 a3 => by have a4 := a3.1; have a5 := a3.2; have a6 := HZ.out; omega))
  have G := Aside0.mk (G.out.kept hk (fun k a1 a2 a3 => by have a4 := a3.1; have a5 := a3.2; have a6 := HZ.out; omega))
  have K := Aside0.mk (blk_kept K.out hk (fun a3 => by have a4 := a3.1; have a5 := a3.2; have a6 := HZ.out; omega))
  have S := Aside0.mk (blk_kept S.out hk (fun a3 => by have a4 := a3.1; have a5 := a3.2; have a6 := HZ.out; omega))
  have XB := Aside0.mk (blk_kept XB.out hk (fun a3 => by have a4 := a3.1; have a5 := a3.2; have a6 := HZ.out; omega))
  have GB := Aside0.mk (blk_kept GB.out hk (fun a3 => by have a4 := a3.1; have a5 := a3.2; have a6 := HZ.out; omega))
  have BX := Aside0.mk hb
  have HB := Aside0.mk (below_step HB3.out hb)
  clear hk hk2 hb
  have hcK0 : w10.cell? ⟨w.heap.size, 0, none⟩ = some (.int .i64 h) := (blk_cell K.out 0).trans rfl
  have hcK1 : w10.cell? ⟨w.heap.size, 1, none⟩ = some (.slice A xs.length c) := (blk_cell K.out 1).trans rfl
  have hcS0 : w10.cell? ⟨w3.heap.size, 0, none⟩ = some (.int .i64 h') := (blk_cell S.out 0).trans rfl
  have hcS1 : w10.cell? ⟨w3.heap.size, 1, none⟩ = some (.slice AZ ys.length cZ) := (blk_cell S.out 1).trans rfl
  have hcXB0 : w10.cell? ⟨w4.heap.size, 0, none⟩ = some (.int .i64 h) := (blk_cell XB.out 0).trans rfl
  have hcXB1 : w10.cell? ⟨w4.heap.size, 1, none⟩ = some (.slice AX xs.length cX) := (blk_cell XB.out 1).trans rfl
  have hcGB0 : w10.cell? ⟨w5.heap.size, 0, none⟩ = some (.int .i64 h') := (blk_cell GB.out 0).trans rfl
  have hcGB1 : w10.cell? ⟨w5.heap.size, 1, none⟩ = some (.slice AG ys.length cG) := (blk_cell GB.out 1).trans rfl
  go_wp2_with (fail)
  refine (Lz.markSSA_any (1 + (q : Int)) (by omega) (by have := HQX.out; omega) _ _ ms HSM2.out (w3.alloc (.cells #[.int .i64 h', .slice AZ ys.length cZ] 27)) w10 BX.out (Kd.S_lower X1.out.s (by have := HZ.out; omega))).mono ?_
  rintro e w10b ⟨he, _, hb, hk⟩
  rw [← HQ2.out] at he
  subst he
  clear hcK0 hcK1 hcS0 hcS1 hcXB0 hcXB1 hcGB0 hcGB1
  clear X1 HCX1
  have hk2 := hk
  have Z := Aside0.mk (Z.out.kept hk (fun k a1 a2 a3 => by have a4 := a3.1; have a5 := a3.2; have a6 := HZ.out; omega))
  have G := Aside0.mk (G.out.kept hk (fun k a1 a2 a3 => by have a4 := a3.1; have a5 := a3.2; have a6 := HZ.out; omega))
  have K := Aside0.mk (blk_kept K.out hk (fun a3 => by have a4 := a3.1; have a5 := a3.2; have a6 := HZ.out; omega))
  have S := Aside0.mk (blk_kept S.out hk (fun a3 => by have a4 := a3.1; have a5 := a3.2; have a6 := HZ.out; omega))
  have XB := Aside0.mk (blk_kept XB.out hk (fun a3 => by have a4 := a3.1; have a5 := a3.2; have a6 := HZ.out; omega))
  have GB := Aside0.mk (blk_kept GB.out hk (fun a3 => by have a4 := a3.1; have a5 := a3.2; have a6 := HZ.out; omega))
  have BX := Aside0.mk hb
  have HB := Aside0.mk (below_step HB3.out hb)
  clear hk hk2 hb
  have hcK0 : w10b.cell? ⟨w.heap.size, 0, none⟩ = some (.int .i64 h) := (blk_cell K.out 0).trans rfl
  have hcK1 : w10b.cell? ⟨w.heap.size, 1, none⟩ = some (.slice A xs.length c) := (blk_cell K.out 1).trans rfl
  have hcS0 : w10b.cell? ⟨w3.heap.size, 0, none⟩ = some (.int .i64 h') := (blk_cell S.out 0).trans rfl
  have hcS1 : w10b.cell? ⟨w3.heap.size, 1, none⟩ = some (.slice AZ ys.length cZ) := (blk_cell S.out 1).trans rfl
  have hcXB0 : w10b.cell? ⟨w4.heap.size, 0, none⟩ = some (.int .i64 h) := (blk_cell XB.out 0).trans rfl
  have hcXB1 : w10b.cell? ⟨w4.heap.size, 1, none⟩ = some (.slice AX xs.length cX) := (blk_cell XB.out 1).trans rfl
  have hcGB0 : w10b.cell? ⟨w5.heap.size, 0, none⟩ = some (.int .i64 h') := (blk_cell GB.out 0).trans rfl
  have hcGB1 : w10b.cell? ⟨w5.heap.size, 1, none⟩ = some (.slice AG ys.length cG) := (blk_cell GB.out 1).trans rfl
  go_wp2_with (fail)
  refine (laws_eqYard.calls 4000000 h' AG cG ys h' AZ cZ ys true _ G.out.c HCG.out Z.out.c HCZ.out HEI.out).mono ?_
  rintro e w11 ⟨rfl, hb⟩
  clear hcK0 hcK1 hcS0 hcS1 hcXB0 hcXB1 hcGB0 hcGB1
  have Z := Aside0.mk (Z.out.below hb)
  have G := Aside0.mk (G.out.below hb)
  have HB := Aside0.mk (below_step HB.out hb)
  have BX := Aside0.mk (below_step BX.out hb)
  have K := Aside0.mk (blk_below K.out hb)
  have S := Aside0.mk (blk_below S.out hb)
  have XB := Aside0.mk (blk_below XB.out hb)
  have GB := Aside0.mk (blk_below GB.out hb)
  clear hb
  have hcK0 : w11.cell? ⟨w.heap.size, 0, none⟩ = some (.int .i64 h) := (blk_cell K.out 0).trans rfl
  have hcK1 : w11.cell? ⟨w.heap.size, 1, none⟩ = some (.slice A xs.length c) := (blk_cell K.out 1).trans rfl
  have hcS0 : w11.cell? ⟨w3.heap.size, 0, none⟩ = some (.int .i64 h') := (blk_cell S.out 0).trans rfl
  have hcS1 : w11.cell? ⟨w3.heap.size, 1, none⟩ = some (.slice AZ ys.length cZ) := (blk_cell S.out 1).trans rfl
  have hcXB0 : w11.cell? ⟨w4.heap.size, 0, none⟩ = some (.int .i64 h) := (blk_cell XB.out 0).trans rfl
  have hcXB1 : w11.cell? ⟨w4.heap.size, 1, none⟩ = some (.slice AX xs.length cX) := (blk_cell XB.out 1).trans rfl
  have hcGB0 : w11.cell? ⟨w5.heap.size, 0, none⟩ = some (.int .i64 h') := (blk_cell GB.out 0).trans rfl
  have hcGB1 : w11.cell? ⟨w5.heap.size, 1, none⟩ = some (.slice AG ys.length cG) := (blk_cell GB.out 1).trans rfl
  go_wp2_with (fail)
  refine (markYardW_any h' _ _ ys HSY.out (w3.alloc (.cells #[.int .i64 h', .slice AZ ys.length cZ] 27)) w11 BX.out (Kd.S_lower G.out.s (by have := HZ.out; omega))).mono ?_
  rintro e w12 ⟨he, hG, hb, hk⟩
  rw [← HN.out] at he
  subst he
  clear hcK0 hcK1 hcS0 hcS1 hcXB0 hcXB1 hcGB0 hcGB1
  have M := Aside0.mk (show Kd.C dR w12 AG (markL ys 1).length (markL ys 1) from (Kd.S_reads' (d := dW) hG).2.2)
  clear hG
  clear G
  have hk2 := hk
  have Z := Aside0.mk (Z.out.kept hk (fun k a1 a2 a3 => by have a4 := a3.1; have a5 := a3.2; have a6 := HZ.out; omega))
  have K := Aside0.mk (blk_kept K.out hk (fun a3 => by have a4 := a3.1; have a5 := a3.2; have a6 := HZ.out; omega))
  have S := Aside0.mk (blk_kept S.out hk (fun a3 => by have a4 := a3.1; have a5 := a3.2; have a6 := HZ.out; omega))
  have XB := Aside0.mk (blk_kept XB.out hk (fun a3 => by have a4 := a3.1; have a5 := a3.2; have a6 := HZ.out; omega))
  have GB := Aside0.mk (blk_kept GB.out hk (fun a3 => by have a4 := a3.1; have a5 := a3.2; have a6 := HZ.out; omega))
  have BX := Aside0.mk hb
  have HB := Aside0.mk (below_step HB3.out hb)
  clear hk hk2 hb
  have hcK0 : w12.cell? ⟨w.heap.size, 0, none⟩ = some (.int .i64 h) := (blk_cell K.out 0).trans rfl
  have hcK1 : w12.cell? ⟨w.heap.size, 1, none⟩ = some (.slice A xs.length c) := (blk_cell K.out 1).trans rfl
  have hcS0 : w12.cell? ⟨w3.heap.size, 0, none⟩ = some (.int .i64 h') := (blk_cell S.out 0).trans rfl
  have hcS1 : w12.cell? ⟨w3.heap.size, 1, none⟩ = some (.slice AZ ys.length cZ) := (blk_cell S.out 1).trans rfl
  have hcXB0 : w12.cell? ⟨w4.heap.size, 0, none⟩ = some (.int .i64 h) := (blk_cell XB.out 0).trans rfl
  have hcXB1 : w12.cell? ⟨w4.heap.size, 1, none⟩ = some (.slice AX xs.length cX) := (blk_cell XB.out 1).trans rfl
  have hcGB0 : w12.cell? ⟨w5.heap.size, 0, none⟩ = some (.int .i64 h') := (blk_cell GB.out 0).trans rfl
  have hcGB1 : w12.cell? ⟨w5.heap.size, 1, none⟩ = some (.slice AG ys.length cG) := (blk_cell GB.out 1).trans rfl
  go_wp2_with (fail)
  refine (heldYard_any h' (W := w12) ys HSY.out rfl M.out HCG.out).mono ?_
  rintro e w13 ⟨he, hb⟩
  rw [← HN.out] at he
  subst he
  clear hcK0 hcK1 hcS0 hcS1 hcXB0 hcXB1 hcGB0 hcGB1
  have Z := Aside0.mk (Z.out.below hb)
  have HB := Aside0.mk (below_step HB.out hb)
  have BX := Aside0.mk (below_step BX.out hb)
  have K := Aside0.mk (blk_below K.out hb)
  have S := Aside0.mk (blk_below S.out hb)
  have XB := Aside0.mk (blk_below XB.out hb)
  have GB := Aside0.mk (blk_below GB.out hb)
  have M := Aside0.mk (Kd.C_below M.out hb)
  clear hb
  have hcK0 : w13.cell? ⟨w.heap.size, 0, none⟩ = some (.int .i64 h) := (blk_cell K.out 0).trans rfl
  have hcK1 : w13.cell? ⟨w.heap.size, 1, none⟩ = some (.slice A xs.length c) := (blk_cell K.out 1).trans rfl
  have hcS0 : w13.cell? ⟨w3.heap.size, 0, none⟩ = some (.int .i64 h') := (blk_cell S.out 0).trans rfl
  have hcS1 : w13.cell? ⟨w3.heap.size, 1, none⟩ = some (.slice AZ ys.length cZ) := (blk_cell S.out 1).trans rfl
  have hcXB0 : w13.cell? ⟨w4.heap.size, 0, none⟩ = some (.int .i64 h) := (blk_cell XB.out 0).trans rfl
  have hcXB1 : w13.cell? ⟨w4.heap.size, 1, none⟩ = some (.slice AX xs.length cX) := (blk_cell XB.out 1).trans rfl
  have hcGB0 : w13.cell? ⟨w5.heap.size, 0, none⟩ = some (.int .i64 h') := (blk_cell GB.out 0).trans rfl
  have hcGB1 : w13.cell? ⟨w5.heap.size, 1, none⟩ = some (.slice AG ys.length cG) := (blk_cell GB.out 1).trans rfl
  go_wp2_with (fail)
  refine (laws_toYard.calls 4000000 h A c xs h xs _ (Kd.C_below HR.out HB.out) HC.out HT.out).mono ?_
  rintro e w14 ⟨v, rfl, hS, hb⟩
  clear hcK0 hcK1 hcS0 hcS1 hcXB0 hcXB1 hcGB0 hcGB1
  have hzw14 := hb.size
  have Z := Aside0.mk (Z.out.below hb)
  have HB := Aside0.mk (below_step HB.out hb)
  have BX := Aside0.mk (below_step BX.out hb)
  have K := Aside0.mk (blk_below K.out hb)
  have S := Aside0.mk (blk_below S.out hb)
  have XB := Aside0.mk (blk_below XB.out hb)
  have GB := Aside0.mk (blk_below GB.out hb)
  have M := Aside0.mk (Kd.C_below M.out hb)
  have Y := Aside0.mk (YS.make hS)
  obtain ⟨AY, cY, rfl, hcY, _⟩ := Y.out.reads
  have HCY := Aside0.mk hcY
  clear hcY hS
  clear hb
  have hcK0 : w14.cell? ⟨w.heap.size, 0, none⟩ = some (.int .i64 h) := (blk_cell K.out 0).trans rfl
  have hcK1 : w14.cell? ⟨w.heap.size, 1, none⟩ = some (.slice A xs.length c) := (blk_cell K.out 1).trans rfl
  have hcS0 : w14.cell? ⟨w3.heap.size, 0, none⟩ = some (.int .i64 h') := (blk_cell S.out 0).trans rfl
  have hcS1 : w14.cell? ⟨w3.heap.size, 1, none⟩ = some (.slice AZ ys.length cZ) := (blk_cell S.out 1).trans rfl
  have hcXB0 : w14.cell? ⟨w4.heap.size, 0, none⟩ = some (.int .i64 h) := (blk_cell XB.out 0).trans rfl
  have hcXB1 : w14.cell? ⟨w4.heap.size, 1, none⟩ = some (.slice AX xs.length cX) := (blk_cell XB.out 1).trans rfl
  have hcGB0 : w14.cell? ⟨w5.heap.size, 0, none⟩ = some (.int .i64 h') := (blk_cell GB.out 0).trans rfl
  have hcGB1 : w14.cell? ⟨w5.heap.size, 1, none⟩ = some (.slice AG ys.length cG) := (blk_cell GB.out 1).trans rfl
  go_wp2_with (fail)
  refine (laws_toInt64SS.calls 4000000 A2 c2 ms ms _ (Kd.C_below HR2.out HB.out) HC2.out HT2.out).mono ?_
  rintro e w14b ⟨v, rfl, hS, hb⟩
  clear hcK0 hcK1 hcS0 hcS1 hcXB0 hcXB1 hcGB0 hcGB1
  have hzw14b := hb.size
  have Z := Aside0.mk (Z.out.below hb)
  have Y := Aside0.mk (Y.out.below hb)
  have HB := Aside0.mk (below_step HB.out hb)
  have BX := Aside0.mk (below_step BX.out hb)
  have K := Aside0.mk (blk_below K.out hb)
  have S := Aside0.mk (blk_below S.out hb)
  have XB := Aside0.mk (blk_below XB.out hb)
  have GB := Aside0.mk (blk_below GB.out hb)
  have M := Aside0.mk (Kd.C_below M.out hb)
  have Pm := Aside0.mk (YS.make hS)
  obtain ⟨APm, cPm, rfl, hcPm, _⟩ := Pm.out.reads
  have HCPm := Aside0.mk hcPm
  clear hcPm hS
  clear hb
  have hcK0 : w14b.cell? ⟨w.heap.size, 0, none⟩ = some (.int .i64 h) := (blk_cell K.out 0).trans rfl
  have hcK1 : w14b.cell? ⟨w.heap.size, 1, none⟩ = some (.slice A xs.length c) := (blk_cell K.out 1).trans rfl
  have hcS0 : w14b.cell? ⟨w3.heap.size, 0, none⟩ = some (.int .i64 h') := (blk_cell S.out 0).trans rfl
  have hcS1 : w14b.cell? ⟨w3.heap.size, 1, none⟩ = some (.slice AZ ys.length cZ) := (blk_cell S.out 1).trans rfl
  have hcXB0 : w14b.cell? ⟨w4.heap.size, 0, none⟩ = some (.int .i64 h) := (blk_cell XB.out 0).trans rfl
  have hcXB1 : w14b.cell? ⟨w4.heap.size, 1, none⟩ = some (.slice AX xs.length cX) := (blk_cell XB.out 1).trans rfl
  have hcGB0 : w14b.cell? ⟨w5.heap.size, 0, none⟩ = some (.int .i64 h') := (blk_cell GB.out 0).trans rfl
  have hcGB1 : w14b.cell? ⟨w5.heap.size, 1, none⟩ = some (.slice AG ys.length cG) := (blk_cell GB.out 1).trans rfl
  go_wp2_with (fail)
  refine (H2.out w14b AY cY APm cPm Y.out.c HCY.out Pm.out.c HCPm.out).mono ?_
  rintro e w15 ⟨v, rfl, hS, hb⟩
  clear hcK0 hcK1 hcS0 hcS1 hcXB0 hcXB1 hcGB0 hcGB1
  have hzw15 := hb.size
  have Z := Aside0.mk (Z.out.below hb)
  have Y := Aside0.mk (Y.out.below hb)
  have Pm := Aside0.mk (Pm.out.below hb)
  have HB := Aside0.mk (below_step HB.out hb)
  have BX := Aside0.mk (below_step BX.out hb)
  have K := Aside0.mk (blk_below K.out hb)
  have S := Aside0.mk (blk_below S.out hb)
  have XB := Aside0.mk (blk_below XB.out hb)
  have GB := Aside0.mk (blk_below GB.out hb)
  have M := Aside0.mk (Kd.C_below M.out hb)
  have H := Aside0.mk (WS.make hS)
  obtain ⟨AH, cH, rfl, hcH, _⟩ := H.out.reads
  have HCH := Aside0.mk hcH
  clear hcH hS hb
  clear Y HCY
  clear Pm HCPm
  have hb := below_alloc (Below.refl w15.heap.size w15) (.cells #[.int .i64 h', .slice AH ys.length cH] 27)
  have Z := Aside0.mk (Z.out.below hb)
  have H := Aside0.mk (H.out.below hb)
  have HB := Aside0.mk (below_step HB.out hb)
  have BX := Aside0.mk (below_step BX.out hb)
  have K := Aside0.mk (blk_below K.out hb)
  have S := Aside0.mk (blk_below S.out hb)
  have XB := Aside0.mk (blk_below XB.out hb)
  have GB := Aside0.mk (blk_below GB.out hb)
  have M := Aside0.mk (Kd.C_below M.out hb)
  clear hb
  have HBx := Aside0.mk (blk_new w15 (.cells #[.int .i64 h', .slice AH ys.length cH] 27))
  have hcK0 : (w15.alloc (.cells #[.int .i64 h', .slice AH ys.length cH] 27)).cell? ⟨w.heap.size, 0, none⟩ = some (.int .i64 h) := (blk_cell K.out 0).trans rfl
  have hcK1 : (w15.alloc (.cells #[.int .i64 h', .slice AH ys.length cH] 27)).cell? ⟨w.heap.size, 1, none⟩ = some (.slice A xs.length c) := (blk_cell K.out 1).trans rfl
  have hcS0 : (w15.alloc (.cells #[.int .i64 h', .slice AH ys.length cH] 27)).cell? ⟨w3.heap.size, 0, none⟩ = some (.int .i64 h') := (blk_cell S.out 0).trans rfl
  have hcS1 : (w15.alloc (.cells #[.int .i64 h', .slice AH ys.length cH] 27)).cell? ⟨w3.heap.size, 1, none⟩ = some (.slice AZ ys.length cZ) := (blk_cell S.out 1).trans rfl
  have hcXB0 : (w15.alloc (.cells #[.int .i64 h', .slice AH ys.length cH] 27)).cell? ⟨w4.heap.size, 0, none⟩ = some (.int .i64 h) := (blk_cell XB.out 0).trans rfl
  have hcXB1 : (w15.alloc (.cells #[.int .i64 h', .slice AH ys.length cH] 27)).cell? ⟨w4.heap.size, 1, none⟩ = some (.slice AX xs.length cX) := (blk_cell XB.out 1).trans rfl
  have hcGB0 : (w15.alloc (.cells #[.int .i64 h', .slice AH ys.length cH] 27)).cell? ⟨w5.heap.size, 0, none⟩ = some (.int .i64 h') := (blk_cell GB.out 0).trans rfl
  have hcGB1 : (w15.alloc (.cells #[.int .i64 h', .slice AH ys.length cH] 27)).cell? ⟨w5.heap.size, 1, none⟩ = some (.slice AG ys.length cG) := (blk_cell GB.out 1).trans rfl
  have hcHBx0 : (w15.alloc (.cells #[.int .i64 h', .slice AH ys.length cH] 27)).cell? ⟨w15.heap.size, 0, none⟩ = some (.int .i64 h') := (blk_cell HBx.out 0).trans rfl
  have hcHBx1 : (w15.alloc (.cells #[.int .i64 h', .slice AH ys.length cH] 27)).cell? ⟨w15.heap.size, 1, none⟩ = some (.slice AH ys.length cH) := (blk_cell HBx.out 1).trans rfl
  go_wp2_with (fail)
  refine (laws_eqYard.calls 4000000 h' AH cH ys h' AZ cZ ys true _ H.out.c HCH.out Z.out.c HCZ.out HEI.out).mono ?_
  rintro e w16 ⟨rfl, hb⟩
  clear hcK0 hcK1 hcS0 hcS1 hcXB0 hcXB1 hcGB0 hcGB1 hcHBx0 hcHBx1
  have Z := Aside0.mk (Z.out.below hb)
  have H := Aside0.mk (H.out.below hb)
  have HB := Aside0.mk (below_step HB.out hb)
  have BX := Aside0.mk (below_step BX.out hb)
  have K := Aside0.mk (blk_below K.out hb)
  have S := Aside0.mk (blk_below S.out hb)
  have XB := Aside0.mk (blk_below XB.out hb)
  have GB := Aside0.mk (blk_below GB.out hb)
  have HBx := Aside0.mk (blk_below HBx.out hb)
  have M := Aside0.mk (Kd.C_below M.out hb)
  clear hb
  have hcK0 : w16.cell? ⟨w.heap.size, 0, none⟩ = some (.int .i64 h) := (blk_cell K.out 0).trans rfl
  have hcK1 : w16.cell? ⟨w.heap.size, 1, none⟩ = some (.slice A xs.length c) := (blk_cell K.out 1).trans rfl
  have hcS0 : w16.cell? ⟨w3.heap.size, 0, none⟩ = some (.int .i64 h') := (blk_cell S.out 0).trans rfl
  have hcS1 : w16.cell? ⟨w3.heap.size, 1, none⟩ = some (.slice AZ ys.length cZ) := (blk_cell S.out 1).trans rfl
  have hcXB0 : w16.cell? ⟨w4.heap.size, 0, none⟩ = some (.int .i64 h) := (blk_cell XB.out 0).trans rfl
  have hcXB1 : w16.cell? ⟨w4.heap.size, 1, none⟩ = some (.slice AX xs.length cX) := (blk_cell XB.out 1).trans rfl
  have hcGB0 : w16.cell? ⟨w5.heap.size, 0, none⟩ = some (.int .i64 h') := (blk_cell GB.out 0).trans rfl
  have hcGB1 : w16.cell? ⟨w5.heap.size, 1, none⟩ = some (.slice AG ys.length cG) := (blk_cell GB.out 1).trans rfl
  have hcHBx0 : w16.cell? ⟨w15.heap.size, 0, none⟩ = some (.int .i64 h') := (blk_cell HBx.out 0).trans rfl
  have hcHBx1 : w16.cell? ⟨w15.heap.size, 1, none⟩ = some (.slice AH ys.length cH) := (blk_cell HBx.out 1).trans rfl
  go_wp2_with (fail)
  refine (heldYard_any h' (W := w16) ys HSY.out rfl M.out HCG.out).mono ?_
  rintro e w17 ⟨he, hb⟩
  rw [← HN.out] at he
  subst he
  clear hcK0 hcK1 hcS0 hcS1 hcXB0 hcXB1 hcGB0 hcGB1 hcHBx0 hcHBx1
  have Z := Aside0.mk (Z.out.below hb)
  have H := Aside0.mk (H.out.below hb)
  have HB := Aside0.mk (below_step HB.out hb)
  have BX := Aside0.mk (below_step BX.out hb)
  have K := Aside0.mk (blk_below K.out hb)
  have S := Aside0.mk (blk_below S.out hb)
  have XB := Aside0.mk (blk_below XB.out hb)
  have GB := Aside0.mk (blk_below GB.out hb)
  have HBx := Aside0.mk (blk_below HBx.out hb)
  have M := Aside0.mk (Kd.C_below M.out hb)
  clear hb
  go_wp2_with (fail)
  go_ret
  exact ⟨rfl, HB.out⟩
set_option maxRecDepth 100000 in
theorem walk_big (h : Int) (A : Option Addr) (c : Nat) (xs : List (List Int)) (A2 : Option Addr) (c2 : Nat) (ms : List (List Int)) (t_ : Int) (hsz : laws_szYard.f 4000000 h xs 1048576 = some t_) (ht : t_ < 0) (w : World) (hr : Kd.C dR w A xs.length xs) (hc : xs.length ≤ c) :
    Calls Try.prog 9 #[.agg #[.int .i64 h, .slice A xs.length c], .slice A2 ms.length c2] w fun e w' => e = .returned (.bool true) ∧ Below w.heap.size w w' := by
  have hu := Try.underlying24
  have HR := Aside0.mk hr
  have HC := Aside0.mk hc
  have HSZ := Aside0.mk hsz
  have c1 : decide (t_ < 0) = true := decide_eq_true ht
  clear hr hc hsz ht
  go_enter Try.func9, Try.ntmps9
  go_wp2_with (fail)
  refine (laws_szYard.calls 4000000 h A c xs 1048576 t_ _ (Kd.C_below HR.out (below_alloc (Below.refl _ _) (.cells #[.int .i64 h, .slice A xs.length c] 24))) HC.out HSZ.out).mono ?_
  rintro e w1 ⟨rfl, hb⟩
  have HB := Aside0.mk (below_step (below_alloc (Below.refl w.heap.size w) (.cells #[.int .i64 h, .slice A xs.length c] 24)) hb)
  clear hb
  go_wp2_with (fail)
  go_ret
  exact ⟨rfl, HB.out⟩
set_option maxRecDepth 100000 in
theorem walk_big2 (h : Int) (A : Option Addr) (c : Nat) (xs : List (List Int)) (A2 : Option Addr) (c2 : Nat) (ms : List (List Int)) (t_ : Int) (hsz : laws_szYard.f 4000000 h xs 1048576 = some t_) (ht : 0 ≤ t_) (u_ : Int) (hsz2 : laws_szInt64SS.f 4000000 ms t_ = some u_) (hu_ : u_ < 0) (w : World) (hr : Kd.C dR w A xs.length xs) (hc : xs.length ≤ c) (hr2 : Kd.C dR w A2 ms.length ms) (hc2 : ms.length ≤ c2) :
    Calls Try.prog 9 #[.agg #[.int .i64 h, .slice A xs.length c], .slice A2 ms.length c2] w fun e w' => e = .returned (.bool true) ∧ Below w.heap.size w w' := by
  have hu := Try.underlying24
  have HR := Aside0.mk hr
  have HC := Aside0.mk hc
  have HR2 := Aside0.mk hr2
  have HC2 := Aside0.mk hc2
  have HSZ := Aside0.mk hsz
  have HSZ2 := Aside0.mk hsz2
  have c1 : decide (t_ < 0) = false := decide_eq_false (by omega)
  have c2_ : decide (u_ < 0) = true := decide_eq_true hu_
  clear hr hc hsz ht hr2 hc2 hsz2 hu_
  go_enter Try.func9, Try.ntmps9
  go_wp2_with (fail)
  refine (laws_szYard.calls 4000000 h A c xs 1048576 t_ _ (Kd.C_below HR.out (below_alloc (Below.refl _ _) (.cells #[.int .i64 h, .slice A xs.length c] 24))) HC.out HSZ.out).mono ?_
  rintro e w1 ⟨rfl, hb⟩
  have HB := Aside0.mk (below_step (below_alloc (Below.refl w.heap.size w) (.cells #[.int .i64 h, .slice A xs.length c] 24)) hb)
  clear hb
  go_wp2_with (fail)
  refine (laws_szInt64SS.calls 4000000 A2 c2 ms t_ u_ _ (Kd.C_below HR2.out HB.out) HC2.out HSZ2.out).mono ?_
  rintro e w1b ⟨rfl, hd⟩
  have HB := Aside0.mk (below_step HB.out (Drawn0.below hd))
  clear hd
  go_wp2_with (fail)
  go_ret
  exact ⟨rfl, HB.out⟩
theorem hands_of {fn : FuncId} {h : Int} {xs : List (List Int)} {ms : List (List Int)} {o : Option (List (List Int))} (hh : ∀ (W : World) (A : Option Addr) (c : Nat) (A2 : Option Addr) (c2 : Nat), Kd.C dR W A xs.length xs → xs.length ≤ c → Kd.C dR W A2 ms.length ms → ms.length ≤ c2 → Calls Try.prog fn #[.agg #[.int .i64 h, .slice A xs.length c], .slice A2 ms.length c2] W (Out h o W)) : Hands fn h xs ms (hR h o).1 (hR h o).2 o.isSome := fun W A c A2 c2 h1 h2 h3 h4 => (hh W A c A2 c2 h1 h2 h3 h4).mono fun _ _ h3 => h3
theorem calls (h : Int) (A : Option Addr) (c : Nat) (xs : List (List Int)) (A2 : Option Addr) (c2 : Nat) (ms : List (List Int)) (w : World) (hr : Kd.C dR w A xs.length xs) (hc : xs.length ≤ c) (hl : xs.length ≤ 9223372036854775807) (hrr : ∀ r ∈ xs, r.length ≤ 9223372036854775807) (hr2 : Kd.C dR w A2 ms.length ms) (hc2 : ms.length ≤ c2) (hl2 : ms.length ≤ 9223372036854775807) (hrr2 : ∀ r ∈ ms, r.length ≤ 9223372036854775807) :
    Calls Try.prog 9 #[.agg #[.int .i64 h, .slice A xs.length c], .slice A2 ms.length c2] w fun e w' => e = .returned (.bool true) ∧ Below w.heap.size w w' := by
  obtain ⟨tz, ht, ht1, hs⟩ := szYard_eq h xs hl hrr 4000000 (by decide)
  by_cases hn : tz < 0
  · exact walk_big h A c xs A2 c2 ms tz ht hn w hr hc
  · have hsm := hs (by omega)
    obtain ⟨uz, hu, hu1, hsu⟩ := szSS_eq ms hl2 hrr2 4000000 (by decide) tz (Int.not_lt.1 hn) ht1
    by_cases hn2 : uz < 0
    · exact walk_big2 h A c xs A2 c2 ms tz ht (Int.not_lt.1 hn) uz hu hn2 w hr hc hr2 hc2
    · have g1 : Hands 34 h xs ms (hR h (PuRM.runR h xs ms)).1 (hR h (PuRM.runR h xs ms)).2 (PuRM.runR h xs ms).isSome := hands_of (fun W A c A2 c2 hC hc hM hcm => RM.spec_calls h xs ms hsm.1 A c A2 c2 W hC hc hM hcm)
      have g2 : Hands 24 h xs ms (hR h (PuRM.runR h xs ms)).1 (hR h (PuRM.runR h xs ms)).2 (PuRM.runR h xs ms).isSome := hands_of (fun W A c A2 c2 hC hc hM hcm => RM.impl_calls h xs ms A c A2 c2 W hC hc hM hcm)
      have g3 := RM.small h xs ms
      generalize PuRM.runR h xs ms = o at g1 g2 g3
      exact walk h A c xs A2 c2 ms _ _ _ hsm g3 (hsu (Int.not_lt.1 hn2)) tz ht (Int.not_lt.1 hn) uz hu (Int.not_lt.1 hn2) g1 g2 w hr hc hr2 hc2
end Go.Proofs.Ytibaiaenfeppcaa.LRM

