/- Parts of the proof that the law of this seat holds: Bk, Ra, Bm, Bn, Rt. -/
import Derived.Test.YtkafbmanmffliaaGLpe
set_option linter.unusedVariables false
set_option linter.unusedSimpArgs false
/- The methods of whole numbers in whose regions the order is open. -/
namespace Go.Proofs.Ytkafbmanmffliaa.Bk
open Go Go.RowKit YtkafbmanmffliaaW.PrintWords YtkafbmanmffliaaW.PrintLast YtkafbmanmffliaaW.PrintMore Q Bg PuG Da Db Dc Dd De Bi Bj
theorem sg_mul (a b : Bool) (x y : Int) : sg (a != b) (x * y) = sg a x * sg b y := by
 cases a <;> cases b <;> simp [sg, Int.neg_mul, Int.mul_neg]
theorem sg_not (a : Bool) (x : Int) : sg (!a) x = - sg a x := by
 cases a <;> simp [sg]
theorem sg_add (a : Bool) (x y : Int) : sg a (x + y) = sg a x + sg a y := by
 cases a <;> simp [sg] <;> omega
theorem sg_sub (a b : Bool) (x y : Int) (h : a ≠ b) : sg a (x - y) = sg a x + sg b y := by
 cases a <;> cases b <;> simp [sg] at * <;> omega
set_option maxHeartbeats 8000000 in
set_option maxRecDepth 100000 in
theorem set_any (bz oz bx ox : Nat) (x : Int) (k : Nat) (w : World) (hx : BI w bx ox x) (hr : Rec w bz oz) (hk : k ≤ 1000000) (hlx : x.natAbs < 2 ^ k) :
  Calls Try.prog 133 #[.pointer (some ⟨bz, oz, none⟩), .pointer (some ⟨bx, ox, none⟩)] w fun e w' => e = .returned (.pointer (some ⟨bz, oz, none⟩)) ∧ PutAt bz oz x w w' := by
 have hu := Try.underlying110
 obtain ⟨nx, Ax, cx, lx, dx, x1, x2, xn, xc, x3, x4, x5, x6, x7⟩ := hx.form
 have lx2 := len_of x4 x5 x6 hlx hk
 have HY := Aside0.mk (And.intro x4 x5)
 have HL := Aside0.mk lx2
 have HR := Aside0.mk hr
 have HX := Aside0.mk x6
 have HC := Aside0.mk x3
 subst xn
 clear hr x3 x4 x5 x6 x7 hlx hk hx xc lx2
 go_enter Try.func133, Try.ntmps133
 go_wp2_with (fail)
 refine start_ (n:=13) (S := fun w' => w'.cell? ⟨bx, ox, none⟩ = some (.bool nx) ∧ w'.cell? ⟨bx, ox + 1, none⟩ = some (.slice Ax dx.length cx)) (ds:=[11]) #[false,false,false,false,false,false,false,false,false,false,false,false,false] (by kernel_rfl) rfl rfl ⟨x1, x2⟩ (fun hHeld => ?_)
 refine pure_ (i:=0) (N:=some 5) (v:=?_) (a':=?_) #[true,false,false,false,false,false,false,false,false,false,false,false,false] rfl rfl (by kernel_rfl) (fun _ _ _ h => h) (Or.inl ⟨by rfl, ?_⟩) ?_ ?_
 rotate_left
 ·intro w'
  go_simp
  with_reducible rfl
 rotate_left
 ·go_simp
  rfl
 refine pure_ (i:=1) (N:=some 6) (v:=?_) (a':=?_) #[true,true,false,false,false,false,false,false,false,false,false,false,false] rfl rfl (by kernel_rfl) (fun _ _ _ h => h) (Or.inl ⟨by rfl, ?_⟩) ?_ ?_
 rotate_left
 ·intro w'
  go_simp
  with_reducible rfl
 rotate_left
 ·go_simp
  rfl
 refine pure_ (i:=2) (N:=some 7) (v:=?_) (a':=?_) #[true,true,true,false,false,false,false,false,false,false,false,false,false] rfl rfl (by kernel_rfl) (fun _ _ _ h => h) (Or.inl ⟨by rfl, ?_⟩) ?_ ?_
 rotate_left
 ·intro w'
  go_simp
  with_reducible rfl
 rotate_left
 ·go_simp
  rfl
 refine pure_ (i:=3) (N:=some 8) (v:=?_) (a':=?_) #[true,true,true,true,false,false,false,false,false,false,false,false,false] rfl rfl (by kernel_rfl) (fun _ _ _ h => h) (Or.inl ⟨by rfl, ?_⟩) ?_ ?_
 rotate_left
 ·intro w'
  go_simp
  with_reducible rfl
 rotate_left
 ·go_simp
  rfl
 refine pure_ (i:=6) (N:=some 11) (v:=?_) (a':=?_) #[true,true,true,true,false,false,true,false,false,false,false,false,false] rfl rfl (by kernel_rfl) (fun _ _ _ h => h) (Or.inl ⟨by rfl, ?_⟩) ?_ ?_
 rotate_left
 ·intro w'
  go_simp
  with_reducible rfl
 rotate_left
 ·go_simp
  rfl
 refine pure_ (i:=7) (N:=some 12) (v:=?_) (a':=?_) #[true,true,true,true,false,false,true,true,false,false,false,false,false] rfl rfl (by kernel_rfl) (fun _ _ _ h => h) (Or.inl ⟨by rfl, ?_⟩) ?_ ?_
 rotate_left
 ·intro w'
  go_simp
  with_reducible rfl
 rotate_left
 ·go_simp
  rfl
 refine pure_ (i:=8) (N:=some 13) (v:=?_) (a':=?_) #[true,true,true,true,false,false,true,true,true,false,false,false,false] rfl rfl (by kernel_rfl) (fun _ _ _ h => h) (Or.inl ⟨by rfl, ?_⟩) ?_ ?_
 rotate_left
 ·intro w'
  go_simp
  with_reducible rfl
 rotate_left
 ·go_simp
  rfl
 refine take_ (i:=4) (N:=some 9) (v:=?_) (a':=?_) #[true,true,true,true,true,false,true,true,true,false,false,false,false] rfl rfl (by kernel_rfl) (fun _ _ _ h => h) (Or.inl ⟨by rfl, ?_⟩) hHeld ?_ ?_
 rotate_left
 ·rintro w' ⟨s0, s1⟩
  go_simp
  with_reducible rfl
 rotate_left
 ·go_simp
  rfl
 refine take_ (i:=9) (N:=some 14) (v:=?_) (a':=?_) #[true,true,true,true,true,false,true,true,true,true,false,false,false] rfl rfl (by kernel_rfl) (fun _ _ _ h => h) (Or.inl ⟨by rfl, ?_⟩) hHeld ?_ ?_
 rotate_left
 ·rintro w' ⟨s0, s1⟩
  go_simp
  with_reducible rfl
 rotate_left
 ·go_simp
  rfl
 refine one_ (i:=5) (N:=some 10) #[true,true,true,true,true,true,true,true,true,true,false,false,false] rfl rfl (by kernel_rfl) (by decide) (fun K_ hK => ?_)
 refine value_ (v := .slice (some ⟨w.drew.heap.size, 0, none⟩) 0 0) (w1 := w.drew.alloc (.cells #[] 146)) (by rfl) rfl ?_ ?_
 ·go_simp
  first | done | exact ⟨rfl, rfl⟩ | rfl
 have HB := Aside0.mk (below_alloc (below_drew (Below.refl w.heap.size w)) (.cells #[] 146))
 have HU := Aside0.mk (U.nil_new (B := w.heap.size) (W := w.drew) (Nat.le_refl _))
 refine hK.out _ _ ⟨(HB.out.cell (World.block_lt_of_cell? w _ x1)).trans x1, (HB.out.cell (World.block_lt_of_cell? w _ x2)).trans x2⟩ (fun hHeld => ?_)
 clear hK K_
 refine norm_ (a':=?_) ?_ ?_
 rotate_left
 ·show Act.put _ (some 10) _ = _
  go_simp
  rfl
 refine one_ (i:=10) (N:=some 15) #[true,true,true,true,true,true,true,true,true,true,true,false,false] rfl rfl (by kernel_rfl) (by decide) (fun K_ hK => ?_)
 refine Kd.R_append_rows_step (Kd.int .u32) (w0 := w) w.heap.size (by rfl) (.tmp 10) (.tmp 14) 108 146 (.int .u32 0) 4 rfl Try.underlying108 infoU rfl (by decide) (by decide) _ [] dx Ax dx.length cx (fun _ => True) (fun _ => False) rfl rfl HU.out (Kd.C_below HC.out HB.out) (fun _ _ h => h) (fun _ h => h.elim) (fun _ _ => trivial) HB.out HB.out.size (by have := HL.out; simp; omega) ?_
 intro v0 w1 n1 n2 n3 n4
 have HD := Aside0.mk (Ds.of_U (B := w.heap.size) n1 HY.out.1 HY.out.2)
 have HB := Aside0.mk n2
 clear n1 n2 n3 n4 HU
 refine hK.out _ _ ⟨(HB.out.cell (World.block_lt_of_cell? w _ x1)).trans x1, (HB.out.cell (World.block_lt_of_cell? w _ x2)).trans x2⟩ (fun hHeld => ?_)
 clear hK K_
 refine norm_ (a':=?_) ?_ ?_
 rotate_left
 ·show Act.put _ (some 15) _ = _
  go_simp
  rfl
 refine last_ (i:=11) (N:=some 16) #[true,true,true,true,true,true,true,true,true,true,true,true,false] rfl rfl (by kernel_rfl) (by decide) (fun K_ hK => ?_)
 obtain ⟨Av, cv, hdv⟩ : ∃ Av cv, v0 = .slice Av dx.length cv := by
  obtain ⟨Av, cv, h1, _⟩ := HD.out
  exact ⟨Av, cv, h1⟩
 subst hdv
 refine goes_ Try.func134 (by kernel_rfl) rfl #[.pointer (some ⟨bz, oz, none⟩), .bool nx, .slice Av dx.length cv] (by rfl) rfl rfl (by (try simp only [List.map_toArray, List.map_cons, List.map_nil]); first | done | rfl) ?_
 refine (put_at bz oz nx Av _ cv dx w w1 HB.out HD.out (HR.out.below HB.out)).mono ?_
 rintro e w2 ⟨rfl, hp⟩
 have HP := Aside0.mk hp
 clear hp
 refine ⟨_, rfl, ?_⟩
 refine hK.out _ _ ?_
 clear hK K_
 refine norm_ (a':=?_) ?_ ?_
 rotate_left
 ·show Act.put _ (some 16) _ = _
  go_simp
  rfl
 refine pure_ (i:=12) (N:=some 4) (v:=?_) (a':=?_) #[true,true,true,true,true,true,true,true,true,true,true,true,true] rfl rfl (by kernel_rfl) (fun _ _ _ h => h) (Or.inl ⟨by rfl, ?_⟩) ?_ ?_
 rotate_left
 ·intro w'
  go_simp
  with_reducible rfl
 rotate_left
 ·go_simp
  rfl
 refine done_ (by kernel_rfl) ?_
 go_wp2_with (fail)
 go_ret
 have hp := HP.out
 rw [HX.out]
 exact ⟨rfl, hp⟩
set_option maxHeartbeats 8000000 in
set_option maxRecDepth 100000 in
theorem neg_any (bz oz bx ox : Nat) (x : Int) (k : Nat) (w : World) (hx : BI w bx ox x) (hr : Rec w bz oz) (hk : k ≤ 1000000) (hlx : x.natAbs < 2 ^ k) :
  Calls Try.prog 148 #[.pointer (some ⟨bz, oz, none⟩), .pointer (some ⟨bx, ox, none⟩)] w fun e w' => e = .returned (.pointer (some ⟨bz, oz, none⟩)) ∧ PutAt bz oz (- x) w w' := by
 have hu := Try.underlying110
 obtain ⟨nx, Ax, cx, lx, dx, x1, x2, xn, xc, x3, x4, x5, x6, x7⟩ := hx.form
 have lx2 := len_of x4 x5 x6 hlx hk
 have HY := Aside0.mk (And.intro x4 x5)
 have HL := Aside0.mk lx2
 have HR := Aside0.mk hr
 have HX := Aside0.mk x6
 have HC := Aside0.mk x3
 subst xn
 clear hr x3 x4 x5 x6 x7 hlx hk hx xc lx2
 go_enter Try.func148, Try.ntmps148
 go_wp2_with (fail)
 refine start_ (n:=14) (S := fun w' => w'.cell? ⟨bx, ox, none⟩ = some (.bool nx) ∧ w'.cell? ⟨bx, ox + 1, none⟩ = some (.slice Ax dx.length cx)) (ds:=[12]) #[false,false,false,false,false,false,false,false,false,false,false,false,false,false] (by kernel_rfl) rfl rfl ⟨x1, x2⟩ (fun hHeld => ?_)
 refine pure_ (i:=0) (N:=some 5) (v:=?_) (a':=?_) #[true,false,false,false,false,false,false,false,false,false,false,false,false,false] rfl rfl (by kernel_rfl) (fun _ _ _ h => h) (Or.inl ⟨by rfl, ?_⟩) ?_ ?_
 rotate_left
 ·intro w'
  go_simp
  with_reducible rfl
 rotate_left
 ·go_simp
  rfl
 refine pure_ (i:=1) (N:=some 6) (v:=?_) (a':=?_) #[true,true,false,false,false,false,false,false,false,false,false,false,false,false] rfl rfl (by kernel_rfl) (fun _ _ _ h => h) (Or.inl ⟨by rfl, ?_⟩) ?_ ?_
 rotate_left
 ·intro w'
  go_simp
  with_reducible rfl
 rotate_left
 ·go_simp
  rfl
 refine pure_ (i:=2) (N:=some 7) (v:=?_) (a':=?_) #[true,true,true,false,false,false,false,false,false,false,false,false,false,false] rfl rfl (by kernel_rfl) (fun _ _ _ h => h) (Or.inl ⟨by rfl, ?_⟩) ?_ ?_
 rotate_left
 ·intro w'
  go_simp
  with_reducible rfl
 rotate_left
 ·go_simp
  rfl
 refine pure_ (i:=3) (N:=some 8) (v:=?_) (a':=?_) #[true,true,true,true,false,false,false,false,false,false,false,false,false,false] rfl rfl (by kernel_rfl) (fun _ _ _ h => h) (Or.inl ⟨by rfl, ?_⟩) ?_ ?_
 rotate_left
 ·intro w'
  go_simp
  with_reducible rfl
 rotate_left
 ·go_simp
  rfl
 refine pure_ (i:=7) (N:=some 12) (v:=?_) (a':=?_) #[true,true,true,true,false,false,false,true,false,false,false,false,false,false] rfl rfl (by kernel_rfl) (fun _ _ _ h => h) (Or.inl ⟨by rfl, ?_⟩) ?_ ?_
 rotate_left
 ·intro w'
  go_simp
  with_reducible rfl
 rotate_left
 ·go_simp
  rfl
 refine pure_ (i:=8) (N:=some 13) (v:=?_) (a':=?_) #[true,true,true,true,false,false,false,true,true,false,false,false,false,false] rfl rfl (by kernel_rfl) (fun _ _ _ h => h) (Or.inl ⟨by rfl, ?_⟩) ?_ ?_
 rotate_left
 ·intro w'
  go_simp
  with_reducible rfl
 rotate_left
 ·go_simp
  rfl
 refine pure_ (i:=9) (N:=some 14) (v:=?_) (a':=?_) #[true,true,true,true,false,false,false,true,true,true,false,false,false,false] rfl rfl (by kernel_rfl) (fun _ _ _ h => h) (Or.inl ⟨by rfl, ?_⟩) ?_ ?_
 rotate_left
 ·intro w'
  go_simp
  with_reducible rfl
 rotate_left
 ·go_simp
  rfl
 refine take_ (i:=4) (N:=some 9) (v:=?_) (a':=?_) #[true,true,true,true,true,false,false,true,true,true,false,false,false,false] rfl rfl (by kernel_rfl) (fun _ _ _ h => h) (Or.inl ⟨by rfl, ?_⟩) hHeld ?_ ?_
 rotate_left
 ·rintro w' ⟨s0, s1⟩
  go_simp
  with_reducible rfl
 rotate_left
 ·go_simp
  rfl
 refine pure_ (i:=5) (N:=some 10) (v:=?_) (a':=?_) #[true,true,true,true,true,true,false,true,true,true,false,false,false,false] rfl rfl (by kernel_rfl) (fun _ _ _ h => h) (Or.inl ⟨by rfl, ?_⟩) ?_ ?_
 rotate_left
 ·intro w'
  go_simp
  with_reducible rfl
 rotate_left
 ·go_simp
  rfl
 refine take_ (i:=10) (N:=some 15) (v:=?_) (a':=?_) #[true,true,true,true,true,true,false,true,true,true,true,false,false,false] rfl rfl (by kernel_rfl) (fun _ _ _ h => h) (Or.inl ⟨by rfl, ?_⟩) hHeld ?_ ?_
 rotate_left
 ·rintro w' ⟨s0, s1⟩
  go_simp
  with_reducible rfl
 rotate_left
 ·go_simp
  rfl
 refine one_ (i:=6) (N:=some 11) #[true,true,true,true,true,true,true,true,true,true,true,false,false,false] rfl rfl (by kernel_rfl) (by decide) (fun K_ hK => ?_)
 refine value_ (v := .slice (some ⟨w.drew.heap.size, 0, none⟩) 0 0) (w1 := w.drew.alloc (.cells #[] 146)) (by rfl) rfl ?_ ?_
 ·go_simp
  first | done | exact ⟨rfl, rfl⟩ | rfl
 have HB := Aside0.mk (below_alloc (below_drew (Below.refl w.heap.size w)) (.cells #[] 146))
 have HU := Aside0.mk (U.nil_new (B := w.heap.size) (W := w.drew) (Nat.le_refl _))
 refine hK.out _ _ ⟨(HB.out.cell (World.block_lt_of_cell? w _ x1)).trans x1, (HB.out.cell (World.block_lt_of_cell? w _ x2)).trans x2⟩ (fun hHeld => ?_)
 clear hK K_
 refine norm_ (a':=?_) ?_ ?_
 rotate_left
 ·show Act.put _ (some 11) _ = _
  go_simp
  rfl
 refine one_ (i:=11) (N:=some 16) #[true,true,true,true,true,true,true,true,true,true,true,true,false,false] rfl rfl (by kernel_rfl) (by decide) (fun K_ hK => ?_)
 refine Kd.R_append_rows_step (Kd.int .u32) (w0 := w) w.heap.size (by rfl) (.tmp 11) (.tmp 15) 108 146 (.int .u32 0) 4 rfl Try.underlying108 infoU rfl (by decide) (by decide) _ [] dx Ax dx.length cx (fun _ => True) (fun _ => False) rfl rfl HU.out (Kd.C_below HC.out HB.out) (fun _ _ h => h) (fun _ h => h.elim) (fun _ _ => trivial) HB.out HB.out.size (by have := HL.out; simp; omega) ?_
 intro v0 w1 n1 n2 n3 n4
 have HD := Aside0.mk (Ds.of_U (B := w.heap.size) n1 HY.out.1 HY.out.2)
 have HB := Aside0.mk n2
 clear n1 n2 n3 n4 HU
 refine hK.out _ _ ⟨(HB.out.cell (World.block_lt_of_cell? w _ x1)).trans x1, (HB.out.cell (World.block_lt_of_cell? w _ x2)).trans x2⟩ (fun hHeld => ?_)
 clear hK K_
 refine norm_ (a':=?_) ?_ ?_
 rotate_left
 ·show Act.put _ (some 16) _ = _
  go_simp
  rfl
 refine last_ (i:=12) (N:=some 17) #[true,true,true,true,true,true,true,true,true,true,true,true,true,false] rfl rfl (by kernel_rfl) (by decide) (fun K_ hK => ?_)
 obtain ⟨Av, cv, hdv⟩ : ∃ Av cv, v0 = .slice Av dx.length cv := by
  obtain ⟨Av, cv, h1, _⟩ := HD.out
  exact ⟨Av, cv, h1⟩
 subst hdv
 refine goes_ Try.func134 (by kernel_rfl) rfl #[.pointer (some ⟨bz, oz, none⟩), .bool (!nx), .slice Av dx.length cv] (by rfl) rfl rfl (by (try simp only [List.map_toArray, List.map_cons, List.map_nil]); first | done | rfl) ?_
 refine (put_at bz oz (!nx) Av _ cv dx w w1 HB.out HD.out (HR.out.below HB.out)).mono ?_
 rintro e w2 ⟨rfl, hp⟩
 have HP := Aside0.mk hp
 clear hp
 refine ⟨_, rfl, ?_⟩
 refine hK.out _ _ ?_
 clear hK K_
 refine norm_ (a':=?_) ?_ ?_
 rotate_left
 ·show Act.put _ (some 17) _ = _
  go_simp
  rfl
 refine pure_ (i:=13) (N:=some 4) (v:=?_) (a':=?_) #[true,true,true,true,true,true,true,true,true,true,true,true,true,true] rfl rfl (by kernel_rfl) (fun _ _ _ h => h) (Or.inl ⟨by rfl, ?_⟩) ?_ ?_
 rotate_left
 ·intro w'
  go_simp
  with_reducible rfl
 rotate_left
 ·go_simp
  rfl
 refine done_ (by kernel_rfl) ?_
 go_wp2_with (fail)
 go_ret
 have hp := HP.out
 rw [HX.out]
 exact ⟨rfl, by rw [← sg_not]; exact hp⟩
set_option maxHeartbeats 8000000 in
set_option maxRecDepth 100000 in
theorem abs_any (bz oz bx ox : Nat) (x : Int) (k : Nat) (w : World) (hx : BI w bx ox x) (hr : Rec w bz oz) (hk : k ≤ 1000000) (hlx : x.natAbs < 2 ^ k) :
  Calls Try.prog 131 #[.pointer (some ⟨bz, oz, none⟩), .pointer (some ⟨bx, ox, none⟩)] w fun e w' => e = .returned (.pointer (some ⟨bz, oz, none⟩)) ∧ PutAt bz oz (x.natAbs : Int) w w' := by
 have hu := Try.underlying110
 obtain ⟨nx, Ax, cx, lx, dx, x1, x2, xn, xc, x3, x4, x5, x6, x7⟩ := hx.form
 have lx2 := len_of x4 x5 x6 hlx hk
 have HY := Aside0.mk (And.intro x4 x5)
 have HL := Aside0.mk lx2
 have HR := Aside0.mk hr
 have HX := Aside0.mk (show (x.natAbs : Int) = val dx by rw [x6]; exact sg_abs nx (val_nonneg x4))
 have HC := Aside0.mk x3
 have c1 := x2
 subst xn
 clear hr x3 x4 x5 x6 x7 hlx hk hx xc lx2
 go_enter Try.func131, Try.ntmps131
 have HB := Aside0.mk (below_alloc (Below.refl w.heap.size w) (.cells #[] 146))
 have HU := Aside0.mk (U.nil_new (B := w.heap.size) (W := w) (Nat.le_refl _))
 have c2 : (w.alloc (.cells #[] 146)).cell? ⟨bx, ox + 1, none⟩ = some (.slice Ax dx.length cx) := (HB.out.cell (World.block_lt_of_cell? w _ x2)).trans x2
 go_wp2_with ((with_reducible refine gate_builtin (b := .append) (xs := #[.tmp 6, .tmp 10]) rfl ?_); at_builtin; refine Kd.R_append_row (w0 := w) (Value.int .u32) (0 : Int) w.heap.size rfl (.tmp 6) (.tmp 10) 108 146 (.int .u32 0) 4 rfl Try.underlying108 infoU rfl (by decide) _ [] dx Ax dx.length cx (fun _ => True) rfl rfl (fun _ _ => trivial) HU.out (Kd.C_below HC.out HB.out) HB.out HB.out.size (by have := HL.out; simp; omega) ?_; intro v0 w1 n1 n2 n3 n4; have HD := Aside0.mk (Ds.of_U (B := w.heap.size) n1 HY.out.1 HY.out.2); have HB1 := Aside0.mk n2; obtain ⟨Av, cv, rfl⟩ := U.slice n1; clear n1 n2 n3 n4)
 have hput := put_at bz oz false Av _ cv dx w w1 HB1.out HD.out (HR.out.below HB1.out)
 refine hput.mono ?_
 rintro e w2 ⟨rfl, hp⟩
 have HP := Aside0.mk hp
 clear hp hput c1 c2
 go_wp2_with (fail)
 go_ret
 have hp := HP.out
 rw [HX.out]
 exact ⟨rfl, hp⟩
set_option maxHeartbeats 8000000 in
set_option maxRecDepth 100000 in
theorem mul_any (bz oz bx ox b_y oy : Nat) (x y' : Int) (k : Nat) (w : World) (hx : BI w bx ox x) (hy : BI w b_y oy y') (hr : Rec w bz oz) (hk : k ≤ 1000000) (hlx : x.natAbs < 2 ^ k) (hly : y'.natAbs < 2 ^ k) :
  Calls Try.prog 103 #[.pointer (some ⟨bz, oz, none⟩), .pointer (some ⟨bx, ox, none⟩), .pointer (some ⟨b_y, oy, none⟩)] w fun e w' => e = .returned (.pointer (some ⟨bz, oz, none⟩)) ∧ PutAt bz oz (x * y') w w' := by
 have hu := Try.underlying110
 obtain ⟨nx, Ax, cx, lx, dx, x1, x2, xn, xc, x3, x4, x5, x6, x7⟩ := hx.form
 obtain ⟨nt, At, ct, lt, dt, t1, t2, tn, tc, t3, t4, t5, t6, t7⟩ := hy.form
 have lx2 := len_of x4 x5 x6 hlx hk
 have ly2 := len_of t4 t5 t6 hly hk
 obtain ⟨y, g1, g2, g3, g4, g5⟩ := mul_ok x4 t4 (by omega) (by omega) (dx.length + dt.length + 3 + dx.length * (dt.length + 2)) (by omega)
 have HY := Aside0.mk (And.intro g3 g4)
 have HV := Aside0.mk g5
 have HR := Aside0.mk hr
 have HX := Aside0.mk (And.intro x6 t6)
 subst xn
 subst tn
 have hcl := impl_mulMag.calls (dx.length + dt.length + 3 + dx.length * (dt.length + 2)) Ax cx dx At ct dt y w.drew (Kd.C_below x3 (below_drew (Below.refl _ _))) xc (Kd.C_below t3 (below_drew (Below.refl _ _))) tc g1
 clear g1 g2 g3 g4 g5 hr x3 t3 x4 t4 x5 t5 x6 t6 x7 t7 hlx hly hk hx hy xc tc lx2 ly2
 go_enter Try.func103, Try.ntmps103
 go_wp2_with (fail)
 refine start_ (n:=21) (S := fun w' => w'.cell? ⟨bx, ox, none⟩ = some (.bool nx) ∧ w'.cell? ⟨bx, ox + 1, none⟩ = some (.slice Ax dx.length cx) ∧ w'.cell? ⟨b_y, oy, none⟩ = some (.bool nt) ∧ w'.cell? ⟨b_y, oy + 1, none⟩ = some (.slice At dt.length ct)) (ds:=[19]) #[false,false,false,false,false,false,false,false,false,false,false,false,false,false,false,false,false,false,false,false,false] (by kernel_rfl) rfl rfl ⟨x1, x2, t1, t2⟩ (fun hHeld => ?_)
 refine pure_ (i:=0) (N:=some 7) (v:=?_) (a':=?_) #[true,false,false,false,false,false,false,false,false,false,false,false,false,false,false,false,false,false,false,false,false] rfl rfl (by kernel_rfl) (fun _ _ _ h => h) (Or.inl ⟨by rfl, ?_⟩) ?_ ?_
 rotate_left
 ·intro w'
  go_simp
  with_reducible rfl
 rotate_left
 ·go_simp
  rfl
 refine pure_ (i:=1) (N:=some 8) (v:=?_) (a':=?_) #[true,true,false,false,false,false,false,false,false,false,false,false,false,false,false,false,false,false,false,false,false] rfl rfl (by kernel_rfl) (fun _ _ _ h => h) (Or.inl ⟨by rfl, ?_⟩) ?_ ?_
 rotate_left
 ·intro w'
  go_simp
  with_reducible rfl
 rotate_left
 ·go_simp
  rfl
 refine pure_ (i:=2) (N:=some 9) (v:=?_) (a':=?_) #[true,true,true,false,false,false,false,false,false,false,false,false,false,false,false,false,false,false,false,false,false] rfl rfl (by kernel_rfl) (fun _ _ _ h => h) (Or.inl ⟨by rfl, ?_⟩) ?_ ?_
 rotate_left
 ·intro w'
  go_simp
  with_reducible rfl
 rotate_left
 ·go_simp
  rfl
 refine pure_ (i:=3) (N:=some 10) (v:=?_) (a':=?_) #[true,true,true,true,false,false,false,false,false,false,false,false,false,false,false,false,false,false,false,false,false] rfl rfl (by kernel_rfl) (fun _ _ _ h => h) (Or.inl ⟨by rfl, ?_⟩) ?_ ?_
 rotate_left
 ·intro w'
  go_simp
  with_reducible rfl
 rotate_left
 ·go_simp
  rfl
 refine pure_ (i:=5) (N:=some 12) (v:=?_) (a':=?_) #[true,true,true,true,false,true,false,false,false,false,false,false,false,false,false,false,false,false,false,false,false] rfl rfl (by kernel_rfl) (fun _ _ _ h => h) (Or.inl ⟨by rfl, ?_⟩) ?_ ?_
 rotate_left
 ·intro w'
  go_simp
  with_reducible rfl
 rotate_left
 ·go_simp
  rfl
 refine pure_ (i:=6) (N:=some 13) (v:=?_) (a':=?_) #[true,true,true,true,false,true,true,false,false,false,false,false,false,false,false,false,false,false,false,false,false] rfl rfl (by kernel_rfl) (fun _ _ _ h => h) (Or.inl ⟨by rfl, ?_⟩) ?_ ?_
 rotate_left
 ·intro w'
  go_simp
  with_reducible rfl
 rotate_left
 ·go_simp
  rfl
 refine pure_ (i:=7) (N:=some 14) (v:=?_) (a':=?_) #[true,true,true,true,false,true,true,true,false,false,false,false,false,false,false,false,false,false,false,false,false] rfl rfl (by kernel_rfl) (fun _ _ _ h => h) (Or.inl ⟨by rfl, ?_⟩) ?_ ?_
 rotate_left
 ·intro w'
  go_simp
  with_reducible rfl
 rotate_left
 ·go_simp
  rfl
 refine pure_ (i:=10) (N:=some 17) (v:=?_) (a':=?_) #[true,true,true,true,false,true,true,true,false,false,true,false,false,false,false,false,false,false,false,false,false] rfl rfl (by kernel_rfl) (fun _ _ _ h => h) (Or.inl ⟨by rfl, ?_⟩) ?_ ?_
 rotate_left
 ·intro w'
  go_simp
  with_reducible rfl
 rotate_left
 ·go_simp
  rfl
 refine pure_ (i:=11) (N:=some 18) (v:=?_) (a':=?_) #[true,true,true,true,false,true,true,true,false,false,true,true,false,false,false,false,false,false,false,false,false] rfl rfl (by kernel_rfl) (fun _ _ _ h => h) (Or.inl ⟨by rfl, ?_⟩) ?_ ?_
 rotate_left
 ·intro w'
  go_simp
  with_reducible rfl
 rotate_left
 ·go_simp
  rfl
 refine pure_ (i:=12) (N:=some 19) (v:=?_) (a':=?_) #[true,true,true,true,false,true,true,true,false,false,true,true,true,false,false,false,false,false,false,false,false] rfl rfl (by kernel_rfl) (fun _ _ _ h => h) (Or.inl ⟨by rfl, ?_⟩) ?_ ?_
 rotate_left
 ·intro w'
  go_simp
  with_reducible rfl
 rotate_left
 ·go_simp
  rfl
 refine pure_ (i:=14) (N:=some 21) (v:=?_) (a':=?_) #[true,true,true,true,false,true,true,true,false,false,true,true,true,false,true,false,false,false,false,false,false] rfl rfl (by kernel_rfl) (fun _ _ _ h => h) (Or.inl ⟨by rfl, ?_⟩) ?_ ?_
 rotate_left
 ·intro w'
  go_simp
  with_reducible rfl
 rotate_left
 ·go_simp
  rfl
 refine pure_ (i:=15) (N:=some 22) (v:=?_) (a':=?_) #[true,true,true,true,false,true,true,true,false,false,true,true,true,false,true,true,false,false,false,false,false] rfl rfl (by kernel_rfl) (fun _ _ _ h => h) (Or.inl ⟨by rfl, ?_⟩) ?_ ?_
 rotate_left
 ·intro w'
  go_simp
  with_reducible rfl
 rotate_left
 ·go_simp
  rfl
 refine pure_ (i:=16) (N:=some 23) (v:=?_) (a':=?_) #[true,true,true,true,false,true,true,true,false,false,true,true,true,false,true,true,true,false,false,false,false] rfl rfl (by kernel_rfl) (fun _ _ _ h => h) (Or.inl ⟨by rfl, ?_⟩) ?_ ?_
 rotate_left
 ·intro w'
  go_simp
  with_reducible rfl
 rotate_left
 ·go_simp
  rfl
 refine take_ (i:=4) (N:=some 11) (v:=?_) (a':=?_) #[true,true,true,true,true,true,true,true,false,false,true,true,true,false,true,true,true,false,false,false,false] rfl rfl (by kernel_rfl) (fun _ _ _ h => h) (Or.inl ⟨by rfl, ?_⟩) hHeld ?_ ?_
 rotate_left
 ·rintro w' ⟨s0, s1, s2, s3⟩
  go_simp
  with_reducible rfl
 rotate_left
 ·go_simp
  rfl
 refine take_ (i:=8) (N:=some 15) (v:=?_) (a':=?_) #[true,true,true,true,true,true,true,true,true,false,true,true,true,false,true,true,true,false,false,false,false] rfl rfl (by kernel_rfl) (fun _ _ _ h => h) (Or.inl ⟨by rfl, ?_⟩) hHeld ?_ ?_
 rotate_left
 ·rintro w' ⟨s0, s1, s2, s3⟩
  go_simp
  with_reducible rfl
 rotate_left
 ·go_simp
  rfl
 refine pure_ (i:=9) (N:=some 16) (v:=?_) (a':=?_) #[true,true,true,true,true,true,true,true,true,true,true,true,true,false,true,true,true,false,false,false,false] rfl rfl (by kernel_rfl) (fun _ _ _ h => h) (Or.inl ⟨by rfl, ?_⟩) ?_ ?_
 rotate_left
 ·intro w'
  go_simp
  with_reducible rfl
 rotate_left
 ·go_simp
  rfl
 refine take_ (i:=13) (N:=some 20) (v:=?_) (a':=?_) #[true,true,true,true,true,true,true,true,true,true,true,true,true,true,true,true,true,false,false,false,false] rfl rfl (by kernel_rfl) (fun _ _ _ h => h) (Or.inl ⟨by rfl, ?_⟩) hHeld ?_ ?_
 rotate_left
 ·rintro w' ⟨s0, s1, s2, s3⟩
  go_simp
  with_reducible rfl
 rotate_left
 ·go_simp
  rfl
 refine take_ (i:=17) (N:=some 24) (v:=?_) (a':=?_) #[true,true,true,true,true,true,true,true,true,true,true,true,true,true,true,true,true,true,false,false,false] rfl rfl (by kernel_rfl) (fun _ _ _ h => h) (Or.inl ⟨by rfl, ?_⟩) hHeld ?_ ?_
 rotate_left
 ·rintro w' ⟨s0, s1, s2, s3⟩
  go_simp
  with_reducible rfl
 rotate_left
 ·go_simp
  rfl
 refine one_ (i:=18) (N:=some 25) #[true,true,true,true,true,true,true,true,true,true,true,true,true,true,true,true,true,true,true,false,false] rfl rfl (by kernel_rfl) (by decide) (fun K_ hK => ?_)
 refine goes_ Try.func135 (by kernel_rfl) rfl #[.slice Ax dx.length cx, .slice At dt.length ct] (by rfl) rfl rfl (by (try simp only [List.map_toArray, List.map_cons, List.map_nil]); first | done | rfl) ?_
 refine (hcl).mono ?_
 rintro e w1 ⟨v0, rfl, hv, hb⟩
 have HD := Aside0.mk (Ds.of_V hv HY.out.1 HY.out.2)
 clear hv
 have HB := Aside0.mk (below_step (below_drew (Below.refl w.heap.size w)) hb)
 clear hb
 refine ⟨_, rfl, ?_⟩
 refine hK.out _ _ ⟨(HB.out.cell (World.block_lt_of_cell? w _ x1)).trans x1, (HB.out.cell (World.block_lt_of_cell? w _ x2)).trans x2, (HB.out.cell (World.block_lt_of_cell? w _ t1)).trans t1, (HB.out.cell (World.block_lt_of_cell? w _ t2)).trans t2⟩ (fun hHeld => ?_)
 clear hK K_
 refine norm_ (a':=?_) ?_ ?_
 rotate_left
 ·show Act.put _ (some 25) _ = _
  go_simp
  rfl
 refine last_ (i:=19) (N:=some 26) #[true,true,true,true,true,true,true,true,true,true,true,true,true,true,true,true,true,true,true,true,false] rfl rfl (by kernel_rfl) (by decide) (fun K_ hK => ?_)
 obtain ⟨Av, cv, hdv⟩ : ∃ Av cv, v0 = .slice Av y.length cv := by
  obtain ⟨Av, cv, h1, _⟩ := HD.out
  exact ⟨Av, cv, h1⟩
 subst hdv
 refine goes_ Try.func134 (by kernel_rfl) rfl #[.pointer (some ⟨bz, oz, none⟩), .bool (nx != nt), .slice Av y.length cv] (by rfl) rfl rfl (by (try simp only [List.map_toArray, List.map_cons, List.map_nil]); first | done | rfl) ?_
 refine (put_at bz oz (nx != nt) Av _ cv y w w1 HB.out HD.out (HR.out.below HB.out)).mono ?_
 rintro e w2 ⟨rfl, hp⟩
 have HP := Aside0.mk hp
 clear hp
 refine ⟨_, rfl, ?_⟩
 refine hK.out _ _ ?_
 clear hK K_
 refine norm_ (a':=?_) ?_ ?_
 rotate_left
 ·show Act.put _ (some 26) _ = _
  go_simp
  rfl
 refine pure_ (i:=20) (N:=some 6) (v:=?_) (a':=?_) #[true,true,true,true,true,true,true,true,true,true,true,true,true,true,true,true,true,true,true,true,true] rfl rfl (by kernel_rfl) (fun _ _ _ h => h) (Or.inl ⟨by rfl, ?_⟩) ?_ ?_
 rotate_left
 ·intro w'
  go_simp
  with_reducible rfl
 rotate_left
 ·go_simp
  rfl
 refine done_ (by kernel_rfl) ?_
 go_wp2_with (fail)
 go_ret
 have hp := HP.out
 rw [HV.out, sg_mul] at hp
 rw [HX.out.1, HX.out.2]
 exact ⟨rfl, hp⟩
set_option maxHeartbeats 8000000 in
set_option maxRecDepth 100000 in
theorem add_same (bz oz bx ox b_y oy : Nat) (x y' : Int) (k : Nat) (w : World) (hx : BI w bx ox x) (hy : BI w b_y oy y') (hr : Rec w bz oz) (hk : k ≤ 1000000) (hlx : x.natAbs < 2 ^ k) (hly : y'.natAbs < 2 ^ k) (nx : Bool) (hnx : w.cell? ⟨bx, ox, none⟩ = some (.bool nx)) (hny : w.cell? ⟨b_y, oy, none⟩ = some (.bool nx)) :
  Calls Try.prog 142 #[.pointer (some ⟨bz, oz, none⟩), .pointer (some ⟨bx, ox, none⟩), .pointer (some ⟨b_y, oy, none⟩)] w fun e w' => e = .returned (.pointer (some ⟨bz, oz, none⟩)) ∧ PutAt bz oz (x + y') w w' := by
 have hu := Try.underlying110
 obtain ⟨mx, Ax, cx, lx, dx, x1, x2, xn, xc, x3, x4, x5, x6, x7⟩ := hx.form
 obtain ⟨mt, At, ct, lt, dt, t1, t2, tn, tc, t3, t4, t5, t6, t7⟩ := hy.form
 have lx2 := len_of x4 x5 x6 hlx hk
 have ly2 := len_of t4 t5 t6 hly hk
 obtain rfl : mx = nx := by rw [hnx] at x1; simpa using x1.symm
 obtain rfl : mt = mx := by rw [hny] at t1; simpa using t1.symm
 obtain ⟨y, g1, g2, g3, g4, g5⟩ := add_ok x4 t4 (by omega) (by omega) (2 * max dx.length dt.length + 5) (by omega)
 have HY := Aside0.mk (And.intro g3 g4)
 have HV := Aside0.mk g5
 have HR := Aside0.mk hr
 have HX := Aside0.mk (And.intro x6 t6)
 subst xn
 subst tn
 have hcl := impl_addMag.calls (2 * max dx.length dt.length + 5) Ax cx dx At ct dt y w.drew.drew (Kd.C_below x3 (below_drew (below_drew (Below.refl _ _)))) xc (Kd.C_below t3 (below_drew (below_drew (Below.refl _ _)))) tc g1
 have eqb : (mt == mt) = true := by simp
 clear g1 g2 g3 g4 g5 hr x3 t3 x4 t4 x5 t5 x6 t6 x7 t7 hlx hly hk hx hy xc tc lx2 ly2 hnx hny
 go_enter Try.func142, Try.ntmps142
 go_wp2_with (fail)
 go_region
 go_wp2_with (fail)
 refine start_ (n:=16) (S := fun w' => w'.cell? ⟨bx, ox, none⟩ = some (.bool mt) ∧ w'.cell? ⟨bx, ox + 1, none⟩ = some (.slice Ax dx.length cx) ∧ w'.cell? ⟨b_y, oy + 1, none⟩ = some (.slice At dt.length ct)) (ds:=[14]) #[false,false,false,false,false,false,false,false,false,false,false,false,false,false,false,false] (by kernel_rfl) rfl rfl ⟨x1, x2, t2⟩ (fun hHeld => ?_)
 refine pure_ (i:=0) (N:=some 17) (v:=?_) (a':=?_) #[true,false,false,false,false,false,false,false,false,false,false,false,false,false,false,false] rfl rfl (by kernel_rfl) (fun _ _ _ h => h) (Or.inl ⟨by rfl, ?_⟩) ?_ ?_
 rotate_left
 ·intro w'
  go_simp
  with_reducible rfl
 rotate_left
 ·go_simp
  rfl
 refine pure_ (i:=1) (N:=some 18) (v:=?_) (a':=?_) #[true,true,false,false,false,false,false,false,false,false,false,false,false,false,false,false] rfl rfl (by kernel_rfl) (fun _ _ _ h => h) (Or.inl ⟨by rfl, ?_⟩) ?_ ?_
 rotate_left
 ·intro w'
  go_simp
  with_reducible rfl
 rotate_left
 ·go_simp
  rfl
 refine pure_ (i:=2) (N:=some 19) (v:=?_) (a':=?_) #[true,true,true,false,false,false,false,false,false,false,false,false,false,false,false,false] rfl rfl (by kernel_rfl) (fun _ _ _ h => h) (Or.inl ⟨by rfl, ?_⟩) ?_ ?_
 rotate_left
 ·intro w'
  go_simp
  with_reducible rfl
 rotate_left
 ·go_simp
  rfl
 refine pure_ (i:=3) (N:=some 20) (v:=?_) (a':=?_) #[true,true,true,true,false,false,false,false,false,false,false,false,false,false,false,false] rfl rfl (by kernel_rfl) (fun _ _ _ h => h) (Or.inl ⟨by rfl, ?_⟩) ?_ ?_
 rotate_left
 ·intro w'
  go_simp
  with_reducible rfl
 rotate_left
 ·go_simp
  rfl
 refine pure_ (i:=5) (N:=some 22) (v:=?_) (a':=?_) #[true,true,true,true,false,true,false,false,false,false,false,false,false,false,false,false] rfl rfl (by kernel_rfl) (fun _ _ _ h => h) (Or.inl ⟨by rfl, ?_⟩) ?_ ?_
 rotate_left
 ·intro w'
  go_simp
  with_reducible rfl
 rotate_left
 ·go_simp
  rfl
 refine pure_ (i:=6) (N:=some 23) (v:=?_) (a':=?_) #[true,true,true,true,false,true,true,false,false,false,false,false,false,false,false,false] rfl rfl (by kernel_rfl) (fun _ _ _ h => h) (Or.inl ⟨by rfl, ?_⟩) ?_ ?_
 rotate_left
 ·intro w'
  go_simp
  with_reducible rfl
 rotate_left
 ·go_simp
  rfl
 refine pure_ (i:=7) (N:=some 24) (v:=?_) (a':=?_) #[true,true,true,true,false,true,true,true,false,false,false,false,false,false,false,false] rfl rfl (by kernel_rfl) (fun _ _ _ h => h) (Or.inl ⟨by rfl, ?_⟩) ?_ ?_
 rotate_left
 ·intro w'
  go_simp
  with_reducible rfl
 rotate_left
 ·go_simp
  rfl
 refine pure_ (i:=9) (N:=some 26) (v:=?_) (a':=?_) #[true,true,true,true,false,true,true,true,false,true,false,false,false,false,false,false] rfl rfl (by kernel_rfl) (fun _ _ _ h => h) (Or.inl ⟨by rfl, ?_⟩) ?_ ?_
 rotate_left
 ·intro w'
  go_simp
  with_reducible rfl
 rotate_left
 ·go_simp
  rfl
 refine pure_ (i:=10) (N:=some 27) (v:=?_) (a':=?_) #[true,true,true,true,false,true,true,true,false,true,true,false,false,false,false,false] rfl rfl (by kernel_rfl) (fun _ _ _ h => h) (Or.inl ⟨by rfl, ?_⟩) ?_ ?_
 rotate_left
 ·intro w'
  go_simp
  with_reducible rfl
 rotate_left
 ·go_simp
  rfl
 refine pure_ (i:=11) (N:=some 28) (v:=?_) (a':=?_) #[true,true,true,true,false,true,true,true,false,true,true,true,false,false,false,false] rfl rfl (by kernel_rfl) (fun _ _ _ h => h) (Or.inl ⟨by rfl, ?_⟩) ?_ ?_
 rotate_left
 ·intro w'
  go_simp
  with_reducible rfl
 rotate_left
 ·go_simp
  rfl
 refine take_ (i:=4) (N:=some 21) (v:=?_) (a':=?_) #[true,true,true,true,true,true,true,true,false,true,true,true,false,false,false,false] rfl rfl (by kernel_rfl) (fun _ _ _ h => h) (Or.inl ⟨by rfl, ?_⟩) hHeld ?_ ?_
 rotate_left
 ·rintro w' ⟨s0, s1, s2⟩
  go_simp
  with_reducible rfl
 rotate_left
 ·go_simp
  rfl
 refine take_ (i:=8) (N:=some 25) (v:=?_) (a':=?_) #[true,true,true,true,true,true,true,true,true,true,true,true,false,false,false,false] rfl rfl (by kernel_rfl) (fun _ _ _ h => h) (Or.inl ⟨by rfl, ?_⟩) hHeld ?_ ?_
 rotate_left
 ·rintro w' ⟨s0, s1, s2⟩
  go_simp
  with_reducible rfl
 rotate_left
 ·go_simp
  rfl
 refine take_ (i:=12) (N:=some 29) (v:=?_) (a':=?_) #[true,true,true,true,true,true,true,true,true,true,true,true,true,false,false,false] rfl rfl (by kernel_rfl) (fun _ _ _ h => h) (Or.inl ⟨by rfl, ?_⟩) hHeld ?_ ?_
 rotate_left
 ·rintro w' ⟨s0, s1, s2⟩
  go_simp
  with_reducible rfl
 rotate_left
 ·go_simp
  rfl
 refine one_ (i:=13) (N:=some 30) #[true,true,true,true,true,true,true,true,true,true,true,true,true,true,false,false] rfl rfl (by kernel_rfl) (by decide) (fun K_ hK => ?_)
 refine goes_ Try.func150 (by kernel_rfl) rfl #[.slice Ax dx.length cx, .slice At dt.length ct] (by rfl) rfl rfl (by (try simp only [List.map_toArray, List.map_cons, List.map_nil]); first | done | rfl) ?_
 refine (hcl).mono ?_
 rintro e w1 ⟨v0, rfl, hv, hb⟩
 have HD := Aside0.mk (Ds.of_V hv HY.out.1 HY.out.2)
 clear hv
 have HB := Aside0.mk (below_step (below_drew (below_drew (Below.refl w.heap.size w))) hb)
 clear hb
 refine ⟨_, rfl, ?_⟩
 refine hK.out _ _ ⟨(HB.out.cell (World.block_lt_of_cell? w _ x1)).trans x1, (HB.out.cell (World.block_lt_of_cell? w _ x2)).trans x2, (HB.out.cell (World.block_lt_of_cell? w _ t2)).trans t2⟩ (fun hHeld => ?_)
 clear hK K_
 refine norm_ (a':=?_) ?_ ?_
 rotate_left
 ·show Act.put _ (some 30) _ = _
  go_simp
  rfl
 refine last_ (i:=14) (N:=some 31) #[true,true,true,true,true,true,true,true,true,true,true,true,true,true,true,false] rfl rfl (by kernel_rfl) (by decide) (fun K_ hK => ?_)
 obtain ⟨Av, cv, hdv⟩ : ∃ Av cv, v0 = .slice Av y.length cv := by
  obtain ⟨Av, cv, h1, _⟩ := HD.out
  exact ⟨Av, cv, h1⟩
 subst hdv
 refine goes_ Try.func134 (by kernel_rfl) rfl #[.pointer (some ⟨bz, oz, none⟩), .bool mt, .slice Av y.length cv] (by rfl) rfl rfl (by (try simp only [List.map_toArray, List.map_cons, List.map_nil]); first | done | rfl) ?_
 refine (put_at bz oz mt Av _ cv y w w1 HB.out HD.out (HR.out.below HB.out)).mono ?_
 rintro e w2 ⟨rfl, hp⟩
 have HP := Aside0.mk hp
 clear hp
 refine ⟨_, rfl, ?_⟩
 refine hK.out _ _ ?_
 clear hK K_
 refine norm_ (a':=?_) ?_ ?_
 rotate_left
 ·show Act.put _ (some 31) _ = _
  go_simp
  rfl
 refine pure_ (i:=15) (N:=some 6) (v:=?_) (a':=?_) #[true,true,true,true,true,true,true,true,true,true,true,true,true,true,true,true] rfl rfl (by kernel_rfl) (fun _ _ _ h => h) (Or.inl ⟨by rfl, ?_⟩) ?_ ?_
 rotate_left
 ·intro w'
  go_simp
  with_reducible rfl
 rotate_left
 ·go_simp
  rfl
 refine done_ (by kernel_rfl) ?_
 go_wp2_with (fail)
 go_ret
 have hp := HP.out
 rw [HV.out, sg_add] at hp
 rw [HX.out.1, HX.out.2]
 exact ⟨rfl, hp⟩
set_option maxHeartbeats 8000000 in
set_option maxRecDepth 100000 in
theorem add_other (bz oz bx ox b_y oy : Nat) (x y' : Int) (k : Nat) (w : World) (hx : BI w bx ox x) (hy : BI w b_y oy y') (hr : Rec w bz oz) (hk : k ≤ 1000000) (hlx : x.natAbs < 2 ^ k) (hly : y'.natAbs < 2 ^ k) (mx mt : Bool) (hnx : w.cell? ⟨bx, ox, none⟩ = some (.bool mx)) (hny : w.cell? ⟨b_y, oy, none⟩ = some (.bool mt)) (hne : mx ≠ mt) :
  Calls Try.prog 142 #[.pointer (some ⟨bz, oz, none⟩), .pointer (some ⟨bx, ox, none⟩), .pointer (some ⟨b_y, oy, none⟩)] w fun e w' => e = .returned (.pointer (some ⟨bz, oz, none⟩)) ∧ PutAt bz oz (x + y') w w' := by
 have hu := Try.underlying110
 obtain ⟨m1, Ax, cx, lx, dx, x1, x2, xn, xc, x3, x4, x5, x6, x7⟩ := hx.form
 obtain ⟨m2, At, ct, lt, dt, t1, t2, tn, tc, t3, t4, t5, t6, t7⟩ := hy.form
 have lx2 := len_of x4 x5 x6 hlx hk
 have ly2 := len_of t4 t5 t6 hly hk
 obtain rfl : m1 = mx := by rw [hnx] at x1; simpa using x1.symm
 obtain rfl : m2 = mt := by rw [hny] at t1; simpa using t1.symm
 obtain ⟨cc, g1, g2, g3, g4, g5⟩ := cmp_ok x4 t4 x5 t5 (by omega) (by omega) (dx.length + 1) (by omega)
 have hcmp := fun W h1 h2 => impl_cmpMag.calls (dx.length + 1) Ax cx dx At ct dt cc W h1 (by omega) h2 (by omega) g1
 have HR := Aside0.mk hr
 have HX := Aside0.mk (And.intro x6 t6)
 have HNE := Aside0.mk hne
 have HC := Aside0.mk (And.intro x3 t3)
 have HL := Aside0.mk (And.intro xc tc)
 have HCM := Aside0.mk hcmp
 have eqb : (m1 == m2) = false := by simpa using hne
 subst xn
 subst tn
 by_cases hcn : cc < 0
 ·have p1 : decide (cc ≥ 0) = false := decide_eq_false (by omega)
  have p2 : decide (0 ≤ cc) = false := decide_eq_false (by omega)
  have hle : val dx ≤ val dt := by have := g4.1 hcn; omega
  obtain ⟨y, k1, k2, k3, k4, k5⟩ := sub_ok t4 x4 x5 hle (by omega) (2 * dt.length + 4) (by omega)
  have HY := Aside0.mk (And.intro k3 k4)
  have HV := Aside0.mk k5
  have HK := Aside0.mk k1
  clear g1 g2 g3 g4 g5 hcn hle k1 k2 k3 k4 k5 hr x3 t3 x4 t4 x5 t5 x6 t6 x7 t7 hlx hly hk hx hy xc tc lx2 ly2 hne hcmp
  go_enter Try.func142, Try.ntmps142
  go_wp2_with (fail)
  go_region
  go_wp2_with (fail)
  refine start_ (n:=11) (S := fun w' => w'.cell? ⟨bx, ox + 1, none⟩ = some (.slice Ax dx.length cx) ∧ w'.cell? ⟨b_y, oy + 1, none⟩ = some (.slice At dt.length ct)) (ds:=[]) #[false,false,false,false,false,false,false,false,false,false,false] (by kernel_rfl) rfl rfl ⟨x2, t2⟩ (fun hHeld => ?_)
  refine pure_ (i:=0) (N:=some 33) (v:=?_) (a':=?_) #[true,false,false,false,false,false,false,false,false,false,false] rfl rfl (by kernel_rfl) (fun _ _ _ h => h) (Or.inl ⟨by rfl, ?_⟩) ?_ ?_
  rotate_left
  ·intro w'
   go_simp
   with_reducible rfl
  rotate_left
  ·go_simp
   rfl
  refine pure_ (i:=1) (N:=some 34) (v:=?_) (a':=?_) #[true,true,false,false,false,false,false,false,false,false,false] rfl rfl (by kernel_rfl) (fun _ _ _ h => h) (Or.inl ⟨by rfl, ?_⟩) ?_ ?_
  rotate_left
  ·intro w'
   go_simp
   with_reducible rfl
  rotate_left
  ·go_simp
   rfl
  refine pure_ (i:=2) (N:=some 35) (v:=?_) (a':=?_) #[true,true,true,false,false,false,false,false,false,false,false] rfl rfl (by kernel_rfl) (fun _ _ _ h => h) (Or.inl ⟨by rfl, ?_⟩) ?_ ?_
  rotate_left
  ·intro w'
   go_simp
   with_reducible rfl
  rotate_left
  ·go_simp
   rfl
  refine pure_ (i:=4) (N:=some 37) (v:=?_) (a':=?_) #[true,true,true,false,true,false,false,false,false,false,false] rfl rfl (by kernel_rfl) (fun _ _ _ h => h) (Or.inl ⟨by rfl, ?_⟩) ?_ ?_
  rotate_left
  ·intro w'
   go_simp
   with_reducible rfl
  rotate_left
  ·go_simp
   rfl
  refine pure_ (i:=5) (N:=some 38) (v:=?_) (a':=?_) #[true,true,true,false,true,true,false,false,false,false,false] rfl rfl (by kernel_rfl) (fun _ _ _ h => h) (Or.inl ⟨by rfl, ?_⟩) ?_ ?_
  rotate_left
  ·intro w'
   go_simp
   with_reducible rfl
  rotate_left
  ·go_simp
   rfl
  refine pure_ (i:=6) (N:=some 39) (v:=?_) (a':=?_) #[true,true,true,false,true,true,true,false,false,false,false] rfl rfl (by kernel_rfl) (fun _ _ _ h => h) (Or.inl ⟨by rfl, ?_⟩) ?_ ?_
  rotate_left
  ·intro w'
   go_simp
   with_reducible rfl
  rotate_left
  ·go_simp
   rfl
  refine take_ (i:=3) (N:=some 36) (v:=?_) (a':=?_) #[true,true,true,true,true,true,true,false,false,false,false] rfl rfl (by kernel_rfl) (fun _ _ _ h => h) (Or.inl ⟨by rfl, ?_⟩) hHeld ?_ ?_
  rotate_left
  ·rintro w' ⟨s0, s1⟩
   go_simp
   with_reducible rfl
  rotate_left
  ·go_simp
   rfl
  refine take_ (i:=7) (N:=some 40) (v:=?_) (a':=?_) #[true,true,true,true,true,true,true,true,false,false,false] rfl rfl (by kernel_rfl) (fun _ _ _ h => h) (Or.inl ⟨by rfl, ?_⟩) hHeld ?_ ?_
  rotate_left
  ·rintro w' ⟨s0, s1⟩
   go_simp
   with_reducible rfl
  rotate_left
  ·go_simp
   rfl
  refine one_ (i:=8) (N:=some 41) #[true,true,true,true,true,true,true,true,true,false,false] rfl rfl (by kernel_rfl) (by decide) (fun K_ hK => ?_)
  refine goes_ Try.func145 (by kernel_rfl) rfl #[.slice Ax dx.length cx, .slice At dt.length ct] (by rfl) rfl rfl (by (try simp only [List.map_toArray, List.map_cons, List.map_nil]); first | done | rfl) ?_
  refine (HCM.out w.drew.drew (Kd.C_below HC.out.1 (below_drew (below_drew (Below.refl w.heap.size w)))) (Kd.C_below HC.out.2 (below_drew (below_drew (Below.refl w.heap.size w))))).mono ?_
  rintro e w5 ⟨rfl, hd⟩
  have HB5 := Aside0.mk (below_step (below_drew (below_drew (Below.refl w.heap.size w))) (below_drawn0 hd))
  clear hd
  refine ⟨_, rfl, ?_⟩
  refine hK.out _ _ ⟨(HB5.out.cell (World.block_lt_of_cell? w _ x2)).trans x2, (HB5.out.cell (World.block_lt_of_cell? w _ t2)).trans t2⟩ (fun hHeld => ?_)
  clear hK K_
  refine norm_ (a':=?_) ?_ ?_
  rotate_left
  ·show Act.put _ (some 41) _ = _
   go_simp
   rfl
  refine pure_ (i:=9) (N:=some 42) (v:=?_) (a':=?_) #[true,true,true,true,true,true,true,true,true,true,false] rfl rfl (by kernel_rfl) (fun _ _ _ h => h) (Or.inl ⟨by rfl, ?_⟩) ?_ ?_
  rotate_left
  ·intro w'
   go_simp
   with_reducible rfl
  rotate_left
  ·go_simp
   rfl
  refine pure_ (i:=10) (N:=some 32) (v:=?_) (a':=?_) #[true,true,true,true,true,true,true,true,true,true,true] rfl rfl (by kernel_rfl) (fun _ _ _ h => h) (Or.inl ⟨by rfl, ?_⟩) ?_ ?_
  rotate_left
  ·intro w'
   go_simp
   with_reducible rfl
  rotate_left
  ·go_simp
   rfl
  refine done_ (by kernel_rfl) ?_
  clear hHeld
  have q1 := (HB5.out.cell (World.block_lt_of_cell? w _ x1)).trans x1
  go_wp2_with (fail)
  refine start_ (n:=16) (S := fun w' => w'.cell? ⟨b_y, oy, none⟩ = some (.bool m2) ∧ w'.cell? ⟨b_y, oy + 1, none⟩ = some (.slice At dt.length ct) ∧ w'.cell? ⟨bx, ox + 1, none⟩ = some (.slice Ax dx.length cx)) (ds:=[14]) #[false,false,false,false,false,false,false,false,false,false,false,false,false,false,false,false] (by kernel_rfl) rfl rfl ⟨(HB5.out.cell (World.block_lt_of_cell? w _ t1)).trans t1, (HB5.out.cell (World.block_lt_of_cell? w _ t2)).trans t2, (HB5.out.cell (World.block_lt_of_cell? w _ x2)).trans x2⟩ (fun hHeld => ?_)
  refine pure_ (i:=0) (N:=some 58) (v:=?_) (a':=?_) #[true,false,false,false,false,false,false,false,false,false,false,false,false,false,false,false] rfl rfl (by kernel_rfl) (fun _ _ _ h => h) (Or.inl ⟨by rfl, ?_⟩) ?_ ?_
  rotate_left
  ·intro w'
   go_simp
   with_reducible rfl
  rotate_left
  ·go_simp
   rfl
  refine pure_ (i:=1) (N:=some 59) (v:=?_) (a':=?_) #[true,true,false,false,false,false,false,false,false,false,false,false,false,false,false,false] rfl rfl (by kernel_rfl) (fun _ _ _ h => h) (Or.inl ⟨by rfl, ?_⟩) ?_ ?_
  rotate_left
  ·intro w'
   go_simp
   with_reducible rfl
  rotate_left
  ·go_simp
   rfl
  refine pure_ (i:=2) (N:=some 60) (v:=?_) (a':=?_) #[true,true,true,false,false,false,false,false,false,false,false,false,false,false,false,false] rfl rfl (by kernel_rfl) (fun _ _ _ h => h) (Or.inl ⟨by rfl, ?_⟩) ?_ ?_
  rotate_left
  ·intro w'
   go_simp
   with_reducible rfl
  rotate_left
  ·go_simp
   rfl
  refine pure_ (i:=3) (N:=some 61) (v:=?_) (a':=?_) #[true,true,true,true,false,false,false,false,false,false,false,false,false,false,false,false] rfl rfl (by kernel_rfl) (fun _ _ _ h => h) (Or.inl ⟨by rfl, ?_⟩) ?_ ?_
  rotate_left
  ·intro w'
   go_simp
   with_reducible rfl
  rotate_left
  ·go_simp
   rfl
  refine pure_ (i:=5) (N:=some 63) (v:=?_) (a':=?_) #[true,true,true,true,false,true,false,false,false,false,false,false,false,false,false,false] rfl rfl (by kernel_rfl) (fun _ _ _ h => h) (Or.inl ⟨by rfl, ?_⟩) ?_ ?_
  rotate_left
  ·intro w'
   go_simp
   with_reducible rfl
  rotate_left
  ·go_simp
   rfl
  refine pure_ (i:=6) (N:=some 64) (v:=?_) (a':=?_) #[true,true,true,true,false,true,true,false,false,false,false,false,false,false,false,false] rfl rfl (by kernel_rfl) (fun _ _ _ h => h) (Or.inl ⟨by rfl, ?_⟩) ?_ ?_
  rotate_left
  ·intro w'
   go_simp
   with_reducible rfl
  rotate_left
  ·go_simp
   rfl
  refine pure_ (i:=7) (N:=some 65) (v:=?_) (a':=?_) #[true,true,true,true,false,true,true,true,false,false,false,false,false,false,false,false] rfl rfl (by kernel_rfl) (fun _ _ _ h => h) (Or.inl ⟨by rfl, ?_⟩) ?_ ?_
  rotate_left
  ·intro w'
   go_simp
   with_reducible rfl
  rotate_left
  ·go_simp
   rfl
  refine pure_ (i:=9) (N:=some 67) (v:=?_) (a':=?_) #[true,true,true,true,false,true,true,true,false,true,false,false,false,false,false,false] rfl rfl (by kernel_rfl) (fun _ _ _ h => h) (Or.inl ⟨by rfl, ?_⟩) ?_ ?_
  rotate_left
  ·intro w'
   go_simp
   with_reducible rfl
  rotate_left
  ·go_simp
   rfl
  refine pure_ (i:=10) (N:=some 68) (v:=?_) (a':=?_) #[true,true,true,true,false,true,true,true,false,true,true,false,false,false,false,false] rfl rfl (by kernel_rfl) (fun _ _ _ h => h) (Or.inl ⟨by rfl, ?_⟩) ?_ ?_
  rotate_left
  ·intro w'
   go_simp
   with_reducible rfl
  rotate_left
  ·go_simp
   rfl
  refine pure_ (i:=11) (N:=some 69) (v:=?_) (a':=?_) #[true,true,true,true,false,true,true,true,false,true,true,true,false,false,false,false] rfl rfl (by kernel_rfl) (fun _ _ _ h => h) (Or.inl ⟨by rfl, ?_⟩) ?_ ?_
  rotate_left
  ·intro w'
   go_simp
   with_reducible rfl
  rotate_left
  ·go_simp
   rfl
  refine take_ (i:=4) (N:=some 62) (v:=?_) (a':=?_) #[true,true,true,true,true,true,true,true,false,true,true,true,false,false,false,false] rfl rfl (by kernel_rfl) (fun _ _ _ h => h) (Or.inl ⟨by rfl, ?_⟩) hHeld ?_ ?_
  rotate_left
  ·rintro w' ⟨s0, s1, s2⟩
   go_simp
   with_reducible rfl
  rotate_left
  ·go_simp
   rfl
  refine take_ (i:=8) (N:=some 66) (v:=?_) (a':=?_) #[true,true,true,true,true,true,true,true,true,true,true,true,false,false,false,false] rfl rfl (by kernel_rfl) (fun _ _ _ h => h) (Or.inl ⟨by rfl, ?_⟩) hHeld ?_ ?_
  rotate_left
  ·rintro w' ⟨s0, s1, s2⟩
   go_simp
   with_reducible rfl
  rotate_left
  ·go_simp
   rfl
  refine take_ (i:=12) (N:=some 70) (v:=?_) (a':=?_) #[true,true,true,true,true,true,true,true,true,true,true,true,true,false,false,false] rfl rfl (by kernel_rfl) (fun _ _ _ h => h) (Or.inl ⟨by rfl, ?_⟩) hHeld ?_ ?_
  rotate_left
  ·rintro w' ⟨s0, s1, s2⟩
   go_simp
   with_reducible rfl
  rotate_left
  ·go_simp
   rfl
  refine one_ (i:=13) (N:=some 71) #[true,true,true,true,true,true,true,true,true,true,true,true,true,true,false,false] rfl rfl (by kernel_rfl) (by decide) (fun K_ hK => ?_)
  refine goes_ Try.func151 (by kernel_rfl) rfl #[.slice At dt.length ct, .slice Ax dx.length cx] (by rfl) rfl rfl (by (try simp only [List.map_toArray, List.map_cons, List.map_nil]); first | done | rfl) ?_
  refine (impl_subMag.calls (2 * dt.length + 4) At ct dt Ax cx dx y w5.drew (Kd.C_below HC.out.2 (below_drew HB5.out)) HL.out.2 (Kd.C_below HC.out.1 (below_drew HB5.out)) HL.out.1 HK.out).mono ?_
  rintro e w1 ⟨v0, rfl, hv, hb⟩
  have HD := Aside0.mk (Ds.of_V hv HY.out.1 HY.out.2)
  clear hv
  have HB := Aside0.mk (below_step (below_drew (HB5.out)) hb)
  clear hb
  refine ⟨_, rfl, ?_⟩
  refine hK.out _ _ ⟨(HB.out.cell (World.block_lt_of_cell? w _ t1)).trans t1, (HB.out.cell (World.block_lt_of_cell? w _ t2)).trans t2, (HB.out.cell (World.block_lt_of_cell? w _ x2)).trans x2⟩ (fun hHeld => ?_)
  clear hK K_
  refine norm_ (a':=?_) ?_ ?_
  rotate_left
  ·show Act.put _ (some 71) _ = _
   go_simp
   rfl
  refine last_ (i:=14) (N:=some 72) #[true,true,true,true,true,true,true,true,true,true,true,true,true,true,true,false] rfl rfl (by kernel_rfl) (by decide) (fun K_ hK => ?_)
  obtain ⟨Av, cv, hdv⟩ : ∃ Av cv, v0 = .slice Av y.length cv := by
   obtain ⟨Av, cv, h1, _⟩ := HD.out
   exact ⟨Av, cv, h1⟩
  subst hdv
  refine goes_ Try.func134 (by kernel_rfl) rfl #[.pointer (some ⟨bz, oz, none⟩), .bool m2, .slice Av y.length cv] (by rfl) rfl rfl (by (try simp only [List.map_toArray, List.map_cons, List.map_nil]); first | done | rfl) ?_
  refine (put_at bz oz m2 Av _ cv y w w1 HB.out HD.out (HR.out.below HB.out)).mono ?_
  rintro e w2 ⟨rfl, hp⟩
  have HP := Aside0.mk hp
  clear hp
  refine ⟨_, rfl, ?_⟩
  refine hK.out _ _ ?_
  clear hK K_
  refine norm_ (a':=?_) ?_ ?_
  rotate_left
  ·show Act.put _ (some 72) _ = _
   go_simp
   rfl
  refine pure_ (i:=15) (N:=some 6) (v:=?_) (a':=?_) #[true,true,true,true,true,true,true,true,true,true,true,true,true,true,true,true] rfl rfl (by kernel_rfl) (fun _ _ _ h => h) (Or.inl ⟨by rfl, ?_⟩) ?_ ?_
  rotate_left
  ·intro w'
   go_simp
   with_reducible rfl
  rotate_left
  ·go_simp
   rfl
  refine done_ (by kernel_rfl) ?_
  go_wp2_with (fail)
  go_ret
  have hp := HP.out
  rw [HV.out, sg_sub m2 m1 _ _ (fun e => HNE.out e.symm), Int.add_comm] at hp
  rw [HX.out.1, HX.out.2]
  exact ⟨rfl, hp⟩
 ·have p1 : decide (cc ≥ 0) = true := decide_eq_true (by omega)
  have p2 : decide (0 ≤ cc) = true := decide_eq_true (by omega)
  have hle : val dt ≤ val dx := by
   rcases Int.lt_or_le (val dx) (val dt) with h | h
   ·exact absurd (g4.2 h) hcn
   ·exact h
  obtain ⟨y, k1, k2, k3, k4, k5⟩ := sub_ok x4 t4 t5 hle (by omega) (2 * dx.length + 4) (by omega)
  have HY := Aside0.mk (And.intro k3 k4)
  have HV := Aside0.mk k5
  have HK := Aside0.mk k1
  clear g1 g2 g3 g4 g5 hcn hle k1 k2 k3 k4 k5 hr x3 t3 x4 t4 x5 t5 x6 t6 x7 t7 hlx hly hk hx hy xc tc lx2 ly2 hne hcmp
  go_enter Try.func142, Try.ntmps142
  go_wp2_with (fail)
  go_region
  go_wp2_with (fail)
  refine start_ (n:=11) (S := fun w' => w'.cell? ⟨bx, ox + 1, none⟩ = some (.slice Ax dx.length cx) ∧ w'.cell? ⟨b_y, oy + 1, none⟩ = some (.slice At dt.length ct)) (ds:=[]) #[false,false,false,false,false,false,false,false,false,false,false] (by kernel_rfl) rfl rfl ⟨x2, t2⟩ (fun hHeld => ?_)
  refine pure_ (i:=0) (N:=some 33) (v:=?_) (a':=?_) #[true,false,false,false,false,false,false,false,false,false,false] rfl rfl (by kernel_rfl) (fun _ _ _ h => h) (Or.inl ⟨by rfl, ?_⟩) ?_ ?_
  rotate_left
  ·intro w'
   go_simp
   with_reducible rfl
  rotate_left
  ·go_simp
   rfl
  refine pure_ (i:=1) (N:=some 34) (v:=?_) (a':=?_) #[true,true,false,false,false,false,false,false,false,false,false] rfl rfl (by kernel_rfl) (fun _ _ _ h => h) (Or.inl ⟨by rfl, ?_⟩) ?_ ?_
  rotate_left
  ·intro w'
   go_simp
   with_reducible rfl
  rotate_left
  ·go_simp
   rfl
  refine pure_ (i:=2) (N:=some 35) (v:=?_) (a':=?_) #[true,true,true,false,false,false,false,false,false,false,false] rfl rfl (by kernel_rfl) (fun _ _ _ h => h) (Or.inl ⟨by rfl, ?_⟩) ?_ ?_
  rotate_left
  ·intro w'
   go_simp
   with_reducible rfl
  rotate_left
  ·go_simp
   rfl
  refine pure_ (i:=4) (N:=some 37) (v:=?_) (a':=?_) #[true,true,true,false,true,false,false,false,false,false,false] rfl rfl (by kernel_rfl) (fun _ _ _ h => h) (Or.inl ⟨by rfl, ?_⟩) ?_ ?_
  rotate_left
  ·intro w'
   go_simp
   with_reducible rfl
  rotate_left
  ·go_simp
   rfl
  refine pure_ (i:=5) (N:=some 38) (v:=?_) (a':=?_) #[true,true,true,false,true,true,false,false,false,false,false] rfl rfl (by kernel_rfl) (fun _ _ _ h => h) (Or.inl ⟨by rfl, ?_⟩) ?_ ?_
  rotate_left
  ·intro w'
   go_simp
   with_reducible rfl
  rotate_left
  ·go_simp
   rfl
  refine pure_ (i:=6) (N:=some 39) (v:=?_) (a':=?_) #[true,true,true,false,true,true,true,false,false,false,false] rfl rfl (by kernel_rfl) (fun _ _ _ h => h) (Or.inl ⟨by rfl, ?_⟩) ?_ ?_
  rotate_left
  ·intro w'
   go_simp
   with_reducible rfl
  rotate_left
  ·go_simp
   rfl
  refine take_ (i:=3) (N:=some 36) (v:=?_) (a':=?_) #[true,true,true,true,true,true,true,false,false,false,false] rfl rfl (by kernel_rfl) (fun _ _ _ h => h) (Or.inl ⟨by rfl, ?_⟩) hHeld ?_ ?_
  rotate_left
  ·rintro w' ⟨s0, s1⟩
   go_simp
   with_reducible rfl
  rotate_left
  ·go_simp
   rfl
  refine take_ (i:=7) (N:=some 40) (v:=?_) (a':=?_) #[true,true,true,true,true,true,true,true,false,false,false] rfl rfl (by kernel_rfl) (fun _ _ _ h => h) (Or.inl ⟨by rfl, ?_⟩) hHeld ?_ ?_
  rotate_left
  ·rintro w' ⟨s0, s1⟩
   go_simp
   with_reducible rfl
  rotate_left
  ·go_simp
   rfl
  refine one_ (i:=8) (N:=some 41) #[true,true,true,true,true,true,true,true,true,false,false] rfl rfl (by kernel_rfl) (by decide) (fun K_ hK => ?_)
  refine goes_ Try.func145 (by kernel_rfl) rfl #[.slice Ax dx.length cx, .slice At dt.length ct] (by rfl) rfl rfl (by (try simp only [List.map_toArray, List.map_cons, List.map_nil]); first | done | rfl) ?_
  refine (HCM.out w.drew.drew (Kd.C_below HC.out.1 (below_drew (below_drew (Below.refl w.heap.size w)))) (Kd.C_below HC.out.2 (below_drew (below_drew (Below.refl w.heap.size w))))).mono ?_
  rintro e w5 ⟨rfl, hd⟩
  have HB5 := Aside0.mk (below_step (below_drew (below_drew (Below.refl w.heap.size w))) (below_drawn0 hd))
  clear hd
  refine ⟨_, rfl, ?_⟩
  refine hK.out _ _ ⟨(HB5.out.cell (World.block_lt_of_cell? w _ x2)).trans x2, (HB5.out.cell (World.block_lt_of_cell? w _ t2)).trans t2⟩ (fun hHeld => ?_)
  clear hK K_
  refine norm_ (a':=?_) ?_ ?_
  rotate_left
  ·show Act.put _ (some 41) _ = _
   go_simp
   rfl
  refine pure_ (i:=9) (N:=some 42) (v:=?_) (a':=?_) #[true,true,true,true,true,true,true,true,true,true,false] rfl rfl (by kernel_rfl) (fun _ _ _ h => h) (Or.inl ⟨by rfl, ?_⟩) ?_ ?_
  rotate_left
  ·intro w'
   go_simp
   with_reducible rfl
  rotate_left
  ·go_simp
   rfl
  refine pure_ (i:=10) (N:=some 32) (v:=?_) (a':=?_) #[true,true,true,true,true,true,true,true,true,true,true] rfl rfl (by kernel_rfl) (fun _ _ _ h => h) (Or.inl ⟨by rfl, ?_⟩) ?_ ?_
  rotate_left
  ·intro w'
   go_simp
   with_reducible rfl
  rotate_left
  ·go_simp
   rfl
  refine done_ (by kernel_rfl) ?_
  clear hHeld
  go_wp2_with (fail)
  refine start_ (n:=16) (S := fun w' => w'.cell? ⟨bx, ox, none⟩ = some (.bool m1) ∧ w'.cell? ⟨bx, ox + 1, none⟩ = some (.slice Ax dx.length cx) ∧ w'.cell? ⟨b_y, oy + 1, none⟩ = some (.slice At dt.length ct)) (ds:=[14]) #[false,false,false,false,false,false,false,false,false,false,false,false,false,false,false,false] (by kernel_rfl) rfl rfl ⟨(HB5.out.cell (World.block_lt_of_cell? w _ x1)).trans x1, (HB5.out.cell (World.block_lt_of_cell? w _ x2)).trans x2, (HB5.out.cell (World.block_lt_of_cell? w _ t2)).trans t2⟩ (fun hHeld => ?_)
  refine pure_ (i:=0) (N:=some 43) (v:=?_) (a':=?_) #[true,false,false,false,false,false,false,false,false,false,false,false,false,false,false,false] rfl rfl (by kernel_rfl) (fun _ _ _ h => h) (Or.inl ⟨by rfl, ?_⟩) ?_ ?_
  rotate_left
  ·intro w'
   go_simp
   with_reducible rfl
  rotate_left
  ·go_simp
   rfl
  refine pure_ (i:=1) (N:=some 44) (v:=?_) (a':=?_) #[true,true,false,false,false,false,false,false,false,false,false,false,false,false,false,false] rfl rfl (by kernel_rfl) (fun _ _ _ h => h) (Or.inl ⟨by rfl, ?_⟩) ?_ ?_
  rotate_left
  ·intro w'
   go_simp
   with_reducible rfl
  rotate_left
  ·go_simp
   rfl
  refine pure_ (i:=2) (N:=some 45) (v:=?_) (a':=?_) #[true,true,true,false,false,false,false,false,false,false,false,false,false,false,false,false] rfl rfl (by kernel_rfl) (fun _ _ _ h => h) (Or.inl ⟨by rfl, ?_⟩) ?_ ?_
  rotate_left
  ·intro w'
   go_simp
   with_reducible rfl
  rotate_left
  ·go_simp
   rfl
  refine pure_ (i:=3) (N:=some 46) (v:=?_) (a':=?_) #[true,true,true,true,false,false,false,false,false,false,false,false,false,false,false,false] rfl rfl (by kernel_rfl) (fun _ _ _ h => h) (Or.inl ⟨by rfl, ?_⟩) ?_ ?_
  rotate_left
  ·intro w'
   go_simp
   with_reducible rfl
  rotate_left
  ·go_simp
   rfl
  refine pure_ (i:=5) (N:=some 48) (v:=?_) (a':=?_) #[true,true,true,true,false,true,false,false,false,false,false,false,false,false,false,false] rfl rfl (by kernel_rfl) (fun _ _ _ h => h) (Or.inl ⟨by rfl, ?_⟩) ?_ ?_
  rotate_left
  ·intro w'
   go_simp
   with_reducible rfl
  rotate_left
  ·go_simp
   rfl
  refine pure_ (i:=6) (N:=some 49) (v:=?_) (a':=?_) #[true,true,true,true,false,true,true,false,false,false,false,false,false,false,false,false] rfl rfl (by kernel_rfl) (fun _ _ _ h => h) (Or.inl ⟨by rfl, ?_⟩) ?_ ?_
  rotate_left
  ·intro w'
   go_simp
   with_reducible rfl
  rotate_left
  ·go_simp
   rfl
  refine pure_ (i:=7) (N:=some 50) (v:=?_) (a':=?_) #[true,true,true,true,false,true,true,true,false,false,false,false,false,false,false,false] rfl rfl (by kernel_rfl) (fun _ _ _ h => h) (Or.inl ⟨by rfl, ?_⟩) ?_ ?_
  rotate_left
  ·intro w'
   go_simp
   with_reducible rfl
  rotate_left
  ·go_simp
   rfl
  refine pure_ (i:=9) (N:=some 52) (v:=?_) (a':=?_) #[true,true,true,true,false,true,true,true,false,true,false,false,false,false,false,false] rfl rfl (by kernel_rfl) (fun _ _ _ h => h) (Or.inl ⟨by rfl, ?_⟩) ?_ ?_
  rotate_left
  ·intro w'
   go_simp
   with_reducible rfl
  rotate_left
  ·go_simp
   rfl
  refine pure_ (i:=10) (N:=some 53) (v:=?_) (a':=?_) #[true,true,true,true,false,true,true,true,false,true,true,false,false,false,false,false] rfl rfl (by kernel_rfl) (fun _ _ _ h => h) (Or.inl ⟨by rfl, ?_⟩) ?_ ?_
  rotate_left
  ·intro w'
   go_simp
   with_reducible rfl
  rotate_left
  ·go_simp
   rfl
  refine pure_ (i:=11) (N:=some 54) (v:=?_) (a':=?_) #[true,true,true,true,false,true,true,true,false,true,true,true,false,false,false,false] rfl rfl (by kernel_rfl) (fun _ _ _ h => h) (Or.inl ⟨by rfl, ?_⟩) ?_ ?_
  rotate_left
  ·intro w'
   go_simp
   with_reducible rfl
  rotate_left
  ·go_simp
   rfl
  refine take_ (i:=4) (N:=some 47) (v:=?_) (a':=?_) #[true,true,true,true,true,true,true,true,false,true,true,true,false,false,false,false] rfl rfl (by kernel_rfl) (fun _ _ _ h => h) (Or.inl ⟨by rfl, ?_⟩) hHeld ?_ ?_
  rotate_left
  ·rintro w' ⟨s0, s1, s2⟩
   go_simp
   with_reducible rfl
  rotate_left
  ·go_simp
   rfl
  refine take_ (i:=8) (N:=some 51) (v:=?_) (a':=?_) #[true,true,true,true,true,true,true,true,true,true,true,true,false,false,false,false] rfl rfl (by kernel_rfl) (fun _ _ _ h => h) (Or.inl ⟨by rfl, ?_⟩) hHeld ?_ ?_
  rotate_left
  ·rintro w' ⟨s0, s1, s2⟩
   go_simp
   with_reducible rfl
  rotate_left
  ·go_simp
   rfl
  refine take_ (i:=12) (N:=some 55) (v:=?_) (a':=?_) #[true,true,true,true,true,true,true,true,true,true,true,true,true,false,false,false] rfl rfl (by kernel_rfl) (fun _ _ _ h => h) (Or.inl ⟨by rfl, ?_⟩) hHeld ?_ ?_
  rotate_left
  ·rintro w' ⟨s0, s1, s2⟩
   go_simp
   with_reducible rfl
  rotate_left
  ·go_simp
   rfl
  refine one_ (i:=13) (N:=some 56) #[true,true,true,true,true,true,true,true,true,true,true,true,true,true,false,false] rfl rfl (by kernel_rfl) (by decide) (fun K_ hK => ?_)
  refine goes_ Try.func151 (by kernel_rfl) rfl #[.slice Ax dx.length cx, .slice At dt.length ct] (by rfl) rfl rfl (by (try simp only [List.map_toArray, List.map_cons, List.map_nil]); first | done | rfl) ?_
  refine (impl_subMag.calls (2 * dx.length + 4) Ax cx dx At ct dt y w5.drew (Kd.C_below HC.out.1 (below_drew HB5.out)) HL.out.1 (Kd.C_below HC.out.2 (below_drew HB5.out)) HL.out.2 HK.out).mono ?_
  rintro e w1 ⟨v0, rfl, hv, hb⟩
  have HD := Aside0.mk (Ds.of_V hv HY.out.1 HY.out.2)
  clear hv
  have HB := Aside0.mk (below_step (below_drew (HB5.out)) hb)
  clear hb
  refine ⟨_, rfl, ?_⟩
  refine hK.out _ _ ⟨(HB.out.cell (World.block_lt_of_cell? w _ x1)).trans x1, (HB.out.cell (World.block_lt_of_cell? w _ x2)).trans x2, (HB.out.cell (World.block_lt_of_cell? w _ t2)).trans t2⟩ (fun hHeld => ?_)
  clear hK K_
  refine norm_ (a':=?_) ?_ ?_
  rotate_left
  ·show Act.put _ (some 56) _ = _
   go_simp
   rfl
  refine last_ (i:=14) (N:=some 57) #[true,true,true,true,true,true,true,true,true,true,true,true,true,true,true,false] rfl rfl (by kernel_rfl) (by decide) (fun K_ hK => ?_)
  obtain ⟨Av, cv, hdv⟩ : ∃ Av cv, v0 = .slice Av y.length cv := by
   obtain ⟨Av, cv, h1, _⟩ := HD.out
   exact ⟨Av, cv, h1⟩
  subst hdv
  refine goes_ Try.func134 (by kernel_rfl) rfl #[.pointer (some ⟨bz, oz, none⟩), .bool m1, .slice Av y.length cv] (by rfl) rfl rfl (by (try simp only [List.map_toArray, List.map_cons, List.map_nil]); first | done | rfl) ?_
  refine (put_at bz oz m1 Av _ cv y w w1 HB.out HD.out (HR.out.below HB.out)).mono ?_
  rintro e w2 ⟨rfl, hp⟩
  have HP := Aside0.mk hp
  clear hp
  refine ⟨_, rfl, ?_⟩
  refine hK.out _ _ ?_
  clear hK K_
  refine norm_ (a':=?_) ?_ ?_
  rotate_left
  ·show Act.put _ (some 57) _ = _
   go_simp
   rfl
  refine pure_ (i:=15) (N:=some 6) (v:=?_) (a':=?_) #[true,true,true,true,true,true,true,true,true,true,true,true,true,true,true,true] rfl rfl (by kernel_rfl) (fun _ _ _ h => h) (Or.inl ⟨by rfl, ?_⟩) ?_ ?_
  rotate_left
  ·intro w'
   go_simp
   with_reducible rfl
  rotate_left
  ·go_simp
   rfl
  refine done_ (by kernel_rfl) ?_
  go_wp2_with (fail)
  go_ret
  have hp := HP.out
  rw [HV.out, sg_sub m1 m2 _ _ HNE.out] at hp
  rw [HX.out.1, HX.out.2]
  exact ⟨rfl, hp⟩
theorem add_any (bz oz bx ox b_y oy : Nat) (x y' : Int) (k : Nat) (w : World) (hx : BI w bx ox x) (hy : BI w b_y oy y') (hr : Rec w bz oz) (hk : k ≤ 1000000) (hlx : x.natAbs < 2 ^ k) (hly : y'.natAbs < 2 ^ k) :
  Calls Try.prog 142 #[.pointer (some ⟨bz, oz, none⟩), .pointer (some ⟨bx, ox, none⟩), .pointer (some ⟨b_y, oy, none⟩)] w fun e w' => e = .returned (.pointer (some ⟨bz, oz, none⟩)) ∧ PutAt bz oz (x + y') w w' := by
 obtain ⟨mx, h1⟩ : ∃ m, w.cell? ⟨bx, ox, none⟩ = some (.bool m) := by obtain ⟨m, _, _, h, _⟩ := hx; exact ⟨m, h⟩
 obtain ⟨mt, h2⟩ : ∃ m, w.cell? ⟨b_y, oy, none⟩ = some (.bool m) := by obtain ⟨m, _, _, h, _⟩ := hy; exact ⟨m, h⟩
 by_cases h : mx = mt
 ·subst h
  exact add_same bz oz bx ox b_y oy x y' k w hx hy hr hk hlx hly mx h1 h2
 ·exact add_other bz oz bx ox b_y oy x y' k w hx hy hr hk hlx hly mx mt h1 h2 h
end Go.Proofs.Ytkafbmanmffliaa.Bk

/- Plain: the program's fractions in lowest terms as Lean's; how long their numbers may be. -/
namespace Go.Proofs.Ytkafbmanmffliaa.Ra
def common (a b : Int) : Int := if b < 0 then - (a.gcd b : Int) else (a.gcd b : Int)
theorem common_ne {a b : Int} (hb : b ≠ 0) : common a b ≠ 0 := by
 have h : 0 < a.gcd b := Int.gcd_pos_of_ne_zero_right _ hb
 unfold common
 split <;> omega
theorem num_eq {a b : Int} (hb : b ≠ 0) : a.tdiv (common a b) = (Rat.divInt a b).num := by
 have h : 0 < a.gcd b := Int.gcd_pos_of_ne_zero_right _ hb
 obtain ⟨q, hq⟩ := Int.gcd_dvd_left a b
 rw [Rat.num_divInt, Int.gcd_comm b a]
 unfold common
 generalize a.gcd b = g at *
 subst hq
 split
 ·rw [Int.sign_eq_neg_one_of_neg (by assumption), Int.tdiv_neg, Int.mul_tdiv_cancel_left _ (by omega)]
  have e : -1 * ((g : Int) * q) = (g : Int) * (- q) := by grind
  rw [e, Int.mul_ediv_cancel_left _ (by omega)]
 ·rw [Int.sign_eq_one_of_pos (by omega), Int.mul_tdiv_cancel_left _ (by omega), Int.one_mul, Int.mul_ediv_cancel_left _ (by omega)]
theorem den_eq {a b : Int} (hb : b ≠ 0) : b.tdiv (common a b) = ((Rat.divInt a b).den : Int) := by
 have h : 0 < a.gcd b := Int.gcd_pos_of_ne_zero_right _ hb
 obtain ⟨q, hq⟩ := Int.gcd_dvd_right a b
 rw [Rat.den_divInt, if_neg hb, Int.gcd_comm b a]
 unfold common
 generalize a.gcd b = g at *
 have e : ((b.natAbs / g : Nat) : Int) = (b.natAbs : Int) / (g : Int) := by simp
 rw [e]
 split
 ·rw [Int.tdiv_neg]
  have e2 : (b.natAbs : Int) = (g : Int) * (- q) := by rw [Int.mul_neg, ← hq]; omega
  rw [e2, Int.mul_ediv_cancel_left _ (by omega), hq, Int.mul_tdiv_cancel_left _ (by omega)]
 ·have e2 : (b.natAbs : Int) = (g : Int) * q := by rw [← hq]; omega
  rw [e2, Int.mul_ediv_cancel_left _ (by omega), hq, Int.mul_tdiv_cancel_left _ (by omega)]
theorem den_ne (x : Rat) : (x.den : Int) ≠ 0 := by have := x.den_pos; omega
theorem add_eq (x y : Rat) : Rat.divInt (x.num * y.den + y.num * x.den) (x.den * y.den) = x + y := by
 conv => rhs; rw [← Rat.num_divInt_den x, ← Rat.num_divInt_den y]
 rw [Rat.divInt_add_divInt _ _ (den_ne x) (den_ne y)]
theorem mul_eq (x y : Rat) : Rat.divInt (x.num * y.num) (x.den * y.den) = x * y := by
 conv => rhs; rw [← Rat.num_divInt_den x, ← Rat.num_divInt_den y]
 rw [Rat.divInt_mul_divInt]
theorem neg_eq (x : Rat) : Rat.divInt (- x.num) x.den = - x := by
 conv => rhs; rw [← Rat.num_divInt_den x]
 rw [Rat.neg_divInt]
theorem inv_eq (x : Rat) : Rat.divInt x.den x.num = x⁻¹ := by
 conv => rhs; rw [← Rat.num_divInt_den x]
 rw [Rat.inv_divInt]
theorem whole_eq (n : Int) : Rat.divInt n 1 = (n : Rat) := by
 rw [Rat.divInt_eq_div]
 have : ((1 : Int) : Rat) = 1 := rfl
 rw [this]
 grind
def Sm (k : Nat) (x : Rat) : Prop := x.num.natAbs < 2 ^ k ∧ x.den < 2 ^ k
theorem natAbs_add (a b : Int) : (a + b).natAbs ≤ a.natAbs + b.natAbs := by omega
theorem Sm.divInt {a b : Int} (hb : b ≠ 0) {k : Nat} (h1 : a.natAbs < 2 ^ k) (h2 : b.natAbs < 2 ^ k) : Sm k (Rat.divInt a b) := by
 have h : 0 < b.gcd a := Int.gcd_pos_of_ne_zero_left _ hb
 constructor
 ·rw [Rat.num_divInt]
  obtain ⟨q, hq⟩ := Int.gcd_dvd_right b a
  generalize b.gcd a = g at *
  have e : b.sign * a = (g : Int) * (b.sign * q) := by rw [hq]; grind
  rw [e, Int.mul_ediv_cancel_left _ (by omega), Int.natAbs_mul, Int.natAbs_sign_of_ne_zero hb, Nat.one_mul]
  have : q.natAbs ≤ a.natAbs := by
   rw [hq, Int.natAbs_mul]
   exact Nat.le_mul_of_pos_left _ (by omega)
  omega
 ·rw [Rat.den_divInt, if_neg hb]
  have := Nat.div_le_self b.natAbs (b.gcd a)
  omega
theorem mul_pow {a b i j : Nat} (h1 : a < 2 ^ i) (h2 : b < 2 ^ j) : a * b < 2 ^ (i + j) := by
 rw [Nat.pow_add]
 have := Nat.mul_le_mul (Nat.le_of_lt h1) (Nat.le_of_lt h2)
 rcases Nat.eq_zero_or_pos b with rfl | hb
 ·simp only [Nat.mul_zero]; exact Nat.mul_pos (Nat.two_pow_pos i) (Nat.two_pow_pos j)
 ·have a1 := Nat.mul_lt_mul_of_pos_right h1 hb
  have a2 := Nat.mul_le_mul_left (2 ^ i) (Nat.le_of_lt h2)
  omega
theorem Sm.mono {i j : Nat} (hij : i ≤ j) {x : Rat} (h : Sm i x) : Sm j x := by
 have := Nat.pow_le_pow_right (n := 2) (by decide) hij
 exact ⟨by have := h.1; omega, by have := h.2; omega⟩
theorem Sm.add {i j : Nat} {x y : Rat} (h1 : Sm i x) (h2 : Sm j y) : Sm (i + j + 1) (x + y) := by
 rw [← add_eq]
 have hp : 2 ^ (i + j + 1) = 2 * 2 ^ (i + j) := by rw [Nat.pow_succ]; omega
 refine Sm.divInt (Int.mul_ne_zero (den_ne x) (den_ne y)) ?_ ?_
 ·have a := mul_pow h1.1 h2.2
  have b := mul_pow h2.1 h1.2
  rw [Nat.add_comm j i] at b
  have c := natAbs_add (x.num * y.den) (y.num * x.den)
  rw [Int.natAbs_mul, Int.natAbs_mul, Int.natAbs_natCast, Int.natAbs_natCast] at c
  omega
 ·have a := mul_pow h1.2 h2.2
  rw [Int.natAbs_mul, Int.natAbs_natCast, Int.natAbs_natCast]
  omega
theorem Sm.mul {i j : Nat} {x y : Rat} (h1 : Sm i x) (h2 : Sm j y) : Sm (i + j) (x * y) := by
 rw [← mul_eq]
 refine Sm.divInt (Int.mul_ne_zero (den_ne x) (den_ne y)) ?_ ?_
 ·rw [Int.natAbs_mul]; exact mul_pow h1.1 h2.1
 ·rw [Int.natAbs_mul, Int.natAbs_natCast, Int.natAbs_natCast]; exact mul_pow h1.2 h2.2
theorem Sm.neg {i : Nat} {x : Rat} (h : Sm i x) : Sm i (- x) := by
 rw [← neg_eq]
 exact Sm.divInt (den_ne x) (by rw [Int.natAbs_neg]; exact h.1) (by rw [Int.natAbs_natCast]; exact h.2)
theorem Sm.sub {i j : Nat} {x y : Rat} (h1 : Sm i x) (h2 : Sm j y) : Sm (i + j + 1) (x - y) := by
 rw [Rat.sub_eq_add_neg]
 exact h1.add h2.neg
theorem Sm.inv {i : Nat} {x : Rat} (hx : x ≠ 0) (h : Sm i x) : Sm i x⁻¹ := by
 rw [← inv_eq]
 exact Sm.divInt (fun e => hx (Rat.num_eq_zero.1 e)) (by rw [Int.natAbs_natCast]; exact h.2) h.1
theorem Sm.div {i j : Nat} {x y : Rat} (hy : y ≠ 0) (h1 : Sm i x) (h2 : Sm j y) : Sm (i + j) (x / y) := by
 rw [Rat.div_def]
 exact h1.mul (h2.inv hy)
theorem Sm.int {i : Nat} {n : Int} (h : n.natAbs < 2 ^ i) (hi : 1 ≤ i) : Sm i (n : Rat) := by
 have : 2 ^ 1 ≤ 2 ^ i := Nat.pow_le_pow_right (by decide) hi
 exact ⟨by rw [Rat.num_intCast]; exact h, by rw [Rat.den_intCast]; omega⟩
theorem gcd_step (x y : Int) : y.gcd (x.tmod y) = x.gcd y := by
 rw [Int.gcd_comm x y]
 unfold Int.gcd
 rw [Int.natAbs_tmod, Nat.gcd_comm y.natAbs x.natAbs, Nat.gcd_comm y.natAbs (x.natAbs % y.natAbs), ← Nat.gcd_rec, Nat.gcd_comm]
end Go.Proofs.Ytkafbmanmffliaa.Ra

/- Whole numbers: quotients and rests, the greatest common divisor. -/
namespace Go.Proofs.Ytkafbmanmffliaa.Bm
open Go Go.RowKit YtkafbmanmffliaaW.PrintWords YtkafbmanmffliaaW.PrintLast YtkafbmanmffliaaW.PrintMore Q Bg Db Dc Dd De Bi Bj
section
variable {w w' wm : World} {b o : Nat} {z : Int}
theorem PutAt.far (h : PutAt b o z w w') {k : Nat} (hk : k ≠ b) (hl : k < w.heap.size) : w'.heap[k]? = w.heap[k]? := by
 obtain ⟨w1, neg, A, c, ds, h1, h2, h3, h4, rfl⟩ := h
 exact ((Below.heap_setCell _ ⟨b, o + 1, none⟩ _ k hk).trans (Below.heap_setCell _ ⟨b, o, none⟩ _ k hk)).trans (h1.block k hl)
theorem PutAt.recO (h : PutAt b o z w w') {b' o' : Nat} (hr : Rec w b' o') (hne : b' ≠ b) : Rec w' b' o' := by
 have hl := Rec.lt hr
 obtain ⟨cs, T, n0, A0, k0, c0, r1, r2⟩ := hr
 exact ⟨cs, T, n0, A0, k0, c0, (PutAt.far h hne hl).trans r1, r2⟩
theorem PutAt.pre (hb : Below w.heap.size w wm) (h : PutAt b o z wm w') : PutAt b o z w w' := by
 obtain ⟨w1, neg, A, c, ds, h1, h2⟩ := h
 exact ⟨w1, neg, A, c, ds, below_step hb h1, h2⟩
end
theorem put_at2 (b o : Nat) (neg : Bool) (A : Option Addr) (n c : Nat) (ds : List Int) (w w1 : World) (hb : Below w.heap.size w w1) (hd : Ds w1 (.slice A n c) ds) (hr : Rec w1 b o) :
  Calls Try.prog 134 #[.pointer (some ⟨b, o, none⟩), .bool neg, .slice A n c] w1 fun e w' => e = .returned (.pointer (some ⟨b, o, none⟩)) ∧ PutAt b o (sg neg (val ds)) w w' ∧ ∀ v xs, Ds w1 v xs → Ds w' v xs := by
 obtain ⟨n0, A0, k0, c0, h1, h2, h3, h4⟩ := Rec.cells hr
 refine (put_any b o neg A n c w1 hr).mono ?_
 rintro e w' ⟨rfl, rfl⟩
 have hn : n = ds.length := by
  obtain ⟨A', c', h1, _⟩ := hd
  injection h1
 have hq : PutAt b o (sg neg (val ds)) w ((w1.setCell ⟨b, o, none⟩ (.bool (neg && decide (0 < n)))).setCell ⟨b, o + 1, none⟩ (.slice A n c)) := by
  subst hn
  refine ⟨w1, neg && decide (0 < ds.length), A, c, ds, hb, hd, ?_, ?_, rfl⟩
  ·cases ds with
   | nil => cases neg <;> rfl
   | cons d r => simp
  ·intro h
   simp only [Bool.and_eq_true, decide_eq_true_eq] at h
   intro e
   rw [e] at h
   simp at h
 refine ⟨rfl, hq, fun v xs hx => ?_⟩
 have hx1 := Ds.set hx ⟨b, o, none⟩ (.bool n0) (.bool (neg && decide (0 < n))) h1 (by simp)
 obtain ⟨cs, T, n1, A1, k1, c1, r1, r2, r3⟩ := hr
 have b1 := blk_put r1 o (.bool (neg && decide (0 < n))) rfl
 have c2 : (w1.setCell ⟨b, o, none⟩ (.bool (neg && decide (0 < n)))).cell? ⟨b, o + 1, none⟩ = some (.slice A1 k1 c1) := (blk_cell b1 (o + 1)).trans (by simp [r3])
 exact Ds.set hx1 _ _ _ c2 (by simp)
theorem sg_tdiv (m n : Bool) {a b q r : Int} (hb : 0 < b) (hr0 : 0 ≤ r) (hr : r < b) (hq : 0 ≤ q) (h : a = q * b + r) : (sg m a).tdiv (sg n b) = sg (m != n) q ∧ (sg m a).tmod (sg n b) = sg m r := by
 have h0 : 0 ≤ a := by rw [h]; have := Int.mul_nonneg hq (Int.le_of_lt hb); omega
 have e1 : a.tdiv b = q := by
  rw [Int.tdiv_eq_ediv_of_nonneg h0, h, Int.add_comm, Int.add_mul_ediv_right _ _ (by omega), Int.ediv_eq_zero_of_lt hr0 hr]; omega
 have e2 : a.tmod b = r := by
  rw [Int.tmod_eq_emod_of_nonneg h0, h, Int.add_comm, Int.add_mul_emod_self_right, Int.emod_eq_of_lt hr0 hr]
 cases m <;> cases n <;> simp [sg, Int.neg_tdiv, Int.tdiv_neg, Int.neg_tmod, Int.tmod_neg, e1, e2]
set_option maxHeartbeats 8000000 in
set_option maxRecDepth 100000 in
theorem quoRem_any (bz oz b_r o_r bx ox b_y oy : Nat) (x y' : Int) (k : Nat) (w : World) (hx : BI w bx ox x) (hy : BI w b_y oy y') (hr : Rec w bz oz) (hrr : Rec w b_r o_r) (hzr : bz ≠ b_r) (hk : k ≤ 1000000) (hlx : x.natAbs < 2 ^ k) (hly : y'.natAbs < 2 ^ k) (hy0 : y' ≠ 0) :
  Calls Try.prog 132 #[.pointer (some ⟨bz, oz, none⟩), .pointer (some ⟨bx, ox, none⟩), .pointer (some ⟨b_y, oy, none⟩), .pointer (some ⟨b_r, o_r, none⟩)] w fun e w' => e = .returned (.tuple #[.pointer (some ⟨bz, oz, none⟩), .pointer (some ⟨b_r, o_r, none⟩)]) ∧ ∃ wm, PutAt bz oz (x.tdiv y') w wm ∧ PutAt b_r o_r (x.tmod y') wm w' := by
 have hu := Try.underlying110
 obtain ⟨nx, Ax, cx, lx, dx, x1, x2, xn, xc, x3, x4, x5, x6, x7⟩ := hx.form
 obtain ⟨nt, At, ct, lt, dt, t1, t2, tn, tc, t3, t4, t5, t6, t7⟩ := hy.form
 have lx2 := len_of x4 x5 x6 hlx hk
 have ly2 := len_of t4 t5 t6 hly hk
 have hdn : dt ≠ [] := by
  rintro rfl
  rw [t6] at hy0
  cases nt <;> simp [sg, val] at hy0
 subst xn
 subst tn
 have hdiv := div_any Ax At cx ct dx dt w.drew.drew (Kd.C_below x3 (below_drew (below_drew (Below.refl _ _)))) xc (Kd.C_below t3 (below_drew (below_drew (Below.refl _ _)))) tc x4 x5 t4 t5 (by omega) (by omega) hdn
 have HR := Aside0.mk (And.intro hr hrr)
 have HX := Aside0.mk (And.intro x6 t6)
 have HP0 := Aside0.mk (show 0 < val dt by
  have h1 := val_nonneg t4
  have h2 : val dt ≠ 0 := fun e => hdn ((val_zero t4 t5).1 e)
  omega)
 clear hr hrr x3 t3 x4 t4 x5 t5 x6 t6 x7 t7 hlx hly hk hx hy xc tc lx2 ly2 hdn hy0
 go_enter Try.func132, Try.ntmps132
 go_wp2_with (fail)
 go_region
 go_wp2_with (fail)
 refine start_ (n:=14) (S := fun w' => w'.cell? ⟨bx, ox + 1, none⟩ = some (.slice Ax dx.length cx) ∧ w'.cell? ⟨b_y, oy + 1, none⟩ = some (.slice At dt.length ct)) (ds:=[]) #[false,false,false,false,false,false,false,false,false,false,false,false,false,false] (by kernel_rfl) rfl rfl ⟨x2, t2⟩ (fun hHeld => ?_)
 refine pure_ (i:=0) (N:=some 23) (v:=?_) (a':=?_) #[true,false,false,false,false,false,false,false,false,false,false,false,false,false] rfl rfl (by kernel_rfl) (fun _ _ _ h => h) (Or.inl ⟨by rfl, ?_⟩) ?_ ?_
 rotate_left
 ·intro w'
  go_simp
  with_reducible rfl
 rotate_left
 ·go_simp
  rfl
 refine pure_ (i:=1) (N:=some 24) (v:=?_) (a':=?_) #[true,true,false,false,false,false,false,false,false,false,false,false,false,false] rfl rfl (by kernel_rfl) (fun _ _ _ h => h) (Or.inl ⟨by rfl, ?_⟩) ?_ ?_
 rotate_left
 ·intro w'
  go_simp
  with_reducible rfl
 rotate_left
 ·go_simp
  rfl
 refine pure_ (i:=2) (N:=some 25) (v:=?_) (a':=?_) #[true,true,true,false,false,false,false,false,false,false,false,false,false,false] rfl rfl (by kernel_rfl) (fun _ _ _ h => h) (Or.inl ⟨by rfl, ?_⟩) ?_ ?_
 rotate_left
 ·intro w'
  go_simp
  with_reducible rfl
 rotate_left
 ·go_simp
  rfl
 refine pure_ (i:=4) (N:=some 27) (v:=?_) (a':=?_) #[true,true,true,false,true,false,false,false,false,false,false,false,false,false] rfl rfl (by kernel_rfl) (fun _ _ _ h => h) (Or.inl ⟨by rfl, ?_⟩) ?_ ?_
 rotate_left
 ·intro w'
  go_simp
  with_reducible rfl
 rotate_left
 ·go_simp
  rfl
 refine pure_ (i:=5) (N:=some 28) (v:=?_) (a':=?_) #[true,true,true,false,true,true,false,false,false,false,false,false,false,false] rfl rfl (by kernel_rfl) (fun _ _ _ h => h) (Or.inl ⟨by rfl, ?_⟩) ?_ ?_
 rotate_left
 ·intro w'
  go_simp
  with_reducible rfl
 rotate_left
 ·go_simp
  rfl
 refine pure_ (i:=6) (N:=some 29) (v:=?_) (a':=?_) #[true,true,true,false,true,true,true,false,false,false,false,false,false,false] rfl rfl (by kernel_rfl) (fun _ _ _ h => h) (Or.inl ⟨by rfl, ?_⟩) ?_ ?_
 rotate_left
 ·intro w'
  go_simp
  with_reducible rfl
 rotate_left
 ·go_simp
  rfl
 refine take_ (i:=3) (N:=some 26) (v:=?_) (a':=?_) #[true,true,true,true,true,true,true,false,false,false,false,false,false,false] rfl rfl (by kernel_rfl) (fun _ _ _ h => h) (Or.inl ⟨by rfl, ?_⟩) hHeld ?_ ?_
 rotate_left
 ·rintro w' ⟨s0, s1⟩
  go_simp
  with_reducible rfl
 rotate_left
 ·go_simp
  rfl
 refine take_ (i:=7) (N:=some 30) (v:=?_) (a':=?_) #[true,true,true,true,true,true,true,true,false,false,false,false,false,false] rfl rfl (by kernel_rfl) (fun _ _ _ h => h) (Or.inl ⟨by rfl, ?_⟩) hHeld ?_ ?_
 rotate_left
 ·rintro w' ⟨s0, s1⟩
  go_simp
  with_reducible rfl
 rotate_left
 ·go_simp
  rfl
 refine one_ (i:=8) (N:=some 31) #[true,true,true,true,true,true,true,true,true,false,false,false,false,false] rfl rfl (by kernel_rfl) (by decide) (fun K_ hK => ?_)
 refine goes_ Try.func147 (by kernel_rfl) rfl #[.slice Ax dx.length cx, .slice At dt.length ct] (by rfl) rfl rfl (by (try simp only [List.map_toArray, List.map_cons, List.map_nil]); first | done | rfl) ?_
 refine hdiv.mono ?_
 rintro e w1 ⟨v0, v1, q, r, rfl, hq, hr1, hqr, hb⟩
 have HQ := Aside0.mk hq
 have HRR := Aside0.mk hr1
 have HQR := Aside0.mk hqr
 have HB := Aside0.mk (below_step (below_drew (below_drew (Below.refl w.heap.size w))) hb)
 clear hq hr1 hqr hb
 refine ⟨_, rfl, ?_⟩
 refine hK.out _ _ ⟨(HB.out.cell (World.block_lt_of_cell? w _ x2)).trans x2, (HB.out.cell (World.block_lt_of_cell? w _ t2)).trans t2⟩ (fun hHeld => ?_)
 clear hK K_
 refine norm_ (a':=?_) ?_ ?_
 rotate_left
 ·show Act.put _ (some 31) _ = _
  go_simp
  rfl
 refine pure_ (i:=9) (N:=some 22) (v:=?_) (a':=?_) #[true,true,true,true,true,true,true,true,true,true,false,false,false,false] rfl rfl (by kernel_rfl) (fun _ _ _ h => h) (Or.inl ⟨by rfl, ?_⟩) ?_ ?_
 rotate_left
 ·intro w'
  go_simp
  with_reducible rfl
 rotate_left
 ·go_simp
  rfl
 refine pure_ (i:=10) (N:=some 32) (v:=?_) (a':=?_) #[true,true,true,true,true,true,true,true,true,true,true,false,false,false] rfl rfl (by kernel_rfl) (fun _ _ _ h => h) (Or.inl ⟨by rfl, ?_⟩) ?_ ?_
 rotate_left
 ·intro w'
  go_simp
  with_reducible rfl
 rotate_left
 ·go_simp
  rfl
 refine pure_ (i:=11) (N:=some 33) (v:=?_) (a':=?_) #[true,true,true,true,true,true,true,true,true,true,true,true,false,false] rfl rfl (by kernel_rfl) (fun _ _ _ h => h) (Or.inl ⟨by rfl, ?_⟩) ?_ ?_
 rotate_left
 ·intro w'
  go_simp
  with_reducible rfl
 rotate_left
 ·go_simp
  rfl
 refine pure_ (i:=12) (N:=some 12) (v:=?_) (a':=?_) #[true,true,true,true,true,true,true,true,true,true,true,true,true,false] rfl rfl (by kernel_rfl) (fun _ _ _ h => h) (Or.inl ⟨by rfl, ?_⟩) ?_ ?_
 rotate_left
 ·intro w'
  go_simp
  with_reducible rfl
 rotate_left
 ·go_simp
  rfl
 refine pure_ (i:=13) (N:=some 13) (v:=?_) (a':=?_) #[true,true,true,true,true,true,true,true,true,true,true,true,true,true] rfl rfl (by kernel_rfl) (fun _ _ _ h => h) (Or.inl ⟨by rfl, ?_⟩) ?_ ?_
 rotate_left
 ·intro w'
  go_simp
  with_reducible rfl
 rotate_left
 ·go_simp
  rfl
 refine done_ (by kernel_rfl) ?_
 clear hHeld
 go_wp2_with (fail)
 obtain ⟨Aq, cq, rfl⟩ : ∃ A c, v0 = .slice A q.length c := by
  obtain ⟨A, c, h1, _⟩ := HQ.out
  exact ⟨A, c, h1⟩
 refine (put_at2 bz oz (nx != nt) Aq _ cq q w w1 HB.out HQ.out (HR.out.1.below HB.out)).mono ?_
 rintro e w2 ⟨rfl, hp, hk2⟩
 have HP := Aside0.mk hp
 have HR2 := Aside0.mk (hk2 _ _ HRR.out)
 clear hp hk2 hdiv
 obtain ⟨Ar, cr, rfl⟩ : ∃ A c, v1 = .slice A r.length c := by
  obtain ⟨A, c, h1, _⟩ := HR2.out
  exact ⟨A, c, h1⟩
 go_wp2_with (fail)
 refine (put_at b_r o_r nx Ar _ cr r w2 w2 (Below.refl _ _) HR2.out (PutAt.recO HP.out HR.out.2 (fun e => hzr e.symm))).mono ?_
 rintro e w3 ⟨rfl, hp⟩
 have HP2 := Aside0.mk hp
 clear hp
 go_wp2_with (fail)
 go_ret2
 obtain ⟨A1, c1, -, -, -, dq, -⟩ := HQ.out
 obtain ⟨A2, c2, -, -, -, dr, -⟩ := HRR.out
 have hs := sg_tdiv nx nt HP0.out (val_nonneg dr) HQR.out.2 (val_nonneg dq) HQR.out.1
 refine ⟨rfl, w2, ?_, ?_⟩
 ·rw [HX.out.1, HX.out.2, hs.1]; exact HP.out
 ·rw [HX.out.1, HX.out.2, hs.2]; exact HP2.out
set_option maxHeartbeats 8000000 in
set_option maxRecDepth 100000 in
theorem quo_any (bz oz bx ox b_y oy lo : Nat) (x y' : Int) (k : Nat) (w : World) (hx : BI w bx ox x) (hy : BI w b_y oy y') (hr : Rec w bz oz) (hlo : lo ≤ bz) (hk : k ≤ 1000000) (hlx : x.natAbs < 2 ^ k) (hly : y'.natAbs < 2 ^ k) (hy0 : y' ≠ 0) :
  Calls Try.prog 104 #[.pointer (some ⟨bz, oz, none⟩), .pointer (some ⟨bx, ox, none⟩), .pointer (some ⟨b_y, oy, none⟩)] w fun e w' => e = .returned (.pointer (some ⟨bz, oz, none⟩)) ∧ BI w' bz oz (x.tdiv y') ∧ Rec w' bz oz ∧ Below lo w w' := by
 have hu := Try.underlying110
 have hba := below_alloc (Below.refl w.heap.size w) (.cells #[.bool false, .slice none 0 0] 110)
 have hlt := hr.lt
 have hne : bz ≠ w.heap.size := by omega
 have hc := quoRem_any bz oz w.heap.size 0 bx ox b_y oy x y' k (w.alloc (.cells #[.bool false, .slice none 0 0] 110)) (hx.below hba) (hy.below hba) (hr.below hba) (Rec.new w) hne hk hlx hly hy0
 have HR := Aside0.mk (hr.below hba)
 have HBA := Aside0.mk (hba.mono (show lo ≤ w.heap.size by omega))
 have HL := Aside0.mk (And.intro hlo hlt)
 clear hx hy hr hk hlx hly hy0 hba hlo hlt
 go_enter Try.func104, Try.ntmps104
 go_wp2_with (fail)
 refine hc.mono ?_
 rintro e w1 ⟨rfl, wm, p1, p2⟩
 have HP1 := Aside0.mk p1
 have HP2 := Aside0.mk p2
 clear p1 p2 hc
 go_wp2_with (fail)
 go_ret
 have hrm := HP1.out.rec HR.out
 have hsz := HP1.out.size
 rw [World.size_alloc] at hsz
 refine ⟨rfl, HP2.out.other (PutAt.recO HP1.out (Rec.new w) (fun e => hne e.symm)) (HP1.out.bi HR.out) hne, PutAt.recO HP2.out hrm hne, ?_⟩
 exact HBA.out.trans ((HP1.out.below HL.out.1 (by rw [World.size_alloc]; have := HL.out; omega)).trans (HP2.out.below (by have := HL.out; omega) (by have := HL.out; omega)))
end Go.Proofs.Ytkafbmanmffliaa.Bm

/- Whole numbers: the greatest common divisor; what an int64 of it is. -/
namespace Go.Proofs.Ytkafbmanmffliaa.Bn
open Go Go.RowKit YtkafbmanmffliaaW.PrintWords YtkafbmanmffliaaW.PrintLast YtkafbmanmffliaaW.PrintMore Q Bg PuG Da Db Dc Dd De Bi Bj Bk Bm
abbrev ZB : Obj := .cells #[.bool false, .slice none 0 0] 110
theorem PutAt.made {W W' : World} {z : Int} (h : PutAt W.heap.size 0 z (W.alloc ZB) W') : BI W' W.heap.size 0 z ∧ Rec W' W.heap.size 0 ∧ Below W.heap.size W W' :=
 ⟨h.bi (Rec.new W), h.rec (Rec.new W), (below_alloc (Below.refl W.heap.size W) ZB).trans (h.below (Nat.le_refl _) (by rw [World.size_alloc]; omega))⟩
set_option maxHeartbeats 8000000 in
set_option maxRecDepth 100000 in
theorem gcd_any (bz oz bx ox b_y oy : Nat) (x y' : Int) (k : Nat) (w : World) (hx : BI w bx ox x) (hy : BI w b_y oy y') (hr : Rec w bz oz) (hk : k ≤ 1000000) (hlx : x.natAbs < 2 ^ k) (hly : y'.natAbs < 2 ^ k) :
  Calls Try.prog 101 #[.pointer (some ⟨bz, oz, none⟩), .pointer (some ⟨bx, ox, none⟩), .pointer (some ⟨b_y, oy, none⟩)] w fun e w' => e = .returned (.pointer (some ⟨bz, oz, none⟩)) ∧ PutAt bz oz (x.gcd y' : Int) w w' := by
 have hu := Try.underlying110
 have hba := below_alloc (Below.refl w.heap.size w) ZB
 have hc1 := abs_any w.heap.size 0 bx ox x k (w.alloc ZB) (hx.below hba) (Rec.new w) hk hlx
 have HR := Aside0.mk hr
 have HY := Aside0.mk hy
 have HK := Aside0.mk (And.intro hk (And.intro hlx hly))
 clear hx hy hr hk hlx hly hba
 go_enter Try.func101, Try.ntmps101
 go_wp2_with (fail)
 refine hc1.mono ?_
 rintro e w1 ⟨rfl, hp⟩
 have HM1 := Aside0.mk (PutAt.made hp)
 clear hp hc1
 have hba := below_alloc (Below.refl w1.heap.size w1) ZB
 have hc2 := abs_any w1.heap.size 0 b_y oy y' k (w1.alloc ZB) ((HY.out.below HM1.out.2.2).below hba) (Rec.new w1) HK.out.1 HK.out.2.2
 clear hba
 go_wp2_with (fail)
 refine hc2.mono ?_
 rintro e w2 ⟨rfl, hp⟩
 have HM2 := Aside0.mk (PutAt.made hp)
 have HX := Aside0.mk (HM1.out.1.below HM2.out.2.2)
 have HB := Aside0.mk (below_step HM1.out.2.2 HM2.out.2.2)
 have HG := Aside0.mk (show Int.gcd (x.natAbs : Int) (y'.natAbs : Int) = Int.gcd x y' by simp [Int.gcd])
 clear hp hc2
 go_wp2_with (fail)
 go_loopg [7, 8] y'.natAbs (fun kq v7 v8 wz => ∃ (b1 b2 : Nat) (X Y : Int), v7 = .pointer (some ⟨b1, 0, none⟩) ∧ v8 = .pointer (some ⟨b2, 0, none⟩) ∧ Aside0 (BI wz b1 0 X) ∧ Aside0 (BI wz b2 0 Y) ∧ Aside0 (0 ≤ X ∧ 0 ≤ Y ∧ Int.gcd X Y = Int.gcd x y' ∧ X.natAbs < 2 ^ k ∧ Y.natAbs < 2 ^ k ∧ Y.natAbs ≤ kq) ∧ Aside0 (Below w.heap.size w wz))
 case atStart => exact ⟨_, _, _, _, rfl, rfl, HX, ⟨HM2.out.1⟩, ⟨by omega, by omega, HG.out, by simpa using HK.out.2.1, by simpa using HK.out.2.2, by simp⟩, HB⟩
 case round =>
  clear HX HM1 HM2 HB HG
  obtain ⟨b1, b2, X, Y, rfl, rfl, HX, HY2, HF, HB⟩ := hrel
  have hsg := sign_any b2 0 Y wr HY2.out
  by_cases hY : Y = 0
  ·have e0 : Y.sign = 0 := by rw [hY]; rfl
   rw [e0] at hsg
   have hset := set_any bz oz b1 0 X k wr HX.out (HR.out.below HB.out) HK.out.1 HF.out.2.2.2.1
   have HG := Aside0.mk (show X = (Int.gcd x y' : Int) by
    have h1 := HF.out.2.2.1
    rw [hY, Int.gcd_zero_right] at h1
    have h2 := HF.out.1
    omega)
   clear hY
   go_wp2_with (fail)
   refine hsg.mono ?_
   rintro e w3 ⟨rfl, rfl⟩
   go_wp2_with (fail)
   refine hset.mono ?_
   rintro e w4 ⟨rfl, hp⟩
   have HP := Aside0.mk hp
   clear hp hset hsg
   go_wp2_with (fail)
   go_ret
   have := PutAt.pre HB.out HP.out
   rw [HG.out] at this
   exact ⟨rfl, this⟩
  ·have e0 : Y.sign = 1 := Int.sign_eq_one_of_pos (by have := HF.out.2.1; omega)
   rw [e0] at hsg
   have hb1 := below_alloc (Below.refl wr.heap.size wr) ZB
   have hb2 := below_alloc hb1 ZB
   have hrr : Rec ((wr.alloc ZB).alloc ZB) wr.heap.size 0 := (Rec.new wr).below (below_alloc (Below.refl _ _) ZB)
   have hqr := quoRem_any (wr.alloc ZB).heap.size 0 wr.heap.size 0 b1 0 b2 0 X Y k ((wr.alloc ZB).alloc ZB) (HX.out.below hb2) (HY2.out.below hb2) (Rec.new (wr.alloc ZB)) hrr (by rw [World.size_alloc]; omega) HK.out.1 HF.out.2.2.2.1 HF.out.2.2.2.2.1 hY
   have HRR := Aside0.mk hrr
   have HB2 := Aside0.mk hb2
   have HYP := Aside0.mk hY
   rw [World.size_alloc] at hqr
   clear hb1 hb2 hrr hY
   cases gk with
   | zero =>
    exfalso
    have := HF.out.2.2.2.2.2
    have := HYP.out
    omega
   | succ g1 =>
    go_wp2_with (fail)
    refine hsg.mono ?_
    rintro e w3 ⟨rfl, rfl⟩
    go_wp2_with (fail)
    refine hqr.mono ?_
    rintro e w4 ⟨rfl, wm, p1, p2⟩
    have hrm : Rec wm w3.heap.size 0 := PutAt.recO p1 HRR.out (by omega)
    have hbl : Below w3.heap.size w3 w4 := HB2.out.trans ((p1.below (by omega) (by have := HB2.out.size; omega)).trans (p2.below (Nat.le_refl _) (by have := HB2.out.size; have := p1.size; omega)))
    have HN1 := Aside0.mk (p2.bi hrm)
    have HN2 := Aside0.mk (HY2.out.below hbl)
    have HN3 := Aside0.mk (below_step HB.out hbl)
    have hml : (X.tmod Y).natAbs < Y.natAbs := by
     rw [Int.natAbs_tmod]
     exact Nat.mod_lt _ (by have := HYP.out; omega)
    have HN4 := Aside0.mk (show 0 ≤ Y ∧ 0 ≤ X.tmod Y ∧ Int.gcd Y (X.tmod Y) = Int.gcd x y' ∧ Y.natAbs < 2 ^ k ∧ (X.tmod Y).natAbs < 2 ^ k ∧ (X.tmod Y).natAbs ≤ g1 from
     ⟨HF.out.2.1, Int.tmod_nonneg _ HF.out.1, (Ra.gcd_step X Y).trans HF.out.2.2.1, HF.out.2.2.2.2.1, Nat.lt_trans hml HF.out.2.2.2.2.1, by have := HF.out.2.2.2.2.2; omega⟩)
    clear p1 p2 hrm hbl hml hqr hsg
    go_wp2_with (fail)
    go_roundg g1
    case rel => exact ⟨_, _, _, _, rfl, rfl, HN2, HN1, HN4, HN3⟩
    case measure => omega
theorem cut_run2 (A : Option Addr) (n c m : Nat) (hm : m ≤ n) (hc : n ≤ c) : ∀ W : World, (Instr.slice 108 (.slice A n c) none (some (.int .i64 (m : Int))) none).run Try.prog W = .ok (.slice A m c) W := by
 intro W
 have h := cut_run A n c (m : Int) (by omega) (by omega) hc W
 rwa [Int.toNat_natCast] at h
set_option maxHeartbeats 8000000 in
set_option maxRecDepth 100000 in
theorem uint64_any (b o : Nat) (z : Int) (w : World) (h : BI w b o z) (hz : z.natAbs < 2 ^ 64) :
  Calls Try.prog 138 #[.pointer (some ⟨b, o, none⟩)] w fun e w' => e = .returned (.int .u64 (z.natAbs : Int)) ∧ Below w.heap.size w w' := by
 have hu := Try.underlying110
 have hu2 := Try.underlying108
 obtain ⟨neg, A, c, n, ds, h1, h2, hn, hc, h3, h4, h5, h6, h7⟩ := h.form
 have ha := sg_abs neg (val_nonneg h4)
 rw [← h6] at ha
 have hl : ds.length ≤ 2 := by
  refine len_le h4 h5 ?_
  rw [← ha]
  have e : bp 2 = 18446744073709551616 := by decide
  rw [e]
  have e2 : (2 : Nat) ^ 64 = 18446744073709551616 := by decide
  omega
 have hnn : n ≤ 2 := by omega
 have hmin : min (n : Int) 2 = (n : Int) := by omega
 have hcut := cut_run2 A n c n (Nat.le_refl _) hc
 have HC := Aside0.mk h3
 have HF := Aside0.mk (And.intro h4 (And.intro hn ha))
 rw [ha]
 clear h h3 h4 h5 h6 h7 hn ha hl
 go_enter Try.func138, Try.ntmps138
 go_wp2_with (fail)
 go_region
 go_wp2_with (fail)
 go_loop [3, 18] (fun v3 v18 => ∃ i : Nat, i ≤ n ∧ v18 = .int .i64 (i : Int) ∧ v3 = .int .u64 (val (ds.take i))) (fun _ v => n - (intOf v).toNat)
 case atStart => exact ⟨0, by omega, rfl, by simp [val]⟩
 case round =>
  obtain ⟨i, hi, rfl, rfl⟩ := hrel
  by_cases hlt : i < n
  ·have p1 : decide ((i : Int) < (n : Int)) = true := decide_eq_true (by omega)
   obtain ⟨ad, e, hx⟩ := Kd.at_int (Kd.C_below HC.out (below_drew (Below.refl _ _))) (i : Int) (by omega) (by have := HF.out.2.1; omega)
   cases e
   rw [Int.toNat_natCast] at hx
   have hx' : w.cell? (ad.add i) = some (.int .u32 (rd ds (i : Int))) := hx
   have hdi : 0 ≤ rd ds (i : Int) ∧ rd ds (i : Int) < 4294967296 := by
    rw [rd_at i (by have := HF.out.2.1; omega)]
    exact HF.out.1.at i (by have := HF.out.2.1; omega)
   obtain ⟨d, hd⟩ : ∃ d, d = rd ds (i : Int) := ⟨_, rfl⟩
   rw [← hd] at hx hx' hdi
   have hts := val_take_succ (l := ds) i (by have := HF.out.2.1; omega)
   rw [← rd_at i (by have := HF.out.2.1; omega), ← hd] at hts
   obtain ⟨a, ha⟩ : ∃ a, a = val (ds.take i) := ⟨_, rfl⟩
   rw [← ha] at hts ⊢
   have ic : i = 0 ∨ i = 1 := by omega
   rcases ic with rfl | rfl
   ·rw [add_zero'] at hx hx'
    have a0 : a = 0 := by rw [ha]; simp [val]
    have HT := Aside0.mk (show val (ds.take (0 + 1)) = d by rw [hts, a0]; simp [bp])
    have hor : bits BinOp.or IntKind.u64 0 (IntKind.u64.wrap d) = d := by
     rw [w64 hdi.1 (by omega)]
     exact (bits_join_low .u64 64 (by decide) wraps_u64 0 0 d (by omega) (by decide) (by decide) hdi.1 (by simp) (by omega)).trans (by omega)
    have hor2 : bits BinOp.or IntKind.u64 0 (IntKind.u64.wrap (IntKind.u64.wrap d)) = d := by
     rw [w64 (n := IntKind.u64.wrap d) (by rw [w64 hdi.1 (by omega)]; exact hdi.1) (by rw [w64 hdi.1 (by omega)]; omega)]; exact hor
    subst a0
    clear hdi hts ha hd
    go_wp2_with (fail)
    go_round
    case rel => exact ⟨1, by omega, by go_num, by rw [show (1 : Nat) = 0 + 1 from rfl, HT.out]⟩
    case measure => simp [intOf]; omega
   ·have ead : ad.add 1 = ⟨ad.block, ad.off + 1, none⟩ := by unfold Addr.add; simp
    rw [ead] at hx hx'
    have hab : 0 ≤ a ∧ a < 4294967296 := by
     rw [ha]
     have h1 := val_lt (HF.out.1.take 1)
     have h2 := val_nonneg (HF.out.1.take 1)
     have h3 := bp_mono (show (ds.take 1).length ≤ 1 by rw [List.length_take]; omega)
     have h4 : bp 1 = 4294967296 := by decide
     omega
    have HT := Aside0.mk (show val (ds.take (1 + 1)) = a + d * 4294967296 by
     rw [hts, show bp 1 = 4294967296 by decide]; omega)
    have hor : bits BinOp.or IntKind.u64 a (IntKind.u64.wrap (d * 4294967296)) = a + d * 4294967296 := by
     rw [w64 (n := d * 4294967296) (by omega) (by omega)]
     exact bits_join_low .u64 64 (by decide) wraps_u64 32 a (d * 4294967296) hab.1 (by omega) (by omega) (by omega) (by omega) (by omega)
    have hor2 : bits BinOp.or IntKind.u64 a (IntKind.u64.wrap (IntKind.u64.wrap d * 4294967296)) = a + d * 4294967296 := by
     rw [w64 (n := d) hdi.1 (by omega)]; exact hor
    clear hdi hts ha hd hab
    go_wp2_with (fail)
    go_round
    case rel => exact ⟨2, by omega, by go_num, by rw [show (2 : Nat) = 1 + 1 from rfl, HT.out]⟩
    case measure => simp [intOf]; omega
  ·obtain rfl : i = n := by omega
   have p1 : decide ((i : Int) < (i : Int)) = false := decide_eq_false (by omega)
   have HT := Aside0.mk (show val (ds.take i) = val ds by rw [val_take_all (by have := HF.out.2.1; omega)])
   go_wp2_with (fail)
   go_ret
   exact ⟨by rw [← HT.out]; rfl, below_drew (Below.refl _ _)⟩
set_option maxHeartbeats 8000000 in
set_option maxRecDepth 100000 in
theorem int64_any (b o : Nat) (z : Int) (w : World) (h : BI w b o z) (hz0 : -9223372036854775808 < z) (hz1 : z < 9223372036854775808) :
  Calls Try.prog 108 #[.pointer (some ⟨b, o, none⟩)] w fun e w' => e = .returned (.int .i64 z) ∧ Below w.heap.size w w' := by
 have hu := Try.underlying110
 have e64 : (2 : Nat) ^ 64 = 18446744073709551616 := by decide
 have hc := uint64_any b o z w h (by omega)
 obtain ⟨neg, v, ds, h1, h2, h3, h4, h5⟩ := h
 obtain ⟨A, c, -, -, -, hd, -⟩ := h3
 have hv := val_nonneg hd
 have HL := Aside0.mk (World.block_lt_of_cell? w _ h1)
 have H1 := Aside0.mk h1
 clear h2 e64
 cases neg
 ·have hz : z = val ds := h4
  have ea : (z.natAbs : Int) = z := by omega
  rw [ea] at hc
  have ew : IntKind.i64.wrap z = z := by rw [IntKind.wrap_i64]; omega
  clear ea hz h4 h5 hv hz0 hz1 hd h1
  go_enter Try.func108, Try.ntmps108
  go_wp2_with (fail)
  refine hc.mono ?_
  rintro e w1 ⟨rfl, hb⟩
  have HB := Aside0.mk hb
  have c1 := (hb.cell HL.out).trans H1.out
  clear hb hc
  go_wp2_with (fail)
  go_ret
  exact ⟨rfl, HB.out⟩
 ·have hz : z = - val ds := h4
  obtain ⟨m, hm⟩ : ∃ m : Int, m = - z := ⟨_, rfl⟩
  have ea : (z.natAbs : Int) = m := by omega
  rw [ea] at hc
  have ew : IntKind.i64.wrap m = m := by rw [IntKind.wrap_i64]; omega
  have ew2 : IntKind.i64.wrap (- m) = - m := by rw [IntKind.wrap_i64]; omega
  have HM := Aside0.mk (show - m = z by omega)
  clear ea hz h4 h5 hv hz0 hz1 hd h1 hm
  go_enter Try.func108, Try.ntmps108
  go_wp2_with (fail)
  refine hc.mono ?_
  rintro e w1 ⟨rfl, hb⟩
  have HB := Aside0.mk hb
  have c1 := (hb.cell HL.out).trans H1.out
  clear hb hc
  go_wp2_with (fail)
  go_ret
  exact ⟨by rw [← HM.out]; rfl, HB.out⟩
end Go.Proofs.Ytkafbmanmffliaa.Bn

/- Fractions in memory: SetFrac. -/
namespace Go.Proofs.Ytkafbmanmffliaa.Rt
open Go Go.RowKit YtkafbmanmffliaaW.PrintWords YtkafbmanmffliaaW.PrintLast YtkafbmanmffliaaW.PrintMore Q Bg Dd Bi Bj Bk Bm Bn
def RI (W : World) (b : Nat) (q : Rat) : Prop := BI W b 0 q.num ∧ BI W b 2 (q.den : Int)
theorem RI.below {W W' : World} {b : Nat} {q : Rat} (h : RI W b q) (hb : Below W.heap.size W W') : RI W' b q := ⟨h.1.below hb, h.2.below hb⟩
def RR (W : World) (b : Nat) : Prop := ∃ (n0 : Bool) (A0 : Option Addr) (k0 c0 : Nat) (n1 : Bool) (A1 : Option Addr) (k1 c1 : Nat), W.heap[b]? = some (.cells #[.bool n0, .slice A0 k0 c0, .bool n1, .slice A1 k1 c1] 114 (0, 0))
theorem RR.below {W W' : World} {b : Nat} (h : RR W b) (hb : Below W.heap.size W W') : RR W' b := by
 obtain ⟨n0, A0, k0, c0, n1, A1, k1, c1, h⟩ := h
 exact ⟨n0, A0, k0, c0, n1, A1, k1, c1, blk_below h hb⟩
theorem RR.lt {W : World} {b : Nat} (h : RR W b) : b < W.heap.size := by
 obtain ⟨n0, A0, k0, c0, n1, A1, k1, c1, h⟩ := h
 exact blk_lt h
abbrev ZR : Obj := .cells #[.bool false, .slice none 0 0, .bool false, .slice none 0 0] 114
theorem RR.new (W : World) : RR (W.alloc ZR) W.heap.size := ⟨_, _, _, _, _, _, _, _, blk_new W _⟩
theorem RI.put {W : World} {b b1 b2 o1 o2 : Nat} {q : Rat} (hr : RR W b) (h1 : BI W b1 o1 q.num) (h2 : BI W b2 o2 (q.den : Int)) {n0 n1 : Bool} {v0 v1 : Value}
  (e0 : W.cell? ⟨b1, o1, none⟩ = some (.bool n0)) (e1 : W.cell? ⟨b1, o1 + 1, none⟩ = some v0) (e2 : W.cell? ⟨b2, o2, none⟩ = some (.bool n1)) (e3 : W.cell? ⟨b2, o2 + 1, none⟩ = some v1) :
  RI ((((W.setCell ⟨b, 0, none⟩ (.bool n0)).setCell ⟨b, 1, none⟩ v0).setCell ⟨b, 2, none⟩ (.bool n1)).setCell ⟨b, 3, none⟩ v1) b q := by
 obtain ⟨m0, A0, k0, c0, m1, A1, k1, c1, h⟩ := hr
 obtain ⟨g0, u0, d0, x1, x2, x3, x4, x5⟩ := h1
 obtain ⟨g1, u1, d1, y1, y2, y3, y4, y5⟩ := h2
 obtain rfl : n0 = g0 := by rw [e0] at x1; simpa using x1
 obtain rfl : v0 = u0 := by rw [e1] at x2; simpa using x2
 obtain rfl : n1 = g1 := by rw [e2] at y1; simpa using y1
 obtain rfl : v1 = u1 := by rw [e3] at y2; simpa using y2
 have p0 := blk_put h 0 (.bool n0) rfl
 have p1 := blk_put p0 1 v0 rfl
 have p2 := blk_put p1 2 (.bool n1) rfl
 have p3 := blk_put p2 3 v1 rfl
 have ds : ∀ v xs, Ds W v xs → Ds ((((W.setCell ⟨b, 0, none⟩ (.bool n0)).setCell ⟨b, 1, none⟩ v0).setCell ⟨b, 2, none⟩ (.bool n1)).setCell ⟨b, 3, none⟩ v1) v xs := by
  intro v xs hv
  exact Ds.set (Ds.set (Ds.set (Ds.set hv _ _ _ (blk_cell h 0) (by simp)) _ _ _ (blk_cell p0 1) (by simp)) _ _ _ (blk_cell p1 2) (by simp)) _ _ _ (blk_cell p2 3) (by simp)
 exact ⟨⟨n0, v0, d0, blk_cell p3 0, blk_cell p3 1, ds _ _ x3, x4, x5⟩, ⟨n1, v1, d1, blk_cell p3 2, blk_cell p3 3, ds _ _ y3, y4, y5⟩⟩
set_option maxHeartbeats 8000000 in
set_option maxRecDepth 100000 in
theorem setFrac_any (bz ba oa bb ob lo : Nat) (a b : Int) (k : Nat) (w : World) (ha : BI w ba oa a) (hb : BI w bb ob b) (hr : RR w bz) (hlo : lo ≤ bz) (hk : k ≤ 1000000) (hla : a.natAbs < 2 ^ k) (hlb : b.natAbs < 2 ^ k) (hb0 : b ≠ 0) :
  Calls Try.prog 137 #[.pointer (some ⟨bz, 0, none⟩), .pointer (some ⟨ba, oa, none⟩), .pointer (some ⟨bb, ob, none⟩)] w fun e w' => e = .returned (.pointer (some ⟨bz, 0, none⟩)) ∧ RI w' bz (Rat.divInt a b) ∧ Below lo w w' := by
 have hu := Try.underlying110
 have hu2 := Try.underlying114
 have hba := below_alloc (Below.refl w.heap.size w) ZB
 have hc1 := gcd_any w.heap.size 0 ba oa bb ob a b k (w.alloc ZB) (ha.below hba) (hb.below hba) (Rec.new w) hk hla hlb
 have HA := Aside0.mk ha
 have HBB := Aside0.mk hb
 have HR := Aside0.mk hr
 have HK := Aside0.mk (And.intro hk (And.intro hla hlb))
 have HL := Aside0.mk (And.intro hlo hr.lt)
 have HGL := Aside0.mk (show (a.gcd b : Int).natAbs < 2 ^ k by
  have h1 := Int.gcd_dvd_right a b
  have h2 : a.gcd b ≤ b.natAbs := Nat.le_of_dvd (by omega) (Int.natAbs_dvd_natAbs.2 h1 |> fun h => by simpa using h)
  have : (a.gcd b : Int).natAbs = a.gcd b := by simp
  omega)
 have HN := Aside0.mk (Ra.num_eq (a := a) hb0)
 have HD := Aside0.mk (Ra.den_eq (a := a) hb0)
 have HCN := Aside0.mk (Ra.common_ne (a := a) hb0)
 clear ha hb hr hk hla hlb hba hlo hb0
 by_cases hs : b < 0
 ·have e0 : b.sign = -1 := Int.sign_eq_neg_one_of_neg hs
  have HC := Aside0.mk (show Ra.common a b = - (a.gcd b : Int) by unfold Ra.common; rw [if_pos hs])
  clear hs
  go_enter Try.func137, Try.ntmps137
  go_wp2_with (fail)
  refine hc1.mono ?_
  rintro e w1 ⟨rfl, hp⟩
  have HM := Aside0.mk (PutAt.made hp)
  clear hp hc1
  have hsg := sign_any bb ob b w1 (HBB.out.below HM.out.2.2)
  rw [e0] at hsg
  go_wp2_with (fail)
  refine hsg.mono ?_
  rintro e w2 ⟨rfl, rfl⟩
  have hng := neg_any w.heap.size 0 w.heap.size 0 (a.gcd b : Int) k w2 HM.out.1 HM.out.2.1 HK.out.1 HGL.out
  rw [← HC.out] at hng
  clear hsg
  go_wp2_with (fail)
  refine hng.mono ?_
  rintro e w3 ⟨rfl, hp⟩
  have HBI := Aside0.mk (hp.bi HM.out.2.1)
  have HB3 := Aside0.mk (HM.out.2.2.trans (hp.below (Nat.le_refl _) HM.out.2.2.size))
  clear hp hng
  have HBB3 := Aside0.mk (HBB.out.below HB3.out)
  have HA3 := Aside0.mk (HA.out.below HB3.out)
  have hba := below_alloc (Below.refl w3.heap.size w3) ZB
  have hcl : (Ra.common a b).natAbs < 2 ^ k := by
   have := HGL.out
   have h2 : (Ra.common a b).natAbs = (a.gcd b : Int).natAbs := by rw [HC.out]; try simp
   omega
  have hq := quo_any w3.heap.size 0 ba oa w.heap.size 0 w3.heap.size a (Ra.common a b) k (w3.alloc ZB) (HA3.out.below hba) (HBI.out.below hba) (Rec.new w3) (Nat.le_refl _) HK.out.1 HK.out.2.1 hcl HCN.out
  have HCL := Aside0.mk hcl
  have HBA := Aside0.mk hba
  clear hba hcl
  go_wp2_with (fail)
  refine hq.mono ?_
  rintro e w4 ⟨rfl, hn1, hn2, hn3⟩
  have hb34 : Below w3.heap.size w3 w4 := HBA.out.trans hn3
  have HN4 := Aside0.mk hn1
  have HB4 := Aside0.mk (below_step HB3.out hb34)
  have HBI4 := Aside0.mk (HBI.out.below hb34)
  have HBB4 := Aside0.mk (HBB3.out.below hb34)
  clear hn1 hn2 hn3 hb34 hq
  have hba := below_alloc (Below.refl w4.heap.size w4) ZB
  have hq := quo_any w4.heap.size 0 bb ob w.heap.size 0 w4.heap.size b (Ra.common a b) k (w4.alloc ZB) (HBB4.out.below hba) (HBI4.out.below hba) (Rec.new w4) (Nat.le_refl _) HK.out.1 HK.out.2.2 HCL.out HCN.out
  have HBA2 := Aside0.mk hba
  clear hba
  go_wp2_with (fail)
  refine hq.mono ?_
  rintro e w5 ⟨rfl, hn1, hn2, hn3⟩
  have hb45 : Below w4.heap.size w4 w5 := HBA2.out.trans hn3
  have HD5 := Aside0.mk hn1
  have HB5 := Aside0.mk (below_step HB4.out hb45)
  have HN5 := Aside0.mk (HN4.out.below hb45)
  have HR5 := Aside0.mk (HR.out.below HB5.out)
  clear hn1 hn2 hn3 hb45 hq
  obtain ⟨n0, v0, d0, x1, x2, x3, -⟩ := HN5.out
  obtain ⟨n1, v1, d1, y1, y2, y3, -⟩ := HD5.out
  obtain ⟨A0, c0, rfl, -⟩ := x3
  obtain ⟨A1, c1, rfl, -⟩ := y3
  obtain ⟨m0, B0, k0, e0', m1, B1, k1, e1', hz⟩ := HR5.out
  have z0 : w5.cell? ⟨bz, 0, none⟩ = some (.bool m0) := blk_cell hz 0
  have z1 : w5.cell? ⟨bz, 1, none⟩ = some (.slice B0 k0 e0') := blk_cell hz 1
  have z2 : w5.cell? ⟨bz, 2, none⟩ = some (.bool m1) := blk_cell hz 2
  have z3 : w5.cell? ⟨bz, 3, none⟩ = some (.slice B1 k1 e1') := blk_cell hz 3
  have f0 := blk_frozen hz 0
  have f1 := blk_frozen hz 1
  have f2 := blk_frozen hz 2
  have f3 := blk_frozen hz 3
  have HX1 := Aside0.mk (And.intro x1 (And.intro x2 (And.intro y1 y2)))
  clear hz
  go_wp2_with (fail)
  go_region
  go_wp2_with (fail)
  go_ret
  have hri := RI.put (W := w5.drew) (q := Rat.divInt a b) (HR5.out.below (below_drew (Below.refl _ _))) (by rw [← HN.out]; exact HN5.out.below (below_drew (Below.refl _ _))) (by rw [← HD.out]; exact HD5.out.below (below_drew (Below.refl _ _))) HX1.out.1 HX1.out.2.1 HX1.out.2.2.1 HX1.out.2.2.2
  exact ⟨rfl, hri, ((((below_drew (HB5.out.mono (show lo ≤ w.heap.size by have := HL.out; omega))).setCell (p := ⟨bz, 0, none⟩) HL.out.1 _).setCell (p := ⟨bz, 1, none⟩) HL.out.1 _).setCell (p := ⟨bz, 2, none⟩) HL.out.1 _).setCell (p := ⟨bz, 3, none⟩) HL.out.1 _⟩
 ·have hs2 : b.sign = 0 ∨ b.sign = 1 := by
   rcases Int.lt_trichotomy b 0 with h | h | h
   ·exact absurd h hs
   ·left; rw [h]; rfl
   ·right; exact Int.sign_eq_one_of_pos h
  have HC := Aside0.mk (show Ra.common a b = (a.gcd b : Int) by unfold Ra.common; rw [if_neg hs])
  have p1 : decide (b.sign < 0) = false := decide_eq_false (by omega)
  have p2 : decide (b < 0) = false := decide_eq_false hs
  clear hs hs2
  go_enter Try.func137, Try.ntmps137
  go_wp2_with (fail)
  refine hc1.mono ?_
  rintro e w3 ⟨rfl, hp⟩
  have HM := Aside0.mk (PutAt.made hp)
  clear hp hc1
  have hsg := sign_any bb ob b w3 (HBB.out.below HM.out.2.2)
  go_wp2_with (fail)
  refine hsg.mono ?_
  rintro e w2 ⟨rfl, rfl⟩
  obtain ⟨w3, hw3⟩ : ∃ w3, w3 = w2 := ⟨_, rfl⟩
  subst hw3
  have HBI := Aside0.mk (show BI w3 w.heap.size 0 (Ra.common a b) by rw [HC.out]; exact HM.out.1)
  have HB3 := Aside0.mk HM.out.2.2
  clear hsg
  have HBB3 := Aside0.mk (HBB.out.below HB3.out)
  have HA3 := Aside0.mk (HA.out.below HB3.out)
  have hba := below_alloc (Below.refl w3.heap.size w3) ZB
  have hcl : (Ra.common a b).natAbs < 2 ^ k := by
   have := HGL.out
   have h2 : (Ra.common a b).natAbs = (a.gcd b : Int).natAbs := by rw [HC.out]; try simp
   omega
  have hq := quo_any w3.heap.size 0 ba oa w.heap.size 0 w3.heap.size a (Ra.common a b) k (w3.alloc ZB) (HA3.out.below hba) (HBI.out.below hba) (Rec.new w3) (Nat.le_refl _) HK.out.1 HK.out.2.1 hcl HCN.out
  have HCL := Aside0.mk hcl
  have HBA := Aside0.mk hba
  clear hba hcl
  go_wp2_with (fail)
  refine hq.mono ?_
  rintro e w4 ⟨rfl, hn1, hn2, hn3⟩
  have hb34 : Below w3.heap.size w3 w4 := HBA.out.trans hn3
  have HN4 := Aside0.mk hn1
  have HB4 := Aside0.mk (below_step HB3.out hb34)
  have HBI4 := Aside0.mk (HBI.out.below hb34)
  have HBB4 := Aside0.mk (HBB3.out.below hb34)
  clear hn1 hn2 hn3 hb34 hq
  have hba := below_alloc (Below.refl w4.heap.size w4) ZB
  have hq := quo_any w4.heap.size 0 bb ob w.heap.size 0 w4.heap.size b (Ra.common a b) k (w4.alloc ZB) (HBB4.out.below hba) (HBI4.out.below hba) (Rec.new w4) (Nat.le_refl _) HK.out.1 HK.out.2.2 HCL.out HCN.out
  have HBA2 := Aside0.mk hba
  clear hba
  go_wp2_with (fail)
  refine hq.mono ?_
  rintro e w5 ⟨rfl, hn1, hn2, hn3⟩
  have hb45 : Below w4.heap.size w4 w5 := HBA2.out.trans hn3
  have HD5 := Aside0.mk hn1
  have HB5 := Aside0.mk (below_step HB4.out hb45)
  have HN5 := Aside0.mk (HN4.out.below hb45)
  have HR5 := Aside0.mk (HR.out.below HB5.out)
  clear hn1 hn2 hn3 hb45 hq
  obtain ⟨n0, v0, d0, x1, x2, x3, -⟩ := HN5.out
  obtain ⟨n1, v1, d1, y1, y2, y3, -⟩ := HD5.out
  obtain ⟨A0, c0, rfl, -⟩ := x3
  obtain ⟨A1, c1, rfl, -⟩ := y3
  obtain ⟨m0, B0, k0, e0', m1, B1, k1, e1', hz⟩ := HR5.out
  have z0 : w5.cell? ⟨bz, 0, none⟩ = some (.bool m0) := blk_cell hz 0
  have z1 : w5.cell? ⟨bz, 1, none⟩ = some (.slice B0 k0 e0') := blk_cell hz 1
  have z2 : w5.cell? ⟨bz, 2, none⟩ = some (.bool m1) := blk_cell hz 2
  have z3 : w5.cell? ⟨bz, 3, none⟩ = some (.slice B1 k1 e1') := blk_cell hz 3
  have f0 := blk_frozen hz 0
  have f1 := blk_frozen hz 1
  have f2 := blk_frozen hz 2
  have f3 := blk_frozen hz 3
  have HX1 := Aside0.mk (And.intro x1 (And.intro x2 (And.intro y1 y2)))
  clear hz
  go_wp2_with (fail)
  go_region
  go_wp2_with (fail)
  go_ret
  have hri := RI.put (W := w5.drew) (q := Rat.divInt a b) (HR5.out.below (below_drew (Below.refl _ _))) (by rw [← HN.out]; exact HN5.out.below (below_drew (Below.refl _ _))) (by rw [← HD.out]; exact HD5.out.below (below_drew (Below.refl _ _))) HX1.out.1 HX1.out.2.1 HX1.out.2.2.1 HX1.out.2.2.2
  exact ⟨rfl, hri, ((((below_drew (HB5.out.mono (show lo ≤ w.heap.size by have := HL.out; omega))).setCell (p := ⟨bz, 0, none⟩) HL.out.1 _).setCell (p := ⟨bz, 1, none⟩) HL.out.1 _).setCell (p := ⟨bz, 2, none⟩) HL.out.1 _).setCell (p := ⟨bz, 3, none⟩) HL.out.1 _⟩
end Go.Proofs.Ytkafbmanmffliaa.Rt

