/- Parts of the proof that the law of this seat holds: Ru, Rv2, Rx, Gd, Gf, Ge. -/
import Derived.Test.YtkafbmanmffliaaGLpf
set_option linter.unusedVariables false
set_option linter.unusedSimpArgs false
/- Fractions in memory: the methods that are walked straight on. -/
namespace Go.Proofs.Ytkafbmanmffliaa.Ru
open Go Go.RowKit YtkafbmanmffliaaW.PrintWords YtkafbmanmffliaaW.PrintLast YtkafbmanmffliaaW.PrintMore Q Bg Dd Bi Bj Bk Bm Bn Rt Ra
def MkB (w : World) (z : Int) (e : Ending) (w' : World) : Prop := ∃ b, e = .returned (.pointer (some ⟨b, 0, none⟩)) ∧ w.heap.size ≤ b ∧ BI w' b 0 z ∧ Rec w' b 0 ∧ Below w.heap.size w w'
set_option maxHeartbeats 8000000 in
set_option maxRecDepth 100000 in
theorem num_any (b : Nat) (q : Rat) (k : Nat) (w : World) (h : RI w b q) (hk : k ≤ 1000000) (hs : Sm k q) :
    Calls Try.prog 107 #[.pointer (some ⟨b, 0, none⟩)] w (MkB w q.num) := by
  have hu := Try.underlying114
  have hba := below_alloc (Below.refl w.heap.size w) ZB
  have hc := set_any w.heap.size 0 b 0 q.num k (w.alloc ZB) (h.1.below hba) (Rec.new w) hk hs.1
  clear h hs hba
  go_enter Try.func107, Try.ntmps107
  go_wp2_with (fail)
  refine hc.mono ?_
  rintro e w1 ⟨rfl, hp⟩
  have HM := Aside0.mk (PutAt.made hp)
  clear hp hc
  go_wp2_with (fail)
  go_ret
  exact ⟨_, rfl, Nat.le_refl _, HM.out.1, HM.out.2.1, HM.out.2.2⟩
set_option maxHeartbeats 8000000 in
set_option maxRecDepth 100000 in
theorem denom_any (b : Nat) (q : Rat) (k : Nat) (w : World) (h : RI w b q) (hk : k ≤ 1000000) (hs : Sm k q) :
    Calls Try.prog 102 #[.pointer (some ⟨b, 0, none⟩)] w (MkB w (q.den : Int)) := by
  have hu := Try.underlying114
  have hba := below_alloc (Below.refl w.heap.size w) ZB
  have hsg := sign_any b 2 (q.den : Int) w h.2
  have hdp := q.den_pos
  have e1 : (q.den : Int).sign = 1 := Int.sign_eq_one_of_pos (by omega)
  rw [e1] at hsg
  have hc := set_any w.heap.size 0 b 2 (q.den : Int) k (w.alloc ZB) (h.2.below hba) (Rec.new w) hk (by have := hs.2; omega)
  clear h hs hba hdp e1
  go_enter Try.func102, Try.ntmps102
  go_wp2_with (fail)
  refine hsg.mono ?_
  rintro e w1 ⟨rfl, rfl⟩
  go_wp2_with (fail)
  refine hc.mono ?_
  rintro e w2 ⟨rfl, hp⟩
  have HM := Aside0.mk (PutAt.made hp)
  clear hp hc hsg
  go_wp2_with (fail)
  go_ret
  exact ⟨_, rfl, Nat.le_refl _, HM.out.1, HM.out.2.1, HM.out.2.2⟩
set_option maxHeartbeats 8000000 in
set_option maxRecDepth 100000 in
theorem rsign_any (b : Nat) (q : Rat) (w : World) (h : RI w b q) :
    Calls Try.prog 91 #[.pointer (some ⟨b, 0, none⟩)] w fun e w' => e = .returned (.int .i64 q.num.sign) ∧ w' = w := by
  have hu := Try.underlying114
  have hsg := sign_any b 0 q.num w h.1
  clear h
  go_enter Try.func91, Try.ntmps91
  go_wp2_with (fail)
  refine hsg.mono ?_
  rintro e w1 ⟨rfl, rfl⟩
  go_wp2_with (fail)
  go_ret
  exact ⟨rfl, rfl⟩
def SetR (bz lo : Nat) (q : Rat) (w : World) (e : Ending) (w' : World) : Prop := e = .returned (.pointer (some ⟨bz, 0, none⟩)) ∧ RI w' bz q ∧ Below lo w w'
set_option maxHeartbeats 8000000 in
set_option maxRecDepth 100000 in
theorem setInt_any (bz bx ox lo : Nat) (x : Int) (k : Nat) (w : World) (hx : BI w bx ox x) (hr : RR w bz) (hlo : lo ≤ bz) (hk : k ≤ 1000000) (hk1 : 1 ≤ k) (hlx : x.natAbs < 2 ^ k) :
    Calls Try.prog 106 #[.pointer (some ⟨bz, 0, none⟩), .pointer (some ⟨bx, ox, none⟩)] w (SetR bz lo (x : Rat) w) := by
  have hu := Try.underlying114
  have hn := newBig_any 1 w (by decide) (by decide)
  have HX := Aside0.mk hx
  have HR := Aside0.mk hr
  have HK := Aside0.mk (And.intro hk (And.intro hk1 hlx))
  have HL := Aside0.mk (And.intro hlo hr.lt)
  clear hx hr hk hk1 hlx hlo
  go_enter Try.func106, Try.ntmps106
  go_wp2_with (fail)
  refine hn.mono ?_
  rintro e w1 ⟨b1, rfl, h1, h2, h3, h4⟩
  have hp2 : (2 : Nat) ^ 1 ≤ 2 ^ k := Nat.pow_le_pow_right (by decide) HK.out.2.1
  have hc := setFrac_any bz bx ox b1 0 lo x 1 k w1 (HX.out.below h4) h2 (HR.out.below h4) HL.out.1 HK.out.1 HK.out.2.2 (by omega) (by decide)
  have HB := Aside0.mk (h4.mono (show lo ≤ w.heap.size by have := HL.out; omega))
  clear h1 h2 h3 h4 hn hp2
  go_wp2_with (fail)
  refine hc.mono ?_
  rintro e w2 ⟨rfl, h1, h2⟩
  have H1 := Aside0.mk (And.intro h1 h2)
  clear h1 h2 hc
  go_wp2_with (fail)
  go_ret
  have := H1.out.1
  rw [whole_eq] at this
  exact ⟨rfl, this, HB.out.trans H1.out.2⟩
set_option maxHeartbeats 8000000 in
set_option maxRecDepth 100000 in
theorem rsetInt64_any (bz lo : Nat) (n : Int) (w : World) (h0 : -9223372036854775808 ≤ n) (h1 : n ≤ 9223372036854775807) (hr : RR w bz) (hlo : lo ≤ bz) :
    Calls Try.prog 112 #[.pointer (some ⟨bz, 0, none⟩), .int .i64 n] w (SetR bz lo (n : Rat) w) := by
  have hu := Try.underlying114
  have hn := newBig_any n w h0 h1
  have HR := Aside0.mk hr
  have HN := Aside0.mk (show n.natAbs < 2 ^ 64 by have e : (2 : Nat) ^ 64 = 18446744073709551616 := by decide
                                                  omega)
  have HL := Aside0.mk (And.intro hlo hr.lt)
  clear hr hlo h0 h1
  go_enter Try.func112, Try.ntmps112
  go_wp2_with (fail)
  refine hn.mono ?_
  rintro e w1 ⟨b1, rfl, h1, h2, h3, h4⟩
  have hc := setInt_any bz b1 0 lo n 64 w1 h2 (HR.out.below h4) HL.out.1 (by decide) (by decide) HN.out
  have HB := Aside0.mk (h4.mono (show lo ≤ w.heap.size by have := HL.out; omega))
  clear h1 h2 h3 h4 hn
  go_wp2_with (fail)
  refine hc.mono ?_
  rintro e w2 ⟨rfl, h1, h2⟩
  have H1 := Aside0.mk (And.intro h1 h2)
  clear h1 h2 hc
  go_wp2_with (fail)
  go_ret
  exact ⟨rfl, H1.out.1, HB.out.trans H1.out.2⟩
set_option maxHeartbeats 8000000 in
set_option maxRecDepth 100000 in
theorem rneg_any (bz bx lo : Nat) (x : Rat) (k : Nat) (w : World) (hx : RI w bx x) (hr : RR w bz) (hlo : lo ≤ bz) (hk : k ≤ 1000000) (hs : Sm k x) :
    Calls Try.prog 141 #[.pointer (some ⟨bz, 0, none⟩), .pointer (some ⟨bx, 0, none⟩)] w (SetR bz lo (- x) w) := by
  have hu := Try.underlying114
  have hba := below_alloc (Below.refl w.heap.size w) ZB
  have hn := neg_any w.heap.size 0 bx 0 x.num k (w.alloc ZB) (hx.1.below hba) (Rec.new w) hk hs.1
  have HX := Aside0.mk hx
  have HR := Aside0.mk hr
  have HK := Aside0.mk (And.intro hk hs)
  have HL := Aside0.mk (And.intro hlo hr.lt)
  clear hx hr hk hlo hs hba
  go_enter Try.func141, Try.ntmps141
  go_wp2_with (fail)
  refine hn.mono ?_
  rintro e w1 ⟨rfl, hp⟩
  have HM := Aside0.mk (PutAt.made hp)
  clear hp hn
  have hd := denom_any bx x k w1 (HX.out.below HM.out.2.2) HK.out.1 HK.out.2
  go_wp2_with (fail)
  refine hd.mono ?_
  rintro e w2 ⟨b2, rfl, h1, h2, h3, h4⟩
  have hc := setFrac_any bz w.heap.size 0 b2 0 lo (- x.num) (x.den : Int) k w2 (HM.out.1.below h4) h2 ((HR.out.below HM.out.2.2).below h4) HL.out.1 HK.out.1 (by rw [Int.natAbs_neg]; exact HK.out.2.1) (by have := HK.out.2.2; omega) (den_ne x)
  have HB := Aside0.mk ((below_step HM.out.2.2 h4).mono (show lo ≤ w.heap.size by have := HL.out; omega))
  clear h1 h2 h3 h4 hd
  go_wp2_with (fail)
  refine hc.mono ?_
  rintro e w3 ⟨rfl, h1, h2⟩
  have H1 := Aside0.mk (And.intro h1 h2)
  clear h1 h2 hc
  go_wp2_with (fail)
  go_ret
  have := H1.out.1
  rw [neg_eq] at this
  exact ⟨rfl, this, HB.out.trans H1.out.2⟩
set_option maxHeartbeats 8000000 in
set_option maxRecDepth 100000 in
theorem rinv_any (bz bx lo : Nat) (x : Rat) (k : Nat) (w : World) (hx : RI w bx x) (hr : RR w bz) (hlo : lo ≤ bz) (hk : k ≤ 1000000) (hs : Sm k x) (hx0 : x ≠ 0) :
    Calls Try.prog 144 #[.pointer (some ⟨bz, 0, none⟩), .pointer (some ⟨bx, 0, none⟩)] w (SetR bz lo x⁻¹ w) := by
  have hu := Try.underlying114
  have hd := denom_any bx x k w hx hk hs
  have HX := Aside0.mk hx
  have HR := Aside0.mk hr
  have HK := Aside0.mk (And.intro hk (And.intro hs hx0))
  have HL := Aside0.mk (And.intro hlo hr.lt)
  clear hx hr hk hlo hs hx0
  go_enter Try.func144, Try.ntmps144
  go_wp2_with (fail)
  refine hd.mono ?_
  rintro e w1 ⟨b1, rfl, h1, h2, h3, h4⟩
  have HM := Aside0.mk (And.intro h2 h4)
  have hn := num_any bx x k w1 (HX.out.below h4) HK.out.1 HK.out.2.1
  clear h1 h2 h3 h4 hd
  go_wp2_with (fail)
  refine hn.mono ?_
  rintro e w2 ⟨b2, rfl, h1, h2, h3, h4⟩
  have hc := setFrac_any bz b1 0 b2 0 lo (x.den : Int) x.num k w2 (HM.out.1.below h4) h2 ((HR.out.below HM.out.2).below h4) HL.out.1 HK.out.1 (by have := HK.out.2.1.2; omega) HK.out.2.1.1 (fun e => HK.out.2.2 (Rat.num_eq_zero.1 e))
  have HB := Aside0.mk ((below_step HM.out.2 h4).mono (show lo ≤ w.heap.size by have := HL.out; omega))
  clear h1 h2 h3 h4 hn
  go_wp2_with (fail)
  refine hc.mono ?_
  rintro e w3 ⟨rfl, h1, h2⟩
  have H1 := Aside0.mk (And.intro h1 h2)
  clear h1 h2 hc
  go_wp2_with (fail)
  go_ret
  have := H1.out.1
  rw [inv_eq] at this
  exact ⟨rfl, this, HB.out.trans H1.out.2⟩
end Go.Proofs.Ytkafbmanmffliaa.Ru

/- Fractions in memory: sums and products. -/
namespace Go.Proofs.Ytkafbmanmffliaa.Rv2
open Go Go.RowKit YtkafbmanmffliaaW.PrintWords YtkafbmanmffliaaW.PrintLast YtkafbmanmffliaaW.PrintMore Q Bg Dd Bi Bj Bk Bm Bn Rt Ru Ra
theorem sizes {k : Nat} {x y : Rat} (hx : Sm k x) (hy : Sm k y) : (x.num * (y.den : Int)).natAbs < 2 ^ (2 * k + 1) ∧ (y.num * (x.den : Int)).natAbs < 2 ^ (2 * k + 1) ∧ (x.num * (y.den : Int) + y.num * (x.den : Int)).natAbs < 2 ^ (2 * k + 1) ∧ ((x.den : Int) * (y.den : Int)).natAbs < 2 ^ (2 * k + 1) := by
 have a := mul_pow hx.1 hy.2
 have b := mul_pow hy.1 hx.2
 have c := mul_pow hx.2 hy.2
 have e : 2 ^ (2 * k + 1) = 2 * 2 ^ (k + k) := by rw [show 2 * k + 1 = (k + k) + 1 by omega, Nat.pow_succ]; omega
 have h1 : (x.num * (y.den : Int)).natAbs = x.num.natAbs * y.den := by rw [Int.natAbs_mul, Int.natAbs_natCast]
 have h2 : (y.num * (x.den : Int)).natAbs = y.num.natAbs * x.den := by rw [Int.natAbs_mul, Int.natAbs_natCast]
 have h3 : ((x.den : Int) * (y.den : Int)).natAbs = x.den * y.den := by rw [Int.natAbs_mul, Int.natAbs_natCast, Int.natAbs_natCast]
 have h4 := natAbs_add (x.num * (y.den : Int)) (y.num * (x.den : Int))
 omega
theorem sizes2 {k : Nat} {x y : Rat} (hx : Sm k x) (hy : Sm k y) : (x.num * y.num).natAbs < 2 ^ (2 * k + 1) ∧ ((x.den : Int) * (y.den : Int)).natAbs < 2 ^ (2 * k + 1) := by
 have a := mul_pow hx.1 hy.1
 have c := mul_pow hx.2 hy.2
 have e : 2 ^ (2 * k + 1) = 2 * 2 ^ (k + k) := by rw [show 2 * k + 1 = (k + k) + 1 by omega, Nat.pow_succ]; omega
 have h1 : (x.num * y.num).natAbs = x.num.natAbs * y.num.natAbs := Int.natAbs_mul _ _
 have h3 : ((x.den : Int) * (y.den : Int)).natAbs = x.den * y.den := by rw [Int.natAbs_mul, Int.natAbs_natCast, Int.natAbs_natCast]
 omega
set_option maxHeartbeats 8000000 in
set_option maxRecDepth 100000 in
theorem radd_any (bz bx b_y lo : Nat) (x y : Rat) (k : Nat) (w : World) (hx : RI w bx x) (hy : RI w b_y y) (hr : RR w bz) (hlo : lo ≤ bz) (hk : 2 * k + 1 ≤ 1000000) (hsx : Sm k x) (hsy : Sm k y) :
  Calls Try.prog 113 #[.pointer (some ⟨bz, 0, none⟩), .pointer (some ⟨bx, 0, none⟩), .pointer (some ⟨b_y, 0, none⟩)] w (SetR bz lo (x + y) w) := by
 have hu := Try.underlying114
 have hu2 := Try.underlying110
 have Hx := Aside0.mk hx
 have Hy := Aside0.mk hy
 have HR := Aside0.mk hr
 have HK2 := Aside0.mk hk
 have HK := Aside0.mk (show k ≤ 1000000 ∧ Sm k x ∧ Sm k y from ⟨by omega, hsx, hsy⟩)
 have HL := Aside0.mk (And.intro hlo hr.lt)
 clear hx hy hr hlo hk hsx hsy
 go_enter Try.func113, Try.ntmps113
 go_wp2_with (fail)
 refine start_ (n:=16) (S := fun w' => True) (ds:=[]) #[false,false,false,false,false,false,false,false,false,false,false,false,false,false,false,false] (by kernel_rfl) rfl rfl trivial (fun hHeld => ?_)
 refine pure_ (i:=1) (N:=some 10) (v:=?_) (a':=?_) #[false,true,false,false,false,false,false,false,false,false,false,false,false,false,false,false] rfl rfl (by kernel_rfl) (fun _ _ _ h => h) (Or.inl ⟨by rfl, ?_⟩) ?_ ?_
 rotate_left
 ·intro w'
  go_simp
  with_reducible rfl
 rotate_left
 ·go_simp
  rfl
 refine pure_ (i:=2) (N:=some 11) (v:=?_) (a':=?_) #[false,true,true,false,false,false,false,false,false,false,false,false,false,false,false,false] rfl rfl (by kernel_rfl) (fun _ _ _ h => h) (Or.inl ⟨by rfl, ?_⟩) ?_ ?_
 rotate_left
 ·intro w'
  go_simp
  with_reducible rfl
 rotate_left
 ·go_simp
  rfl
 refine pure_ (i:=3) (N:=some 12) (v:=?_) (a':=?_) #[false,true,true,true,false,false,false,false,false,false,false,false,false,false,false,false] rfl rfl (by kernel_rfl) (fun _ _ _ h => h) (Or.inl ⟨by rfl, ?_⟩) ?_ ?_
 rotate_left
 ·intro w'
  go_simp
  with_reducible rfl
 rotate_left
 ·go_simp
  rfl
 refine pure_ (i:=4) (N:=some 13) (v:=?_) (a':=?_) #[false,true,true,true,true,false,false,false,false,false,false,false,false,false,false,false] rfl rfl (by kernel_rfl) (fun _ _ _ h => h) (Or.inl ⟨by rfl, ?_⟩) ?_ ?_
 rotate_left
 ·intro w'
  go_simp
  with_reducible rfl
 rotate_left
 ·go_simp
  rfl
 refine pure_ (i:=8) (N:=some 17) (v:=?_) (a':=?_) #[false,true,true,true,true,false,false,false,true,false,false,false,false,false,false,false] rfl rfl (by kernel_rfl) (fun _ _ _ h => h) (Or.inl ⟨by rfl, ?_⟩) ?_ ?_
 rotate_left
 ·intro w'
  go_simp
  with_reducible rfl
 rotate_left
 ·go_simp
  rfl
 refine pure_ (i:=9) (N:=some 18) (v:=?_) (a':=?_) #[false,true,true,true,true,false,false,false,true,true,false,false,false,false,false,false] rfl rfl (by kernel_rfl) (fun _ _ _ h => h) (Or.inl ⟨by rfl, ?_⟩) ?_ ?_
 rotate_left
 ·intro w'
  go_simp
  with_reducible rfl
 rotate_left
 ·go_simp
  rfl
 refine pure_ (i:=10) (N:=some 19) (v:=?_) (a':=?_) #[false,true,true,true,true,false,false,false,true,true,true,false,false,false,false,false] rfl rfl (by kernel_rfl) (fun _ _ _ h => h) (Or.inl ⟨by rfl, ?_⟩) ?_ ?_
 rotate_left
 ·intro w'
  go_simp
  with_reducible rfl
 rotate_left
 ·go_simp
  rfl
 refine pure_ (i:=11) (N:=some 20) (v:=?_) (a':=?_) #[false,true,true,true,true,false,false,false,true,true,true,true,false,false,false,false] rfl rfl (by kernel_rfl) (fun _ _ _ h => h) (Or.inl ⟨by rfl, ?_⟩) ?_ ?_
 rotate_left
 ·intro w'
  go_simp
  with_reducible rfl
 rotate_left
 ·go_simp
  rfl
 refine join_ (σ := Nat × Nat × Nat × Nat) (fuel' := 0) #[true, true, true, true, true, true, true, true, true, true, true, true, true, true, true, true] (fun s => [(7, .pointer (some ⟨s.1, 0, none⟩)), (8, .pointer (some ⟨s.2.2.1, 0, none⟩)), (9, .pointer (some ⟨s.1, 0, none⟩)), (14, .pointer (some ⟨s.2.1, 0, none⟩)), (15, .pointer (some ⟨s.1, 0, none⟩)), (16, .pointer (some ⟨s.2.2.1, 0, none⟩)), (21, .pointer (some ⟨s.2.2.2, 0, none⟩)), (22, .pointer (some ⟨s.2.2.1, 0, none⟩))]) (fun s w2 => Below w.heap.size w w2 ∧ Rec w2 s.1 0 ∧ w.heap.size ≤ s.1 ∧ BI w2 s.1 0 (x.num * (y.den : Int)) ∧ Rec w2 s.2.2.1 0 ∧ w.heap.size ≤ s.2.2.1 ∧ BI w2 s.2.2.1 0 (y.num * (x.den : Int)) ∧ s.1 ≠ s.2.2.1) ?_ ?_
 ·rintro ⟨p0, p5, p7, p12⟩ w2 hF
  have HF := Aside0.mk (show Below w.heap.size w w2 ∧ Rec w2 p0 0 ∧ w.heap.size ≤ p0 ∧ BI w2 p0 0 (x.num * (y.den : Int)) ∧ Rec w2 p7 0 ∧ w.heap.size ≤ p7 ∧ BI w2 p7 0 (y.num * (x.den : Int)) ∧ p0 ≠ p7 from hF)
  clear hF
  refine norm_ (a':=?_) ?_ ?_
  rotate_left
  ·simp only [putAll, Act.put, List.setIfInBounds_toArray, List.set_cons_zero, List.set_cons_succ]
   rfl
  refine done_ (by kernel_rfl) ?_
  obtain ⟨fb, fr0, fg0, fv0, fr7, fg7, fv7, fne⟩ := HF.out
  have HS := Aside0.mk (sizes HK.out.2.1 HK.out.2.2)
  have hadd := add_any p0 0 p0 0 p7 0 _ _ (2 * k + 1) w2 fv0 fv7 fr0 HK2.out HS.out.1 HS.out.2.1
  have F1 := Aside0.mk (And.intro fb (And.intro fr0 fg0))
  clear fb fr0 fg0 fv0 fr7 fg7 fv7 fne HF
  go_wp2_with (fail)
  refine hadd.mono ?_
  rintro e w3 ⟨rfl, hp⟩
  have HA3 := Aside0.mk (hp.bi F1.out.2.1)
  have HB3 := Aside0.mk (F1.out.1.trans (hp.below F1.out.2.2 F1.out.1.size))
  clear hp hadd
  have hba := below_alloc (Below.refl w3.heap.size w3) ZB
  have hd1 := denom_any bx x k (w3.alloc ZB) ((Hx.out.below HB3.out).below hba) HK.out.1 HK.out.2.1
  have HBA := Aside0.mk hba
  clear hba
  go_wp2_with (fail)
  refine hd1.mono ?_
  rintro e w4 ⟨q4, rfl, h1, h2, h3, h4⟩
  have HB4 := Aside0.mk (HBA.out.trans (h4.mono (by rw [World.size_alloc]; omega)))
  have HR4 := Aside0.mk ((Rec.new w3).below h4)
  have HD4 := Aside0.mk h2
  clear h1 h2 h3 h4 hd1
  have hd2 := denom_any b_y y k w4 ((Hy.out.below HB3.out).below HB4.out) HK.out.1 HK.out.2.2
  go_wp2_with (fail)
  refine hd2.mono ?_
  rintro e w5 ⟨q5, rfl, h1, h2, h3, h4⟩
  have HB5 := Aside0.mk (below_step HB4.out h4)
  have HR5 := Aside0.mk (HR4.out.below h4)
  have HD5 := Aside0.mk h2
  have HD4 := Aside0.mk (HD4.out.below h4)
  clear h1 h2 h3 h4 hd2
  have hml := mul_any w3.heap.size 0 q4 0 q5 0 (x.den : Int) (y.den : Int) k w5 HD4.out HD5.out HR5.out HK.out.1 (by have := HK.out.2.1.2; omega) (by have := HK.out.2.2.2; omega)
  go_wp2_with (fail)
  refine hml.mono ?_
  rintro e w6 ⟨rfl, hp⟩
  have HM6 := Aside0.mk (hp.bi HR5.out)
  have HB6 := Aside0.mk (HB5.out.trans (hp.below (Nat.le_refl _) HB5.out.size))
  clear hp hml
  have hsf := setFrac_any bz p0 0 w3.heap.size 0 lo (x.num * (y.den : Int) + y.num * (x.den : Int)) ((x.den : Int) * (y.den : Int)) (2 * k + 1) w6 (HA3.out.below HB6.out) HM6.out ((HR.out.below HB3.out).below HB6.out) HL.out.1 HK2.out HS.out.2.2.1 HS.out.2.2.2 (Int.mul_ne_zero (den_ne x) (den_ne y))
  have HB7 := Aside0.mk ((below_step HB3.out HB6.out).mono (show lo ≤ w.heap.size by have := HL.out; omega))
  go_wp2_with (fail)
  refine hsf.mono ?_
  rintro e w7 ⟨rfl, h1, h2⟩
  have H1 := Aside0.mk (And.intro h1 h2)
  clear h1 h2 hsf
  go_wp2_with (fail)
  go_ret
  have := H1.out.1
  rw [add_eq] at this
  exact ⟨rfl, this, HB7.out.trans H1.out.2⟩
 intro hTTTTTT
 refine join_ (σ := Nat × Nat × Nat × Nat) (fuel' := 3) #[true, true, true, true, true, true, true, true, true, true, true, true, true, false, false, false] (fun s => [(9, .pointer (some ⟨s.1, 0, none⟩)), (14, .pointer (some ⟨s.2.1, 0, none⟩)), (15, .pointer (some ⟨s.1, 0, none⟩)), (16, .pointer (some ⟨s.2.2.1, 0, none⟩)), (21, .pointer (some ⟨s.2.2.2, 0, none⟩))]) (fun s w2 => Below w.heap.size w w2 ∧ Rec w2 s.1 0 ∧ w.heap.size ≤ s.1 ∧ BI w2 s.1 0 (x.num * (y.den : Int)) ∧ Rec w2 s.2.2.1 0 ∧ w.heap.size ≤ s.2.2.1 ∧ BI w2 s.2.2.2 0 (x.den : Int) ∧ s.1 ≠ s.2.2.1) ?_ ?_
 ·rintro ⟨p0, p5, p7, p12⟩ w2 hF
  have HF := Aside0.mk (show Below w.heap.size w w2 ∧ Rec w2 p0 0 ∧ w.heap.size ≤ p0 ∧ BI w2 p0 0 (x.num * (y.den : Int)) ∧ Rec w2 p7 0 ∧ w.heap.size ≤ p7 ∧ BI w2 p12 0 (x.den : Int) ∧ p0 ≠ p7 from hF)
  clear hF
  refine norm_ (a':=?_) ?_ ?_
  rotate_left
  ·simp only [putAll, Act.put, List.setIfInBounds_toArray, List.set_cons_zero, List.set_cons_succ]
   rfl
  refine one_ (i:=13) (N:=some 22) #[true,true,true,true,true,true,true,true,true,true,true,true,true,true,false,false] rfl rfl (by kernel_rfl) (by decide) (fun K_ hK => ?_)
  refine goes_ Try.func103 (by kernel_rfl) rfl #[.pointer (some ⟨p7, 0, none⟩), .pointer (some ⟨b_y, 0, none⟩), .pointer (some ⟨p12, 0, none⟩)] (by rfl) rfl rfl (by (try simp only [List.map_toArray, List.map_cons, List.map_nil]); first | done | rfl) ?_
  refine (mul_any p7 0 b_y 0 p12 0 y.num (x.den : Int) k w2 (BI.below Hy.out.1 HF.out.1) HF.out.2.2.2.2.2.2.1 HF.out.2.2.2.2.1 HK.out.1 HK.out.2.2.1 (by have := HK.out.2.1.2; omega)).mono ?_
  rintro e w3 ⟨rfl, hp⟩
  refine ⟨_, rfl, ?_⟩
  refine hK.out _ _ trivial (fun hHeld => ?_)
  clear hK K_
  refine norm_ (a':=?_) ?_ ?_
  rotate_left
  ·show Act.put _ (some 22) _ = _
   go_simp
   rfl
  refine pure_ (i:=14) (N:=some 7) (v:=?_) (a':=?_) #[true,true,true,true,true,true,true,true,true,true,true,true,true,true,true,false] rfl rfl (by kernel_rfl) (fun _ _ _ h => h) (Or.inl ⟨by rfl, ?_⟩) ?_ ?_
  rotate_left
  ·intro w'
   go_simp
   with_reducible rfl
  rotate_left
  ·go_simp
   rfl
  refine pure_ (i:=15) (N:=some 8) (v:=?_) (a':=?_) #[true,true,true,true,true,true,true,true,true,true,true,true,true,true,true,true] rfl rfl (by kernel_rfl) (fun _ _ _ h => h) (Or.inl ⟨by rfl, ?_⟩) ?_ ?_
  rotate_left
  ·intro w'
   go_simp
   with_reducible rfl
  rotate_left
  ·go_simp
   rfl
  refine norm_ (a' := _) ?_ (hTTTTTT (p0, p5, p7, p12) w3 ⟨(HF.out.1).trans (hp.below HF.out.2.2.2.2.2.1 (HF.out.1).size), PutAt.recO hp HF.out.2.1 HF.out.2.2.2.2.2.2.2, HF.out.2.2.1, PutAt.other hp HF.out.2.2.2.2.1 HF.out.2.2.2.1 HF.out.2.2.2.2.2.2.2, hp.rec HF.out.2.2.2.2.1, HF.out.2.2.2.2.2.1, hp.bi HF.out.2.2.2.2.1, HF.out.2.2.2.2.2.2.2⟩)
  ·simp only [putAll, Act.put, List.setIfInBounds_toArray, List.set_cons_zero, List.set_cons_succ]
   try rfl
 intro hTTTTTF
 refine join_ (σ := Nat × Nat × Nat) (fuel' := 4) #[true, true, true, true, true, true, true, true, true, true, true, true, false, false, false, false] (fun s => [(9, .pointer (some ⟨s.1, 0, none⟩)), (14, .pointer (some ⟨s.2.1, 0, none⟩)), (15, .pointer (some ⟨s.1, 0, none⟩)), (16, .pointer (some ⟨s.2.2, 0, none⟩))]) (fun s w2 => Below w.heap.size w w2 ∧ Rec w2 s.1 0 ∧ w.heap.size ≤ s.1 ∧ BI w2 s.1 0 (x.num * (y.den : Int)) ∧ Rec w2 s.2.2 0 ∧ w.heap.size ≤ s.2.2 ∧ s.1 ≠ s.2.2) ?_ ?_
 ·rintro ⟨p0, p5, p7⟩ w2 hF
  have HF := Aside0.mk (show Below w.heap.size w w2 ∧ Rec w2 p0 0 ∧ w.heap.size ≤ p0 ∧ BI w2 p0 0 (x.num * (y.den : Int)) ∧ Rec w2 p7 0 ∧ w.heap.size ≤ p7 ∧ p0 ≠ p7 from hF)
  clear hF
  refine norm_ (a':=?_) ?_ ?_
  rotate_left
  ·simp only [putAll, Act.put, List.setIfInBounds_toArray, List.set_cons_zero, List.set_cons_succ]
   rfl
  refine one_ (i:=12) (N:=some 21) #[true,true,true,true,true,true,true,true,true,true,true,true,true,false,false,false] rfl rfl (by kernel_rfl) (by decide) (fun K_ hK => ?_)
  refine goes_ Try.func102 (by kernel_rfl) rfl #[.pointer (some ⟨bx, 0, none⟩)] (by rfl) rfl rfl (by (try simp only [List.map_toArray, List.map_cons, List.map_nil]); first | done | rfl) ?_
  refine (denom_any bx x k w2 (RI.below Hx.out HF.out.1) HK.out.1 HK.out.2.1).mono ?_
  rintro e w3 ⟨p12, rfl, g1, g2, g3, g4⟩
  refine ⟨_, rfl, ?_⟩
  refine hK.out _ _ trivial (fun hHeld => ?_)
  clear hK K_
  refine norm_ (a':=?_) ?_ ?_
  rotate_left
  ·show Act.put _ (some 21) _ = _
   go_simp
   rfl
  refine norm_ (a' := _) ?_ (hTTTTTF (p0, p5, p7, p12) w3 ⟨below_step HF.out.1 g4, Rec.below HF.out.2.1 g4, HF.out.2.2.1, BI.below HF.out.2.2.2.1 g4, Rec.below HF.out.2.2.2.2.1 g4, HF.out.2.2.2.2.2.1, g2, HF.out.2.2.2.2.2.2⟩)
  ·simp only [putAll, Act.put, List.setIfInBounds_toArray, List.set_cons_zero, List.set_cons_succ]
   try rfl
 intro hTTTTFF
 refine join_ (σ := Nat × Nat × Nat) (fuel' := 4) #[true, true, true, true, true, true, true, false, true, true, true, true, true, false, false, false] (fun s => [(9, .pointer (some ⟨s.1, 0, none⟩)), (14, .pointer (some ⟨s.2.1, 0, none⟩)), (15, .pointer (some ⟨s.1, 0, none⟩)), (21, .pointer (some ⟨s.2.2, 0, none⟩))]) (fun s w2 => Below w.heap.size w w2 ∧ Rec w2 s.1 0 ∧ w.heap.size ≤ s.1 ∧ BI w2 s.1 0 (x.num * (y.den : Int)) ∧ BI w2 s.2.2 0 (x.den : Int)) ?_ ?_
 ·rintro ⟨p0, p5, p12⟩ w2 hF
  have HF := Aside0.mk (show Below w.heap.size w w2 ∧ Rec w2 p0 0 ∧ w.heap.size ≤ p0 ∧ BI w2 p0 0 (x.num * (y.den : Int)) ∧ BI w2 p12 0 (x.den : Int) from hF)
  clear hF
  refine norm_ (a':=?_) ?_ ?_
  rotate_left
  ·simp only [putAll, Act.put, List.setIfInBounds_toArray, List.set_cons_zero, List.set_cons_succ]
   rfl
  refine one_ (i:=7) (N:=some 16) #[true,true,true,true,true,true,true,true,true,true,true,true,true,false,false,false] rfl rfl (by kernel_rfl) (by decide) (fun K_ hK => ?_)
  refine value_ (v := .pointer (some ⟨w2.heap.size, 0, none⟩)) (w1 := w2.alloc ZB) (by rfl) rfl ?_ ?_
  ·go_simp
   first | done | exact ⟨rfl, rfl⟩ | rfl
  refine hK.out _ _ trivial (fun hHeld => ?_)
  clear hK K_
  refine norm_ (a':=?_) ?_ ?_
  rotate_left
  ·show Act.put _ (some 16) _ = _
   go_simp
   rfl
  refine norm_ (a' := _) ?_ (hTTTTTF (p0, p5, w2.heap.size, p12) (w2.alloc ZB) ⟨below_step HF.out.1 (below_alloc (Below.refl w2.heap.size w2) ZB), Rec.below HF.out.2.1 (below_alloc (Below.refl w2.heap.size w2) ZB), HF.out.2.2.1, BI.below HF.out.2.2.2.1 (below_alloc (Below.refl w2.heap.size w2) ZB), Rec.new w2, (HF.out.1).size, BI.below HF.out.2.2.2.2 (below_alloc (Below.refl w2.heap.size w2) ZB), Nat.ne_of_lt (Rec.lt HF.out.2.1)⟩)
  ·simp only [putAll, Act.put, List.setIfInBounds_toArray, List.set_cons_zero, List.set_cons_succ]
   try rfl
 intro hTTTFTF
 refine join_ (σ := Nat × Nat) (fuel' := 5) #[true, true, true, true, true, true, true, false, true, true, true, true, false, false, false, false] (fun s => [(9, .pointer (some ⟨s.1, 0, none⟩)), (14, .pointer (some ⟨s.2, 0, none⟩)), (15, .pointer (some ⟨s.1, 0, none⟩))]) (fun s w2 => Below w.heap.size w w2 ∧ Rec w2 s.1 0 ∧ w.heap.size ≤ s.1 ∧ BI w2 s.1 0 (x.num * (y.den : Int))) ?_ ?_
 ·rintro ⟨p0, p5⟩ w2 hF
  have HF := Aside0.mk (show Below w.heap.size w w2 ∧ Rec w2 p0 0 ∧ w.heap.size ≤ p0 ∧ BI w2 p0 0 (x.num * (y.den : Int)) from hF)
  clear hF
  refine norm_ (a':=?_) ?_ ?_
  rotate_left
  ·simp only [putAll, Act.put, List.setIfInBounds_toArray, List.set_cons_zero, List.set_cons_succ]
   rfl
  refine two_ (i:=7) (j := 12) (Ni := some 16) (Nj := some 21) #[true,true,true,true,true,true,true,true,true,true,true,true,false,false,false,false] #[true,true,true,true,true,true,true,false,true,true,true,true,true,false,false,false] rfl rfl rfl rfl (by kernel_rfl) (by decide) (by decide) (fun K_ hK => ?_) (fun K_ hK => ?_)
  ·refine value_ (v := .pointer (some ⟨w2.heap.size, 0, none⟩)) (w1 := w2.alloc ZB) (by rfl) rfl ?_ ?_
   ·go_simp
    first | done | exact ⟨rfl, rfl⟩ | rfl
   refine hK.out _ _ trivial (fun hHeld => ?_)
   clear hK K_
   refine norm_ (a':=?_) ?_ ?_
   rotate_left
   ·show Act.put _ (some 16) _ = _
    go_simp
    rfl
   refine norm_ (a' := _) ?_ (hTTTTFF (p0, p5, w2.heap.size) (w2.alloc ZB) ⟨below_step HF.out.1 (below_alloc (Below.refl w2.heap.size w2) ZB), Rec.below HF.out.2.1 (below_alloc (Below.refl w2.heap.size w2) ZB), HF.out.2.2.1, BI.below HF.out.2.2.2 (below_alloc (Below.refl w2.heap.size w2) ZB), Rec.new w2, (HF.out.1).size, Nat.ne_of_lt (Rec.lt HF.out.2.1)⟩)
   ·simp only [putAll, Act.put, List.setIfInBounds_toArray, List.set_cons_zero, List.set_cons_succ]
    try rfl
  ·refine goes_ Try.func102 (by kernel_rfl) rfl #[.pointer (some ⟨bx, 0, none⟩)] (by rfl) rfl rfl (by (try simp only [List.map_toArray, List.map_cons, List.map_nil]); first | done | rfl) ?_
   refine (denom_any bx x k w2 (RI.below Hx.out HF.out.1) HK.out.1 HK.out.2.1).mono ?_
   rintro e w3 ⟨p12, rfl, g1, g2, g3, g4⟩
   refine ⟨_, rfl, ?_⟩
   refine hK.out _ _ trivial (fun hHeld => ?_)
   clear hK K_
   refine norm_ (a':=?_) ?_ ?_
   rotate_left
   ·show Act.put _ (some 21) _ = _
    go_simp
    rfl
   refine norm_ (a' := _) ?_ (hTTTFTF (p0, p5, p12) w3 ⟨below_step HF.out.1 g4, Rec.below HF.out.2.1 g4, HF.out.2.2.1, BI.below HF.out.2.2.2 g4, g2⟩)
   ·simp only [putAll, Act.put, List.setIfInBounds_toArray, List.set_cons_zero, List.set_cons_succ]
    try rfl
 intro hTTTFFF
 refine join_ (σ := Nat × Nat × Nat) (fuel' := 5) #[true, true, true, true, true, true, false, true, true, true, true, true, false, false, false, false] (fun s => [(9, .pointer (some ⟨s.1, 0, none⟩)), (14, .pointer (some ⟨s.2.1, 0, none⟩)), (16, .pointer (some ⟨s.2.2, 0, none⟩))]) (fun s w2 => Below w.heap.size w w2 ∧ Rec w2 s.1 0 ∧ w.heap.size ≤ s.1 ∧ BI w2 s.2.1 0 (y.den : Int) ∧ Rec w2 s.2.2 0 ∧ w.heap.size ≤ s.2.2 ∧ s.1 ≠ s.2.2) ?_ ?_
 ·rintro ⟨p0, p5, p7⟩ w2 hF
  have HF := Aside0.mk (show Below w.heap.size w w2 ∧ Rec w2 p0 0 ∧ w.heap.size ≤ p0 ∧ BI w2 p5 0 (y.den : Int) ∧ Rec w2 p7 0 ∧ w.heap.size ≤ p7 ∧ p0 ≠ p7 from hF)
  clear hF
  refine norm_ (a':=?_) ?_ ?_
  rotate_left
  ·simp only [putAll, Act.put, List.setIfInBounds_toArray, List.set_cons_zero, List.set_cons_succ]
   rfl
  refine one_ (i:=6) (N:=some 15) #[true,true,true,true,true,true,true,true,true,true,true,true,false,false,false,false] rfl rfl (by kernel_rfl) (by decide) (fun K_ hK => ?_)
  refine goes_ Try.func103 (by kernel_rfl) rfl #[.pointer (some ⟨p0, 0, none⟩), .pointer (some ⟨bx, 0, none⟩), .pointer (some ⟨p5, 0, none⟩)] (by rfl) rfl rfl (by (try simp only [List.map_toArray, List.map_cons, List.map_nil]); first | done | rfl) ?_
  refine (mul_any p0 0 bx 0 p5 0 x.num (y.den : Int) k w2 (BI.below Hx.out.1 HF.out.1) HF.out.2.2.2.1 HF.out.2.1 HK.out.1 HK.out.2.1.1 (by have := HK.out.2.2.2; omega)).mono ?_
  rintro e w3 ⟨rfl, hp⟩
  refine ⟨_, rfl, ?_⟩
  refine hK.out _ _ trivial (fun hHeld => ?_)
  clear hK K_
  refine norm_ (a':=?_) ?_ ?_
  rotate_left
  ·show Act.put _ (some 15) _ = _
   go_simp
   rfl
  refine norm_ (a' := _) ?_ (hTTTTFF (p0, p5, p7) w3 ⟨(HF.out.1).trans (hp.below HF.out.2.2.1 (HF.out.1).size), hp.rec HF.out.2.1, HF.out.2.2.1, hp.bi HF.out.2.1, PutAt.recO hp HF.out.2.2.2.2.1 (fun h => HF.out.2.2.2.2.2.2 h.symm), HF.out.2.2.2.2.2.1, HF.out.2.2.2.2.2.2⟩)
  ·simp only [putAll, Act.put, List.setIfInBounds_toArray, List.set_cons_zero, List.set_cons_succ]
   try rfl
 intro hTTFTFF
 refine join_ (σ := Nat × Nat) (fuel' := 6) #[true, true, true, true, true, true, false, false, true, true, true, true, false, false, false, false] (fun s => [(9, .pointer (some ⟨s.1, 0, none⟩)), (14, .pointer (some ⟨s.2, 0, none⟩))]) (fun s w2 => Below w.heap.size w w2 ∧ Rec w2 s.1 0 ∧ w.heap.size ≤ s.1 ∧ BI w2 s.2 0 (y.den : Int)) ?_ ?_
 ·rintro ⟨p0, p5⟩ w2 hF
  have HF := Aside0.mk (show Below w.heap.size w w2 ∧ Rec w2 p0 0 ∧ w.heap.size ≤ p0 ∧ BI w2 p5 0 (y.den : Int) from hF)
  clear hF
  refine norm_ (a':=?_) ?_ ?_
  rotate_left
  ·simp only [putAll, Act.put, List.setIfInBounds_toArray, List.set_cons_zero, List.set_cons_succ]
   rfl
  refine two_ (i:=6) (j := 7) (Ni := some 15) (Nj := some 16) #[true,true,true,true,true,true,true,false,true,true,true,true,false,false,false,false] #[true,true,true,true,true,true,false,true,true,true,true,true,false,false,false,false] rfl rfl rfl rfl (by kernel_rfl) (by decide) (by decide) (fun K_ hK => ?_) (fun K_ hK => ?_)
  ·refine goes_ Try.func103 (by kernel_rfl) rfl #[.pointer (some ⟨p0, 0, none⟩), .pointer (some ⟨bx, 0, none⟩), .pointer (some ⟨p5, 0, none⟩)] (by rfl) rfl rfl (by (try simp only [List.map_toArray, List.map_cons, List.map_nil]); first | done | rfl) ?_
   refine (mul_any p0 0 bx 0 p5 0 x.num (y.den : Int) k w2 (BI.below Hx.out.1 HF.out.1) HF.out.2.2.2 HF.out.2.1 HK.out.1 HK.out.2.1.1 (by have := HK.out.2.2.2; omega)).mono ?_
   rintro e w3 ⟨rfl, hp⟩
   refine ⟨_, rfl, ?_⟩
   refine hK.out _ _ trivial (fun hHeld => ?_)
   clear hK K_
   refine norm_ (a':=?_) ?_ ?_
   rotate_left
   ·show Act.put _ (some 15) _ = _
    go_simp
    rfl
   refine norm_ (a' := _) ?_ (hTTTFFF (p0, p5) w3 ⟨(HF.out.1).trans (hp.below HF.out.2.2.1 (HF.out.1).size), hp.rec HF.out.2.1, HF.out.2.2.1, hp.bi HF.out.2.1⟩)
   ·simp only [putAll, Act.put, List.setIfInBounds_toArray, List.set_cons_zero, List.set_cons_succ]
    try rfl
  ·refine value_ (v := .pointer (some ⟨w2.heap.size, 0, none⟩)) (w1 := w2.alloc ZB) (by rfl) rfl ?_ ?_
   ·go_simp
    first | done | exact ⟨rfl, rfl⟩ | rfl
   refine hK.out _ _ trivial (fun hHeld => ?_)
   clear hK K_
   refine norm_ (a':=?_) ?_ ?_
   rotate_left
   ·show Act.put _ (some 16) _ = _
    go_simp
    rfl
   refine norm_ (a' := _) ?_ (hTTFTFF (p0, p5, w2.heap.size) (w2.alloc ZB) ⟨below_step HF.out.1 (below_alloc (Below.refl w2.heap.size w2) ZB), Rec.below HF.out.2.1 (below_alloc (Below.refl w2.heap.size w2) ZB), HF.out.2.2.1, BI.below HF.out.2.2.2 (below_alloc (Below.refl w2.heap.size w2) ZB), Rec.new w2, (HF.out.1).size, Nat.ne_of_lt (Rec.lt HF.out.2.1)⟩)
   ·simp only [putAll, Act.put, List.setIfInBounds_toArray, List.set_cons_zero, List.set_cons_succ]
    try rfl
 intro hTTFFFF
 refine join_ (σ := Nat × Nat) (fuel' := 6) #[true, true, true, true, true, false, false, true, true, true, true, true, false, false, false, false] (fun s => [(9, .pointer (some ⟨s.1, 0, none⟩)), (16, .pointer (some ⟨s.2, 0, none⟩))]) (fun s w2 => Below w.heap.size w w2 ∧ Rec w2 s.1 0 ∧ w.heap.size ≤ s.1 ∧ Rec w2 s.2 0 ∧ w.heap.size ≤ s.2 ∧ s.1 ≠ s.2) ?_ ?_
 ·rintro ⟨p0, p7⟩ w2 hF
  have HF := Aside0.mk (show Below w.heap.size w w2 ∧ Rec w2 p0 0 ∧ w.heap.size ≤ p0 ∧ Rec w2 p7 0 ∧ w.heap.size ≤ p7 ∧ p0 ≠ p7 from hF)
  clear hF
  refine norm_ (a':=?_) ?_ ?_
  rotate_left
  ·simp only [putAll, Act.put, List.setIfInBounds_toArray, List.set_cons_zero, List.set_cons_succ]
   rfl
  refine one_ (i:=5) (N:=some 14) #[true,true,true,true,true,true,false,true,true,true,true,true,false,false,false,false] rfl rfl (by kernel_rfl) (by decide) (fun K_ hK => ?_)
  refine goes_ Try.func102 (by kernel_rfl) rfl #[.pointer (some ⟨b_y, 0, none⟩)] (by rfl) rfl rfl (by (try simp only [List.map_toArray, List.map_cons, List.map_nil]); first | done | rfl) ?_
  refine (denom_any b_y y k w2 (RI.below Hy.out HF.out.1) HK.out.1 HK.out.2.2).mono ?_
  rintro e w3 ⟨p5, rfl, g1, g2, g3, g4⟩
  refine ⟨_, rfl, ?_⟩
  refine hK.out _ _ trivial (fun hHeld => ?_)
  clear hK K_
  refine norm_ (a':=?_) ?_ ?_
  rotate_left
  ·show Act.put _ (some 14) _ = _
   go_simp
   rfl
  refine norm_ (a' := _) ?_ (hTTFTFF (p0, p5, p7) w3 ⟨below_step HF.out.1 g4, Rec.below HF.out.2.1 g4, HF.out.2.2.1, g2, Rec.below HF.out.2.2.2.1 g4, HF.out.2.2.2.2.1, HF.out.2.2.2.2.2⟩)
  ·simp only [putAll, Act.put, List.setIfInBounds_toArray, List.set_cons_zero, List.set_cons_succ]
   try rfl
 intro hTFFTFF
 refine join_ (σ := Nat) (fuel' := 7) #[true, true, true, true, true, false, false, false, true, true, true, true, false, false, false, false] (fun s => [(9, .pointer (some ⟨s, 0, none⟩))]) (fun s w2 => Below w.heap.size w w2 ∧ Rec w2 s 0 ∧ w.heap.size ≤ s) ?_ ?_
 ·rintro p0 w2 hF
  have HF := Aside0.mk (show Below w.heap.size w w2 ∧ Rec w2 p0 0 ∧ w.heap.size ≤ p0 from hF)
  clear hF
  refine norm_ (a':=?_) ?_ ?_
  rotate_left
  ·simp only [putAll, Act.put, List.setIfInBounds_toArray, List.set_cons_zero, List.set_cons_succ]
   rfl
  refine two_ (i:=5) (j := 7) (Ni := some 14) (Nj := some 16) #[true,true,true,true,true,true,false,false,true,true,true,true,false,false,false,false] #[true,true,true,true,true,false,false,true,true,true,true,true,false,false,false,false] rfl rfl rfl rfl (by kernel_rfl) (by decide) (by decide) (fun K_ hK => ?_) (fun K_ hK => ?_)
  ·refine goes_ Try.func102 (by kernel_rfl) rfl #[.pointer (some ⟨b_y, 0, none⟩)] (by rfl) rfl rfl (by (try simp only [List.map_toArray, List.map_cons, List.map_nil]); first | done | rfl) ?_
   refine (denom_any b_y y k w2 (RI.below Hy.out HF.out.1) HK.out.1 HK.out.2.2).mono ?_
   rintro e w3 ⟨p5, rfl, g1, g2, g3, g4⟩
   refine ⟨_, rfl, ?_⟩
   refine hK.out _ _ trivial (fun hHeld => ?_)
   clear hK K_
   refine norm_ (a':=?_) ?_ ?_
   rotate_left
   ·show Act.put _ (some 14) _ = _
    go_simp
    rfl
   refine norm_ (a' := _) ?_ (hTTFFFF (p0, p5) w3 ⟨below_step HF.out.1 g4, Rec.below HF.out.2.1 g4, HF.out.2.2, g2⟩)
   ·simp only [putAll, Act.put, List.setIfInBounds_toArray, List.set_cons_zero, List.set_cons_succ]
    try rfl
  ·refine value_ (v := .pointer (some ⟨w2.heap.size, 0, none⟩)) (w1 := w2.alloc ZB) (by rfl) rfl ?_ ?_
   ·go_simp
    first | done | exact ⟨rfl, rfl⟩ | rfl
   refine hK.out _ _ trivial (fun hHeld => ?_)
   clear hK K_
   refine norm_ (a':=?_) ?_ ?_
   rotate_left
   ·show Act.put _ (some 16) _ = _
    go_simp
    rfl
   refine norm_ (a' := _) ?_ (hTFFTFF (p0, w2.heap.size) (w2.alloc ZB) ⟨below_step HF.out.1 (below_alloc (Below.refl w2.heap.size w2) ZB), Rec.below HF.out.2.1 (below_alloc (Below.refl w2.heap.size w2) ZB), HF.out.2.2, Rec.new w2, (HF.out.1).size, Nat.ne_of_lt (Rec.lt HF.out.2.1)⟩)
   ·simp only [putAll, Act.put, List.setIfInBounds_toArray, List.set_cons_zero, List.set_cons_succ]
    try rfl
 intro hTFFFFF
 refine join_ (σ := Nat × Nat) (fuel' := 6) #[false, true, true, true, true, true, false, true, true, true, true, true, false, false, false, false] (fun s => [(14, .pointer (some ⟨s.1, 0, none⟩)), (16, .pointer (some ⟨s.2, 0, none⟩))]) (fun s w2 => Below w.heap.size w w2 ∧ BI w2 s.1 0 (y.den : Int) ∧ Rec w2 s.2 0 ∧ w.heap.size ≤ s.2) ?_ ?_
 ·rintro ⟨p5, p7⟩ w2 hF
  have HF := Aside0.mk (show Below w.heap.size w w2 ∧ BI w2 p5 0 (y.den : Int) ∧ Rec w2 p7 0 ∧ w.heap.size ≤ p7 from hF)
  clear hF
  refine norm_ (a':=?_) ?_ ?_
  rotate_left
  ·simp only [putAll, Act.put, List.setIfInBounds_toArray, List.set_cons_zero, List.set_cons_succ]
   rfl
  refine one_ (i:=0) (N:=some 9) #[true,true,true,true,true,true,false,true,true,true,true,true,false,false,false,false] rfl rfl (by kernel_rfl) (by decide) (fun K_ hK => ?_)
  refine value_ (v := .pointer (some ⟨w2.heap.size, 0, none⟩)) (w1 := w2.alloc ZB) (by rfl) rfl ?_ ?_
  ·go_simp
   first | done | exact ⟨rfl, rfl⟩ | rfl
  refine hK.out _ _ trivial (fun hHeld => ?_)
  clear hK K_
  refine norm_ (a':=?_) ?_ ?_
  rotate_left
  ·show Act.put _ (some 9) _ = _
   go_simp
   rfl
  refine norm_ (a' := _) ?_ (hTTFTFF (w2.heap.size, p5, p7) (w2.alloc ZB) ⟨below_step HF.out.1 (below_alloc (Below.refl w2.heap.size w2) ZB), Rec.new w2, (HF.out.1).size, BI.below HF.out.2.1 (below_alloc (Below.refl w2.heap.size w2) ZB), Rec.below HF.out.2.2.1 (below_alloc (Below.refl w2.heap.size w2) ZB), HF.out.2.2.2, Nat.ne_of_gt (Rec.lt HF.out.2.2.1)⟩)
  ·simp only [putAll, Act.put, List.setIfInBounds_toArray, List.set_cons_zero, List.set_cons_succ]
   try rfl
 intro hFTFTFF
 refine join_ (σ := Nat) (fuel' := 7) #[false, true, true, true, true, true, false, false, true, true, true, true, false, false, false, false] (fun s => [(14, .pointer (some ⟨s, 0, none⟩))]) (fun s w2 => Below w.heap.size w w2 ∧ BI w2 s 0 (y.den : Int)) ?_ ?_
 ·rintro p5 w2 hF
  have HF := Aside0.mk (show Below w.heap.size w w2 ∧ BI w2 p5 0 (y.den : Int) from hF)
  clear hF
  refine norm_ (a':=?_) ?_ ?_
  rotate_left
  ·simp only [putAll, Act.put, List.setIfInBounds_toArray, List.set_cons_zero, List.set_cons_succ]
   rfl
  refine two_ (i:=0) (j := 7) (Ni := some 9) (Nj := some 16) #[true,true,true,true,true,true,false,false,true,true,true,true,false,false,false,false] #[false,true,true,true,true,true,false,true,true,true,true,true,false,false,false,false] rfl rfl rfl rfl (by kernel_rfl) (by decide) (by decide) (fun K_ hK => ?_) (fun K_ hK => ?_)
  ·refine value_ (v := .pointer (some ⟨w2.heap.size, 0, none⟩)) (w1 := w2.alloc ZB) (by rfl) rfl ?_ ?_
   ·go_simp
    first | done | exact ⟨rfl, rfl⟩ | rfl
   refine hK.out _ _ trivial (fun hHeld => ?_)
   clear hK K_
   refine norm_ (a':=?_) ?_ ?_
   rotate_left
   ·show Act.put _ (some 9) _ = _
    go_simp
    rfl
   refine norm_ (a' := _) ?_ (hTTFFFF (w2.heap.size, p5) (w2.alloc ZB) ⟨below_step HF.out.1 (below_alloc (Below.refl w2.heap.size w2) ZB), Rec.new w2, (HF.out.1).size, BI.below HF.out.2 (below_alloc (Below.refl w2.heap.size w2) ZB)⟩)
   ·simp only [putAll, Act.put, List.setIfInBounds_toArray, List.set_cons_zero, List.set_cons_succ]
    try rfl
  ·refine value_ (v := .pointer (some ⟨w2.heap.size, 0, none⟩)) (w1 := w2.alloc ZB) (by rfl) rfl ?_ ?_
   ·go_simp
    first | done | exact ⟨rfl, rfl⟩ | rfl
   refine hK.out _ _ trivial (fun hHeld => ?_)
   clear hK K_
   refine norm_ (a':=?_) ?_ ?_
   rotate_left
   ·show Act.put _ (some 16) _ = _
    go_simp
    rfl
   refine norm_ (a' := _) ?_ (hFTFTFF (p5, w2.heap.size) (w2.alloc ZB) ⟨below_step HF.out.1 (below_alloc (Below.refl w2.heap.size w2) ZB), BI.below HF.out.2 (below_alloc (Below.refl w2.heap.size w2) ZB), Rec.new w2, (HF.out.1).size⟩)
   ·simp only [putAll, Act.put, List.setIfInBounds_toArray, List.set_cons_zero, List.set_cons_succ]
    try rfl
 intro hFTFFFF
 refine join_ (σ := Nat) (fuel' := 7) #[false, true, true, true, true, false, false, true, true, true, true, true, false, false, false, false] (fun s => [(16, .pointer (some ⟨s, 0, none⟩))]) (fun s w2 => Below w.heap.size w w2 ∧ Rec w2 s 0 ∧ w.heap.size ≤ s) ?_ ?_
 ·rintro p7 w2 hF
  have HF := Aside0.mk (show Below w.heap.size w w2 ∧ Rec w2 p7 0 ∧ w.heap.size ≤ p7 from hF)
  clear hF
  refine norm_ (a':=?_) ?_ ?_
  rotate_left
  ·simp only [putAll, Act.put, List.setIfInBounds_toArray, List.set_cons_zero, List.set_cons_succ]
   rfl
  refine two_ (i:=0) (j := 5) (Ni := some 9) (Nj := some 14) #[true,true,true,true,true,false,false,true,true,true,true,true,false,false,false,false] #[false,true,true,true,true,true,false,true,true,true,true,true,false,false,false,false] rfl rfl rfl rfl (by kernel_rfl) (by decide) (by decide) (fun K_ hK => ?_) (fun K_ hK => ?_)
  ·refine value_ (v := .pointer (some ⟨w2.heap.size, 0, none⟩)) (w1 := w2.alloc ZB) (by rfl) rfl ?_ ?_
   ·go_simp
    first | done | exact ⟨rfl, rfl⟩ | rfl
   refine hK.out _ _ trivial (fun hHeld => ?_)
   clear hK K_
   refine norm_ (a':=?_) ?_ ?_
   rotate_left
   ·show Act.put _ (some 9) _ = _
    go_simp
    rfl
   refine norm_ (a' := _) ?_ (hTFFTFF (w2.heap.size, p7) (w2.alloc ZB) ⟨below_step HF.out.1 (below_alloc (Below.refl w2.heap.size w2) ZB), Rec.new w2, (HF.out.1).size, Rec.below HF.out.2.1 (below_alloc (Below.refl w2.heap.size w2) ZB), HF.out.2.2, Nat.ne_of_gt (Rec.lt HF.out.2.1)⟩)
   ·simp only [putAll, Act.put, List.setIfInBounds_toArray, List.set_cons_zero, List.set_cons_succ]
    try rfl
  ·refine goes_ Try.func102 (by kernel_rfl) rfl #[.pointer (some ⟨b_y, 0, none⟩)] (by rfl) rfl rfl (by (try simp only [List.map_toArray, List.map_cons, List.map_nil]); first | done | rfl) ?_
   refine (denom_any b_y y k w2 (RI.below Hy.out HF.out.1) HK.out.1 HK.out.2.2).mono ?_
   rintro e w3 ⟨p5, rfl, g1, g2, g3, g4⟩
   refine ⟨_, rfl, ?_⟩
   refine hK.out _ _ trivial (fun hHeld => ?_)
   clear hK K_
   refine norm_ (a':=?_) ?_ ?_
   rotate_left
   ·show Act.put _ (some 14) _ = _
    go_simp
    rfl
   refine norm_ (a' := _) ?_ (hFTFTFF (p5, p7) w3 ⟨below_step HF.out.1 g4, g2, Rec.below HF.out.2.1 g4, HF.out.2.2⟩)
   ·simp only [putAll, Act.put, List.setIfInBounds_toArray, List.set_cons_zero, List.set_cons_succ]
    try rfl
 intro hFFFTFF
 refine three_ (i := 0) (j := 5) (k := 7) (Ni := some 9) (Nj := some 14) (Nk := some 16) #[true, true, true, true, true, false, false, false, true, true, true, true, false, false, false, false] #[false, true, true, true, true, true, false, false, true, true, true, true, false, false, false, false] #[false, true, true, true, true, false, false, true, true, true, true, true, false, false, false, false] rfl rfl rfl rfl rfl rfl (by kernel_rfl) (by decide) (by decide) (by decide) (fun K_ hK => ?_) (fun K_ hK => ?_) (fun K_ hK => ?_)
 ·refine value_ (v := .pointer (some ⟨w.drew.heap.size, 0, none⟩)) (w1 := w.drew.alloc ZB) (by rfl) rfl ?_ ?_
  ·go_simp
   first | done | exact ⟨rfl, rfl⟩ | rfl
  refine hK.out _ _ trivial (fun hHeld => ?_)
  clear hK K_
  refine norm_ (a':=?_) ?_ ?_
  rotate_left
  ·show Act.put _ (some 9) _ = _
   go_simp
   rfl
  refine norm_ (a' := _) ?_ (hTFFFFF w.drew.heap.size (w.drew.alloc ZB) ⟨below_step (below_drew (Below.refl w.heap.size w)) (below_alloc (Below.refl w.drew.heap.size w.drew) ZB), Rec.new w.drew, ((below_drew (Below.refl w.heap.size w))).size⟩)
  ·simp only [putAll, Act.put, List.setIfInBounds_toArray, List.set_cons_zero, List.set_cons_succ]
   try rfl
 ·refine goes_ Try.func102 (by kernel_rfl) rfl #[.pointer (some ⟨b_y, 0, none⟩)] (by rfl) rfl rfl (by (try simp only [List.map_toArray, List.map_cons, List.map_nil]); first | done | rfl) ?_
  refine (denom_any b_y y k w.drew (RI.below Hy.out (below_drew (Below.refl w.heap.size w))) HK.out.1 HK.out.2.2).mono ?_
  rintro e w3 ⟨p5, rfl, g1, g2, g3, g4⟩
  refine ⟨_, rfl, ?_⟩
  refine hK.out _ _ trivial (fun hHeld => ?_)
  clear hK K_
  refine norm_ (a':=?_) ?_ ?_
  rotate_left
  ·show Act.put _ (some 14) _ = _
   go_simp
   rfl
  refine norm_ (a' := _) ?_ (hFTFFFF p5 w3 ⟨below_step (below_drew (Below.refl w.heap.size w)) g4, g2⟩)
  ·simp only [putAll, Act.put, List.setIfInBounds_toArray, List.set_cons_zero, List.set_cons_succ]
   try rfl
 ·refine value_ (v := .pointer (some ⟨w.drew.heap.size, 0, none⟩)) (w1 := w.drew.alloc ZB) (by rfl) rfl ?_ ?_
  ·go_simp
   first | done | exact ⟨rfl, rfl⟩ | rfl
  refine hK.out _ _ trivial (fun hHeld => ?_)
  clear hK K_
  refine norm_ (a':=?_) ?_ ?_
  rotate_left
  ·show Act.put _ (some 16) _ = _
   go_simp
   rfl
  refine norm_ (a' := _) ?_ (hFFFTFF w.drew.heap.size (w.drew.alloc ZB) ⟨below_step (below_drew (Below.refl w.heap.size w)) (below_alloc (Below.refl w.drew.heap.size w.drew) ZB), Rec.new w.drew, ((below_drew (Below.refl w.heap.size w))).size⟩)
  ·simp only [putAll, Act.put, List.setIfInBounds_toArray, List.set_cons_zero, List.set_cons_succ]
   try rfl
set_option maxHeartbeats 8000000 in
set_option maxRecDepth 100000 in
theorem rmul_any (bz bx b_y lo : Nat) (x y : Rat) (k : Nat) (w : World) (hx : RI w bx x) (hy : RI w b_y y) (hr : RR w bz) (hlo : lo ≤ bz) (hk : 2 * k + 1 ≤ 1000000) (hsx : Sm k x) (hsy : Sm k y) :
  Calls Try.prog 136 #[.pointer (some ⟨bz, 0, none⟩), .pointer (some ⟨bx, 0, none⟩), .pointer (some ⟨b_y, 0, none⟩)] w (SetR bz lo (x * y) w) := by
 have hu := Try.underlying114
 have hu2 := Try.underlying110
 have Hx := Aside0.mk hx
 have Hy := Aside0.mk hy
 have HR := Aside0.mk hr
 have HK2 := Aside0.mk hk
 have HK := Aside0.mk (show k ≤ 1000000 ∧ Sm k x ∧ Sm k y from ⟨by omega, hsx, hsy⟩)
 have HL := Aside0.mk (And.intro hlo hr.lt)
 have HS := Aside0.mk (sizes2 hsx hsy)
 clear hx hy hr hlo hk hsx hsy
 go_enter Try.func136, Try.ntmps136
 go_wp2_with (fail)
 refine start_ (n:=17) (S := fun w' => True) (ds:=[]) #[false,false,false,false,false,false,false,false,false,false,false,false,false,false,false,false,false] (by kernel_rfl) rfl rfl trivial (fun hHeld => ?_)
 refine pure_ (i:=0) (N:=some 7) (v:=?_) (a':=?_) #[true,false,false,false,false,false,false,false,false,false,false,false,false,false,false,false,false] rfl rfl (by kernel_rfl) (fun _ _ _ h => h) (Or.inl ⟨by rfl, ?_⟩) ?_ ?_
 rotate_left
 ·intro w'
  go_simp
  with_reducible rfl
 rotate_left
 ·go_simp
  rfl
 refine pure_ (i:=2) (N:=some 9) (v:=?_) (a':=?_) #[true,false,true,false,false,false,false,false,false,false,false,false,false,false,false,false,false] rfl rfl (by kernel_rfl) (fun _ _ _ h => h) (Or.inl ⟨by rfl, ?_⟩) ?_ ?_
 rotate_left
 ·intro w'
  go_simp
  with_reducible rfl
 rotate_left
 ·go_simp
  rfl
 refine pure_ (i:=3) (N:=some 10) (v:=?_) (a':=?_) #[true,false,true,true,false,false,false,false,false,false,false,false,false,false,false,false,false] rfl rfl (by kernel_rfl) (fun _ _ _ h => h) (Or.inl ⟨by rfl, ?_⟩) ?_ ?_
 rotate_left
 ·intro w'
  go_simp
  with_reducible rfl
 rotate_left
 ·go_simp
  rfl
 refine pure_ (i:=4) (N:=some 11) (v:=?_) (a':=?_) #[true,false,true,true,true,false,false,false,false,false,false,false,false,false,false,false,false] rfl rfl (by kernel_rfl) (fun _ _ _ h => h) (Or.inl ⟨by rfl, ?_⟩) ?_ ?_
 rotate_left
 ·intro w'
  go_simp
  with_reducible rfl
 rotate_left
 ·go_simp
  rfl
 refine pure_ (i:=5) (N:=some 12) (v:=?_) (a':=?_) #[true,false,true,true,true,true,false,false,false,false,false,false,false,false,false,false,false] rfl rfl (by kernel_rfl) (fun _ _ _ h => h) (Or.inl ⟨by rfl, ?_⟩) ?_ ?_
 rotate_left
 ·intro w'
  go_simp
  with_reducible rfl
 rotate_left
 ·go_simp
  rfl
 refine pure_ (i:=6) (N:=some 13) (v:=?_) (a':=?_) #[true,false,true,true,true,true,true,false,false,false,false,false,false,false,false,false,false] rfl rfl (by kernel_rfl) (fun _ _ _ h => h) (Or.inl ⟨by rfl, ?_⟩) ?_ ?_
 rotate_left
 ·intro w'
  go_simp
  with_reducible rfl
 rotate_left
 ·go_simp
  rfl
 refine pure_ (i:=7) (N:=some 14) (v:=?_) (a':=?_) #[true,false,true,true,true,true,true,true,false,false,false,false,false,false,false,false,false] rfl rfl (by kernel_rfl) (fun _ _ _ h => h) (Or.inl ⟨by rfl, ?_⟩) ?_ ?_
 rotate_left
 ·intro w'
  go_simp
  with_reducible rfl
 rotate_left
 ·go_simp
  rfl
 refine pure_ (i:=10) (N:=some 17) (v:=?_) (a':=?_) #[true,false,true,true,true,true,true,true,false,false,true,false,false,false,false,false,false] rfl rfl (by kernel_rfl) (fun _ _ _ h => h) (Or.inl ⟨by rfl, ?_⟩) ?_ ?_
 rotate_left
 ·intro w'
  go_simp
  with_reducible rfl
 rotate_left
 ·go_simp
  rfl
 refine pure_ (i:=12) (N:=some 19) (v:=?_) (a':=?_) #[true,false,true,true,true,true,true,true,false,false,true,false,true,false,false,false,false] rfl rfl (by kernel_rfl) (fun _ _ _ h => h) (Or.inl ⟨by rfl, ?_⟩) ?_ ?_
 rotate_left
 ·intro w'
  go_simp
  with_reducible rfl
 rotate_left
 ·go_simp
  rfl
 refine join_ (σ := Nat × Nat × Nat × Nat) (fuel' := 0) #[true, true, true, true, true, true, true, true, true, true, true, true, true, true, true, true, true] (fun s => [(6, .pointer (some ⟨bz, 0, none⟩)), (8, .pointer (some ⟨s.1, 0, none⟩)), (15, .pointer (some ⟨s.1, 0, none⟩)), (16, .pointer (some ⟨s.2.1, 0, none⟩)), (18, .pointer (some ⟨s.2.2.1, 0, none⟩)), (20, .pointer (some ⟨s.2.2.2, 0, none⟩)), (21, .pointer (some ⟨s.2.1, 0, none⟩)), (22, .pointer (some ⟨bz, 0, none⟩))]) (fun s w2 => RI w2 bz (x * y) ∧ Below lo w w2) ?_ ?_
 ·rintro ⟨p1, p9, p11, p13⟩ w2 hF
  have HF := Aside0.mk (show RI w2 bz (x * y) ∧ Below lo w w2 from hF)
  clear hF
  refine norm_ (a':=?_) ?_ ?_
  rotate_left
  ·simp only [putAll, Act.put, List.setIfInBounds_toArray, List.set_cons_zero, List.set_cons_succ]
   rfl
  refine done_ (by kernel_rfl) ?_
  go_wp2_with (fail)
  go_ret
  exact ⟨rfl, HF.out⟩
 intro hTTTTTTT
 refine join_ (σ := Nat × Nat × Nat × Nat) (fuel' := 2) #[true, true, true, true, true, true, true, true, true, true, true, true, true, true, true, false, false] (fun s => [(8, .pointer (some ⟨s.1, 0, none⟩)), (15, .pointer (some ⟨s.1, 0, none⟩)), (16, .pointer (some ⟨s.2.1, 0, none⟩)), (18, .pointer (some ⟨s.2.2.1, 0, none⟩)), (20, .pointer (some ⟨s.2.2.2, 0, none⟩)), (21, .pointer (some ⟨s.2.1, 0, none⟩))]) (fun s w2 => Below w.heap.size w w2 ∧ Rec w2 s.1 0 ∧ w.heap.size ≤ s.1 ∧ BI w2 s.1 0 (x.num * y.num) ∧ Rec w2 s.2.1 0 ∧ w.heap.size ≤ s.2.1 ∧ BI w2 s.2.1 0 ((x.den : Int) * (y.den : Int)) ∧ s.1 ≠ s.2.1) ?_ ?_
 ·rintro ⟨p1, p9, p11, p13⟩ w2 hF
  have HF := Aside0.mk (show Below w.heap.size w w2 ∧ Rec w2 p1 0 ∧ w.heap.size ≤ p1 ∧ BI w2 p1 0 (x.num * y.num) ∧ Rec w2 p9 0 ∧ w.heap.size ≤ p9 ∧ BI w2 p9 0 ((x.den : Int) * (y.den : Int)) ∧ p1 ≠ p9 from hF)
  clear hF
  refine norm_ (a':=?_) ?_ ?_
  rotate_left
  ·simp only [putAll, Act.put, List.setIfInBounds_toArray, List.set_cons_zero, List.set_cons_succ]
   rfl
  refine one_ (i:=15) (N:=some 22) #[true,true,true,true,true,true,true,true,true,true,true,true,true,true,true,true,false] rfl rfl (by kernel_rfl) (by decide) (fun K_ hK => ?_)
  refine goes_ Try.func137 (by kernel_rfl) rfl #[.pointer (some ⟨bz, 0, none⟩), .pointer (some ⟨p1, 0, none⟩), .pointer (some ⟨p9, 0, none⟩)] (by rfl) rfl rfl (by (try simp only [List.map_toArray, List.map_cons, List.map_nil]); first | done | rfl) ?_
  refine (setFrac_any bz p1 0 p9 0 lo (x.num * y.num) ((x.den : Int) * (y.den : Int)) (2 * k + 1) w2 HF.out.2.2.2.1 HF.out.2.2.2.2.2.2.1 (HR.out.below HF.out.1) HL.out.1 HK2.out HS.out.1 HS.out.2 (Int.mul_ne_zero (den_ne x) (den_ne y))).mono ?_
  rintro e w3 ⟨rfl, g1, g2⟩
  rw [mul_eq] at g1
  refine ⟨_, rfl, ?_⟩
  refine hK.out _ _ trivial (fun hHeld => ?_)
  clear hK K_
  refine norm_ (a':=?_) ?_ ?_
  rotate_left
  ·show Act.put _ (some 22) _ = _
   go_simp
   rfl
  refine pure_ (i:=16) (N:=some 6) (v:=?_) (a':=?_) #[true,true,true,true,true,true,true,true,true,true,true,true,true,true,true,true,true] rfl rfl (by kernel_rfl) (fun _ _ _ h => h) (Or.inl ⟨by rfl, ?_⟩) ?_ ?_
  rotate_left
  ·intro w'
   go_simp
   with_reducible rfl
  rotate_left
  ·go_simp
   rfl
  refine norm_ (a' := _) ?_ (hTTTTTTT (p1, p9, p11, p13) w3 ⟨g1, ((HF.out.1).mono (show lo ≤ w.heap.size by have := HL.out; omega)).trans g2⟩)
  ·simp only [putAll, Act.put, List.setIfInBounds_toArray, List.set_cons_zero, List.set_cons_succ]
   try rfl
 intro hTTTTTTF
 refine join_ (σ := Nat × Nat × Nat × Nat) (fuel' := 3) #[true, true, true, true, true, true, true, true, true, true, true, true, true, true, false, false, false] (fun s => [(8, .pointer (some ⟨s.1, 0, none⟩)), (15, .pointer (some ⟨s.1, 0, none⟩)), (16, .pointer (some ⟨s.2.1, 0, none⟩)), (18, .pointer (some ⟨s.2.2.1, 0, none⟩)), (20, .pointer (some ⟨s.2.2.2, 0, none⟩))]) (fun s w2 => Below w.heap.size w w2 ∧ Rec w2 s.1 0 ∧ w.heap.size ≤ s.1 ∧ BI w2 s.1 0 (x.num * y.num) ∧ Rec w2 s.2.1 0 ∧ w.heap.size ≤ s.2.1 ∧ BI w2 s.2.2.1 0 (x.den : Int) ∧ BI w2 s.2.2.2 0 (y.den : Int) ∧ s.1 ≠ s.2.1) ?_ ?_
 ·rintro ⟨p1, p9, p11, p13⟩ w2 hF
  have HF := Aside0.mk (show Below w.heap.size w w2 ∧ Rec w2 p1 0 ∧ w.heap.size ≤ p1 ∧ BI w2 p1 0 (x.num * y.num) ∧ Rec w2 p9 0 ∧ w.heap.size ≤ p9 ∧ BI w2 p11 0 (x.den : Int) ∧ BI w2 p13 0 (y.den : Int) ∧ p1 ≠ p9 from hF)
  clear hF
  refine norm_ (a':=?_) ?_ ?_
  rotate_left
  ·simp only [putAll, Act.put, List.setIfInBounds_toArray, List.set_cons_zero, List.set_cons_succ]
   rfl
  refine one_ (i:=14) (N:=some 21) #[true,true,true,true,true,true,true,true,true,true,true,true,true,true,true,false,false] rfl rfl (by kernel_rfl) (by decide) (fun K_ hK => ?_)
  refine goes_ Try.func103 (by kernel_rfl) rfl #[.pointer (some ⟨p9, 0, none⟩), .pointer (some ⟨p11, 0, none⟩), .pointer (some ⟨p13, 0, none⟩)] (by rfl) rfl rfl (by (try simp only [List.map_toArray, List.map_cons, List.map_nil]); first | done | rfl) ?_
  refine (mul_any p9 0 p11 0 p13 0 (x.den : Int) (y.den : Int) k w2 HF.out.2.2.2.2.2.2.1 HF.out.2.2.2.2.2.2.2.1 HF.out.2.2.2.2.1 HK.out.1 (by have := HK.out.2.1.2; omega) (by have := HK.out.2.2.2; omega)).mono ?_
  rintro e w3 ⟨rfl, hp⟩
  refine ⟨_, rfl, ?_⟩
  refine hK.out _ _ trivial (fun hHeld => ?_)
  clear hK K_
  refine norm_ (a':=?_) ?_ ?_
  rotate_left
  ·show Act.put _ (some 21) _ = _
   go_simp
   rfl
  refine norm_ (a' := _) ?_ (hTTTTTTF (p1, p9, p11, p13) w3 ⟨(HF.out.1).trans (hp.below HF.out.2.2.2.2.2.1 (HF.out.1).size), PutAt.recO hp HF.out.2.1 HF.out.2.2.2.2.2.2.2.2, HF.out.2.2.1, PutAt.other hp HF.out.2.2.2.2.1 HF.out.2.2.2.1 HF.out.2.2.2.2.2.2.2.2, hp.rec HF.out.2.2.2.2.1, HF.out.2.2.2.2.2.1, hp.bi HF.out.2.2.2.2.1, HF.out.2.2.2.2.2.2.2.2⟩)
  ·simp only [putAll, Act.put, List.setIfInBounds_toArray, List.set_cons_zero, List.set_cons_succ]
   try rfl
 intro hTTTTTFF
 refine join_ (σ := Nat × Nat × Nat) (fuel' := 4) #[true, true, true, true, true, true, true, true, true, true, true, true, true, false, false, false, false] (fun s => [(8, .pointer (some ⟨s.1, 0, none⟩)), (15, .pointer (some ⟨s.1, 0, none⟩)), (16, .pointer (some ⟨s.2.1, 0, none⟩)), (18, .pointer (some ⟨s.2.2, 0, none⟩))]) (fun s w2 => Below w.heap.size w w2 ∧ Rec w2 s.1 0 ∧ w.heap.size ≤ s.1 ∧ BI w2 s.1 0 (x.num * y.num) ∧ Rec w2 s.2.1 0 ∧ w.heap.size ≤ s.2.1 ∧ BI w2 s.2.2 0 (x.den : Int) ∧ s.1 ≠ s.2.1) ?_ ?_
 ·rintro ⟨p1, p9, p11⟩ w2 hF
  have HF := Aside0.mk (show Below w.heap.size w w2 ∧ Rec w2 p1 0 ∧ w.heap.size ≤ p1 ∧ BI w2 p1 0 (x.num * y.num) ∧ Rec w2 p9 0 ∧ w.heap.size ≤ p9 ∧ BI w2 p11 0 (x.den : Int) ∧ p1 ≠ p9 from hF)
  clear hF
  refine norm_ (a':=?_) ?_ ?_
  rotate_left
  ·simp only [putAll, Act.put, List.setIfInBounds_toArray, List.set_cons_zero, List.set_cons_succ]
   rfl
  refine one_ (i:=13) (N:=some 20) #[true,true,true,true,true,true,true,true,true,true,true,true,true,true,false,false,false] rfl rfl (by kernel_rfl) (by decide) (fun K_ hK => ?_)
  refine goes_ Try.func102 (by kernel_rfl) rfl #[.pointer (some ⟨b_y, 0, none⟩)] (by rfl) rfl rfl (by (try simp only [List.map_toArray, List.map_cons, List.map_nil]); first | done | rfl) ?_
  refine (denom_any b_y y k w2 (RI.below Hy.out HF.out.1) HK.out.1 HK.out.2.2).mono ?_
  rintro e w3 ⟨p13, rfl, g1, g2, g3, g4⟩
  refine ⟨_, rfl, ?_⟩
  refine hK.out _ _ trivial (fun hHeld => ?_)
  clear hK K_
  refine norm_ (a':=?_) ?_ ?_
  rotate_left
  ·show Act.put _ (some 20) _ = _
   go_simp
   rfl
  refine norm_ (a' := _) ?_ (hTTTTTFF (p1, p9, p11, p13) w3 ⟨below_step HF.out.1 g4, Rec.below HF.out.2.1 g4, HF.out.2.2.1, BI.below HF.out.2.2.2.1 g4, Rec.below HF.out.2.2.2.2.1 g4, HF.out.2.2.2.2.2.1, BI.below HF.out.2.2.2.2.2.2.1 g4, g2, HF.out.2.2.2.2.2.2.2⟩)
  ·simp only [putAll, Act.put, List.setIfInBounds_toArray, List.set_cons_zero, List.set_cons_succ]
   try rfl
 intro hTTTTFFF
 refine join_ (σ := Nat × Nat) (fuel' := 5) #[true, true, true, true, true, true, true, true, true, true, true, false, true, false, false, false, false] (fun s => [(8, .pointer (some ⟨s.1, 0, none⟩)), (15, .pointer (some ⟨s.1, 0, none⟩)), (16, .pointer (some ⟨s.2, 0, none⟩))]) (fun s w2 => Below w.heap.size w w2 ∧ Rec w2 s.1 0 ∧ w.heap.size ≤ s.1 ∧ BI w2 s.1 0 (x.num * y.num) ∧ Rec w2 s.2 0 ∧ w.heap.size ≤ s.2 ∧ s.1 ≠ s.2) ?_ ?_
 ·rintro ⟨p1, p9⟩ w2 hF
  have HF := Aside0.mk (show Below w.heap.size w w2 ∧ Rec w2 p1 0 ∧ w.heap.size ≤ p1 ∧ BI w2 p1 0 (x.num * y.num) ∧ Rec w2 p9 0 ∧ w.heap.size ≤ p9 ∧ p1 ≠ p9 from hF)
  clear hF
  refine norm_ (a':=?_) ?_ ?_
  rotate_left
  ·simp only [putAll, Act.put, List.setIfInBounds_toArray, List.set_cons_zero, List.set_cons_succ]
   rfl
  refine one_ (i:=11) (N:=some 18) #[true,true,true,true,true,true,true,true,true,true,true,true,true,false,false,false,false] rfl rfl (by kernel_rfl) (by decide) (fun K_ hK => ?_)
  refine goes_ Try.func102 (by kernel_rfl) rfl #[.pointer (some ⟨bx, 0, none⟩)] (by rfl) rfl rfl (by (try simp only [List.map_toArray, List.map_cons, List.map_nil]); first | done | rfl) ?_
  refine (denom_any bx x k w2 (RI.below Hx.out HF.out.1) HK.out.1 HK.out.2.1).mono ?_
  rintro e w3 ⟨p11, rfl, g1, g2, g3, g4⟩
  refine ⟨_, rfl, ?_⟩
  refine hK.out _ _ trivial (fun hHeld => ?_)
  clear hK K_
  refine norm_ (a':=?_) ?_ ?_
  rotate_left
  ·show Act.put _ (some 18) _ = _
   go_simp
   rfl
  refine norm_ (a' := _) ?_ (hTTTTFFF (p1, p9, p11) w3 ⟨below_step HF.out.1 g4, Rec.below HF.out.2.1 g4, HF.out.2.2.1, BI.below HF.out.2.2.2.1 g4, Rec.below HF.out.2.2.2.2.1 g4, HF.out.2.2.2.2.2.1, g2, HF.out.2.2.2.2.2.2⟩)
  ·simp only [putAll, Act.put, List.setIfInBounds_toArray, List.set_cons_zero, List.set_cons_succ]
   try rfl
 intro hTTTFFFF
 refine join_ (σ := Nat × Nat × Nat) (fuel' := 4) #[true, true, true, true, true, true, true, true, true, false, true, true, true, true, false, false, false] (fun s => [(8, .pointer (some ⟨s.1, 0, none⟩)), (15, .pointer (some ⟨s.1, 0, none⟩)), (18, .pointer (some ⟨s.2.1, 0, none⟩)), (20, .pointer (some ⟨s.2.2, 0, none⟩))]) (fun s w2 => Below w.heap.size w w2 ∧ Rec w2 s.1 0 ∧ w.heap.size ≤ s.1 ∧ BI w2 s.1 0 (x.num * y.num) ∧ BI w2 s.2.1 0 (x.den : Int) ∧ BI w2 s.2.2 0 (y.den : Int)) ?_ ?_
 ·rintro ⟨p1, p11, p13⟩ w2 hF
  have HF := Aside0.mk (show Below w.heap.size w w2 ∧ Rec w2 p1 0 ∧ w.heap.size ≤ p1 ∧ BI w2 p1 0 (x.num * y.num) ∧ BI w2 p11 0 (x.den : Int) ∧ BI w2 p13 0 (y.den : Int) from hF)
  clear hF
  refine norm_ (a':=?_) ?_ ?_
  rotate_left
  ·simp only [putAll, Act.put, List.setIfInBounds_toArray, List.set_cons_zero, List.set_cons_succ]
   rfl
  refine one_ (i:=9) (N:=some 16) #[true,true,true,true,true,true,true,true,true,true,true,true,true,true,false,false,false] rfl rfl (by kernel_rfl) (by decide) (fun K_ hK => ?_)
  refine value_ (v := .pointer (some ⟨w2.heap.size, 0, none⟩)) (w1 := w2.alloc ZB) (by rfl) rfl ?_ ?_
  ·go_simp
   first | done | exact ⟨rfl, rfl⟩ | rfl
  refine hK.out _ _ trivial (fun hHeld => ?_)
  clear hK K_
  refine norm_ (a':=?_) ?_ ?_
  rotate_left
  ·show Act.put _ (some 16) _ = _
   go_simp
   rfl
  refine norm_ (a' := _) ?_ (hTTTTTFF (p1, w2.heap.size, p11, p13) (w2.alloc ZB) ⟨below_step HF.out.1 (below_alloc (Below.refl w2.heap.size w2) ZB), Rec.below HF.out.2.1 (below_alloc (Below.refl w2.heap.size w2) ZB), HF.out.2.2.1, BI.below HF.out.2.2.2.1 (below_alloc (Below.refl w2.heap.size w2) ZB), Rec.new w2, (HF.out.1).size, BI.below HF.out.2.2.2.2.1 (below_alloc (Below.refl w2.heap.size w2) ZB), BI.below HF.out.2.2.2.2.2 (below_alloc (Below.refl w2.heap.size w2) ZB), Nat.ne_of_lt (Rec.lt HF.out.2.1)⟩)
  ·simp only [putAll, Act.put, List.setIfInBounds_toArray, List.set_cons_zero, List.set_cons_succ]
   try rfl
 intro hTTFTTFF
 refine join_ (σ := Nat × Nat) (fuel' := 5) #[true, true, true, true, true, true, true, true, true, false, true, true, true, false, false, false, false] (fun s => [(8, .pointer (some ⟨s.1, 0, none⟩)), (15, .pointer (some ⟨s.1, 0, none⟩)), (18, .pointer (some ⟨s.2, 0, none⟩))]) (fun s w2 => Below w.heap.size w w2 ∧ Rec w2 s.1 0 ∧ w.heap.size ≤ s.1 ∧ BI w2 s.1 0 (x.num * y.num) ∧ BI w2 s.2 0 (x.den : Int)) ?_ ?_
 ·rintro ⟨p1, p11⟩ w2 hF
  have HF := Aside0.mk (show Below w.heap.size w w2 ∧ Rec w2 p1 0 ∧ w.heap.size ≤ p1 ∧ BI w2 p1 0 (x.num * y.num) ∧ BI w2 p11 0 (x.den : Int) from hF)
  clear hF
  refine norm_ (a':=?_) ?_ ?_
  rotate_left
  ·simp only [putAll, Act.put, List.setIfInBounds_toArray, List.set_cons_zero, List.set_cons_succ]
   rfl
  refine two_ (i:=9) (j := 13) (Ni := some 16) (Nj := some 20) #[true,true,true,true,true,true,true,true,true,true,true,true,true,false,false,false,false] #[true,true,true,true,true,true,true,true,true,false,true,true,true,true,false,false,false] rfl rfl rfl rfl (by kernel_rfl) (by decide) (by decide) (fun K_ hK => ?_) (fun K_ hK => ?_)
  ·refine value_ (v := .pointer (some ⟨w2.heap.size, 0, none⟩)) (w1 := w2.alloc ZB) (by rfl) rfl ?_ ?_
   ·go_simp
    first | done | exact ⟨rfl, rfl⟩ | rfl
   refine hK.out _ _ trivial (fun hHeld => ?_)
   clear hK K_
   refine norm_ (a':=?_) ?_ ?_
   rotate_left
   ·show Act.put _ (some 16) _ = _
    go_simp
    rfl
   refine norm_ (a' := _) ?_ (hTTTTFFF (p1, w2.heap.size, p11) (w2.alloc ZB) ⟨below_step HF.out.1 (below_alloc (Below.refl w2.heap.size w2) ZB), Rec.below HF.out.2.1 (below_alloc (Below.refl w2.heap.size w2) ZB), HF.out.2.2.1, BI.below HF.out.2.2.2.1 (below_alloc (Below.refl w2.heap.size w2) ZB), Rec.new w2, (HF.out.1).size, BI.below HF.out.2.2.2.2 (below_alloc (Below.refl w2.heap.size w2) ZB), Nat.ne_of_lt (Rec.lt HF.out.2.1)⟩)
   ·simp only [putAll, Act.put, List.setIfInBounds_toArray, List.set_cons_zero, List.set_cons_succ]
    try rfl
  ·refine goes_ Try.func102 (by kernel_rfl) rfl #[.pointer (some ⟨b_y, 0, none⟩)] (by rfl) rfl rfl (by (try simp only [List.map_toArray, List.map_cons, List.map_nil]); first | done | rfl) ?_
   refine (denom_any b_y y k w2 (RI.below Hy.out HF.out.1) HK.out.1 HK.out.2.2).mono ?_
   rintro e w3 ⟨p13, rfl, g1, g2, g3, g4⟩
   refine ⟨_, rfl, ?_⟩
   refine hK.out _ _ trivial (fun hHeld => ?_)
   clear hK K_
   refine norm_ (a':=?_) ?_ ?_
   rotate_left
   ·show Act.put _ (some 20) _ = _
    go_simp
    rfl
   refine norm_ (a' := _) ?_ (hTTFTTFF (p1, p11, p13) w3 ⟨below_step HF.out.1 g4, Rec.below HF.out.2.1 g4, HF.out.2.2.1, BI.below HF.out.2.2.2.1 g4, BI.below HF.out.2.2.2.2 g4, g2⟩)
   ·simp only [putAll, Act.put, List.setIfInBounds_toArray, List.set_cons_zero, List.set_cons_succ]
    try rfl
 intro hTTFTFFF
 refine join_ (σ := Nat) (fuel' := 6) #[true, true, true, true, true, true, true, true, true, false, true, false, true, false, false, false, false] (fun s => [(8, .pointer (some ⟨s, 0, none⟩)), (15, .pointer (some ⟨s, 0, none⟩))]) (fun s w2 => Below w.heap.size w w2 ∧ Rec w2 s 0 ∧ w.heap.size ≤ s ∧ BI w2 s 0 (x.num * y.num)) ?_ ?_
 ·rintro p1 w2 hF
  have HF := Aside0.mk (show Below w.heap.size w w2 ∧ Rec w2 p1 0 ∧ w.heap.size ≤ p1 ∧ BI w2 p1 0 (x.num * y.num) from hF)
  clear hF
  refine norm_ (a':=?_) ?_ ?_
  rotate_left
  ·simp only [putAll, Act.put, List.setIfInBounds_toArray, List.set_cons_zero, List.set_cons_succ]
   rfl
  refine two_ (i:=9) (j := 11) (Ni := some 16) (Nj := some 18) #[true,true,true,true,true,true,true,true,true,true,true,false,true,false,false,false,false] #[true,true,true,true,true,true,true,true,true,false,true,true,true,false,false,false,false] rfl rfl rfl rfl (by kernel_rfl) (by decide) (by decide) (fun K_ hK => ?_) (fun K_ hK => ?_)
  ·refine value_ (v := .pointer (some ⟨w2.heap.size, 0, none⟩)) (w1 := w2.alloc ZB) (by rfl) rfl ?_ ?_
   ·go_simp
    first | done | exact ⟨rfl, rfl⟩ | rfl
   refine hK.out _ _ trivial (fun hHeld => ?_)
   clear hK K_
   refine norm_ (a':=?_) ?_ ?_
   rotate_left
   ·show Act.put _ (some 16) _ = _
    go_simp
    rfl
   refine norm_ (a' := _) ?_ (hTTTFFFF (p1, w2.heap.size) (w2.alloc ZB) ⟨below_step HF.out.1 (below_alloc (Below.refl w2.heap.size w2) ZB), Rec.below HF.out.2.1 (below_alloc (Below.refl w2.heap.size w2) ZB), HF.out.2.2.1, BI.below HF.out.2.2.2 (below_alloc (Below.refl w2.heap.size w2) ZB), Rec.new w2, (HF.out.1).size, Nat.ne_of_lt (Rec.lt HF.out.2.1)⟩)
   ·simp only [putAll, Act.put, List.setIfInBounds_toArray, List.set_cons_zero, List.set_cons_succ]
    try rfl
  ·refine goes_ Try.func102 (by kernel_rfl) rfl #[.pointer (some ⟨bx, 0, none⟩)] (by rfl) rfl rfl (by (try simp only [List.map_toArray, List.map_cons, List.map_nil]); first | done | rfl) ?_
   refine (denom_any bx x k w2 (RI.below Hx.out HF.out.1) HK.out.1 HK.out.2.1).mono ?_
   rintro e w3 ⟨p11, rfl, g1, g2, g3, g4⟩
   refine ⟨_, rfl, ?_⟩
   refine hK.out _ _ trivial (fun hHeld => ?_)
   clear hK K_
   refine norm_ (a':=?_) ?_ ?_
   rotate_left
   ·show Act.put _ (some 18) _ = _
    go_simp
    rfl
   refine norm_ (a' := _) ?_ (hTTFTFFF (p1, p11) w3 ⟨below_step HF.out.1 g4, Rec.below HF.out.2.1 g4, HF.out.2.2.1, BI.below HF.out.2.2.2 g4, g2⟩)
   ·simp only [putAll, Act.put, List.setIfInBounds_toArray, List.set_cons_zero, List.set_cons_succ]
    try rfl
 intro hTTFFFFF
 refine join_ (σ := Nat × Nat) (fuel' := 6) #[true, true, true, true, true, true, true, true, false, true, true, false, true, false, false, false, false] (fun s => [(8, .pointer (some ⟨s.1, 0, none⟩)), (16, .pointer (some ⟨s.2, 0, none⟩))]) (fun s w2 => Below w.heap.size w w2 ∧ Rec w2 s.1 0 ∧ w.heap.size ≤ s.1 ∧ Rec w2 s.2 0 ∧ w.heap.size ≤ s.2 ∧ s.1 ≠ s.2) ?_ ?_
 ·rintro ⟨p1, p9⟩ w2 hF
  have HF := Aside0.mk (show Below w.heap.size w w2 ∧ Rec w2 p1 0 ∧ w.heap.size ≤ p1 ∧ Rec w2 p9 0 ∧ w.heap.size ≤ p9 ∧ p1 ≠ p9 from hF)
  clear hF
  refine norm_ (a':=?_) ?_ ?_
  rotate_left
  ·simp only [putAll, Act.put, List.setIfInBounds_toArray, List.set_cons_zero, List.set_cons_succ]
   rfl
  refine one_ (i:=8) (N:=some 15) #[true,true,true,true,true,true,true,true,true,true,true,false,true,false,false,false,false] rfl rfl (by kernel_rfl) (by decide) (fun K_ hK => ?_)
  refine goes_ Try.func103 (by kernel_rfl) rfl #[.pointer (some ⟨p1, 0, none⟩), .pointer (some ⟨bx, 0, none⟩), .pointer (some ⟨b_y, 0, none⟩)] (by rfl) rfl rfl (by (try simp only [List.map_toArray, List.map_cons, List.map_nil]); first | done | rfl) ?_
  refine (mul_any p1 0 bx 0 b_y 0 x.num y.num k w2 (BI.below Hx.out.1 HF.out.1) (BI.below Hy.out.1 HF.out.1) HF.out.2.1 HK.out.1 HK.out.2.1.1 HK.out.2.2.1).mono ?_
  rintro e w3 ⟨rfl, hp⟩
  refine ⟨_, rfl, ?_⟩
  refine hK.out _ _ trivial (fun hHeld => ?_)
  clear hK K_
  refine norm_ (a':=?_) ?_ ?_
  rotate_left
  ·show Act.put _ (some 15) _ = _
   go_simp
   rfl
  refine norm_ (a' := _) ?_ (hTTTFFFF (p1, p9) w3 ⟨(HF.out.1).trans (hp.below HF.out.2.2.1 (HF.out.1).size), hp.rec HF.out.2.1, HF.out.2.2.1, hp.bi HF.out.2.1, PutAt.recO hp HF.out.2.2.2.1 (fun h => HF.out.2.2.2.2.2 h.symm), HF.out.2.2.2.2.1, HF.out.2.2.2.2.2⟩)
  ·simp only [putAll, Act.put, List.setIfInBounds_toArray, List.set_cons_zero, List.set_cons_succ]
   try rfl
 intro hTFTFFFF
 refine join_ (σ := Nat) (fuel' := 7) #[true, true, true, true, true, true, true, true, false, false, true, false, true, false, false, false, false] (fun s => [(8, .pointer (some ⟨s, 0, none⟩))]) (fun s w2 => Below w.heap.size w w2 ∧ Rec w2 s 0 ∧ w.heap.size ≤ s) ?_ ?_
 ·rintro p1 w2 hF
  have HF := Aside0.mk (show Below w.heap.size w w2 ∧ Rec w2 p1 0 ∧ w.heap.size ≤ p1 from hF)
  clear hF
  refine norm_ (a':=?_) ?_ ?_
  rotate_left
  ·simp only [putAll, Act.put, List.setIfInBounds_toArray, List.set_cons_zero, List.set_cons_succ]
   rfl
  refine two_ (i:=8) (j := 9) (Ni := some 15) (Nj := some 16) #[true,true,true,true,true,true,true,true,true,false,true,false,true,false,false,false,false] #[true,true,true,true,true,true,true,true,false,true,true,false,true,false,false,false,false] rfl rfl rfl rfl (by kernel_rfl) (by decide) (by decide) (fun K_ hK => ?_) (fun K_ hK => ?_)
  ·refine goes_ Try.func103 (by kernel_rfl) rfl #[.pointer (some ⟨p1, 0, none⟩), .pointer (some ⟨bx, 0, none⟩), .pointer (some ⟨b_y, 0, none⟩)] (by rfl) rfl rfl (by (try simp only [List.map_toArray, List.map_cons, List.map_nil]); first | done | rfl) ?_
   refine (mul_any p1 0 bx 0 b_y 0 x.num y.num k w2 (BI.below Hx.out.1 HF.out.1) (BI.below Hy.out.1 HF.out.1) HF.out.2.1 HK.out.1 HK.out.2.1.1 HK.out.2.2.1).mono ?_
   rintro e w3 ⟨rfl, hp⟩
   refine ⟨_, rfl, ?_⟩
   refine hK.out _ _ trivial (fun hHeld => ?_)
   clear hK K_
   refine norm_ (a':=?_) ?_ ?_
   rotate_left
   ·show Act.put _ (some 15) _ = _
    go_simp
    rfl
   refine norm_ (a' := _) ?_ (hTTFFFFF p1 w3 ⟨(HF.out.1).trans (hp.below HF.out.2.2 (HF.out.1).size), hp.rec HF.out.2.1, HF.out.2.2, hp.bi HF.out.2.1⟩)
   ·simp only [putAll, Act.put, List.setIfInBounds_toArray, List.set_cons_zero, List.set_cons_succ]
    try rfl
  ·refine value_ (v := .pointer (some ⟨w2.heap.size, 0, none⟩)) (w1 := w2.alloc ZB) (by rfl) rfl ?_ ?_
   ·go_simp
    first | done | exact ⟨rfl, rfl⟩ | rfl
   refine hK.out _ _ trivial (fun hHeld => ?_)
   clear hK K_
   refine norm_ (a':=?_) ?_ ?_
   rotate_left
   ·show Act.put _ (some 16) _ = _
    go_simp
    rfl
   refine norm_ (a' := _) ?_ (hTFTFFFF (p1, w2.heap.size) (w2.alloc ZB) ⟨below_step HF.out.1 (below_alloc (Below.refl w2.heap.size w2) ZB), Rec.below HF.out.2.1 (below_alloc (Below.refl w2.heap.size w2) ZB), HF.out.2.2, Rec.new w2, (HF.out.1).size, Nat.ne_of_lt (Rec.lt HF.out.2.1)⟩)
   ·simp only [putAll, Act.put, List.setIfInBounds_toArray, List.set_cons_zero, List.set_cons_succ]
    try rfl
 intro hTFFFFFF
 refine join_ (σ := Nat) (fuel' := 7) #[true, false, true, true, true, true, true, true, false, true, true, false, true, false, false, false, false] (fun s => [(16, .pointer (some ⟨s, 0, none⟩))]) (fun s w2 => Below w.heap.size w w2 ∧ Rec w2 s 0 ∧ w.heap.size ≤ s) ?_ ?_
 ·rintro p9 w2 hF
  have HF := Aside0.mk (show Below w.heap.size w w2 ∧ Rec w2 p9 0 ∧ w.heap.size ≤ p9 from hF)
  clear hF
  refine norm_ (a':=?_) ?_ ?_
  rotate_left
  ·simp only [putAll, Act.put, List.setIfInBounds_toArray, List.set_cons_zero, List.set_cons_succ]
   rfl
  refine one_ (i:=1) (N:=some 8) #[true,true,true,true,true,true,true,true,false,true,true,false,true,false,false,false,false] rfl rfl (by kernel_rfl) (by decide) (fun K_ hK => ?_)
  refine value_ (v := .pointer (some ⟨w2.heap.size, 0, none⟩)) (w1 := w2.alloc ZB) (by rfl) rfl ?_ ?_
  ·go_simp
   first | done | exact ⟨rfl, rfl⟩ | rfl
  refine hK.out _ _ trivial (fun hHeld => ?_)
  clear hK K_
  refine norm_ (a':=?_) ?_ ?_
  rotate_left
  ·show Act.put _ (some 8) _ = _
   go_simp
   rfl
  refine norm_ (a' := _) ?_ (hTFTFFFF (w2.heap.size, p9) (w2.alloc ZB) ⟨below_step HF.out.1 (below_alloc (Below.refl w2.heap.size w2) ZB), Rec.new w2, (HF.out.1).size, Rec.below HF.out.2.1 (below_alloc (Below.refl w2.heap.size w2) ZB), HF.out.2.2, Nat.ne_of_gt (Rec.lt HF.out.2.1)⟩)
  ·simp only [putAll, Act.put, List.setIfInBounds_toArray, List.set_cons_zero, List.set_cons_succ]
   try rfl
 intro hFFTFFFF
 refine two_ (i:=1) (j := 9) (Ni := some 8) (Nj := some 16) #[true,true,true,true,true,true,true,true,false,false,true,false,true,false,false,false,false] #[true,false,true,true,true,true,true,true,false,true,true,false,true,false,false,false,false] rfl rfl rfl rfl (by kernel_rfl) (by decide) (by decide) (fun K_ hK => ?_) (fun K_ hK => ?_)
 ·refine value_ (v := .pointer (some ⟨w.drew.heap.size, 0, none⟩)) (w1 := w.drew.alloc ZB) (by rfl) rfl ?_ ?_
  ·go_simp
   first | done | exact ⟨rfl, rfl⟩ | rfl
  refine hK.out _ _ trivial (fun hHeld => ?_)
  clear hK K_
  refine norm_ (a':=?_) ?_ ?_
  rotate_left
  ·show Act.put _ (some 8) _ = _
   go_simp
   rfl
  refine norm_ (a' := _) ?_ (hTFFFFFF w.drew.heap.size (w.drew.alloc ZB) ⟨below_step (below_drew (Below.refl w.heap.size w)) (below_alloc (Below.refl w.drew.heap.size w.drew) ZB), Rec.new w.drew, ((below_drew (Below.refl w.heap.size w))).size⟩)
  ·simp only [putAll, Act.put, List.setIfInBounds_toArray, List.set_cons_zero, List.set_cons_succ]
   try rfl
 ·refine value_ (v := .pointer (some ⟨w.drew.heap.size, 0, none⟩)) (w1 := w.drew.alloc ZB) (by rfl) rfl ?_ ?_
  ·go_simp
   first | done | exact ⟨rfl, rfl⟩ | rfl
  refine hK.out _ _ trivial (fun hHeld => ?_)
  clear hK K_
  refine norm_ (a':=?_) ?_ ?_
  rotate_left
  ·show Act.put _ (some 16) _ = _
   go_simp
   rfl
  refine norm_ (a' := _) ?_ (hFFTFFFF w.drew.heap.size (w.drew.alloc ZB) ⟨below_step (below_drew (Below.refl w.heap.size w)) (below_alloc (Below.refl w.drew.heap.size w.drew) ZB), Rec.new w.drew, ((below_drew (Below.refl w.heap.size w))).size⟩)
  ·simp only [putAll, Act.put, List.setIfInBounds_toArray, List.set_cons_zero, List.set_cons_succ]
   try rfl
end Go.Proofs.Ytkafbmanmffliaa.Rv2

/- Fractions in memory: differences, quotients; the program's own words for them. -/
namespace Go.Proofs.Ytkafbmanmffliaa.Rx
open Go Go.RowKit YtkafbmanmffliaaW.PrintWords YtkafbmanmffliaaW.PrintLast YtkafbmanmffliaaW.PrintMore Q Bg Dd Bi Rt Ru Ra Rv2
set_option maxHeartbeats 8000000 in
set_option maxRecDepth 100000 in
theorem rsub_any (bz bx b_y lo : Nat) (x y : Rat) (k : Nat) (w : World) (hx : RI w bx x) (hy : RI w b_y y) (hr : RR w bz) (hlo : lo ≤ bz) (hk : 2 * k + 1 ≤ 1000000) (hsx : Sm k x) (hsy : Sm k y) :
  Calls Try.prog 111 #[.pointer (some ⟨bz, 0, none⟩), .pointer (some ⟨bx, 0, none⟩), .pointer (some ⟨b_y, 0, none⟩)] w (SetR bz lo (x - y) w) := by
 have hu := Try.underlying114
 have hba := below_alloc (Below.refl w.heap.size w) ZR
 have hc := rneg_any w.heap.size b_y w.heap.size y k (w.alloc ZR) (hy.below hba) (RR.new w) (Nat.le_refl _) (by omega) hsy
 have HX := Aside0.mk hx
 have HR := Aside0.mk hr
 have HK := Aside0.mk (show 2 * k + 1 ≤ 1000000 ∧ Sm k x ∧ Sm k y ∧ True from ⟨hk, hsx, hsy, trivial⟩)
 have HL := Aside0.mk (And.intro hlo hr.lt)
 have HBA := Aside0.mk hba
 clear hx hy hr hlo hk hsx hsy hba
 go_enter Try.func111, Try.ntmps111
 go_wp2_with (fail)
 refine hc.mono ?_
 rintro e w1 ⟨rfl, h1, h2⟩
 have HB1 := Aside0.mk (HBA.out.trans h2)
 have hm := radd_any bz bx w.heap.size lo x (- y) k w1 (HX.out.below HB1.out) h1 (HR.out.below HB1.out) HL.out.1 HK.out.1 HK.out.2.1 (Sm.neg HK.out.2.2.1)
 have HB := Aside0.mk (HB1.out.mono (show lo ≤ w.heap.size by have := HL.out; omega))
 clear h1 h2 hc
 go_wp2_with (fail)
 refine hm.mono ?_
 rintro e w2 ⟨rfl, h1, h2⟩
 rw [← Rat.sub_eq_add_neg] at h1
 have H1 := Aside0.mk (And.intro h1 h2)
 clear h1 h2 hm
 go_wp2_with (fail)
 go_ret
 exact ⟨rfl, H1.out.1, HB.out.trans H1.out.2⟩
set_option maxHeartbeats 8000000 in
set_option maxRecDepth 100000 in
theorem rquo_any (bz bx b_y lo : Nat) (x y : Rat) (k : Nat) (w : World) (hx : RI w bx x) (hy : RI w b_y y) (hr : RR w bz) (hlo : lo ≤ bz) (hk : 2 * k + 1 ≤ 1000000) (hsx : Sm k x) (hsy : Sm k y) (hy0 : y ≠ 0) :
  Calls Try.prog 125 #[.pointer (some ⟨bz, 0, none⟩), .pointer (some ⟨bx, 0, none⟩), .pointer (some ⟨b_y, 0, none⟩)] w (SetR bz lo (x / y) w) := by
 have hu := Try.underlying114
 have hba := below_alloc (Below.refl w.heap.size w) ZR
 have hc := rinv_any w.heap.size b_y w.heap.size y k (w.alloc ZR) (hy.below hba) (RR.new w) (Nat.le_refl _) (by omega) hsy hy0
 have HX := Aside0.mk hx
 have HR := Aside0.mk hr
 have HK := Aside0.mk (show 2 * k + 1 ≤ 1000000 ∧ Sm k x ∧ Sm k y ∧ y ≠ 0 from ⟨hk, hsx, hsy, hy0⟩)
 have HL := Aside0.mk (And.intro hlo hr.lt)
 have HBA := Aside0.mk hba
 clear hx hy hr hlo hk hsx hsy hba hy0
 go_enter Try.func125, Try.ntmps125
 go_wp2_with (fail)
 refine hc.mono ?_
 rintro e w1 ⟨rfl, h1, h2⟩
 have HB1 := Aside0.mk (HBA.out.trans h2)
 have hm := rmul_any bz bx w.heap.size lo x y⁻¹ k w1 (HX.out.below HB1.out) h1 (HR.out.below HB1.out) HL.out.1 HK.out.1 HK.out.2.1 (Sm.inv HK.out.2.2.2 HK.out.2.2.1)
 have HB := Aside0.mk (HB1.out.mono (show lo ≤ w.heap.size by have := HL.out; omega))
 clear h1 h2 hc
 go_wp2_with (fail)
 refine hm.mono ?_
 rintro e w2 ⟨rfl, h1, h2⟩
 rw [← Rat.div_def] at h1
 have H1 := Aside0.mk (And.intro h1 h2)
 clear h1 h2 hm
 go_wp2_with (fail)
 go_ret
 exact ⟨rfl, H1.out.1, HB.out.trans H1.out.2⟩
def MkR (w : World) (q : Rat) (e : Ending) (w' : World) : Prop := ∃ b, e = .returned (.pointer (some ⟨b, 0, none⟩)) ∧ w.heap.size ≤ b ∧ RI w' b q ∧ Below w.heap.size w w'
set_option maxHeartbeats 8000000 in
set_option maxRecDepth 100000 in
theorem whole_any (n : Int) (w : World) (h0 : -9223372036854775808 ≤ n) (h1 : n ≤ 9223372036854775807) :
  Calls Try.prog 66 #[.int .i64 n] w (MkR w (n : Rat)) := by
 have hu := Try.underlying114
 have hc := rsetInt64_any w.heap.size w.heap.size n (w.alloc ZR) h0 h1 (RR.new w) (Nat.le_refl _)
 clear h0 h1
 go_enter Try.func66, Try.ntmps66
 go_wp2_with (fail)
 refine hc.mono ?_
 rintro e w1 ⟨rfl, h1, h2⟩
 have H1 := Aside0.mk (And.intro h1 h2)
 clear h1 h2 hc
 go_wp2_with (fail)
 go_ret
 exact ⟨_, rfl, Nat.le_refl _, H1.out.1, (below_alloc (Below.refl w.heap.size w) ZR).trans H1.out.2⟩
set_option maxHeartbeats 8000000 in
set_option maxRecDepth 100000 in
theorem ratPlus_any (bx b_y : Nat) (x y : Rat) (k : Nat) (w : World) (hx : RI w bx x) (hy : RI w b_y y) (hk : 2 * k + 1 ≤ 1000000) (hsx : Sm k x) (hsy : Sm k y) :
  Calls Try.prog 68 #[.pointer (some ⟨bx, 0, none⟩), .pointer (some ⟨b_y, 0, none⟩)] w (MkR w (x + y)) := by
 have hu := Try.underlying114
 have hba := below_alloc (Below.refl w.heap.size w) ZR
 have hc := radd_any w.heap.size bx b_y w.heap.size x y k (w.alloc ZR) (hx.below hba) (hy.below hba) (RR.new w) (Nat.le_refl _) hk hsx hsy
 clear hx hy hk hsx hsy hba
 go_enter Try.func68, Try.ntmps68
 go_wp2_with (fail)
 refine hc.mono ?_
 rintro e w1 ⟨rfl, h1, h2⟩
 have H1 := Aside0.mk (And.intro h1 h2)
 clear h1 h2 hc
 go_wp2_with (fail)
 go_ret
 exact ⟨_, rfl, Nat.le_refl _, H1.out.1, (below_alloc (Below.refl w.heap.size w) ZR).trans H1.out.2⟩
set_option maxHeartbeats 8000000 in
set_option maxRecDepth 100000 in
theorem ratMinus_any (bx b_y : Nat) (x y : Rat) (k : Nat) (w : World) (hx : RI w bx x) (hy : RI w b_y y) (hk : 2 * k + 1 ≤ 1000000) (hsx : Sm k x) (hsy : Sm k y) :
  Calls Try.prog 65 #[.pointer (some ⟨bx, 0, none⟩), .pointer (some ⟨b_y, 0, none⟩)] w (MkR w (x - y)) := by
 have hu := Try.underlying114
 have hba := below_alloc (Below.refl w.heap.size w) ZR
 have hc := rsub_any w.heap.size bx b_y w.heap.size x y k (w.alloc ZR) (hx.below hba) (hy.below hba) (RR.new w) (Nat.le_refl _) hk hsx hsy
 clear hx hy hk hsx hsy hba
 go_enter Try.func65, Try.ntmps65
 go_wp2_with (fail)
 refine hc.mono ?_
 rintro e w1 ⟨rfl, h1, h2⟩
 have H1 := Aside0.mk (And.intro h1 h2)
 clear h1 h2 hc
 go_wp2_with (fail)
 go_ret
 exact ⟨_, rfl, Nat.le_refl _, H1.out.1, (below_alloc (Below.refl w.heap.size w) ZR).trans H1.out.2⟩
set_option maxHeartbeats 8000000 in
set_option maxRecDepth 100000 in
theorem ratTimes_any (bx b_y : Nat) (x y : Rat) (k : Nat) (w : World) (hx : RI w bx x) (hy : RI w b_y y) (hk : 2 * k + 1 ≤ 1000000) (hsx : Sm k x) (hsy : Sm k y) :
  Calls Try.prog 105 #[.pointer (some ⟨bx, 0, none⟩), .pointer (some ⟨b_y, 0, none⟩)] w (MkR w (x * y)) := by
 have hu := Try.underlying114
 have hba := below_alloc (Below.refl w.heap.size w) ZR
 have hc := rmul_any w.heap.size bx b_y w.heap.size x y k (w.alloc ZR) (hx.below hba) (hy.below hba) (RR.new w) (Nat.le_refl _) hk hsx hsy
 clear hx hy hk hsx hsy hba
 go_enter Try.func105, Try.ntmps105
 go_wp2_with (fail)
 refine hc.mono ?_
 rintro e w1 ⟨rfl, h1, h2⟩
 have H1 := Aside0.mk (And.intro h1 h2)
 clear h1 h2 hc
 go_wp2_with (fail)
 go_ret
 exact ⟨_, rfl, Nat.le_refl _, H1.out.1, (below_alloc (Below.refl w.heap.size w) ZR).trans H1.out.2⟩
set_option maxHeartbeats 8000000 in
set_option maxRecDepth 100000 in
theorem ratOver_any (bx b_y : Nat) (x y : Rat) (k : Nat) (w : World) (hx : RI w bx x) (hy : RI w b_y y) (hk : 2 * k + 1 ≤ 1000000) (hsx : Sm k x) (hsy : Sm k y) (hy0 : y ≠ 0) :
  Calls Try.prog 92 #[.pointer (some ⟨bx, 0, none⟩), .pointer (some ⟨b_y, 0, none⟩)] w (MkR w (x / y)) := by
 have hu := Try.underlying114
 have hba := below_alloc (Below.refl w.heap.size w) ZR
 have hc := rquo_any w.heap.size bx b_y w.heap.size x y k (w.alloc ZR) (hx.below hba) (hy.below hba) (RR.new w) (Nat.le_refl _) hk hsx hsy hy0
 clear hx hy hk hsx hsy hba hy0
 go_enter Try.func92, Try.ntmps92
 go_wp2_with (fail)
 refine hc.mono ?_
 rintro e w1 ⟨rfl, h1, h2⟩
 have H1 := Aside0.mk (And.intro h1 h2)
 clear h1 h2 hc
 go_wp2_with (fail)
 go_ret
 exact ⟨_, rfl, Nat.le_refl _, H1.out.1, (below_alloc (Below.refl w.heap.size w) ZR).trans H1.out.2⟩
end Go.Proofs.Ytkafbmanmffliaa.Rx

/- Rows of pointers and rows of such rows: own blocks that hold neither signs nor digits; fractions stay when such a block changes. -/
namespace Go.Proofs.Ytkafbmanmffliaa.Gd
open Go Go.RowKit YtkafbmanmffliaaW.PrintWords YtkafbmanmffliaaW.PrintLast YtkafbmanmffliaaW.PrintMore Q Bg Dd Bi Rt
def Pv (u : Value) : Prop := (∀ b, u ≠ .bool b) ∧ ∀ d, u ≠ .int .u32 d
theorem Pv.ptr (p : Option Addr) : Pv (.pointer p) := ⟨(fun _ h => by cases h), (fun _ h => by cases h)⟩
theorem Pv.slice (p : Option Addr) (n c : Nat) : Pv (.slice p n c) := ⟨(fun _ h => by cases h), (fun _ h => by cases h)⟩
def Cb (W : World) (e : TypeId) (g cap : Nat) (us : List Value) : Prop := ∃ cs : Array Value, W.heap[g]? = some (.cells cs e (0, 0)) ∧ cs.size = cap ∧ us.length ≤ cap ∧ cap ≤ maxLen ∧ (∀ u ∈ cs.toList, Pv u) ∧ cs.toList.take us.length = us
def Par (W W' : World) : Prop := W.heap.size ≤ W'.heap.size ∧ ∀ k, k < W.heap.size → W'.heap[k]? = W.heap[k]? ∨ ∃ cs e, W.heap[k]? = some (.cells cs e (0, 0)) ∧ ∀ u ∈ cs.toList, Pv u
theorem Par.trans {a b c : World} (h : Par a b) (k : Par b c) : Par a c := by
 refine ⟨Nat.le_trans h.1 k.1, fun i hi => ?_⟩
 rcases h.2 i hi with e | e
 ·rcases k.2 i (Nat.lt_of_lt_of_le hi h.1) with e2 | e2
  ·exact .inl (e2.trans e)
  ·exact .inr (by rw [← e]; exact e2)
 ·exact .inr e
theorem Par.of_below {W W' : World} (h : Below W.heap.size W W') : Par W W' := ⟨h.size, fun k hk => .inl (h.block k hk)⟩
theorem Par.refl (W : World) : Par W W := Par.of_below (Below.refl _ _)
theorem Par.grown {W W' : World} {e : TypeId} {g cap : Nat} {us : List Value} (h : Cb W e g cap us) (hg : W.grownBy W' (some g)) : Par W W' := by
 refine ⟨hg.size, fun k hk => ?_⟩
 by_cases e : k = g
 ·subst e
  obtain ⟨cs, h1, _, _, _, h2, _⟩ := h
  exact .inr ⟨cs, _, h1, h2⟩
 ·exact .inl (hg.block k hk (fun e2 => e (Option.some.inj e2)))
theorem Par.cell {W W' : World} (h : Par W W') (p : Addr) (u : Value) (hu : W.cell? p = some u) (hp : ¬ Pv u) : W'.cell? p = some u := by
 have hu0 := hu
 unfold World.cell? at hu
 split at hu
 ·rename_i c T f hb
  rcases h.2 p.block (Array.getElem?_eq_some_iff.1 hb).1 with e | ⟨cs, T', e, hn⟩
  ·rw [World.cell?_of_block e]; exact hu0
  ·rw [hb] at e
   injection e with e
   injection e with e1 e2 e3
   subst e1
   split at hu
   ·cases hu
   ·refine absurd (hn u ?_) hp
    rw [Array.mem_toList_iff]
    exact Array.mem_of_getElem? hu
 ·cases hu
theorem Par.block {W W' : World} (h : Par W W') (p : Addr) (u : Value) (hu : W.cell? p = some u) (hp : ¬ Pv u) : W'.heap[p.block]? = W.heap[p.block]? := by
 unfold World.cell? at hu
 split at hu
 ·rename_i c T f hb
  rcases h.2 p.block (Array.getElem?_eq_some_iff.1 hb).1 with e | ⟨cs, T', e, hn⟩
  ·exact e
  ·rw [hb] at e
   injection e with e
   injection e with e1 e2 e3
   subst e1
   split at hu
   ·cases hu
   ·refine absurd (hn u ?_) hp
    rw [Array.mem_toList_iff]
    exact Array.mem_of_getElem? hu
 ·cases hu
theorem notPv_bool (b : Bool) : ¬ Pv (.bool b) := fun h => h.1 b rfl
theorem notPv_int (d : Int) : ¬ Pv (.int .u32 d) := fun h => h.2 d rfl
theorem C_par {W W' : World} {A : Option Addr} {n : Nat} {xs : List Int} (h : (Kd.int .u32).C W A n xs) (hp : Par W W') : (Kd.int .u32).C W' A n xs := by
 have hr := Kd.reads_of_C (d := (0 : Int)) h
 refine Kd.C_of_reads (d := (0 : Int)) ⟨hr.1, hr.2.1, fun h0 => ?_⟩
 obtain ⟨ad, e, hc⟩ := hr.2.2 h0
 exact ⟨ad, e, fun j hj => hp.cell _ _ (hc j hj) (notPv_int _)⟩
theorem BI.par {W W' : World} {b o : Nat} {z : Int} (h : BI W b o z) (hp : Par W W') : BI W' b o z := by
 obtain ⟨neg, v, ds, h1, h2, ⟨A, c, e1, e2, e3, e4, e5⟩, h4, h5⟩ := h
 refine ⟨neg, v, ds, hp.cell _ _ h1 (notPv_bool _), ?_, ⟨A, c, e1, e2, C_par e3 hp, e4, e5⟩, h4, h5⟩
 rw [World.cell?_of_block (a := ⟨b, o + 1, none⟩) (hp.block ⟨b, o, none⟩ _ h1 (notPv_bool _))]
 exact h2
theorem RI.par {W W' : World} {b : Nat} {q : Rat} (h : RI W b q) (hp : Par W W') : RI W' b q := ⟨BI.par h.1 hp, BI.par h.2 hp⟩
theorem Cb.lt {W : World} {e : TypeId} {g cap : Nat} {us : List Value} (h : Cb W e g cap us) : g < W.heap.size := by
 obtain ⟨cs, h1, _⟩ := h
 exact blk_lt h1
theorem Cb.at_ {W : World} {e : TypeId} {g cap : Nat} {us : List Value} (h : Cb W e g cap us) (i : Nat) (u : Value) (hi : us[i]? = some u) : W.cell? ⟨g, i, none⟩ = some u ∧ W.frozen? ⟨g, i, none⟩ = false := by
 obtain ⟨cs, h1, _, _, _, _, h6⟩ := h
 refine ⟨?_, blk_frozen h1 i⟩
 rw [blk_cell h1 i]
 rw [← h6, List.getElem?_take] at hi
 split at hi
 ·simpa using hi
 ·cases hi
theorem Cb.kept {W W' : World} {e : TypeId} {g cap : Nat} {us : List Value} (h : Cb W e g cap us) (hk : W'.heap[g]? = W.heap[g]?) : Cb W' e g cap us := by
 obtain ⟨cs, h1, h2⟩ := h
 exact ⟨cs, hk.trans h1, h2⟩
theorem Cb.below {W W' : World} {e : TypeId} {g cap : Nat} {us : List Value} (h : Cb W e g cap us) (hb : Below W.heap.size W W') : Cb W' e g cap us := h.kept (hb.block g h.lt)
theorem Cb.nil_new (W : World) (e : TypeId) : Cb (W.alloc (.cells #[] e)) e W.heap.size 0 [] := ⟨#[], blk_new W _, rfl, Nat.le_refl _, by simp [maxLen], by simp, rfl⟩
theorem Cb.one_new (W : World) (e : TypeId) (u : Value) (hu : Pv u) : Cb (W.alloc (.cells #[u] e)) e W.heap.size 1 [u] := ⟨#[u], blk_new W _, rfl, Nat.le_refl _, by simp [maxLen], by simpa using hu, rfl⟩
theorem Cb.put {W : World} {e : TypeId} {g cap : Nat} {us : List Value} (h : Cb W e g cap us) (i : Nat) (u : Value) (hu : Pv u) : Cb (W.setCell ⟨g, i, none⟩ u) e g cap (us.set i u) ∧ W.grownBy (W.setCell ⟨g, i, none⟩ u) (some g) := by
 obtain ⟨cs, h1, h2, h3, h4, h5, h6⟩ := h
 refine ⟨⟨cs.setIfInBounds i u, blk_put h1 i u rfl, by simpa using h2, by simpa using h3, h4, ?_, ?_⟩, ⟨rfl, rfl, rfl, by simp [World.setCell], fun k hk hne => Below.heap_setCell W _ _ _ (fun e => hne (by rw [e]))⟩⟩
 ·intro x hx
  rw [Array.toList_setIfInBounds] at hx
  rcases List.mem_or_eq_of_mem_set hx with hm | hm
  ·exact h5 x hm
  ·exact hm ▸ hu
 ·rw [Array.toList_setIfInBounds, List.length_set, List.take_set, h6]
theorem mem_zeroCells {z u : Value} {n : Nat} (h : u ∈ (Builtin.zeroCells #[z] n).toList) : u = z := by
 simp [Builtin.zeroCells, Nat.mod_one] at h
 exact h.2.symm
section
variable {P : Program} {ops : Array Oper} {rest : List Oper} {o : Oper} {a : Act} {Q : Exit → Act → World → Prop}
theorem Cb.append {W : World} (hgd : o.guard = none) (s x : Operand) (t e : TypeId) (z : Value) (bytes : Nat)
  (ho : o.op = .call { callee := .builtin .append, args := #[s, x], argTypes := #[t, t] })
  (ht : P.underlying t = some (.slice e)) (hinfo : (P.info? e).map (fun i => (i.zero, i.size, i.bytes)) = some (some z, 1, bytes)) (hz : z.cells = #[z]) (hpz : Pv z) (hb0 : 0 < bytes)
  (g cap n : Nat) (us : List Value) (u : Value) (hn : us.length = n) (hs : a.eval s = .slice (some ⟨g, 0, none⟩) n cap) (hx : a.eval x = .slice (some ⟨W.heap.size, 0, none⟩) 1 1) (hu1 : u.oneCell' = true) (hpu : Pv u)
  (HO : Cb W e g cap us) (hl : (us.length + 1) * bytes ≤ 140737488355328)
  (h : ∀ g1 cap1 w1, Cb w1 e g1 cap1 (us ++ [u]) → (g1 = g ∨ W.heap.size ≤ g1) → W.grownBy w1 (some g) → wpList P ops Q rest (a.put o.dst (.slice (some ⟨g1, 0, none⟩) (n + 1) cap1)) w1) :
  wpList P ops Q (o :: rest) a (W.alloc (.cells #[u] e)) := by
 subst hn
 obtain ⟨i0, hi, hzz⟩ := Option.map_eq_some_iff.1 hinfo
 simp only [Prod.mk.injEq] at hzz
 obtain ⟨hz0, hz1, hz2⟩ := hzz
 have hlen : us.length + 1 ≤ 140737488355328 := Nat.le_trans (Nat.le_mul_of_pos_right _ hb0) hl
 obtain ⟨cs, h1, h2, h3, h4, h5, h6⟩ := HO
 have hlt := blk_lt h1
 have h1' : (W.alloc (.cells #[u] e)).heap[g]? = some (.cells cs e (0, 0)) := blk_alloc h1 _
 have hnews : ∀ j v, ([u] : List Value)[j]? = some v → (W.alloc (.cells #[u] e)).cell? ((⟨W.heap.size, 0, none⟩ : Addr).add j) = some v := cell_one_new W u e
 refine wpList_plain hgd fun K hK => ?_
 unfold Oper.wp execOp
 simp only [ho, resolve, invoke, builtin, Sem.run_bind, Sem.run_pure, Result.andThen_ok, List.map_toArray, List.map_cons, List.map_nil, hs, hx]
 by_cases hroom : us.length + 1 ≤ cap
 ·have hr := run_append_room (P := P) (W.alloc (.cells #[u] e)) t o.type e i0 ht hi g us.length cap cs h1' ⟨W.heap.size, 0, none⟩ 1 1 [u] (by rw [hz1]; rfl) hnews (by simpa using hu1) hroom (by rw [hz1]; simp; omega)
  rw [hr, hz1]
  refine hK _ _ (h g cap _ ⟨_, setRow_heap _ g cs _ e _ h1', ?_, ?_, h4, ?_, ?_⟩ (.inl rfl) ⟨rfl, rfl, rfl, by simp [World.setRow], fun k hk hne => ?_⟩)
  ·simp; omega
  ·simp; omega
  ·intro v hv
   simp only [List.mem_append, List.mem_singleton] at hv
   rcases hv with (hv | hv) | hv
   ·exact h5 v (List.mem_of_mem_take hv)
   ·exact hv ▸ hpu
   ·exact h5 v (List.mem_of_mem_drop hv)
  ·have e0 : (us ++ [u]).length = us.length + 1 := by simp
   rw [e0]
   simp only [Nat.mul_one]
   rw [h6]
   rw [List.take_append_of_le_length (by simp)]
   rw [List.take_of_length_le (by simp)]
  ·rw [setRow_other _ g k _ (fun e2 => hne (by rw [e2]))]
   exact Below.heap_alloc W _ k hk
 ·have holds : ∀ j v, us[j]? = some v → (W.alloc (.cells #[u] e)).cell? ((⟨g, 0, none⟩ : Addr).add j) = some v := by
   intro j v hv
   have hadd : (⟨g, 0, none⟩ : Addr).add j = ⟨g, j, none⟩ := by unfold Addr.add; split <;> simp_all
   rw [hadd, blk_cell h1' j]
   rw [← h6, List.getElem?_take] at hv
   split at hv
   ·simpa using hv
   ·cases hv
  have hr := run_append_grow (P := P) (W.alloc (.cells #[u] e)) t o.type e i0 z ht hi hz0 ⟨g, 0, none⟩ us.length cap us (by rw [hz1]; simp) holds ⟨W.heap.size, 0, none⟩ 1 1 [u] (by rw [hz1]; rfl) hnews (by omega) (by omega) (by rw [hz2]; exact growslice_fits (by omega) hl)
  rw [hr]
  have hge := grownCap_ge (W.alloc (.cells #[u] e)) (us.length + 1) cap e
  have hcm : grownCap (W.alloc (.cells #[u] e)) (us.length + 1) cap e ≤ maxLen := grownCap_le_maxLen _ _ _ e (by simp only [maxLen]; omega)
  refine hK _ _ (h (W.alloc (.cells #[u] e)).heap.size _ _ ⟨_, heap_alloc_new (W.alloc (.cells #[u] e)).drew _, ?_, ?_, hcm, ?_, ?_⟩ (.inr (by simp)) ⟨rfl, rfl, rfl, by simp; omega, fun k hk hne => ?_⟩)
  ·simp only [Array.size_append, List.size_toArray, size_zeroCells, hz]
   simp; omega
  ·simp; omega
  ·intro v hv
   simp only [Array.toList_append, List.mem_append] at hv
   rcases hv with (hv | hv) | hv
   ·have hv' : v ∈ us := by simpa using hv
    rw [← h6] at hv'
    exact h5 v (List.mem_of_mem_take hv')
   ·have hv' : v = u := by simpa using hv
    exact hv' ▸ hpu
   ·rw [hz] at hv
    exact mem_zeroCells hv ▸ hpz
  ·simp only [Array.toList_append]
   rw [List.take_append_of_le_length (by simp)]
   rw [List.take_of_length_le (by simp)]
  ·exact (Below.heap_alloc (W.alloc (.cells #[u] e)).drew _ k (by simp; omega)).trans (Below.heap_alloc W _ k hk)
end
end Go.Proofs.Ytkafbmanmffliaa.Gd

/- Plain: the program's elimination as a function of a table: sights are added up, each column is cleared. -/
namespace Go.Proofs.Ytkafbmanmffliaa.Gf
open Ra
abbrev TI := Nat → Nat → Int
abbrev TR := Nat → Nat → Rat
def upd (M : TR) (r k : Nat) (x : Rat) : TR := fun r' k' => if r' = r ∧ k' = k then x else M r' k'
def cst (M : TI) : TR := fun r k => ((M r k : Int) : Rat)
def stp (w p q : Int) (M : TI) : TI := fun r k => if 0 ≤ p ∧ 0 ≤ q ∧ (r : Int) = p ∧ (k : Int) = q then (if p = q then M r k + w else M r k - w) else M r k
def ptq (a b : Int) (i : Nat) : Int := if i = 0 then a else b
def stN (w a b : Int) (M : TI) : Nat → TI
 | 0 => M
 | t + 1 => stp w (ptq a b (t / 2)) (ptq a b (t % 2)) (stN w a b M t)
theorem stp_neg {w p q : Int} {M : TI} (h : p < 0 ∨ q < 0) : stp w p q M = M := by
 funext r k
 unfold stp
 rw [if_neg (by omega)]
theorem stp_same {w : Int} {p q : Nat} {M : TI} (h : p = q) : cst (stp w p q M) = upd (cst M) p q (cst M p q + (w : Rat)) := by
 funext r k
 unfold cst stp upd
 by_cases e : r = p ∧ k = q
 ·obtain ⟨rfl, rfl⟩ := e
  rw [if_pos ⟨by omega, by omega, rfl, rfl⟩, if_pos (by omega), if_pos ⟨rfl, rfl⟩, Rat.intCast_add]
 ·rw [if_neg (by omega), if_neg e]
theorem stp_other {w : Int} {p q : Nat} {M : TI} (h : p ≠ q) : cst (stp w p q M) = upd (cst M) p q (cst M p q - (w : Rat)) := by
 funext r k
 unfold cst stp upd
 by_cases e : r = p ∧ k = q
 ·obtain ⟨rfl, rfl⟩ := e
  rw [if_pos ⟨by omega, by omega, rfl, rfl⟩, if_neg (by omega), if_pos ⟨rfl, rfl⟩, Rat.intCast_sub]
 ·rw [if_neg (by omega), if_neg e]
theorem stp_size {w p q B : Int} {M : TI} (hw0 : 0 ≤ w) (hw : w ≤ 3) (hB : ∀ r k, -B ≤ M r k ∧ M r k ≤ B) (r k : Nat) : -(B + 3) ≤ stp w p q M r k ∧ stp w p q M r k ≤ B + 3 := by
 have := hB r k
 unfold stp
 split
 ·split <;> omega
 ·omega
theorem stN_size {w a b B : Int} {M : TI} (hw0 : 0 ≤ w) (hw : w ≤ 3) (hB : ∀ r k, -B ≤ M r k ∧ M r k ≤ B) (t : Nat) (r k : Nat) : -(B + 3 * t) ≤ stN w a b M t r k ∧ stN w a b M t r k ≤ B + 3 * t := by
 induction t generalizing r k with
 | zero => simpa [stN] using hB r k
 | succ t ih =>
  have := stp_size (p := ptq a b (t / 2)) (q := ptq a b (t % 2)) hw0 hw ih r k
  simp only [stN]
  omega
def gj (M : TR) : Nat → TR
 | 0 => M
 | c + 1 => fun r k => if r = c then gj M c c k / gj M c c c else gj M c r k - gj M c r c * (gj M c c k / gj M c c c)
def dvd (D : TR) (c k : Nat) : TR := fun r' k' => if r' = c ∧ k' < k then D c k' / D c c else D r' k'
def elm (D : TR) (c r k : Nat) : TR := fun r' k' => if r' ≠ c ∧ (r' < r ∨ (r' = r ∧ k' < k)) then D r' k' - D r' c * D c k' else D r' k'
theorem dvd_zero (D : TR) (c : Nat) : dvd D c 0 = D := by
 funext r k; unfold dvd; rw [if_neg (by omega)]
theorem dvd_at (D : TR) (c k : Nat) : dvd D c k c k = D c k := by unfold dvd; rw [if_neg (by omega)]
theorem dvd_succ (D : TR) (c k : Nat) : upd (dvd D c k) c k (D c k / D c c) = dvd D c (k + 1) := by
 funext r' k'
 unfold upd dvd
 by_cases h1 : r' = c
 ·by_cases h2 : k' = k
  ·subst h1; subst h2
   rw [if_pos ⟨rfl, rfl⟩, if_pos ⟨rfl, by omega⟩]
  ·rw [if_neg (by omega)]
   by_cases h3 : k' < k
   ·rw [if_pos ⟨h1, h3⟩, if_pos ⟨h1, by omega⟩]
   ·rw [if_neg (by omega), if_neg (by omega)]
 ·rw [if_neg (by omega), if_neg (by omega), if_neg (by omega)]
theorem elm_zero (D : TR) (c : Nat) : elm D c 0 0 = D := by
 funext r k; unfold elm; rw [if_neg (by omega)]
theorem elm_at (D : TR) (c r k : Nat) : elm D c r k r k = D r k := by unfold elm; rw [if_neg (by omega)]
theorem elm_piv (D : TR) (c r k k' : Nat) : elm D c r k c k' = D c k' := by unfold elm; rw [if_neg (by omega)]
theorem elm_fac (D : TR) (c r : Nat) : elm D c r 0 r c = D r c := by unfold elm; rw [if_neg (by omega)]
theorem elm_succ (D : TR) (c r k : Nat) (h : r ≠ c) : upd (elm D c r k) r k (D r k - D r c * D c k) = elm D c r (k + 1) := by
 funext r' k'
 unfold upd elm
 by_cases h1 : r' = r ∧ k' = k
 ·obtain ⟨rfl, rfl⟩ := h1
  rw [if_pos ⟨rfl, rfl⟩, if_pos ⟨h, by omega⟩]
 ·rw [if_neg h1]
  by_cases h3 : r' ≠ c ∧ (r' < r ∨ (r' = r ∧ k' < k))
  ·rw [if_pos h3, if_pos ⟨h3.1, by omega⟩]
  ·rw [if_neg h3, if_neg (by omega)]
theorem elm_skip (D : TR) (c k k2 : Nat) : elm D c c k = elm D c c k2 := by
 funext r' k'
 unfold elm
 by_cases h : r' ≠ c ∧ r' < c
 ·rw [if_pos ⟨h.1, by omega⟩, if_pos ⟨h.1, by omega⟩]
 ·rw [if_neg (by omega), if_neg (by omega)]
theorem elm_row (D : TR) (c r n r' k' : Nat) (hk : k' ≤ n) : elm D c (r + 1) 0 r' k' = elm D c r (n + 1) r' k' := by
 unfold elm
 by_cases h : r' ≠ c ∧ (r' < r + 1 ∨ (r' = r + 1 ∧ k' < 0))
 ·rw [if_pos h, if_pos ⟨h.1, by omega⟩]
 ·rw [if_neg h, if_neg (by omega)]
theorem gj_succ (M : TR) (c n r k : Nat) (hr : r < n) (hk : k ≤ n) (hc : c < n) : gj M (c + 1) r k = elm (dvd (gj M c) c (n + 1)) c n 0 r k := by
 show (if r = c then _ else _) = _
 unfold elm
 by_cases h : r = c
 ·subst h
  rw [if_pos rfl, if_neg (by omega)]
  unfold dvd
  rw [if_pos ⟨rfl, by omega⟩]
 ·rw [if_neg h, if_pos ⟨h, by omega⟩]
  unfold dvd
  rw [if_neg (by omega), if_neg (by omega), if_pos ⟨rfl, by omega⟩]
def Kf : Nat → Nat
 | 0 => 64
 | c + 1 => 4 * Kf c + 1
theorem Kf_le (c : Nat) (h : c ≤ 4) : Kf c ≤ 16725 := by
 match c, h with
 | 0, _ => decide
 | 1, _ => decide
 | 2, _ => decide
 | 3, _ => decide
 | 4, _ => decide
theorem sm_int {z : Int} (h : -9223372036854775808 ≤ z ∧ z ≤ 9223372036854775807) : Sm 64 (z : Rat) := by
 have e : (2 : Nat) ^ 64 = 18446744073709551616 := by decide
 refine Sm.int ?_ (by omega)
 rw [e]
 omega
theorem gj_size (M : TR) (n : Nat) (h0 : ∀ r k, Sm 64 (M r k)) (hp : ∀ c, c < n → gj M c c c ≠ 0) (c : Nat) (hc : c ≤ n) (r k : Nat) : Sm (Kf c) (gj M c r k) := by
 induction c generalizing r k with
 | zero => exact h0 r k
 | succ c ih =>
  have i1 := ih (by omega)
  have hd := Sm.div (hp c (by omega)) (i1 c k) (i1 c c)
  show Sm (4 * Kf c + 1) (if r = c then _ else _)
  split
  ·exact Sm.mono (by omega) hd
  ·exact Sm.mono (by omega) (Sm.sub (i1 r k) (Sm.mul (i1 r c) hd))
theorem dvd_size {D : TR} {K c k : Nat} (h : ∀ r k, Sm K (D r k)) (hp : D c c ≠ 0) (r' k' : Nat) : Sm (2 * K) (dvd D c k r' k') := by
 unfold dvd
 split
 ·exact Sm.mono (by omega) (Sm.div hp (h c k') (h c c))
 ·exact Sm.mono (by omega) (h r' k')
end Go.Proofs.Ytkafbmanmffliaa.Gf

/- Tables of fractions in memory: a row of rows of pointers. -/
namespace Go.Proofs.Ytkafbmanmffliaa.Ge
open Go Go.RowKit YtkafbmanmffliaaW.PrintWords YtkafbmanmffliaaW.PrintLast YtkafbmanmffliaaW.PrintMore Q Bg Dd Bi Rt Gd Gf
def RowF (W : World) (us : List Value) (wd : Nat) (f : Nat → Rat) : Prop := us.length = wd ∧ ∀ k, k < wd → ∃ p, us[k]? = some (.pointer (some ⟨p, 0, none⟩)) ∧ RI W p (f k)
theorem RowF.par {W W' : World} {us : List Value} {wd : Nat} {f : Nat → Rat} (h : RowF W us wd f) (hp : Par W W') : RowF W' us wd f :=
 ⟨h.1, fun k hk => by obtain ⟨p, h1, h2⟩ := h.2 k hk; exact ⟨p, h1, RI.par h2 hp⟩⟩
theorem RowF.congr {W : World} {us : List Value} {wd : Nat} {f g : Nat → Rat} (h : RowF W us wd f) (e : ∀ k, k < wd → f k = g k) : RowF W us wd g :=
 ⟨h.1, fun k hk => by obtain ⟨p, h1, h2⟩ := h.2 k hk; exact ⟨p, h1, e k hk ▸ h2⟩⟩
theorem RowF.nil (W : World) (f : Nat → Rat) : RowF W [] 0 f := ⟨rfl, fun k hk => by omega⟩
theorem RowF.snoc {W : World} {us : List Value} {wd : Nat} {f : Nat → Rat} (h : RowF W us wd f) {p : Nat} {x : Rat} (hx : RI W p x) : RowF W (us ++ [.pointer (some ⟨p, 0, none⟩)]) (wd + 1) (fun k => if k = wd then x else f k) := by
 refine ⟨by simp [h.1], fun k hk => ?_⟩
 by_cases e : k = wd
 ·subst e
  refine ⟨p, by rw [List.getElem?_append_right (Nat.le_of_eq h.1)]; simp [h.1], ?_⟩
  dsimp only
  rw [if_pos rfl]; exact hx
 ·obtain ⟨q, h1, h2⟩ := h.2 k (by omega)
  refine ⟨q, by rw [List.getElem?_append_left (by have := h.1; omega)]; exact h1, ?_⟩
  dsimp only
  rw [if_neg e]; exact h2
theorem RowF.set {W : World} {us : List Value} {wd : Nat} {f : Nat → Rat} (h : RowF W us wd f) (k0 : Nat) {p : Nat} {x : Rat} (hx : RI W p x) : RowF W (us.set k0 (.pointer (some ⟨p, 0, none⟩))) wd (fun k => if k = k0 then x else f k) := by
 refine ⟨by simp [h.1], fun k hk => ?_⟩
 by_cases e : k = k0
 ·subst e
  refine ⟨p, List.getElem?_set_self (Nat.lt_of_lt_of_eq hk h.1.symm), ?_⟩
  dsimp only
  rw [if_pos rfl]; exact hx
 ·obtain ⟨q, h1, h2⟩ := h.2 k hk
  refine ⟨q, by rw [List.getElem?_set_ne (by omega)]; exact h1, ?_⟩
  dsimp only
  rw [if_neg e]; exact h2
def Grd (W : World) (lo g cap : Nat) (vs : List Value) (m wd : Nat) (M : TR) : Prop :=
 lo ≤ g ∧ Cb W 69 g cap vs ∧ vs.length = m ∧ (∀ r, r < m → ∃ b c us, vs[r]? = some (.slice (some ⟨b, 0, none⟩) wd c) ∧ lo ≤ b ∧ Cb W 74 b c us ∧ RowF W us wd (M r)) ∧
 (∀ (r s b c c' : Nat), r < m → s < m → vs[r]? = some (.slice (some ⟨b, 0, none⟩) wd c) → vs[s]? = some (.slice (some ⟨b, 0, none⟩) wd c') → r = s)
section
variable {W W' : World} {lo g cap m wd : Nat} {vs : List Value} {M : TR}
theorem Cb.ne {e e' : TypeId} {g g' c c' : Nat} {us us' : List Value} (h : Cb W e g c us) (h' : Cb W e' g' c' us') (hne : e ≠ e') : g ≠ g' := by
 obtain ⟨cs, h1, _⟩ := h
 obtain ⟨cs', h1', _⟩ := h'
 exact blk_ne h1 h1' hne
theorem Grd.congr {N : TR} (h : Grd W lo g cap vs m wd M) (e : ∀ r k, r < m → k < wd → M r k = N r k) : Grd W lo g cap vs m wd N := by
 obtain ⟨h0, h1, h2, h3, h4⟩ := h
 refine ⟨h0, h1, h2, fun r hr => ?_, h4⟩
 obtain ⟨b, c, us, q1, q2, q3, q4⟩ := h3 r hr
 exact ⟨b, c, us, q1, q2, q3, q4.congr (fun k hk => e r k hr hk)⟩
theorem Grd.below (h : Grd W lo g cap vs m wd M) (hb : Below W.heap.size W W') : Grd W' lo g cap vs m wd M := by
 obtain ⟨h0, h1, h2, h3, h4⟩ := h
 refine ⟨h0, h1.below hb, h2, fun r hr => ?_, h4⟩
 obtain ⟨b, c, us, q1, q2, q3, q4⟩ := h3 r hr
 exact ⟨b, c, us, q1, q2, q3.below hb, q4.par (Par.of_below hb)⟩
theorem Grd.new (W : World) (wd : Nat) (M : TR) (lo : Nat) (hlo : lo ≤ W.heap.size) : Grd (W.alloc (.cells #[] 69)) lo W.heap.size 0 [] 0 wd M :=
 ⟨hlo, Cb.nil_new W 69, rfl, fun r hr => by omega, fun r s b c c' hr => by omega⟩
theorem Grd.row (h : Grd W lo g cap vs m wd M) (r : Nat) (hr : r < m) : ∃ b c us, vs[r]? = some (.slice (some ⟨b, 0, none⟩) wd c) ∧ lo ≤ b ∧ Cb W 74 b c us ∧ RowF W us wd (M r) ∧ W.cell? ⟨g, r, none⟩ = some (.slice (some ⟨b, 0, none⟩) wd c) ∧ W.frozen? ⟨g, r, none⟩ = false := by
 obtain ⟨b, c, us, q1, q2, q3, q4⟩ := h.2.2.2.1 r hr
 exact ⟨b, c, us, q1, q2, q3, q4, h.2.1.at_ r _ q1⟩
theorem row_at {us : List Value} {f : Nat → Rat} {b c k : Nat} (hc : Cb W 74 b c us) (hr : RowF W us wd f) (hk : k < wd) : ∃ p, W.cell? ⟨b, k, none⟩ = some (.pointer (some ⟨p, 0, none⟩)) ∧ W.frozen? ⟨b, k, none⟩ = false ∧ RI W p (f k) := by
 obtain ⟨p, h1, h2⟩ := hr.2 k hk
 obtain ⟨h3, h4⟩ := hc.at_ k _ h1
 exact ⟨p, h3, h4, h2⟩
theorem Grd.snoc {Wq : World} (h : Grd Wq lo g cap vs m wd M) (hb : Below Wq.heap.size Wq W) (hlo : lo ≤ Wq.heap.size) {b c : Nat} {us : List Value} {f : Nat → Rat} (hle : Wq.heap.size ≤ b) (hc : Cb W 74 b c us) (hr : RowF W us wd f)
  {w1 : World} {g1 cap1 : Nat} (hC : Cb w1 69 g1 cap1 (vs ++ [.slice (some ⟨b, 0, none⟩) wd c])) (hat : g1 = g ∨ W.heap.size ≤ g1) (hg : W.grownBy w1 (some g)) :
  Grd w1 lo g1 cap1 (vs ++ [.slice (some ⟨b, 0, none⟩) wd c]) (m + 1) wd (fun r k => if r = m then f k else M r k) := by
 have hW := h.below hb
 have hp : Par W w1 := Par.grown hW.2.1 hg
 have hgl := h.2.1.lt
 have hs := hb.size
 refine ⟨?_, hC, by simp [h.2.2.1], fun r hrm => ?_, fun r s b1 c1 c2 hrm hsm e1 e2 => ?_⟩
 ·have := h.1
  rcases hat with e | e <;> omega
 ·by_cases e : r = m
  ·subst e
   refine ⟨b, c, us, by rw [List.getElem?_append_right (by have := h.2.2.1; omega)]; simp [h.2.2.1], by omega, hc.kept (hg.block b hc.lt (fun e2 => ?_)), ?_⟩
   ·have := Option.some.inj e2
    omega
   ·exact (hr.par hp).congr (fun k hk => by dsimp only; rw [if_pos rfl])
  ·obtain ⟨b1, c1, us1, q1, q2, q3, q4, _⟩ := hW.row r (by omega)
   refine ⟨b1, c1, us1, by rw [List.getElem?_append_left (by have := h.2.2.1; omega)]; exact q1, q2, q3.kept (hg.block b1 q3.lt (fun e2 => ?_)), (q4.par hp).congr (fun k hk => by dsimp only; rw [if_neg e])⟩
   exact Cb.ne q3 hW.2.1 (by decide) (Option.some.inj e2)
 ·have hlen := h.2.2.1
  have old : ∀ r, r < m → (vs ++ [Value.slice (some ⟨b, 0, none⟩) wd c])[r]? = vs[r]? := fun r hr => List.getElem?_append_left (by omega)
  have new : (vs ++ [Value.slice (some ⟨b, 0, none⟩) wd c])[m]? = some (.slice (some ⟨b, 0, none⟩) wd c) := by rw [List.getElem?_append_right (by omega)]; simp [hlen]
  have far : ∀ r, r < m → ∀ b1 c1, vs[r]? = some (.slice (some ⟨b1, 0, none⟩) wd c1) → b1 < Wq.heap.size := by
   intro r hr b1 c1 e
   obtain ⟨b2, c2, us2, q1, q2, q3, q4, _⟩ := h.row r hr
   rw [q1] at e
   have e' : b2 = b1 := by injection e with e; injection e with e _ _; injection e with e; injection e
   rw [← e']; exact q3.lt
  by_cases hr : r = m <;> by_cases hs2 : s = m
  ·omega
  ·subst hr
   rw [new] at e1
   rw [old s (by omega)] at e2
   have e' : b = b1 := by injection e1 with e; injection e with e _ _; injection e with e; injection e
   have := far s (by omega) b1 c2 e2
   omega
  ·subst hs2
   rw [new] at e2
   rw [old r (by omega)] at e1
   have e' : b = b1 := by injection e2 with e; injection e with e _ _; injection e with e; injection e
   have := far r (by omega) b1 c1 e1
   omega
  ·rw [old r (by omega)] at e1
   rw [old s (by omega)] at e2
   exact h.2.2.2.2 r s b1 c1 c2 (by omega) (by omega) e1 e2
theorem Grd.put (h : Grd W lo g cap vs m wd M) {r k b c p : Nat} {x : Rat} (hr : r < m) (hk : k < wd) (hv : vs[r]? = some (.slice (some ⟨b, 0, none⟩) wd c)) (hx : RI W p x) :
  Grd (W.setCell ⟨b, k, none⟩ (.pointer (some ⟨p, 0, none⟩))) lo g cap vs m wd (upd M r k x) := by
 obtain ⟨b0, c0, us, q1, q2, q3, q4, _⟩ := h.row r hr
 have e : b0 = b ∧ c0 = c := by
  rw [hv] at q1
  injection q1 with q1
  injection q1 with e1 e2 e3
  injection e1 with e1
  injection e1 with e1
  exact ⟨e1.symm, e3.symm⟩
 obtain ⟨rfl, rfl⟩ := e
 obtain ⟨hc1, hg⟩ := q3.put k (.pointer (some ⟨p, 0, none⟩)) (Pv.ptr _)
 have hp : Par W (W.setCell ⟨b0, k, none⟩ (.pointer (some ⟨p, 0, none⟩))) := Par.grown q3 hg
 refine ⟨h.1, h.2.1.kept (hg.block g h.2.1.lt (fun e2 => Cb.ne h.2.1 q3 (by decide) (Option.some.inj e2))), h.2.2.1, fun s hs => ?_, h.2.2.2.2⟩
 by_cases e : s = r
 ·subst e
  refine ⟨b0, c0, _, hv, q2, hc1, ((q4.par hp).set k (RI.par hx hp)).congr (fun k' hk' => ?_)⟩
  unfold upd
  by_cases e : k' = k
  ·rw [if_pos e, if_pos ⟨rfl, e⟩]
  ·rw [if_neg e, if_neg (by omega)]
 ·obtain ⟨b1, c1, us1, t1, t2, t3, t4, _⟩ := h.row s hs
  refine ⟨b1, c1, us1, t1, t2, t3.kept (hg.block b1 t3.lt (fun e2 => ?_)), (t4.par hp).congr (fun k' hk' => by unfold upd; rw [if_neg (by omega)])⟩
  obtain rfl := Option.some.inj e2
  exact e (h.2.2.2.2 s r b1 c1 c0 hs hr t1 hv)
theorem Grd.same (h : Grd W lo g cap vs m wd M) {r : Nat} {u : Value} (hr : r < m) (hv : vs[r]? = some u) : Grd (W.setCell ⟨g, r, none⟩ u) lo g cap vs m wd M := by
 obtain ⟨b0, c0, us, q1, q2, q3, q4, _⟩ := h.row r hr
 have hu : Pv u := by rw [hv] at q1; injection q1 with q1; rw [q1]; exact Pv.slice _ _ _
 obtain ⟨hc1, hg⟩ := h.2.1.put r u hu
 have e : vs.set r u = vs := by
  apply List.ext_getElem?
  intro i
  rw [List.getElem?_set]
  split
  ·rename_i e; subst e
   rw [hv]
   split
   ·rfl
   ·rename_i hlt; have := h.2.2.1; omega
  ·rfl
 rw [e] at hc1
 have hp : Par W (W.setCell ⟨g, r, none⟩ u) := Par.grown h.2.1 hg
 refine ⟨h.1, hc1, h.2.2.1, fun s hs => ?_, h.2.2.2.2⟩
 obtain ⟨b1, c1, us1, t1, t2, t3, t4, _⟩ := h.row s hs
 exact ⟨b1, c1, us1, t1, t2, t3.kept (hg.block b1 t3.lt (fun e2 => Cb.ne t3 h.2.1 (by decide) (Option.some.inj e2))), t4.par hp⟩
theorem below_grownB {B : Nat} {a b c : World} {g : Nat} (h : Below B a b) (hB : B ≤ a.heap.size) (hg : b.grownBy c (some g)) (hle : B ≤ g) : Below B a c :=
 ⟨hg.os.trans h.os, hg.tape.trans h.tape, hg.output.trans h.output, Nat.le_trans h.size hg.size, fun k hk => (hg.block k (by have := h.size; omega) (fun e => by have := Option.some.inj e; omega)).trans (h.block k hk)⟩
end
theorem info69 : (Try.prog.info? 69).map (fun i => (i.zero, i.size, i.bytes)) = some (some (.slice none 0 0), 1, 24) := by kernel_rfl
theorem info74 : (Try.prog.info? 74).map (fun i => (i.zero, i.size, i.bytes)) = some (some (.pointer none), 1, 8) := by kernel_rfl
end Go.Proofs.Ytkafbmanmffliaa.Ge

