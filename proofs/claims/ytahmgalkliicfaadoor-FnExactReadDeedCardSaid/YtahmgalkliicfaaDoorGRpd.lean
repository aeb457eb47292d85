/- Parts of the proof that the law of this seat holds: RdW. -/
import Derived.Test.YtahmgalkliicfaaDoorGRpc
import Derived.Test.YtahmgalkliicfaaDoorGRpb
set_option linter.unusedVariables false
set_option linter.unusedSimpArgs false
/- The law on ReadDeed, walked where both sides hand back the same deed. -/
namespace Go.Proofs.YtahmgalkliicfaaDoor.RdW
open Go.RowKit Go.Proofs.YtahmgalkliicfaaDoorW.PrintWords Go.Proofs.YtahmgalkliicfaaDoorW.PrintLast Go.Proofs.YtahmgalkliicfaaDoorW.PrintMore Go.Proofs.YtahmgalkliicfaaDoor.Q Go.Proofs.YtahmgalkliicfaaDoor.Ni
set_option linter.unusedVariables false
set_option linter.unusedSimpArgs false
set_option maxRecDepth 100000 in
set_option maxHeartbeats 2000000 in
theorem walk (a0 : ByteArray) (t0 t1 t2 t3 t4 t5 t6 t7 t8 : Int) (b : Bool) (h1 : spec_ReadDeed.f a0 = some (t0, t1, t2, t3, t4, t5, t6, t7, t8, b)) (h2 : impl_ReadDeed.f a0 = some (t0, t1, t2, t3, t4, t5, t6, t7, t8, b)) (hs : ¬ (a0.size : Int) > 1048576) (w : World) (hT : Tb.TC w) :
    Calls Tryd.prog 7 #[.string a0] w fun e w' => e = .returned (.bool true) ∧ Below w.heap.size w w' := by
  have HT := Aside0.mk hT
  have H1 := Aside0.mk h1
  have H2 := Aside0.mk h2
  have H3 := Aside0.mk (PuRL.eqDeed_refl t0 t1 t2 t3 t4 t5 t6 t7 t8)
  have hu := Tryd.underlying41
  have hb0 : (b != b) = false := bne_self_eq_false b
  have c2b0 : decide (1048576 < (a0.size : Int)) = false := decide_eq_false hs
  have c2b1 : decide (1048576 < a0.size) = false := decide_eq_false (by omega)
  clear hs hT h1 h2
  go_enter Tryd.func7, Tryd.ntmps7
  go_wp2_with (first
    | (go_at_call 27; refine (spec_ReadDeed.calls a0 t0 t1 t2 t3 t4 t5 t6 t7 t8 b _ H1.out).mono ?_; rintro e w1 ⟨rfl, hb⟩; have HB := Aside0.mk hb; clear hb)
    | ((with_reducible refine gate_dst (N := 3) rfl ?_); refine box_event ?hg (N := 3) ?hd (cs := #[.int .i64 0, .int .i64 0, .int .i64 0, .int .i64 0, .int .i64 0, .int .i64 0, .int .i64 0, .int .i64 0, .int .i64 0]) (t := 41) ?hr ?_; (case hd => rfl); (case hg => rfl); (case hr => first | (go_simp; done) | (go_simp; rfl)); intro g1 hg w2 hbox hb; have HB2 := Aside0.mk (below_step HB.out hb); have HG := Aside0.mk (show w.heap.size ≤ g1 by rw [hg]; exact below_size HB.out); have BK := Aside0.mk (show w2.heap[g1]? = some (blkN n0) from hbox); clear hb hbox hg; obtain ⟨c0, c1, c2, c3, c4, c5, c6, c7, c8⟩ := cells9 BK.out; obtain ⟨k0, k1, k2, k3, k4, k5, k6, k7, k8⟩ := frozen9 BK.out)
    | (go_at_call 28; refine (impl_ReadDeed.calls a0 t0 t1 t2 t3 t4 t5 t6 t7 t8 b _ (Tb.TC.below HT.out (below9 (t0, t1, t2, t3, t4, t5, t6, t7, t8) HB2.out HG.out)) H2.out).mono ?_; rintro e w3 ⟨rfl, hb⟩; have BK3 := Aside0.mk (blk_below (put9 (t0, t1, t2, t3, t4, t5, t6, t7, t8) BK.out) hb); have HB3 := Aside0.mk (below_step (below9 (t0, t1, t2, t3, t4, t5, t6, t7, t8) HB2.out HG.out) hb); have hA := blk_alloc BK3.out (.cells #[.int .i64 t0, .int .i64 t1, .int .i64 t2, .int .i64 t3, .int .i64 t4, .int .i64 t5, .int .i64 t6, .int .i64 t7, .int .i64 t8] 41); clear hb c0 c1 c2 c3 c4 c5 c6 c7 c8 k0 k1 k2 k3 k4 k5 k6 k7 k8; obtain ⟨d0, d1, d2, d3, d4, d5, d6, d7, d8⟩ := cells9 hA; clear hA)
    | (go_at_call 29; refine (laws_eqDeed.calls t0 t1 t2 t3 t4 t5 t6 t7 t8 t0 t1 t2 t3 t4 t5 t6 t7 t8 true _ H3.out).mono ?_; rintro e w5 ⟨rfl, hb⟩; have HB5 := Aside0.mk (below_step (below_alloc HB3.out _) hb); clear hb))
  go_ret
  exact ⟨rfl, HB5.out⟩
set_option maxRecDepth 100000 in
theorem calls (a0 : ByteArray) (w : World) (hT : Tb.TC w) : Calls Tryd.prog 7 #[.string a0] w fun e w' => e = .returned (.bool true) ∧ Below w.heap.size w w' := by
  by_cases hs : (a0.size : Int) > 1048576
  · have c2b0 : decide (1048576 < (a0.size : Int)) = true := decide_eq_true hs
    have c2b1 : decide (1048576 < a0.size) = true := decide_eq_true (by omega)
    clear hs
    go_enter Tryd.func7, Tryd.ntmps7
    go_wp2
    go_ret
    exact ⟨rfl, Below.refl _ _⟩
  · have e1 := PuRL.spec_eq a0 (by omega)
    have e2 := PuRL.impl_eq a0 (by omega)
    revert e1 e2
    generalize Ht.readS a0.data.toList = x
    obtain ⟨⟨t0, t1, t2, t3, t4, t5, t6, t7, t8⟩, b⟩ := x
    intro e1 e2
    exact walk a0 t0 t1 t2 t3 t4 t5 t6 t7 t8 b e1 e2 hs w hT
end Go.Proofs.YtahmgalkliicfaaDoor.RdW

