import Derived.Test.YtkkiagoacbhhjaaQ0
import Derived.Test.YtkkiagoacbhhjaaHa
namespace Go.Proofs.Ytkkiagoacbhhjaa.Hb
open Go.RowKit Go.Proofs.YtkkiagoacbhhjaaW.PrintWords Go.Proofs.YtkkiagoacbhhjaaW.PrintLast Go.Proofs.YtkkiagoacbhhjaaW.PrintMore Go.Proofs.Ytkkiagoacbhhjaa.Q Go.Proofs.Ytkkiagoacbhhjaa.Ha

theorem l00In_any (n lo hi : Int) (w : World) :
    Calls Try.prog 48 #[.int .i64 n, .int .i64 lo, .int .i64 hi] w fun e w' => e = .returned (.bool (inB lo hi n)) ∧ w' = w := by
  by_cases h : lo ≤ n
  · have h' : decide (lo ≤ n) = true := by simpa using h
    go_enter Try.func48, Try.ntmps48
    go_wp2
    go_ret
    exact ⟨ret_bool (by simp [inB, h]), rfl⟩
  · have h' : decide (lo ≤ n) = false := by simpa using h
    go_enter Try.func48, Try.ntmps48
    go_wp2
    go_ret
    exact ⟨ret_bool (by simp [inB]; omega), rfl⟩

/-- a sight is as the survey's rules ask. -/
def sightB (pts : Int) (s : S64) : Bool :=
  inB 0 (wrap64 (pts - 1)) s.f0 && inB 0 (wrap64 (pts - 1)) s.f1 && !(s.f0 == s.f1) && inB (-100) 100 s.f2 && inB 1 3 s.f3

def surveyB (pts : Int) (l : List S64) : Bool := inB 2 5 pts && decide ((l.length : Int) ≤ 8) && l.all (sightB pts)

theorem surveyB_no (pts : Int) (l : List S64) (k : Nat) (hk : k < l.length) (h : sightB pts (rd_T64 l k) = false) : surveyB pts l = false := by
  have hm : rd_T64 l k ∈ l := by simp only [rd_T64, Int.toNat_natCast]; rw [List.getD_eq_getElem?_getD, List.getElem?_eq_getElem hk]; simp
  have : l.all (sightB pts) = false := by
    rw [List.all_eq_false]; exact ⟨_, hm, by simp [h]⟩
  simp [surveyB, this]

theorem all_step (pts : Int) (l : List S64) (k : Nat) (hk : k < l.length) (hp : (l.take k).all (sightB pts) = true) (h : sightB pts (rd_T64 l k) = true) : (l.take (k + 1)).all (sightB pts) = true := by
  have : l.take (k + 1) = l.take k ++ [rd_T64 l k] := by
    rw [List.take_succ_eq_append_getElem hk]; simp [rd_T64, hk]
  rw [this, List.all_append, hp]; simp [h]

theorem l10Is_round (g : Nat) (pts : Int) (A : Option Addr) (c : Nat) (l : List S64) (w : World) (hb : w.heap[g]? = some (.cells #[.int .i64 pts, .slice A l.length c] 39 (0, 0))) (hr : Kd.C k64 w A l.length l)
    (h1 : inB 2 5 pts = true) (h2 : (l.length : Int) ≤ 8) :
    Calls Try.prog 43 #[.pointer (some ⟨g, 0, none⟩)] w fun e w' => e = .returned (.bool (surveyB pts l)) ∧ Below w.heap.size w w' := by
  have hu64 := Try.underlying64
  have hlen : l.length ≤ 9223372036854775807 := hr.2.1
  have hc0 : w.cell? ⟨g, 0, none⟩ = some (.int .i64 pts) := (blk_cell hb 0).trans rfl
  have hc1 : w.cell? ⟨g, 1, none⟩ = some (.slice A l.length c) := (blk_cell hb 1).trans rfl
  have HB := Aside0.mk hb
  have HR := Aside0.mk hr
  have HW := Aside0.mk (Below.refl w.heap.size w)
  clear hb hr
  have h2' : decide ((8 : Int) < (l.length : Int)) = false := by simpa using h2
  go_enter Try.func43, Try.ntmps43
  go_wp2_with (go_at_call 48; refine (l00In_any _ _ _ _).mono ?_; rintro e w' ⟨rfl, rfl⟩)
  go_loopw [3] (fun i wr => ∃ k : Nat, k ≤ l.length ∧ i = .int .i64 k ∧ Aside0 ((l.take k).all (sightB pts) = true) ∧ Aside0 (Below w'.heap.size w' wr)) (fun i _ => l.length - (intOf i).toNat)
  case atStart => exact ⟨0, by omega, rfl, ⟨by simp⟩, ⟨Below.refl _ _⟩⟩
  case round =>
    rename_i wr _
    obtain ⟨k, hk, rfl, hall, hbw⟩ := hrel
    clear hc0 hc1
    have HB1 := Aside0.mk (blk_below HB.out hbw.out)
    have hc0 : wr.cell? ⟨g, 0, none⟩ = some (.int .i64 pts) := (blk_cell HB1.out 0).trans rfl
    have hc1 : wr.cell? ⟨g, 1, none⟩ = some (.slice A l.length c) := (blk_cell HB1.out 1).trans rfl
    by_cases hlt : k < l.length
    · have hr1 := Kd.C_below HR.out hbw.out
      obtain ⟨ad, rfl, hx0, hx1, hx2, hx3⟩ := at_T64 hr1 (k : Int) (by omega) (by omega)
      clear hr1
      simp only [Int.toNat_natCast] at hx0 hx1 hx2 hx3
      go_wp2
      have hgl : g < wr.heap.size := blk_lt HB1.out
      have HA := Aside0.mk (hbw.out.alloc hbw.out.size (.cells #[.int .i64 (rd_T64 l ↑k).f0, .int .i64 (rd_T64 l ↑k).f1, .int .i64 (rd_T64 l ↑k).f2, .int .i64 (rd_T64 l ↑k).f3] 64))
      by_cases e0 : inB 0 (wrap64 (pts - 1)) (rd_T64 l k).f0 = true
      · by_cases e1 : inB 0 (wrap64 (pts - 1)) (rd_T64 l k).f1 = true
        · by_cases e2 : (rd_T64 l k).f0 = (rd_T64 l k).f1
          · have HF := Aside0.mk (show sightB pts (rd_T64 l k) = false by simp [sightB, e2])
            have e2' : ((rd_T64 l k).f0 == (rd_T64 l k).f1) = true := by simpa using e2
            clear e2
            go_quiet ((go_at_call 48; exact Calls.quiet_of_same (l00In_any _ _ _ _)))
            go_wp2
            go_ret
            exact ⟨ret_bool (surveyB_no pts l k hlt HF.out).symm, pw_below_drewN HA.out _⟩
          · have e2' : ((rd_T64 l k).f0 == (rd_T64 l k).f1) = false := by simpa using e2
            clear e2
            by_cases e3 : inB (-100) 100 (rd_T64 l k).f2 = true
            · by_cases e4 : inB 1 3 (rd_T64 l k).f3 = true
              · have HF := Aside0.mk (show sightB pts (rd_T64 l k) = true by simp [sightB, e0, e1, e2', e3, e4])
                go_quiet ((go_at_call 48; exact Calls.quiet_of_same (l00In_any _ _ _ _)))
                go_wp2
                go_roundw
                case rel => exact ⟨k + 1, by omega, by go_num, ⟨all_step pts l k hlt hall.out HF.out⟩, ⟨pw_below_drewN HA.out _⟩⟩
                case measure => simp [intOf]; omega
              · have e4 : inB 1 3 (rd_T64 l k).f3 = false := by simpa using e4
                have HF := Aside0.mk (show sightB pts (rd_T64 l k) = false by simp [sightB, e4])
                go_quiet ((go_at_call 48; exact Calls.quiet_of_same (l00In_any _ _ _ _)))
                go_wp2
                go_ret
                exact ⟨ret_bool (surveyB_no pts l k hlt HF.out).symm, pw_below_drewN HA.out _⟩
            · have e3 : inB (-100) 100 (rd_T64 l k).f2 = false := by simpa using e3
              have HF := Aside0.mk (show sightB pts (rd_T64 l k) = false by simp [sightB, e3])
              go_quiet ((go_at_call 48; exact Calls.quiet_of_same (l00In_any _ _ _ _)))
              go_wp2
              go_ret
              exact ⟨ret_bool (surveyB_no pts l k hlt HF.out).symm, pw_below_drewN HA.out _⟩
        · have e1 : inB 0 (wrap64 (pts - 1)) (rd_T64 l k).f1 = false := by simpa using e1
          have HF := Aside0.mk (show sightB pts (rd_T64 l k) = false by simp [sightB, e1])
          go_quiet ((go_at_call 48; exact Calls.quiet_of_same (l00In_any _ _ _ _)))
          go_wp2
          go_ret
          exact ⟨ret_bool (surveyB_no pts l k hlt HF.out).symm, pw_below_drewN HA.out _⟩
      · have e0 : inB 0 (wrap64 (pts - 1)) (rd_T64 l k).f0 = false := by simpa using e0
        have HF := Aside0.mk (show sightB pts (rd_T64 l k) = false by simp [sightB, e0])
        go_quiet ((go_at_call 48; exact Calls.quiet_of_same (l00In_any _ _ _ _)))
        go_wp2
        go_ret
        exact ⟨ret_bool (surveyB_no pts l k hlt HF.out).symm, pw_below_drewN HA.out _⟩
    · obtain rfl : k = l.length := by omega
      have HF := Aside0.mk (show surveyB pts l = true by have := hall.out; simp at this; simp [surveyB, h1, h2]; exact this)
      go_wp2
      go_ret
      exact ⟨ret_bool HF.out.symm, hbw.out⟩

theorem l10Is_any (g : Nat) (pts : Int) (A : Option Addr) (c : Nat) (l : List S64) (w : World) (hb : w.heap[g]? = some (.cells #[.int .i64 pts, .slice A l.length c] 39 (0, 0))) (hr : Kd.C k64 w A l.length l) :
    Calls Try.prog 43 #[.pointer (some ⟨g, 0, none⟩)] w fun e w' => e = .returned (.bool (surveyB pts l)) ∧ Below w.heap.size w w' := by
  by_cases h1 : inB 2 5 pts = true
  · by_cases h2 : (l.length : Int) ≤ 8
    · exact l10Is_round g pts A c l w hb hr h1 h2
    · have HF := Aside0.mk (show surveyB pts l = false by simp [surveyB]; omega)
      have hc0 : w.cell? ⟨g, 0, none⟩ = some (.int .i64 pts) := (blk_cell hb 0).trans rfl
      have hc1 : w.cell? ⟨g, 1, none⟩ = some (.slice A l.length c) := (blk_cell hb 1).trans rfl
      clear hb hr
      have h2' : decide ((8 : Int) < (l.length : Int)) = true := by simp; omega
      go_enter Try.func43, Try.ntmps43
      go_wp2_with (go_at_call 48; refine (l00In_any _ _ _ _).mono ?_; rintro e w' ⟨rfl, rfl⟩)
      go_ret
      exact ⟨ret_bool HF.out.symm, Below.refl _ _⟩
  · have h1 : inB 2 5 pts = false := by simpa using h1
    have HF := Aside0.mk (show surveyB pts l = false by simp [surveyB, h1])
    have hc0 : w.cell? ⟨g, 0, none⟩ = some (.int .i64 pts) := (blk_cell hb 0).trans rfl
    have hc1 : w.cell? ⟨g, 1, none⟩ = some (.slice A l.length c) := (blk_cell hb 1).trans rfl
    clear hb hr
    go_enter Try.func43, Try.ntmps43
    go_wp2_with (go_at_call 48; refine (l00In_any _ _ _ _).mono ?_; rintro e w' ⟨rfl, rfl⟩)
    go_ret
    exact ⟨ret_bool HF.out.symm, Below.refl _ _⟩
end Go.Proofs.Ytkkiagoacbhhjaa.Hb
