/-
  The contracts of the document's own days and Right.
-/
import Derived.Test.YtilanncobbdlfaaStamp2
namespace Go.Proofs.Ytilanncobbdlfaa
open Go Go.RowKit

set_option maxHeartbeats 4000000 in
theorem refDays_calls (y m : Int) (w : World) (hy : 0 ≤ y ∧ y ≤ 65535) (hm : 0 ≤ m ∧ m ≤ 255) :
    Calls Try.prog 63 #[.int .i64 y, .int .i64 m] w fun e w' => e = .returned (.int .i64 (daysZ y m)) ∧ w' = w := by
  by_cases h13 : 13 ≤ m
  · have hr : Hid (daysZ y m = 0) := Lib.hid (by unfold daysZ; rw [if_neg (by omega), if_neg (by omega), if_neg (by omega)])
    have d1 : (m == 1) = false := by simp; omega
    have d2 : (m == 2) = false := by simp; omega
    have d3 : (m == 3) = false := by simp; omega
    have d4 : (m == 4) = false := by simp; omega
    have d5 : (m == 5) = false := by simp; omega
    have d6 : (m == 6) = false := by simp; omega
    have d7 : (m == 7) = false := by simp; omega
    have d8 : (m == 8) = false := by simp; omega
    have d9 : (m == 9) = false := by simp; omega
    have d10 : (m == 10) = false := by simp; omega
    have d11 : (m == 11) = false := by simp; omega
    have d12 : (m == 12) = false := by simp; omega
    go_enter Try.func63, Try.ntmps63
    go_wp2
    go_ret
    exact ⟨ret_int hr.out.symm, rfl⟩
  · by_cases h2 : m = 2
    · subst h2
      clear h13 hm
      by_cases c4 : y % 4 = 0
      · by_cases c100 : y % 100 = 0
        · by_cases c400 : y % 400 = 0
          · have hr : Hid (daysZ y 2 = 29) := Lib.hid (by unfold daysZ; rw [if_neg (by omega), if_neg (by omega), if_pos rfl, if_pos ⟨c4, .inr c400⟩])
            go_enter Try.func63, Try.ntmps63
            go_wp2
            go_ret
            exact ⟨ret_int hr.out.symm, rfl⟩
          · have hr : Hid (daysZ y 2 = 28) := Lib.hid (by unfold daysZ; rw [if_neg (by omega), if_neg (by omega), if_pos rfl, if_neg (by omega)])
            have d400 : (y % 400 == 0) = false := by simpa using c400
            clear c400
            go_enter Try.func63, Try.ntmps63
            go_wp2
            go_ret
            exact ⟨ret_int hr.out.symm, rfl⟩
        · have hr : Hid (daysZ y 2 = 29) := Lib.hid (by unfold daysZ; rw [if_neg (by omega), if_neg (by omega), if_pos rfl, if_pos ⟨c4, .inl c100⟩])
          have d100 : (y % 100 != 0) = true := by simpa using c100
          have d101 : (y % 100 == 0) = false := by simpa using c100
          clear c100
          go_enter Try.func63, Try.ntmps63
          go_wp2
          go_ret
          exact ⟨ret_int hr.out.symm, rfl⟩
      · have hr : Hid (daysZ y 2 = 28) := Lib.hid (by unfold daysZ; rw [if_neg (by omega), if_neg (by omega), if_pos rfl, if_neg (by omega)])
        have d4 : (y % 4 == 0) = false := by simpa using c4
        clear c4
        go_enter Try.func63, Try.ntmps63
        go_wp2
        go_ret
        exact ⟨ret_int hr.out.symm, rfl⟩
    · have : m = 0 ∨ m = 1 ∨ m = 3 ∨ m = 4 ∨ m = 5 ∨ m = 6 ∨ m = 7 ∨ m = 8 ∨ m = 9 ∨ m = 10 ∨ m = 11 ∨ m = 12 := by omega
      clear h13 h2 hm
      rcases this with rfl | rfl | rfl | rfl | rfl | rfl | rfl | rfl | rfl | rfl | rfl | rfl
      all_goals
        go_enter Try.func63, Try.ntmps63
        go_wp2
        go_ret
        exact ⟨by simp [daysZ], rfl⟩

/-- The ways through the document's tests, by the first that fails. -/
theorem refRight_ways (y mo d h mi s : Int) :
    (decide (1900 ≤ y) = false ∧ Hid (rightB ⟨y, mo, d, h, mi, s⟩ = false)) ∨
    (decide (1900 ≤ y) = true ∧ decide (y ≤ 9999) = false ∧ Hid (rightB ⟨y, mo, d, h, mi, s⟩ = false)) ∨
    (decide (1900 ≤ y) = true ∧ decide (y ≤ 9999) = true ∧ decide (1 ≤ d) = false ∧ Hid (rightB ⟨y, mo, d, h, mi, s⟩ = false)) ∨
    (decide (1900 ≤ y) = true ∧ decide (y ≤ 9999) = true ∧ decide (1 ≤ d) = true ∧ decide (d ≤ daysZ y mo) = false ∧ Hid (rightB ⟨y, mo, d, h, mi, s⟩ = false)) ∨
    (decide (1900 ≤ y) = true ∧ decide (y ≤ 9999) = true ∧ decide (1 ≤ d) = true ∧ decide (d ≤ daysZ y mo) = true ∧ (
      (decide (h < 24) = false ∧ Hid (rightB ⟨y, mo, d, h, mi, s⟩ = false)) ∨
      (decide (h < 24) = true ∧ decide (mi < 60) = false ∧ Hid (rightB ⟨y, mo, d, h, mi, s⟩ = false)) ∨
      (decide (h < 24) = true ∧ decide (mi < 60) = true ∧ decide (s < 60) = false ∧ Hid (rightB ⟨y, mo, d, h, mi, s⟩ = false)) ∨
      (decide (h < 24) = true ∧ decide (mi < 60) = true ∧ decide (s < 60) = true ∧ Hid (rightB ⟨y, mo, d, h, mi, s⟩ = true)))) := by
  unfold Hid rightB
  simp only [decide_eq_true_iff, decide_eq_false_iff_not]
  omega

set_option maxHeartbeats 8000000 in
theorem refRight_calls (t : Tm) (w : World) (ht : t.Fit) :
    Calls Try.prog 52 #[tmV t] w fun e w' => e = .returned (.bool (rightB t)) ∧ Below w.heap.size w w' := by
  obtain ⟨y, mo, d, h, mi, s⟩ := t
  obtain ⟨hy, hmo, hd, hh, hmi, hs⟩ := ht
  simp only at hy hmo hd hh hmi hs
  have HD := Lib.hid (fun w => refDays_calls y mo w hy hmo)
  have hways := refRight_ways y mo d h mi s
  obtain ⟨D, hD⟩ : ∃ D, Hid (D = daysZ y mo) := ⟨_, Lib.hid rfl⟩
  rw [← hD.out] at HD hways
  have hDb : 0 ≤ D ∧ D ≤ 31 := by rw [hD.out]; exact daysZ_le y mo
  unfold tmV
  simp only
  rcases hways with ⟨q1, hr⟩ | ⟨q1, q2, hr⟩ | ⟨q1, q2, q3, hr⟩ | ⟨q1, q2, q3, q4, hr⟩ | ⟨q1, q2, q3, q4, ⟨q5, hr⟩ | ⟨q5, q6, hr⟩ | ⟨q5, q6, q7, hr⟩ | ⟨q5, q6, q7, hr⟩⟩
  all_goals
    go_enter Try.func52, Try.ntmps52
    go_wp2
    go_quiet ((go_at_call 63; exact Calls.quiet_of_same (HD.out _)))
    go_wp2
    go_ret
    exact ⟨ret_bool hr.out.symm, below_drewN ((Below.refl _ _).alloc (Nat.le_refl _) _) _⟩
end Go.Proofs.Ytilanncobbdlfaa
