/-
  Contracts of stamp's days and Right, and of the document's own.
-/
import Derived.Test.YtilanncobbdlfaaBase
import Derived.Test.YtilanncobbdlfaaStampPlain
import Derived.Deep.RegionHeld3
import Derived.Outline
namespace Go.Proofs.Ytilanncobbdlfaa
open Go Go.RowKit

theorem ret_int {k : IntKind} {a b : Int} (h : a = b) : Ending.returned (.int k a) = .returned (.int k b) := by rw [h]

/-- A moment as a value. -/
def tmV (t : Tm) : Value := .agg #[.int .u16 t.y, .int .u8 t.mo, .int .u8 t.d, .int .u8 t.h, .int .u8 t.mi, .int .u8 t.s]

set_option maxHeartbeats 4000000 in
theorem days_calls (y m : Int) (w : World) (hy : 0 ≤ y ∧ y ≤ 65535) (hm : 0 ≤ m ∧ m ≤ 255) :
    Calls Try.prog 65 #[.int .u16 y, .int .u8 m] w fun e w' => e = .returned (.int .u8 (daysZ y m)) ∧ Below w.heap.size w w' := by
  by_cases h13 : 13 ≤ m
  · have hr : Hid (daysZ y m = 0) := Lib.hid (by unfold daysZ; rw [if_neg (by omega), if_neg (by omega), if_neg (by omega)])
    have hd : decide (13 ≤ m) = true := by simpa using h13
    go_enter Try.func65, Try.ntmps65
    go_wp2
    go_ret
    exact ⟨ret_int hr.out.symm, (Below.refl _ _).alloc (Nat.le_refl _) _⟩
  · by_cases h2 : m = 2
    · subst h2
      clear h13 hm
      by_cases c4 : y % 4 = 0
      · by_cases c100 : y % 100 = 0
        · by_cases c400 : y % 400 = 0
          · have hr : Hid (daysZ y 2 = 29) := Lib.hid (by unfold daysZ; rw [if_neg (by omega), if_neg (by omega), if_pos rfl, if_pos ⟨c4, .inr c400⟩])
            go_enter Try.func65, Try.ntmps65
            go_wp2
            go_ret
            exact ⟨ret_int hr.out.symm, (Below.refl _ _).alloc (Nat.le_refl _) _⟩
          · have hr : Hid (daysZ y 2 = 28) := Lib.hid (by unfold daysZ; rw [if_neg (by omega), if_neg (by omega), if_pos rfl, if_neg (by omega)])
            have d400 : (y % 400 == 0) = false := by simpa using c400
            clear c400
            go_enter Try.func65, Try.ntmps65
            go_wp2
            go_ret
            exact ⟨ret_int hr.out.symm, (Below.refl _ _).alloc (Nat.le_refl _) _⟩
        · have hr : Hid (daysZ y 2 = 29) := Lib.hid (by unfold daysZ; rw [if_neg (by omega), if_neg (by omega), if_pos rfl, if_pos ⟨c4, .inl c100⟩])
          have d100 : (y % 100 != 0) = true := by simpa using c100
          have d101 : (y % 100 == 0) = false := by simpa using c100
          clear c100
          go_enter Try.func65, Try.ntmps65
          go_wp2
          go_ret
          exact ⟨ret_int hr.out.symm, (Below.refl _ _).alloc (Nat.le_refl _) _⟩
      · have hr : Hid (daysZ y 2 = 28) := Lib.hid (by unfold daysZ; rw [if_neg (by omega), if_neg (by omega), if_pos rfl, if_neg (by omega)])
        have d4 : (y % 4 == 0) = false := by simpa using c4
        clear c4
        go_enter Try.func65, Try.ntmps65
        go_wp2
        go_ret
        exact ⟨ret_int hr.out.symm, (Below.refl _ _).alloc (Nat.le_refl _) _⟩
    · have : m = 0 ∨ m = 1 ∨ m = 3 ∨ m = 4 ∨ m = 5 ∨ m = 6 ∨ m = 7 ∨ m = 8 ∨ m = 9 ∨ m = 10 ∨ m = 11 ∨ m = 12 := by omega
      clear h13 h2 hm
      rcases this with rfl | rfl | rfl | rfl | rfl | rfl | rfl | rfl | rfl | rfl | rfl | rfl
      all_goals
        go_enter Try.func65, Try.ntmps65
        go_wp2
        go_ret
        exact ⟨by simp [daysZ], (Below.refl _ _).alloc (Nat.le_refl _) _⟩
end Go.Proofs.Ytilanncobbdlfaa
