/-
  Contracts of octet.Cut, Get, GetBig, and of the document's own.
-/
import Derived.Test.YtjjggnipicpjkaaOct1
namespace Go.Proofs.Ytjjggnipicpjkaa
open Go Go.RowKit

/-- A number that an int can be. -/
def I64 (n : Int) : Prop := -9223372036854775808 ≤ n ∧ n ≤ 9223372036854775807

set_option maxHeartbeats 400000 in
theorem refSized_calls (n : Int) (w : World) :
    Calls Try.prog 57 #[.int .i64 n] w fun e w' => e = .returned (.bool (sizedB n)) ∧ w = w' := by
  by_cases c1 : n = 1
  · subst c1
    go_enter Try.func57, Try.ntmps57
    go_wp2
    go_ret
    exact ⟨rfl, rfl⟩
  by_cases c2 : n = 2
  · subst c2
    go_enter Try.func57, Try.ntmps57
    go_wp2
    go_ret
    exact ⟨rfl, rfl⟩
  by_cases c4 : n = 4
  · subst c4
    go_enter Try.func57, Try.ntmps57
    go_wp2
    go_ret
    exact ⟨rfl, rfl⟩
  by_cases c8 : n = 8
  · subst c8
    go_enter Try.func57, Try.ntmps57
    go_wp2
    go_ret
    exact ⟨rfl, rfl⟩
  · have hr : Hid (sizedB n = false) := decide_eq_false (by omega)
    have b1 : (n == 1) = false := by simpa using c1
    have b2 : (n == 2) = false := by simpa using c2
    have b4 : (n == 4) = false := by simpa using c4
    have b8 : (n == 8) = false := by simpa using c8
    clear c1 c2 c4 c8
    go_enter Try.func57, Try.ntmps57
    go_wp2
    go_ret
    exact ⟨by rw [hr.out]; simp, rfl⟩

end Go.Proofs.Ytjjggnipicpjkaa
