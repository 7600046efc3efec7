/-
  Contracts of octet.Cut, Get, GetBig, and of the document's own.
-/
import Derived.Test.YtilanncobbdlfaaOct1
namespace Go.Proofs.Ytilanncobbdlfaa
open Go Go.RowKit

/-- A number that an int can be. -/
def I64 (n : Int) : Prop := -9223372036854775808 ≤ n ∧ n ≤ 9223372036854775807

set_option maxHeartbeats 400000 in
theorem refSized_calls (n : Int) (w : World) :
    Calls Try.prog 60 #[.int .i64 n] w fun e w' => e = .returned (.bool (sizedB n)) ∧ w = w' := by
  by_cases c1 : n = 1
  · subst c1
    go_enter Try.func60, Try.ntmps60
    go_wp2
    go_ret
    exact ⟨rfl, rfl⟩
  by_cases c2 : n = 2
  · subst c2
    go_enter Try.func60, Try.ntmps60
    go_wp2
    go_ret
    exact ⟨rfl, rfl⟩
  by_cases c4 : n = 4
  · subst c4
    go_enter Try.func60, Try.ntmps60
    go_wp2
    go_ret
    exact ⟨rfl, rfl⟩
  by_cases c8 : n = 8
  · subst c8
    go_enter Try.func60, Try.ntmps60
    go_wp2
    go_ret
    exact ⟨rfl, rfl⟩
  · have hr : Hid (sizedB n = false) := decide_eq_false (by omega)
    have b1 : (n == 1) = false := by simpa using c1
    have b2 : (n == 2) = false := by simpa using c2
    have b4 : (n == 4) = false := by simpa using c4
    have b8 : (n == 8) = false := by simpa using c8
    clear c1 c2 c4 c8
    go_enter Try.func60, Try.ntmps60
    go_wp2
    go_ret
    exact ⟨by rw [hr.out]; simp, rfl⟩

set_option maxHeartbeats 800000 in
theorem refCut_calls (v : Value) (l : List UInt8) (p n : Int) (w : World) (hv : Byt w v l) (hp : I64 p) (hn : I64 n) (hl : l.length ≤ 1000000000000) :
    Calls Try.prog 59 #[v, .int .i64 p, .int .i64 n] w fun e w' => ∃ v', e = .returned (.tuple #[v', .bool (withinB l.length p n)]) ∧ OwnB w' w.heap.size v' (cutL l p n) ∧ Below w.heap.size w w' := by
  obtain ⟨a, cap, rfl, h1, h2, _⟩ := hv.open
  unfold I64 at hp hn
  cases hw : withinB l.length p n with
  | false =>
    have hcut : Hid (cutL l p n = []) := by unfold Hid cutL; rw [hw]; rfl
    have hno : ¬ (0 ≤ p ∧ 0 ≤ n ∧ p ≤ (l.length : Int) ∧ n ≤ (l.length : Int) - p) := fun h => by rw [(withinB_iff _ _ _).2 h] at hw; cases hw
    clear hw
    by_cases c1 : 0 ≤ p
    · by_cases c2 : 0 ≤ n
      · by_cases c3 : p ≤ (l.length : Int)
        · have c4 : (l.length : Int) - p < n := by omega
          clear hno
          go_enter Try.func59, Try.ntmps59
          go_wp2
          go_ret2
          exact ⟨_, rfl, by rw [hcut.out]; exact OwnB.empty _ _ _, Below.refl _ _⟩
        · clear hno
          go_enter Try.func59, Try.ntmps59
          go_wp2
          go_ret2
          exact ⟨_, rfl, by rw [hcut.out]; exact OwnB.empty _ _ _, Below.refl _ _⟩
      · clear hno
        go_enter Try.func59, Try.ntmps59
        go_wp2
        go_ret2
        exact ⟨_, rfl, by rw [hcut.out]; exact OwnB.empty _ _ _, Below.refl _ _⟩
    · clear hno
      go_enter Try.func59, Try.ntmps59
      go_wp2
      go_ret2
      exact ⟨_, rfl, by rw [hcut.out]; exact OwnB.empty _ _ _, Below.refl _ _⟩
  | true =>
    obtain ⟨b0, b1, b2, b3⟩ := (withinB_iff _ _ _).1 hw
    obtain ⟨v', hs, hv'⟩ := byt_slice hv p (p + n) b0 (by omega) (by omega)
    rw [show p + n - p = n by omega] at hv'
    have hsl : (seg l p n).length ≤ 140737488355328 := by rw [seg_length l p n hw]; omega
    have HW := Lib.hid hw
    clear hw
    go_enter Try.func59, Try.ntmps59
    go_wp2_with (go_at_call 53; refine (copyBytes_calls v' _ _ hv' hsl).mono ?_; rintro e w1 ⟨v1, rfl, hown, hb1⟩)
    go_ret2
    exact ⟨_, rfl, by unfold cutL; rw [HW.out, if_pos rfl]; exact hown, hb1⟩
end Go.Proofs.Ytilanncobbdlfaa
