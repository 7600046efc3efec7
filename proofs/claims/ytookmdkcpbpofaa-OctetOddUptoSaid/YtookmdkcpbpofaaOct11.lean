/-
  The contract of the statements' anchor: works.
-/
import Derived.Test.YtookmdkcpbpofaaOct10
namespace Go.Proofs.Ytookmdkcpbpofaa
open Go Go.RowKit

theorem w_get (v : Value) (w : World) (hv : Byt w v [1, 2, 3]) : Calls Try.prog 14 #[v, .int .i64 1, .int .i64 2] w fun e w' => e = .returned (.tuple #[.int .u64 770, .int .i64 0]) ∧ Below w.heap.size w w' := by
  have := get_calls v [1, 2, 3] 1 2 w hv (by unfold I64; omega) (by unfold I64; omega) (by decide)
  rw [show gotL [1, 2, 3] 1 2 = 770 by decide, show gotE [1, 2, 3] 1 2 = 0 by decide] at this
  exact this
theorem w_getBig (v : Value) (w : World) (hv : Byt w v [1, 2, 3]) : Calls Try.prog 16 #[v, .int .i64 1, .int .i64 2] w fun e w' => e = .returned (.tuple #[.int .u64 515, .int .i64 0]) ∧ Below w.heap.size w w' := by
  have := getBig_calls v [1, 2, 3] 1 2 w hv (by unfold I64; omega) (by unfold I64; omega) (by decide)
  rw [show gotB [1, 2, 3] 1 2 = 515 by decide, show gotE [1, 2, 3] 1 2 = 0 by decide] at this
  exact this
theorem w_cut (v : Value) (w : World) (hv : Byt w v [1, 2, 3]) : Calls Try.prog 18 #[v, .int .i64 1, .int .i64 2] w fun e w' => ∃ g cap, e = .returned (.tuple #[.slice (some ⟨g, 0, none⟩) 2 cap, .bool true]) ∧ w'.cell? ⟨g, 1, none⟩ = some (.int .u8 3) ∧ Below w.heap.size w w' := by
  have := cut_calls v [1, 2, 3] 1 2 w hv (by unfold I64; omega) (by unfold I64; omega) (by decide)
  rw [show withinB ([1, 2, 3] : List UInt8).length 1 2 = true by decide, show cutL [1, 2, 3] 1 2 = [2, 3] by decide] at this
  refine this.mono ?_
  rintro e w5 ⟨v', rfl, hown5, hb⟩
  obtain ⟨g, cap5, rfl, _⟩ := hown5.head (by simp)
  refine ⟨g, cap5, rfl, ?_, hb⟩
  obtain ⟨_, _, e, _, _, h⟩ := hown5.byt.open
  obtain ⟨b, off, e2, hc⟩ := h 1 (by simp)
  simp only [Value.slice.injEq] at e
  obtain ⟨rfl, _, rfl⟩ := e
  simp only [Option.some.injEq, Addr.mk.injEq] at e2
  obtain ⟨rfl, rfl, _⟩ := e2
  exact hc
theorem w_wide (w : World) : Calls Try.prog 25 #[.string ⟨#[65, 66]⟩] w fun e w' => ∃ v', e = .returned v' ∧ OwnB w' w.heap.size v' [65, 0, 66, 0] ∧ Below w.heap.size w w' := by
  have := wide_calls [65, 66] w (by decide)
  rw [show wideL [65, 66] = [65, 0, 66, 0] by decide] at this
  exact this
theorem w_narrow (v : Value) (w : World) (hv : Byt w v [65, 0, 66, 0]) : Calls Try.prog 23 #[v] w fun e w' => e = .returned (.tuple #[.string ⟨#[65, 66]⟩, .int .i64 0]) ∧ Below w.heap.size w w' := by
  have := narrow_calls v [65, 0, 66, 0] w hv (by decide)
  rw [show narS [65, 0, 66, 0] = [65, 66] by decide, show narE [65, 0, 66, 0] = 0 by decide] at this
  exact this
theorem w_put (w : World) : Calls Try.prog 28 #[.slice none 0 0, .int .u64 7, .int .i64 4] w fun e w' => ∃ g cap, e = .returned (.slice (some ⟨g, 0, none⟩) 4 cap) ∧ Below w.heap.size w w' := by
  have := put_calls (.slice none 0 0) [] 7 4 w (Byt.nil _) (by decide) (by decide)
  rw [show putL [] 7 4 = [7, 0, 0, 0] by decide] at this
  refine this.mono ?_
  rintro e w' ⟨v', rfl, hown, hb⟩
  obtain ⟨g, cap, rfl, _⟩ := hown.head (by simp)
  exact ⟨g, cap, rfl, hb⟩

set_option maxHeartbeats 1600000 in
theorem works_calls (w : World) : Calls Try.prog 12 #[] w fun e w' => e = .returned (.bool true) ∧ Below w.heap.size w w' := by
  have hm := Byt.made w [1, 2, 3] #[.int .u8 1, .int .u8 2, .int .u8 3] 5 (0, 0) (by simp [b8]) (by unfold maxLen; simp)
  have hb0 : Below w.heap.size w (w.alloc (.cells #[.int .u8 1, .int .u8 2, .int .u8 3] 5)) := (Below.refl _ _).alloc (Nat.le_refl _) _
  have HM := Lib.hid hm
  have HB0 := Lib.hid hb0
  clear hm hb0
  go_enter Try.func12, Try.ntmps12
  go_wp2_with (go_at_call 14; refine (w_get _ _ HM.out).mono ?_; rintro e w1 ⟨rfl, hb1⟩)
  have HM1 := Lib.hid (HM.out.below hb1)
  have HB1 := Lib.hid (HB0.out.trans (hb1.mono HB0.out.size))
  clear hb1 HM HB0
  go_wp2_with (go_at_call 16; refine (w_getBig _ _ HM1.out).mono ?_; rintro e w2 ⟨rfl, hb2⟩)
  have HM2 := Lib.hid (HM1.out.below hb2)
  have HB2 := Lib.hid (HB1.out.trans (hb2.mono HB1.out.size))
  clear hb2 HM1 HB1
  go_wp2_with (go_at_call 25; refine (w_wide _).mono ?_; rintro e w3 ⟨v3, rfl, hown3, hb3⟩)
  have HM3 := Lib.hid (HM2.out.below hb3)
  have HB3 := Lib.hid (HB2.out.trans (hb3.mono HB2.out.size))
  have HV3 := Lib.hid hown3.byt
  clear hb3 HM2 HB2 hown3
  go_wp2_with (go_at_call 23; refine (w_narrow _ _ HV3.out).mono ?_; rintro e w4 ⟨rfl, hb4⟩)
  have HM4 := Lib.hid (HM3.out.below hb4)
  have HB4 := Lib.hid (HB3.out.trans (hb4.mono HB3.out.size))
  clear hb4 HM3 HB3 HV3
  go_wp2_with (go_at_call 18; refine (w_cut _ _ HM4.out).mono ?_; rintro e w5 ⟨g, cap5, rfl, hc5, hb5⟩)
  have HB5 := Lib.hid (HB4.out.trans (hb5.mono HB4.out.size))
  clear hb5 HM4 HB4
  go_wp2_with (go_at_call 28; refine (w_put _).mono ?_; rintro e w6 ⟨g6, cap6, rfl, hb6⟩)
  go_ret
  exact ⟨rfl, HB5.out.trans (hb6.mono HB5.out.size)⟩
end Go.Proofs.Ytookmdkcpbpofaa
