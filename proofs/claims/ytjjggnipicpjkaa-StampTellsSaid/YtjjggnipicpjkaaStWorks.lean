/-
  The contract of the statements' anchor: works.
-/
import Derived.Test.YtjjggnipicpjkaaStamp13
import Derived.Test.YtjjggnipicpjkaaStamp5
import Derived.Test.YtjjggnipicpjkaaStamp6
import Derived.Test.YtjjggnipicpjkaaStamp9
import Derived.Lib.SlBytesConst
namespace Go.Proofs.Ytjjggnipicpjkaa
open Go Go.RowKit

theorem ww_utc (v : Value) (w : World) (hv : Byt w v [53, 48, 48, 49, 48, 50, 48, 51, 48, 52, 48, 53, 90]) : Calls Try.prog 25 #[v] w fun e w' => e = .returned (.tuple #[.agg #[.int .u16 1950, .int .u8 1, .int .u8 2, .int .u8 3, .int .u8 4, .int .u8 5], .bool true]) ∧ Below w.heap.size w w' := by
  have := utc_calls v [53, 48, 48, 49, 48, 50, 48, 51, 48, 52, 48, 53, 90] w hv (by simp)
  rw [show told 2 utcY [53, 48, 48, 49, 48, 50, 48, 51, 48, 52, 48, 53, 90] = ⟨1950, 1, 2, 3, 4, 5⟩ from (eqT_iff _ _).1 (by decide), show toldB 2 utcY [53, 48, 48, 49, 48, 50, 48, 51, 48, 52, 48, 53, 90] = true by decide] at this
  exact this
theorem ww_write (w : World) : Calls Try.prog 17 #[.agg #[.int .u16 1950, .int .u8 1, .int .u8 2, .int .u8 3, .int .u8 4, .int .u8 5]] w fun e w' => ∃ v', e = .returned v' ∧ OwnB w' w.heap.size v' (wrL ⟨1950, 1, 2, 3, 4, 5⟩) ∧ Below w.heap.size w w' :=
  write_calls ⟨1950, 1, 2, 3, 4, 5⟩ w ⟨by decide, by decide, by decide, by decide, by decide, by decide⟩
theorem ww_read (v : Value) (w : World) (hv : Byt w v (wrL ⟨1950, 1, 2, 3, 4, 5⟩)) : Calls Try.prog 15 #[v] w fun e w' => e = .returned (.tuple #[.agg #[.int .u16 1950, .int .u8 1, .int .u8 2, .int .u8 3, .int .u8 4, .int .u8 5], .int .i64 0]) ∧ Below w.heap.size w w' := by
  have := read_calls v (wrL ⟨1950, 1, 2, 3, 4, 5⟩) w hv (by rw [wrL_length]; decide)
  rw [show rd (wrL ⟨1950, 1, 2, 3, 4, 5⟩) = ⟨1950, 1, 2, 3, 4, 5⟩ from (eqT_iff _ _).1 (by decide), show rdE (wrL ⟨1950, 1, 2, 3, 4, 5⟩) = 0 by decide] at this
  exact this
theorem ww_right (w : World) : Calls Try.prog 23 #[.agg #[.int .u16 1950, .int .u8 1, .int .u8 2, .int .u8 3, .int .u8 4, .int .u8 5]] w fun e w' => e = .returned (.bool true) ∧ Below w.heap.size w w' := by
  have := right_calls ⟨1950, 1, 2, 3, 4, 5⟩ w ⟨by decide, by decide, by decide, by decide, by decide, by decide⟩
  rw [show rightB ⟨1950, 1, 2, 3, 4, 5⟩ = true by decide] at this
  exact this
theorem ww_less (w : World) : Calls Try.prog 22 #[.agg #[.int .u16 0, .int .u8 0, .int .u8 0, .int .u8 0, .int .u8 0, .int .u8 0], .agg #[.int .u16 1950, .int .u8 1, .int .u8 2, .int .u8 3, .int .u8 4, .int .u8 5]] w fun e w' => e = .returned (.bool true) ∧ Below w.heap.size w w' := by
  have := less_calls tm0 ⟨1950, 1, 2, 3, 4, 5⟩ w tm0_fit ⟨by decide, by decide, by decide, by decide, by decide, by decide⟩
  rw [show lessB tm0 ⟨1950, 1, 2, 3, 4, 5⟩ = true by decide] at this
  exact this

set_option maxRecDepth 100000 in
set_option maxHeartbeats 8000000 in
theorem works_calls (w : World) : Calls Try.prog 13 #[] w fun e w' => e = .returned (.bool true) ∧ Below w.heap.size w w' := by
  have HM := Lib.hid (Byt.made w [53, 48, 48, 49, 48, 50, 48, 51, 48, 52, 48, 53, 90] #[.int .u8 53, .int .u8 48, .int .u8 48, .int .u8 49, .int .u8 48, .int .u8 50, .int .u8 48, .int .u8 51, .int .u8 48, .int .u8 52, .int .u8 48, .int .u8 53, .int .u8 90] 5 (13, 14) (by simp [b8]) (by unfold maxLen; simp))
  have HB0 : Hid (Below w.heap.size w (w.alloc (.cells #[.int .u8 53, .int .u8 48, .int .u8 48, .int .u8 49, .int .u8 48, .int .u8 50, .int .u8 48, .int .u8 51, .int .u8 48, .int .u8 52, .int .u8 48, .int .u8 53, .int .u8 90] 5 (13, 14)))) := Lib.hid ((Below.refl _ _).alloc (Nat.le_refl _) _)
  have kc := fun (w : World) (C : Array Value) (n c : Nat) => Lib.run_convert_bytes_const (P := Try.prog) w 22 5 C n c Try.underlying22 Try.underlying5
  go_enter Try.func13, Try.ntmps13
  go_wp2_with (first
    | (go_at_call 25; refine (ww_utc _ _ HM.out).mono ?_; rintro e w1 ⟨rfl, hb⟩; have HB1 := Lib.hid (HB0.out.trans (hb.mono HB0.out.size)); clear hb)
    | (go_at_call 17; refine (ww_write _).mono ?_; rintro e w2 ⟨v2, rfl, ho, hb⟩; have HO := Lib.hid ho.byt; have HB2 := Lib.hid ((HB1.out.alloc HB1.out.size _).trans (hb.mono (by have := HB1.out.size; simp; omega))); have hcw2 : ∀ o, w2.cell? ⟨w1.heap.size, o, none⟩ = _ := (fun o => hb.cell (p := ⟨w1.heap.size, o, none⟩) (by first | (simp; done) | (simp; omega) | omega)); have hz2 : w1.heap.size < w2.heap.size := (by have hq := hb.size; simp at hq; omega); clear hb ho)
    | (go_at_call 15; refine (ww_read _ _ HO.out).mono ?_; rintro e w3 ⟨rfl, hb⟩; have HB3 := Lib.hid (HB2.out.trans (hb.mono HB2.out.size)); have hcw3 : ∀ o, w3.cell? ⟨w1.heap.size, o, none⟩ = _ := (fun o => hb.cell (p := ⟨w1.heap.size, o, none⟩) (by first | (simp; done) | (simp; omega) | omega)); have hz3 : w1.heap.size < w3.heap.size := (by have hq := hb.size; omega); clear hb)
    | (go_at_call 23; refine (ww_right _).mono ?_; rintro e w4 ⟨rfl, hb⟩; have HB4 := Lib.hid ((HB3.out.alloc HB3.out.size _).trans (hb.mono (by have := HB3.out.size; simp; omega))); have hcw4 : ∀ o, w4.cell? ⟨w1.heap.size, o, none⟩ = _ := (fun o => hb.cell (p := ⟨w1.heap.size, o, none⟩) (by first | (simp; done) | (simp; omega) | omega)); clear hb)
    | (go_at_call 22; refine (ww_less _).mono ?_; rintro e w5 ⟨rfl, hb⟩; have HB5 := Lib.hid (HB4.out.trans (hb.mono HB4.out.size)); clear hb))
  go_ret
  exact ⟨rfl, HB5.out⟩
end Go.Proofs.Ytjjggnipicpjkaa
