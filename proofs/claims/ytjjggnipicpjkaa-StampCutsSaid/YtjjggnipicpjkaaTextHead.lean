/-
  The contracts of Right, Less and text, with their answers as they are known ahead.
-/
import Derived.Test.YtjjggnipicpjkaaStWorks
import Derived.Test.YtjjggnipicpjkaaText
namespace Go.Proofs.Ytjjggnipicpjkaa
open Go Go.RowKit

theorem right_any (t : Tm) (b : Bool) (h : rightB t = b) (ht : t.Fit) (w : World) :
    Calls Try.prog 23 #[.agg #[.int .u16 t.y, .int .u8 t.mo, .int .u8 t.d, .int .u8 t.h, .int .u8 t.mi, .int .u8 t.s]] w fun e w' => e = .returned (.bool b) ∧ Below w.heap.size w w' := by rw [← h]; exact right_calls t w ht
theorem less_any (t u : Tm) (b : Bool) (h : lessB t u = b) (ht : t.Fit) (hu : u.Fit) (w : World) :
    Calls Try.prog 22 #[.agg #[.int .u16 t.y, .int .u8 t.mo, .int .u8 t.d, .int .u8 t.h, .int .u8 t.mi, .int .u8 t.s], .agg #[.int .u16 u.y, .int .u8 u.mo, .int .u8 u.d, .int .u8 u.h, .int .u8 u.mi, .int .u8 u.s]] w fun e w' => e = .returned (.bool b) ∧ Below w.heap.size w w' := by rw [← h]; exact less_calls t u w ht hu
theorem text_any (t : Tm) (X : List UInt8) (h : X = txL t) (ht : t.Fit) (hr : rightB t = true) (w : World) :
    Calls Try.prog 24 #[.agg #[.int .u16 t.y, .int .u8 t.mo, .int .u8 t.d, .int .u8 t.h, .int .u8 t.mi, .int .u8 t.s]] w fun e w' => ∃ v', e = .returned v' ∧ OwnB w' w.heap.size v' X ∧ Below w.heap.size w w' := by rw [h]; exact text_calls t w ht hr
theorem text_head (t : Tm) (X : List UInt8) (h : X = txL t) (ht : t.Fit) (hr : rightB t = true) (w : World) :
    Calls Try.prog 24 #[.agg #[.int .u16 t.y, .int .u8 t.mo, .int .u8 t.d, .int .u8 t.h, .int .u8 t.mi, .int .u8 t.s]] w fun e w' => ∃ g c, e = .returned (.slice (some ⟨g, 0, none⟩) 15 c) ∧ w.heap.size ≤ g ∧ 15 ≤ c ∧ c ≤ 9223372036854775807 ∧ OwnB w' w.heap.size (.slice (some ⟨g, 0, none⟩) 15 c) X ∧ Below w.heap.size w w' := by
  refine (text_any t X h ht hr w).mono ?_
  rintro e w' ⟨v', rfl, ho, hb⟩
  subst h
  obtain ⟨g, c, e1, hg1, _, _, h4, h5⟩ := Own.head ho (by rw [txL_length]; decide)
  rw [txL_length] at e1 h4
  subst e1
  unfold maxLen at h5
  exact ⟨g, c, rfl, hg1, h4, by omega, ho, hb⟩
end Go.Proofs.Ytjjggnipicpjkaa
