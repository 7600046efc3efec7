/-
  The contracts of stamp's Right and of the document's own.
-/
import Derived.Test.YtilanncobbdlfaaStamp1
import Derived.BigQuiet
import Derived.WalkSmall
namespace Go.Proofs.Ytilanncobbdlfaa
open Go Go.RowKit

theorem ret_bool {a b : Bool} (h : a = b) : Ending.returned (.bool a) = .returned (.bool b) := by rw [h]
theorem bcell {W w1 : World} (hb : Below W.heap.size W w1) : (∀ b o, b < W.heap.size → w1.cell? ⟨b, o, none⟩ = W.cell? ⟨b, o, none⟩) ∧ (∀ b o, b < W.heap.size → w1.frozen? ⟨b, o, none⟩ = W.frozen? ⟨b, o, none⟩) :=
  ⟨fun b o h => hb.cell (p := ⟨b, o, none⟩) h, fun b o h => hb.frozen (p := ⟨b, o, none⟩) h⟩

/-- The ways through the tests of Right, by the first that fails. -/
theorem right_ways (y mo d h mi s : Int) (hd : 0 ≤ d) :
    (decide (0 < d) = false ∧ decide (1 ≤ d) = false ∧ Hid (rightB ⟨y, mo, d, h, mi, s⟩ = false)) ∨
    (decide (0 < d) = true ∧ decide (1 ≤ d) = true ∧ decide (d ≤ daysZ y mo) = false ∧ Hid (rightB ⟨y, mo, d, h, mi, s⟩ = false)) ∨
    (decide (0 < d) = true ∧ decide (1 ≤ d) = true ∧ decide (d ≤ daysZ y mo) = true ∧ (
      (decide (1900 ≤ y) = false ∧ Hid (rightB ⟨y, mo, d, h, mi, s⟩ = false)) ∨
      (decide (1900 ≤ y) = true ∧ decide (y ≤ 9999) = false ∧ Hid (rightB ⟨y, mo, d, h, mi, s⟩ = false)) ∨
      (decide (1900 ≤ y) = true ∧ decide (y ≤ 9999) = true ∧ decide (h < 24) = false ∧ Hid (rightB ⟨y, mo, d, h, mi, s⟩ = false)) ∨
      (decide (1900 ≤ y) = true ∧ decide (y ≤ 9999) = true ∧ decide (h < 24) = true ∧ decide (mi < 60) = false ∧ Hid (rightB ⟨y, mo, d, h, mi, s⟩ = false)) ∨
      (decide (1900 ≤ y) = true ∧ decide (y ≤ 9999) = true ∧ decide (h < 24) = true ∧ decide (mi < 60) = true ∧ decide (s < 60) = false ∧ Hid (rightB ⟨y, mo, d, h, mi, s⟩ = false)) ∨
      (decide (1900 ≤ y) = true ∧ decide (y ≤ 9999) = true ∧ decide (h < 24) = true ∧ decide (mi < 60) = true ∧ decide (s < 60) = true ∧ Hid (rightB ⟨y, mo, d, h, mi, s⟩ = true)))) := by
  unfold Hid rightB
  simp only [decide_eq_true_iff, decide_eq_false_iff_not]
  omega

theorem year_ways (y : Int) : decide (1900 ≤ y) = false ∨ (decide (1900 ≤ y) = true ∧ decide (y ≤ 9999) = false) ∨ (decide (1900 ≤ y) = true ∧ decide (y ≤ 9999) = true) := by
  simp only [decide_eq_true_iff, decide_eq_false_iff_not]
  omega

set_option maxHeartbeats 8000000 in
theorem right_calls (t : Tm) (w : World) (ht : t.Fit) :
    Calls Try.prog 57 #[tmV t] w fun e w' => e = .returned (.bool (rightB t)) ∧ Below w.heap.size w w' := by
  obtain ⟨y, mo, d, h, mi, s⟩ := t
  obtain ⟨hy, hmo, hd, hh, hmi, hs⟩ := ht
  simp only at hy hmo hd hh hmi hs
  have HD := Lib.hid (fun w => days_calls y mo w hy hmo)
  have hways := right_ways y mo d h mi s hd.1
  have hyw := Lib.hid (year_ways y)
  obtain ⟨D, hD⟩ : ∃ D, Hid (D = daysZ y mo) := ⟨_, Lib.hid rfl⟩
  rw [← hD.out] at HD hways
  have hDb : 0 ≤ D ∧ D ≤ 31 := by rw [hD.out]; exact daysZ_le y mo
  unfold tmV
  simp only
  rcases hways with ⟨e1, e1', hr⟩ | ⟨e1, e1', e2, hr⟩ | ⟨e1, e1', e2, hw⟩
  · obtain rfl : d = 0 := by simp only [decide_eq_false_iff_not] at e1; omega
    clear e1 e1'
    rcases hyw.out with q | ⟨q, q2⟩ | ⟨q, q2⟩
    all_goals
      go_enter Try.func57, Try.ntmps57
      go_wp2
      go_quiet (fail)
      go_wp2
      go_ret
      exact ⟨ret_bool hr.out.symm, below_drewN ((Below.refl _ _).alloc (Nat.le_refl _) _) _⟩
  · rcases hyw.out with q | ⟨q, q2⟩ | ⟨q, q2⟩
    all_goals
      go_enter Try.func57, Try.ntmps57
      go_wp2
      go_region_held3 (fun w' => w'.cell? ⟨w.heap.size, 0, none⟩ = some (.int .u16 y) ∧ w'.cell? ⟨w.heap.size, 1, none⟩ = some (.int .u8 mo) ∧ w'.cell? ⟨w.heap.size, 2, none⟩ = some (.int .u8 d) ∧ w'.cell? ⟨w.heap.size, 3, none⟩ = some (.int .u8 h) ∧ w'.cell? ⟨w.heap.size, 4, none⟩ = some (.int .u8 mi) ∧ w'.cell? ⟨w.heap.size, 5, none⟩ = some (.int .u8 s) ∧ w.heap.size < w'.heap.size ∧ Below w.heap.size w w') (first | (refine ⟨?_, ?_, ?_, ?_, ?_, ?_, ?_, ?_⟩ <;> (first | exact ((Below.refl _ _).alloc (Nat.le_refl _) _).drew | (go_split_ands; refine Below.trans ?_ (Below.mono hb (by omega)); assumption) | (refine Below.trans ?_ (Below.mono hb (by omega)); assumption) | omega | go_keep)) | exact ((Below.refl _ _).alloc (Nat.le_refl _) _).drew | (go_split_ands; refine Below.trans ?_ (Below.mono hb (by omega)); assumption) | (refine Below.trans ?_ (Below.mono hb (by omega)); assumption) | omega | go_keep)
        (first | (go_at_call 65; refine (HD.out _).mono ?_; rintro e w' ⟨rfl, hb⟩; have hz := hb.size; obtain ⟨hcc, hff⟩ := bcell hb))
      go_wp2
      go_ret
      exact ⟨ret_bool hr.out.symm, by go_split_ands; assumption⟩
  · rcases hw with ⟨q1, hr⟩ | ⟨q1, q2, hr⟩ | ⟨q1, q2, q3, hr⟩ | ⟨q1, q2, q3, q4, hr⟩ | ⟨q1, q2, q3, q4, q5, hr⟩ | ⟨q1, q2, q3, q4, q5, hr⟩
    all_goals
      go_enter Try.func57, Try.ntmps57
      go_wp2
      go_region_held3 (fun w' => w'.cell? ⟨w.heap.size, 0, none⟩ = some (.int .u16 y) ∧ w'.cell? ⟨w.heap.size, 1, none⟩ = some (.int .u8 mo) ∧ w'.cell? ⟨w.heap.size, 2, none⟩ = some (.int .u8 d) ∧ w'.cell? ⟨w.heap.size, 3, none⟩ = some (.int .u8 h) ∧ w'.cell? ⟨w.heap.size, 4, none⟩ = some (.int .u8 mi) ∧ w'.cell? ⟨w.heap.size, 5, none⟩ = some (.int .u8 s) ∧ w.heap.size < w'.heap.size ∧ Below w.heap.size w w') (first | (refine ⟨?_, ?_, ?_, ?_, ?_, ?_, ?_, ?_⟩ <;> (first | exact ((Below.refl _ _).alloc (Nat.le_refl _) _).drew | (go_split_ands; refine Below.trans ?_ (Below.mono hb (by omega)); assumption) | (refine Below.trans ?_ (Below.mono hb (by omega)); assumption) | omega | go_keep)) | exact ((Below.refl _ _).alloc (Nat.le_refl _) _).drew | (go_split_ands; refine Below.trans ?_ (Below.mono hb (by omega)); assumption) | (refine Below.trans ?_ (Below.mono hb (by omega)); assumption) | omega | go_keep)
        (first | (go_at_call 65; refine (HD.out _).mono ?_; rintro e w' ⟨rfl, hb⟩; have hz := hb.size; obtain ⟨hcc, hff⟩ := bcell hb))
      go_wp2
      go_ret
      exact ⟨ret_bool hr.out.symm, by go_split_ands; assumption⟩

end Go.Proofs.Ytilanncobbdlfaa
