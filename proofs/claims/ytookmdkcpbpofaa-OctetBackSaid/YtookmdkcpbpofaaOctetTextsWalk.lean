/-
  The walk of the law OctetTexts.
-/
import Derived.Test.YtookmdkcpbpofaaOct11
namespace Go.Proofs.Ytookmdkcpbpofaa
open Go Go.RowKit

theorem str_l (s : ByteArray) : ∃ l : List UInt8, s = sOf l ∧ s.size = l.length := ⟨s.data.toList, (sOf_toList s).symm, (Array.length_toList (xs := s.data)).symm⟩

set_option maxHeartbeats 1600000 in
theorem octetTexts_walk (s : ByteArray) (v : Value) (l : List UInt8) (w : World) (hs : s.size ≤ maxLen) (hv : Byt w v l) :
    Calls Try.prog 4 #[.string s, v] w fun e w' => e = .returned (.bool true) ∧ Below w.heap.size w w' := by
  obtain ⟨a, cap, rfl, h1, h2, _⟩ := hv.open
  unfold maxLen at h2 hs
  obtain ⟨t, ht, hst⟩ := str_l s
  by_cases hb : 65536 < s.size
  · go_enter Try.func4, Try.ntmps4
    clear ht hst
    go_wp2_with (go_at_call 12; refine (works_calls _).mono ?_; rintro e w1 ⟨rfl, hb1⟩)
    go_ret
    exact ⟨rfl, hb1⟩
  · by_cases hbig : 131072 < l.length
    · go_enter Try.func4, Try.ntmps4
      clear ht hst
      go_wp2_with (go_at_call 12; refine (works_calls _).mono ?_; rintro e w1 ⟨rfl, hb1⟩)
      go_ret
      exact ⟨rfl, hb1⟩
    · have HW : Hid (∀ w, Calls Try.prog 25 #[.string s] w fun e w' => ∃ v', e = .returned v' ∧ OwnB w' w.heap.size v' (wideL t) ∧ Below w.heap.size w w') := Lib.hid (fun w => by rw [ht]; exact wide_calls t w (by omega))
      have HR : Hid (∀ w, Calls Try.prog 26 #[.string s] w fun e w' => ∃ v', e = .returned v' ∧ OwnB w' w.heap.size v' (wideL t) ∧ Below w.heap.size w w') := Lib.hid (fun w => by rw [ht]; exact refWide_calls t w (by omega))
      obtain ⟨T, hT⟩ : ∃ T, Hid (T = sOf (narS l)) := ⟨_, Lib.hid rfl⟩
      obtain ⟨E, hE⟩ : ∃ E, Hid (E = narE l) := ⟨_, Lib.hid rfl⟩
      have HN : Hid (∀ v w, Byt w v l → Calls Try.prog 23 #[v] w fun e w' => e = .returned (.tuple #[.string T, .int .i64 E]) ∧ Below w.heap.size w w') := Lib.hid (fun v w h => by rw [hT.out, hE.out]; exact narrow_calls v l w h (by omega))
      have HM : Hid (∀ v w, Byt w v l → Calls Try.prog 24 #[v] w fun e w' => e = .returned (.tuple #[.string T, .int .i64 E]) ∧ Below w.heap.size w w') := Lib.hid (fun v w h => by rw [hT.out, hE.out]; exact refNarrow_calls v l w h (by omega))
      clear ht hst
      go_enter Try.func4, Try.ntmps4
      go_wp2_with (go_at_call 13; refine (roomy_calls _ l _ hv (by omega)).mono ?_; rintro e w1 ⟨g, cap1, rfl, hown, hb1⟩)
      have hv1 := hv.below hb1
      have hin : Byt w1 (.slice (some ⟨g, 0, none⟩) l.length cap1) l := by
        have := Byt.take hown.byt l.length (by simp)
        simpa using this
      go_wp2_with (go_at_call 23; refine (HN.out _ _ hin).mono ?_; rintro e w2 ⟨rfl, hb2⟩)
      have hown2 := hown.below hb2
      have hv2 := hv1.below hb2
      have hB2 := hb1.trans (hb2.mono hb1.size)
      clear hown hv1 hin hb1 hb2
      go_wp2_with (go_at_call 24; refine (HM.out _ _ hv2).mono ?_; rintro e w3 ⟨rfl, hb3⟩)
      have hown3 := hown2.below hb3
      have hv3 := hv2.below hb3
      have hB3 := hB2.trans (hb3.mono hB2.size)
      clear hown2 hv2 hB2 hb3
      go_wp2_with (go_at_call 25; refine (HW.out _).mono ?_; rintro e w4 ⟨v4, rfl, hwo4, hb4⟩)
      have hown4 := hown3.below hb4
      have hv4 := hv3.below hb4
      have hB4 := hB3.trans (hb4.mono hB3.size)
      clear hown3 hv3 hB3 hb4
      go_wp2_with (go_at_call 26; refine (HR.out _).mono ?_; rintro e w5 ⟨v5, rfl, hwo5, hb5⟩)
      have hown5 := hown4.below hb5
      have hv5 := hv4.below hb5
      have hB5 := hB4.trans (hb5.mono hB4.size)
      have hwo4' := (hwo4.below hb5).byt
      have hwo5' := hwo5.byt
      clear hown4 hv4 hB4 hb5 hwo4 hwo5
      have HQ := Lib.hid (eqBytes_calls _ _ _ _ _ hwo4' hwo5')
      have HK := Lib.hid (kept_calls _ g _ cap1 _ l l _ rfl hown5 hv5)
      go_wp2_with (first
        | (go_at_call 20; refine HQ.out.mono ?_; rintro e w6 ⟨rfl, rfl⟩)
        | (go_at_call 21; refine HK.out.mono ?_; rintro e w6 ⟨rfl, rfl⟩)
        | (go_at_call 12; refine (works_calls _).mono ?_; rintro e w6 ⟨rfl, hb6⟩))
      go_ret
      exact ⟨rfl, hB5.trans (hb6.mono hB5.size)⟩
end Go.Proofs.Ytookmdkcpbpofaa
