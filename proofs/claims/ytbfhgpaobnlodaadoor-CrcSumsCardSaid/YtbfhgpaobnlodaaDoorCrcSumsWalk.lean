/-
  The walk of the law CrcSums: it returns true, and turns nothing that was there.
-/
import Derived.Test.YtbfhgpaobnlodaaDoorCrcWalks
namespace Go.Proofs.YtbfhgpaobnlodaaDoor
open Go Go.RowKit

set_option maxHeartbeats 800000 in
theorem crcSums_walk (s : BitVec 32) (v : Value) (l : List UInt8) (w : World) (hT : Tab w) (hv : Byt w v l) :
    Calls Tryd.prog 3 #[.int .u32 s.toNat, v] w fun e w' => e = .returned (.bool true) ∧ Below w.heap.size w w' := by
  obtain ⟨a, cap, rfl, h1, h2, _⟩ := hv.open
  unfold maxLen at h2
  have hT0 := hT.pos
  by_cases hbig : 65536 < l.length
  · go_enter Tryd.func3, Tryd.ntmps3
    go_wp2_with (go_at_call 9; refine (works_calls _ hT hT0).mono ?_; rintro e w1 ⟨rfl, hb1⟩)
    go_ret
    exact ⟨rfl, hb1⟩
  · go_enter Tryd.func3, Tryd.ntmps3
    go_wp2_with (go_at_call 10; refine (roomy_calls _ l _ hv (by omega)).mono ?_; rintro e w1 ⟨g, cap1, rfl, hown, hb1⟩)
    have T1 := hT.below hb1 hT0
    have hv1 := hv.below hb1
    have hin : Byt w1 (.slice (some ⟨g, 0, none⟩) l.length cap1) l := by
      have := Byt.take hown.byt l.length (by simp)
      simpa using this
    go_wp2_with (first
      | (go_at_call 11; refine (sum_calls _ l _ T1 hin).mono ?_; rintro e w2 ⟨rfl, rfl⟩)
      | (go_at_call 12; refine (refSum_calls _ l _ hv1 (by omega)).mono ?_; rintro e w2 ⟨rfl, rfl⟩)
      | (go_at_call 13; refine (ext_calls s _ l _ T1 hin).mono ?_; rintro e w2 ⟨rfl, rfl⟩)
      | (go_at_call 14; refine (refExt_calls s _ l _ hv1 (by omega)).mono ?_; rintro e w2 ⟨rfl, rfl⟩)
      | (go_at_call 15; refine (kept_calls _ g _ cap1 _ l l _ rfl hown hv1).mono ?_; rintro e w2 ⟨rfl, rfl⟩)
      | (go_at_call 9; refine (works_calls _ T1 T1.pos).mono ?_; rintro e w2 ⟨rfl, hb2⟩))
    go_ret
    exact ⟨rfl, hb1.trans (hb2.mono hb1.size)⟩
end Go.Proofs.YtbfhgpaobnlodaaDoor
