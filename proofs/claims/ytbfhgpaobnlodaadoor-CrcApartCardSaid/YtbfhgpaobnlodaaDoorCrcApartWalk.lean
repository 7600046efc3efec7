/-
  The walk of the law CrcApart.
-/
import Derived.Test.YtbfhgpaobnlodaaDoorCrcWalks
namespace Go.Proofs.YtbfhgpaobnlodaaDoor
open Go Go.RowKit

set_option maxHeartbeats 800000 in
theorem crcApart_walk (s t : BitVec 32) (v : Value) (l : List UInt8) (w : World) (hT : Tab w) (hv : Byt w v l) :
    Calls Tryd.prog 8 #[.int .u32 s.toNat, .int .u32 t.toNat, v] w fun e w' => e = .returned (.bool true) ∧ Below w.heap.size w w' := by
  obtain ⟨a, cap, rfl, h1, h2, _⟩ := hv.open
  unfold maxLen at h2
  have hT0 := hT.pos
  by_cases hbig : 16384 < l.length
  · go_enter Tryd.func8, Tryd.ntmps8
    go_wp2_with (go_at_call 9; refine (works_calls _ hT hT0).mono ?_; rintro e w1 ⟨rfl, hb1⟩)
    go_ret
    exact ⟨rfl, hb1⟩
  · obtain ⟨bb, q1, q2⟩ : ∃ bb : Bool, (((crcExt s l).toNat : Int) == ((crcExt t l).toNat : Int)) = bb ∧ ((s.toNat : Int) == (t.toNat : Int)) = bb :=
      ⟨decide (s = t), by rw [toNat_beq32]; exact decide_eq_decide.2 (crc_apart s t l), toNat_beq32 s t⟩
    go_enter Tryd.func8, Tryd.ntmps8
    go_wp2_with fail
    refine (ext_calls s _ l _ hT hv).mono ?_
    rintro e w2 ⟨rfl, rfl⟩
    go_wp2_with fail
    refine (ext_calls t _ l _ hT hv).mono ?_
    rintro e w2 ⟨rfl, rfl⟩
    go_wp2_with (go_at_call 9; refine (works_calls _ hT hT0).mono ?_; rintro e w1 ⟨rfl, hb1⟩)
    go_ret
    exact ⟨rfl, hb1⟩
end Go.Proofs.YtbfhgpaobnlodaaDoor
