/-
  The walk of the law CrcRest, and of its helper low: a sum's four bytes behind bytes.
-/
import Derived.Test.YtbfhgpaobnlodaaDoorCrcWalks
namespace Go.Proofs.YtbfhgpaobnlodaaDoor
open Go Go.RowKit

set_option maxHeartbeats 800000 in
theorem low_calls (v : Value) (l : List UInt8) (s : BitVec 32) (w : World) (hv : Byt w v l) (hl : l.length ≤ 1000000000000) :
    Calls Tryd.prog 16 #[v, .int .u32 s.toNat] w fun e w' => ∃ v', e = .returned v' ∧ OwnB w' w.heap.size v' (l ++ le4 s) ∧ Below w.heap.size w w' := by
  obtain ⟨a, cap, rfl, h1, h2, h3⟩ := hv.open
  go_enter Tryd.func16, Tryd.ntmps16
  go_wp2_with (go_at_call 17; refine (copyBytes_calls _ l _ hv (by omega)).mono ?_; rintro e w1 ⟨v1, rfl, hown1, hb1⟩)
  go_loopw [5, 6] (fun out i wr => ∃ k : Nat, k ≤ 4 ∧ i = .int .i64 k ∧ OwnB wr w.heap.size out (l ++ (le4 s).take k) ∧ Below w.heap.size w wr) (fun _ i _ => 4 - (intOf i).toNat)
  case atStart => exact ⟨0, by omega, rfl, by simpa [le4] using hown1, hb1⟩
  case round =>
    obtain ⟨k, hk, rfl, hown, hb⟩ := hrel
    clear hown1 hb1
    by_cases hlt : k < 4
    · obtain ⟨c, hc, hr⟩ : ∃ c : UInt8, Hid ((s.toNat : Int) / 2 ^ (8 * k) % 256 = (c.toNat : Int)) ∧ Hid ((le4 s).take (k + 1) = (le4 s).take k ++ [c]) := by
        refine ⟨leB s k, ?_, Lib.hid (le4_snoc s k hlt)⟩
        unfold Hid leB
        rw [UInt8.toNat_ofNat']
        simp
      obtain ⟨m, hm, hml⟩ : ∃ m, Hid (m = l ++ (le4 s).take k) ∧ m.length ≤ 1000000000004 := ⟨_, Lib.hid rfl, by rw [List.length_append, List.length_take]; omega⟩
      rw [← hm.out] at hown
      go_wp2_with (at_builtin; refine wpList_append_byt rfl _ _ rfl w.heap.size _ m rfl (hown.alloc _) _ [c] rfl (Byt.one _ _ _ _ ?c1) ?c2 ?c3 ?_)
      case c1 => first | exact hc.out | (rw [← hc.out]; simp)
      case c2 => simp; omega
      case c3 => have := hb.size; simp; omega
      intro v' w' hown' hg _
      go_wp2
      go_roundw
      case rel => exact ⟨k + 1, by omega, by go_num, by rw [hr.out, ← List.append_assoc, ← hm.out]; exact hown', (hb.alloc hb.size _).grown hg (by have := hb.size; simp; omega) (fun j hj => (hown.lt j hj).1)⟩
      case measure => simp [intOf]; omega
    · obtain rfl : k = 4 := by omega
      rw [show (le4 s).take 4 = le4 s from rfl] at hown
      go_wp2
      go_ret
      exact ⟨_, rfl, hown, hb⟩

set_option maxHeartbeats 800000 in
theorem crcRest_walk (v : Value) (l : List UInt8) (w : World) (hT : Tab w) (hv : Byt w v l) :
    Calls Tryd.prog 6 #[v] w fun e w' => e = .returned (.bool true) ∧ Below w.heap.size w w' := by
  obtain ⟨a, cap, rfl, h1, h2, _⟩ := hv.open
  unfold maxLen at h2
  have hT0 := hT.pos
  by_cases hbig : 16384 < l.length
  · go_enter Tryd.func6, Tryd.ntmps6
    go_wp2_with (go_at_call 9; refine (works_calls _ hT hT0).mono ?_; rintro e w1 ⟨rfl, hb1⟩)
    go_ret
    exact ⟨rfl, hb1⟩
  · obtain ⟨s, hs⟩ : ∃ s, Hid (s = crcExt 0 l) := ⟨_, Lib.hid rfl⟩
    have S1 := sum_calls _ l w hT hv
    rw [← hs.out] at S1
    have H1 := Lib.hid S1
    clear S1
    go_enter Tryd.func6, Tryd.ntmps6
    go_wp2_with fail
    refine H1.out.mono ?_
    rintro e w1 ⟨rfl, rfl⟩
    go_wp2_with fail
    refine (low_calls _ l s w hv (by omega)).mono ?_
    rintro e w1 ⟨v1, rfl, hown, hb1⟩
    have T1 := hT.below hb1 hT0
    have S2 := sum_calls _ _ w1 T1 hown.byt
    rw [hs.out, crc_rest] at S2
    have H2 := Lib.hid S2
    clear S2
    go_wp2_with fail
    refine H2.out.mono ?_
    rintro e w2 ⟨rfl, rfl⟩
    go_wp2_with (go_at_call 9; refine (works_calls _ T1 T1.pos).mono ?_; rintro e w2 ⟨rfl, hb2⟩)
    go_ret
    exact ⟨rfl, hb1.trans (hb2.mono hb1.size)⟩
end Go.Proofs.YtbfhgpaobnlodaaDoor
