/-
  The walk of the law CrcParts.
-/
import Derived.Test.YtbfhgpaobnlodaaDoorCrcWalks
namespace Go.Proofs.YtbfhgpaobnlodaaDoor
open Go Go.RowKit

theorem flat_snoc (ls : List (List UInt8)) (k : Nat) (h : k < ls.length) : (ls.take (k + 1)).flatten = (ls.take k).flatten ++ ls.getD k [] := by
  rw [List.take_succ_eq_append_getElem h, List.flatten_append]
  simp [List.getD, h]

set_option maxHeartbeats 1600000 in
theorem crcParts_walk (s : BitVec 32) (v : Value) (ls : List (List UInt8)) (w : World) (hT : Tab w) (hv : Byts w v ls) :
    Calls Tryd.prog 4 #[.int .u32 s.toNat, v] w fun e w' => e = .returned (.bool true) ∧ Below w.heap.size w w' := by
  have hv0 := hv
  obtain ⟨a, cap, rfl, h1, h2, h3⟩ := hv
  unfold maxLen at h2
  have hT0 := hT.pos
  by_cases hbig : 100 < ls.length
  · clear h3
    go_enter Tryd.func4, Tryd.ntmps4
    go_wp2_with (go_at_call 9; refine (works_calls _ hT hT0).mono ?_; rintro e w1 ⟨rfl, hb1⟩)
    go_ret
    exact ⟨rfl, hb1⟩
  · go_enter Tryd.func4, Tryd.ntmps4
    go_wp2
    go_loopw [5, 6, 7] (fun all x i wr => ∃ (k : Nat) (m : List UInt8), k ≤ ls.length ∧ Hid (m = (ls.take k).flatten) ∧ m.length ≤ 1024 * k ∧ i = .int .i64 k ∧ x = .int .u32 (crcExt s m).toNat ∧ OwnB wr w.heap.size all m ∧ Below w.heap.size w wr)
      (fun _ _ i _ => ls.length - (intOf i).toNat)
    case atStart => exact ⟨0, [], Nat.zero_le _, Lib.hid rfl, by simp, rfl, by rw [crcExt_nil], OwnB.empty _ _ _, Below.refl _ _⟩
    case round =>
      obtain ⟨k, m, hk, hm, hml, rfl, rfl, hown, hb⟩ := hrel
      have Tr := hT.below hb hT0
      have hB := hb.size
      by_cases hlt : k < ls.length
      · obtain ⟨b, off, u, rfl, hc0, hu0⟩ := hv0.at k hlt
        clear h3
        obtain ⟨r, hr⟩ : ∃ r, Hid (r = ls.getD k []) := ⟨_, Lib.hid rfl⟩
        rw [← hr.out] at hu0
        obtain ⟨a1, cap1, rfl, g1, g2, _⟩ := hu0.open
        unfold maxLen at g2
        have hu := hu0.below hb
        have hc := (hb.cell (p := ⟨b, off + k, none⟩) (lt_of_cell hc0)).trans hc0
        have Hc0 := Lib.hid hc0
        clear hc0
        by_cases hlong : 1024 < r.length
        · go_wp2_with (go_at_call 9; refine (works_calls _ Tr Tr.pos).mono ?_; rintro e w1 ⟨rfl, hb1⟩)
          go_ret
          exact ⟨rfl, hb.trans (hb1.mono hB)⟩
        · go_wp2_with (at_builtin; refine wpList_append_byt rfl _ _ rfl w.heap.size _ m rfl hown _ r rfl hu ?c1 ?c2 ?_)
          case c1 => omega
          case c2 => exact hB
          intro v' w' hown' hg _
          have hb' := hb.grown hg hB (fun j hj => (hown.lt j hj).1)
          have hu' := hu0.below hb'
          have hc' := (hb'.cell (p := ⟨b, off + k, none⟩) (lt_of_cell Hc0.out)).trans Hc0.out
          have T' := hT.below hb' hT0
          clear hc hu hown hg
          go_wp2_with (go_at_call 13; refine (ext_calls _ _ r _ T' hu').mono ?_; rintro e w2 ⟨rfl, rfl⟩; rw [crcExt_append])
          go_roundw
          case rel => exact ⟨k + 1, m ++ r, by omega, Lib.hid (by rw [flat_snoc ls k hlt, ← hm.out, ← hr.out]), by simp; omega, by go_num, rfl, hown', hb'⟩
          case measure => simp [intOf]; omega
      · clear h3
        obtain rfl : k = ls.length := by omega
        have hq := ext_calls s _ m wr Tr hown.byt
        obtain ⟨y, hy⟩ : ∃ y, Hid (y = crcExt s m) := ⟨_, Lib.hid rfl⟩
        rw [← hy.out] at hq ⊢
        have Hq := Lib.hid hq
        have hq2 := ext_calls s _ [] wr Tr (Byt.nil wr)
        rw [crcExt_nil] at hq2
        have Hq2 := Lib.hid hq2
        clear hq hq2
        go_wp2_with fail
        refine Hq.out.mono ?_
        rintro e w2 ⟨rfl, rfl⟩
        go_wp2_with fail
        refine Hq2.out.mono ?_
        rintro e w2 ⟨rfl, rfl⟩
        go_wp2_with (go_at_call 9; refine (works_calls _ Tr Tr.pos).mono ?_; rintro e w1 ⟨rfl, hb1⟩)
        go_ret
        exact ⟨rfl, hb.trans (hb1.mono hB)⟩
end Go.Proofs.YtbfhgpaobnlodaaDoor
