/-
  The walk of the law CrcTogether.
-/
import Derived.Test.YtbfhgpaobnlodaaDoorCrcWalks
import Derived.StillTailTactics
import Derived.WalkLawsBesides
namespace Go.Proofs.YtbfhgpaobnlodaaDoor
open Go Go.RowKit

set_option maxHeartbeats 1600000 in
theorem crcTogether_walk (v0 : Value) (l0 : List UInt8) (v1 : Value) (l1 : List UInt8) (v2 : Value) (l2 : List UInt8) (w : World) (hT : Tab w) (hv0 : Byt w v0 l0) (hv1 : Byt w v1 l1) (hv2 : Byt w v2 l2) :
    Calls Tryd.prog 5 #[v0, v1, v2] w fun e w' => e = .returned (.bool true) ∧ Below w.heap.size w w' := by
  obtain ⟨a0, cap0, rfl, h01, h02, h03⟩ := hv0.open
  obtain ⟨a1, cap1, rfl, h11, h12, h13⟩ := hv1.open
  obtain ⟨a2, cap2, rfl, h21, h22, h23⟩ := hv2.open
  unfold maxLen at h02 h12 h22
  have hT0 := hT.pos
  obtain ⟨n, hn0, hn1, hn2, hmin⟩ : ∃ n : Nat, n ≤ l0.length ∧ n ≤ l1.length ∧ n ≤ l2.length ∧
      ∀ W : World, (Builtin.min_ #[3, 3, 3] 3 #[.int .i64 (l0.length : Int), .int .i64 (l1.length : Int), .int .i64 (l2.length : Int)]).run Tryd.prog W = .ok (.int .i64 (n : Int)) W := by
    refine ⟨min (min l0.length l1.length) l2.length, by omega, by omega, by omega, fun W => ?_⟩
    simp only [Builtin.min_, Builtin.min2, List.foldlM_cons, List.foldlM_nil, Sem.run_bind, Sem.run_pure, Result.andThen_ok]
    congr 2
    split <;> split <;> omega
  by_cases hbig : 16384 < n
  · clear h03 h13 h23
    go_enter Tryd.func5, Tryd.ntmps5
    go_wp2_with (go_at_call 9; refine (works_calls _ hT hT0).mono ?_; rintro e w1 ⟨rfl, hb1⟩)
    go_ret
    exact ⟨rfl, hb1⟩
  obtain ⟨xs, hxs⟩ : ∃ xs, Hid (xs = xorL (xorL (l0.take n) (l1.take n)) (l2.take n)) := ⟨_, Lib.hid rfl⟩
  have hxl : xs.length ≤ n ∧ n ≤ xs.length := by rw [hxs.out]; simp [xorL]; omega
  have hxg : ∀ k, k < n → xs.getD k 0 = l0.getD k 0 ^^^ l1.getD k 0 ^^^ l2.getD k 0 := by
    intro k hk
    have e1 : (l0.take n).length = n := by simp; omega
    have e2 : (l1.take n).length = n := by simp; omega
    have e3 : (l2.take n).length = n := by simp; omega
    rw [hxs.out, xorL_getD _ _ k (by rw [xorL_length _ _ (by omega)]; omega) (by omega), xorL_getD _ _ k (by omega) (by omega), take_getD _ _ _ hk, take_getD _ _ _ hk, take_getD _ _ _ hk]
  have HXG := Lib.hid hxg
  clear hxg
  go_enter Tryd.func5, Tryd.ntmps5
  go_wp2_with (at_make; refine wpList_make_byt rfl _ _ rfl w.heap.size n _ _ rfl rfl (by omega) (Nat.le_refl _) ?_; intro w1 hown hgrow)
  have hb1 : Below w.heap.size w w1 := (Below.refl _ _).grown hgrow (Nat.le_refl _) (fun k hk => by cases hk)
  clear hgrow hmin
  go_loopw [9] (fun i wr => ∃ k : Nat, k ≤ n ∧ i = .int .i64 k ∧ OwnB wr w.heap.size (.slice (some ⟨w.heap.size, 0, none⟩) n n) (gath xs n k) ∧ Below w.heap.size w wr) (fun i _ => n - (intOf i).toNat)
  case atStart => exact ⟨0, Nat.zero_le _, rfl, by simpa [gath] using hown, hb1⟩
  case round =>
    obtain ⟨k, hk, rfl, hownr, hbr⟩ := hrel
    clear hb1 hown
    by_cases hlt : k < n
    · obtain ⟨b0, off0, rfl, hc0⟩ := h03 k (by omega)
      obtain ⟨b1, off1, rfl, hc1⟩ := h13 k (by omega)
      obtain ⟨b2, off2, rfl, hc2⟩ := h23 k (by omega)
      have hcr0 := (hbr.cell (p := ⟨b0, off0 + k, none⟩) (lt_of_cell hc0)).trans hc0
      have hcr1 := (hbr.cell (p := ⟨b1, off1 + k, none⟩) (lt_of_cell hc1)).trans hc1
      have hcr2 := (hbr.cell (p := ⟨b2, off2 + k, none⟩) (lt_of_cell hc2)).trans hc2
      have hg := HXG.out k hlt
      clear h03 h13 h23 hc0 hc1 hc2
      generalize l0.getD k 0 = c0 at *
      generalize l1.getD k 0 = c1 at *
      generalize l2.getD k 0 = c2 at *
      have Hg := Lib.hid hg
      clear hg
      have hk0 : k < l0.length := by omega
      have hk1 : k < l1.length := by omega
      have hk2 : k < l2.length := by omega
      have hfz := hownr.free (by omega) k
      obtain ⟨u0, hcw⟩ := hownr.cell_some k (by rw [gath_length xs n k (by omega) hk]; omega)
      go_wp2
      go_still_tail 17, (by kernel_rfl)
      change wpList _ _ _ _ _ wr.drew
      go_wp2
      have hset := hownr.set k hlt (xs.getD k 0) (bits BinOp.xor IntKind.u8 (bits BinOp.xor IntKind.u8 (c0.toNat : Int) (c1.toNat : Int)) (c2.toNat : Int)) (by rw [bits_xor8, bits_xor8, Hg.out])
      rw [gath_set xs n k (by omega) hlt] at hset
      exact ⟨⟨k + 1, by omega, by go_num, hset, (hbr.setCell (p := ⟨w.heap.size, k, none⟩) (Nat.le_refl _) _).drew⟩, by simp [intOf]; omega⟩
    · obtain rfl : k = n := by omega
      clear h03 h13 h23 HXG
      have T1 := (hT.below hbr hT0)
      have b0 := (hv0.below hbr).take k hn0
      have b1 := (hv1.below hbr).take k hn1
      have b2 := (hv2.below hbr).take k hn2
      have b3 := hownr.byt
      rw [show gath xs k k = xs by unfold gath; rw [List.take_of_length_le (by omega), Nat.sub_self]; simp] at b3
      have hB := hbr.size
      clear hownr
      obtain ⟨y0, hy0⟩ : ∃ y, Hid (y = crcExt 0 (l0.take k)) := ⟨_, Lib.hid rfl⟩
      obtain ⟨y1, hy1⟩ : ∃ y, Hid (y = crcExt 0 (l1.take k)) := ⟨_, Lib.hid rfl⟩
      obtain ⟨y2, hy2⟩ : ∃ y, Hid (y = crcExt 0 (l2.take k)) := ⟨_, Lib.hid rfl⟩
      obtain ⟨y3, hy3⟩ : ∃ y, Hid (y = crcExt 0 xs) := ⟨_, Lib.hid rfl⟩
      have hfin : Hid (y3 = y0 ^^^ y1 ^^^ y2) := by
        unfold Hid
        rw [hy0.out, hy1.out, hy2.out, hy3.out, hxs.out]
        exact crc_together _ _ _ (by simp; omega) (by simp; omega)
      have S0 := calls_still (sum_calls _ _ wr.drew T1 b0)
      have S1 := calls_still (sum_calls _ _ wr.drew T1 b1)
      have S2 := calls_still (sum_calls _ _ wr.drew T1 b2)
      have S3 := calls_still (sum_calls _ _ wr.drew T1 b3)
      rw [← hy0.out] at S0
      rw [← hy1.out] at S1
      rw [← hy2.out] at S2
      rw [← hy3.out] at S3
      have H0 := Lib.hid S0
      have H1 := Lib.hid S1
      have H2 := Lib.hid S2
      have H3 := Lib.hid S3
      clear S0 S1 S2 S3
      have e1 := bits_xor32 y0 y1
      have e2 := bits_xor32 (y0 ^^^ y1) y2
      rw [← hfin.out] at e2
      generalize y0 ^^^ y1 = y01 at *
      have hk0 : k ≤ cap0 := by omega
      have hk1 : k ≤ cap1 := by omega
      have hk2 : k ≤ cap2 := by omega
      go_wp2
      refine wp_region_still_tail 18 (by kernel_rfl) (by kernel_rfl) ?_
      simp only [List.take_succ_cons, List.take_zero, List.drop_succ_cons, List.drop_zero]
      repeat (first | still_step | still_call H3.out | still_call H0.out | still_call H1.out | still_call H2.out)
      refine wpStill_nil ?_
      change wpList _ _ _ _ _ wr.drew
      go_wp2_with (go_at_call 9; refine (works_calls _ (show Tab wr.drew from T1) (show 0 < wr.drew.heap.size from T1.pos)).mono ?_; rintro e w1 ⟨rfl, hb1⟩)
      go_ret
      exact ⟨rfl, hbr.drew.trans (hb1.mono hB)⟩
end Go.Proofs.YtbfhgpaobnlodaaDoor
