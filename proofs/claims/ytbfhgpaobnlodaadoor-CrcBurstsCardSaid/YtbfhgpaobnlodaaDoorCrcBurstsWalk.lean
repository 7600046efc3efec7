/-
  The walk of the law CrcBursts.
-/
import Derived.Test.YtbfhgpaobnlodaaDoorCrcRestWalk
namespace Go.Proofs.YtbfhgpaobnlodaaDoor
open Go Go.RowKit

theorem bits_or32 (x y : BitVec 32) : bits .or .u32 (x.toNat : Int) (y.toNat : Int) = ((x ||| y).toNat : Int) := by
  have h1 : ∀ z : BitVec 32, BitVec.ofInt IntKind.u32.bits (z.toNat : Int) = z := by
    intro z
    apply BitVec.eq_of_toNat_eq
    have := z.isLt
    rw [BitVec.toNat_ofInt]
    simp [IntKind.bits]
    omega
  simp only [bits, h1]
  rw [IntKind.wrap_u32]
  have := (x ||| y).isLt
  show (((x ||| y).toNat : Int)) % 4294967296 = _
  omega

theorem mask_bit (m : BitVec 32) (i : Nat) : bits .and .u32 ((m.toNat : Int) / 2 ^ i) 1 = (if m.getLsbD i then 1 else 0) := by
  have h := bits_and1 (m >>> i)
  rw [BitVec.toNat_ushiftRight, Nat.shiftRight_eq_div_pow, BitVec.getLsbD_ushiftRight, Nat.add_zero] at h
  rw [← h]
  congr 1

theorem shl8 (x : BitVec 32) : (x.toNat : Int) * (256 : Int) % (4294967296 : Int) = (((x <<< 8).toNat : Nat) : Int) := by
  rw [BitVec.toNat_shiftLeft, Nat.shiftLeft_eq]
  omega

theorem or8 (x : BitVec 32) (c : UInt8) : bits .or .u32 ((x.toNat : Int) * 256 % 4294967296) (c.toNat : Int) = (((x <<< 8) ||| ext c).toNat : Int) := by
  rw [shl8, ← ext_toNat, bits_or32]

theorem tmod_from (a : Int) (N : Nat) (hN : 0 < N) : ∃ fr : Nat, fr < 8 * N ∧ ((a.tmod (8 * (N : Int)) < 0 ∧ a.tmod (8 * (N : Int)) + 8 * (N : Int) = (fr : Int)) ∨ a.tmod (8 * (N : Int)) = (fr : Int)) := by
  have h1 := Int.tmod_lt_of_pos a (show (0 : Int) < 8 * (N : Int) by omega)
  have h2 := Int.lt_tmod_of_pos a (show (0 : Int) < 8 * (N : Int) by omega)
  by_cases h : a.tmod (8 * (N : Int)) < 0
  · exact ⟨(a.tmod (8 * (N : Int)) + 8 * (N : Int)).toNat, by omega, .inl ⟨h, by omega⟩⟩
  · exact ⟨(a.tmod (8 * (N : Int))).toNat, by omega, .inr (by omega)⟩

set_option maxHeartbeats 3200000 in
theorem crcBursts_walk (v : Value) (l : List UInt8) (a : Int) (mask : BitVec 32) (w : World) (hT : Tab w) (hv : Byt w v l) (ha : (Lit.int .i64 a).wf = true) :
    Calls Tryd.prog 7 #[v, .int .i64 a, .int .u32 mask.toNat] w fun e w' => e = .returned (.bool true) ∧ Below w.heap.size w w' := by
  have hab : -9223372036854775808 ≤ a ∧ a ≤ 9223372036854775807 := by simpa [Lit.wf, IntKind.min, IntKind.max, IntKind.signed, IntKind.bits] using ha
  obtain ⟨ad, cap, rfl, h1, h2, _⟩ := hv.open
  unfold maxLen at h2
  have hT0 := hT.pos
  by_cases hbig : 4096 < l.length
  · go_enter Tryd.func7, Tryd.ntmps7
    go_wp2_with (go_at_call 9; refine (works_calls _ hT hT0).mono ?_; rintro e w1 ⟨rfl, hb1⟩)
    go_ret
    exact ⟨rfl, hb1⟩
  · obtain ⟨s, hs⟩ : ∃ s, Hid (s = crcExt 0 l) := ⟨_, Lib.hid rfl⟩
    have S1 := sum_calls _ l w hT hv
    rw [← hs.out] at S1
    have H1 := Lib.hid S1
    clear S1
    go_enter Tryd.func7, Tryd.ntmps7
    go_wp2_with fail
    refine H1.out.mono ?_
    rintro e w1 ⟨rfl, rfl⟩
    go_wp2_with fail
    refine (low_calls _ l s w hv (by omega)).mono ?_
    rintro e w1 ⟨v1, rfl, hown, hb1⟩
    obtain ⟨N, hN⟩ : ∃ N, N = l.length + 4 := ⟨_, rfl⟩
    obtain ⟨c0, hc0⟩ : ∃ c0, Hid (c0 = l ++ le4 s) := ⟨_, Lib.hid rfl⟩
    rw [← hc0.out] at hown
    have hcl : c0.length = N := by rw [hc0.out, hN]; simp [le4]
    obtain ⟨g, cap1, rfl, hg1, hg2, hg3, hg4, hg5⟩ := hown.head (by omega)
    rw [hcl] at hown hg4 ⊢
    unfold maxLen at hg5
    obtain ⟨fr, hfr, hq⟩ := tmod_from a N (by omega)
    obtain ⟨hNa, hNb⟩ : l.length + 4 ≤ N ∧ N ≤ l.length + 4 := by omega
    have HC := Lib.hid hcl
    clear hN hcl
    generalize hqq : a.tmod (8 * (N : Int)) = q at hq
    rcases hq with ⟨hq0, hq1⟩ | hq1
    all_goals
      go_wp2_with fail
      try clear hq0
      clear hq1 hqq
      go_loopw [10, 11] (fun tu i wr => ∃ k : Nat, k ≤ 32 ∧ i = .int .i64 k ∧ tu = .bool (turnedTo mask fr N k) ∧ OwnB wr w.heap.size (.slice (some ⟨g, 0, none⟩) N cap1) (xorL c0 (dTo mask fr N k)) ∧ Below w.heap.size w wr) (fun _ i _ => 32 - (intOf i).toNat)
      case atStart =>
        refine ⟨0, by omega, rfl, rfl, ?_, hb1⟩
        rw [dTo]
        have := xorL_zero c0
        rw [HC.out] at this
        rw [this]
        exact hown
      case round =>
        obtain ⟨k, hk, rfl, rfl, hownr, hbr⟩ := hrel
        clear hown hb1
        by_cases hlt : k < 32
        · have em := mask_bit mask k
          cases hmb : mask.getLsbD k
          · rw [hmb] at em
            simp only [Bool.false_eq_true, if_false] at em
            have ht : Hid (turnC mask fr (8 * N) k = false) := Lib.hid (by unfold turnC; rw [hmb]; rfl)
            clear hmb
            go_wp2
            exact ⟨⟨k + 1, by omega, by go_num, by rw [turnedTo, ht.out, Bool.or_false], by rw [dTo, ht.out, if_neg (by simp)]; exact hownr, hbr⟩, by simp [intOf]; omega⟩
          · rw [hmb] at em
            simp only [if_true] at em
            by_cases hin : fr + k < 8 * N
            · have ht : Hid (turnC mask fr (8 * N) k = true) := Lib.hid (by unfold turnC; rw [hmb, decide_eq_true hin]; rfl)
              clear hmb
              obtain ⟨c, hc⟩ : ∃ c, Hid (c = (xorL c0 (dTo mask fr N k)).getD ((fr + k) / 8) 0) := ⟨_, Lib.hid rfl⟩
              have hcell := hownr.cell_at ((fr + k) / 8) (by rw [xorL_length _ _ (by rw [HC.out, dTo_length])]; rw [HC.out]; omega)
              rw [← hc.out] at hcell
              have hfz := hownr.free (by omega) ((fr + k) / 8)
              go_wp2
              have hset := hownr.set ((fr + k) / 8) (by omega) (c ^^^ UInt8.ofNat (2 ^ ((fr + k) % 8))) (bits BinOp.xor IntKind.u8 (c.toNat : Int) (2 ^ ((fr + k) % 8) % 256)) (by
                rw [← bits_xor8, UInt8.toNat_ofNat']
                congr 1)
              have hfl : xorL c0 (dTo mask fr N (k + 1)) = (xorL c0 (dTo mask fr N k)).set ((fr + k) / 8) (c ^^^ UInt8.ofNat (2 ^ ((fr + k) % 8))) := by
                rw [dTo, ht.out, if_pos rfl, xorL_flip, flipB, ← hc.out]
              rw [← hfl] at hset
              exact ⟨⟨k + 1, by omega, by go_num, by rw [turnedTo, ht.out, Bool.or_true], hset, hbr.setCell (p := ⟨g, (fr + k) / 8, none⟩) hg1 _⟩, by simp [intOf]; omega⟩
            · have ht : Hid (turnC mask fr (8 * N) k = false) := Lib.hid (by unfold turnC; rw [hmb, decide_eq_false hin]; rfl)
              clear hmb
              go_wp2
              exact ⟨⟨k + 1, by omega, by go_num, by rw [turnedTo, ht.out, Bool.or_false], by rw [dTo, ht.out, if_neg (by simp)]; exact hownr, hbr⟩, by simp [intOf]; omega⟩
        · obtain rfl : k = 32 := by omega
          obtain ⟨c1, hc1⟩ : ∃ c1, Hid (c1 = xorL c0 (dTo mask fr N 32)) := ⟨_, Lib.hid rfl⟩
          rw [← hc1.out] at hownr
          obtain ⟨tu, htu⟩ : ∃ tu, Hid (tu = turnedTo mask fr N 32) := ⟨_, Lib.hid rfl⟩
          rw [← htu.out]
          have hcl1 : Hid (c1.length = N) := Lib.hid (by rw [hc1.out, xorL_length _ _ (by rw [HC.out, dTo_length]), HC.out])
          have hcells := fun j (hj : j < 4) => hownr.cell_at (l.length + j) (by rw [hcl1.out]; omega)
          have hx0 := hcells 0 (by omega)
          have hx1 := hcells 1 (by omega)
          have hx2 := hcells 2 (by omega)
          have hx3 := hcells 3 (by omega)
          rw [Nat.add_zero] at hx0
          clear hcells
          obtain ⟨x0, e0⟩ : ∃ x, Hid (x = c1.getD l.length 0) := ⟨_, Lib.hid rfl⟩
          obtain ⟨x1, e1⟩ : ∃ x, Hid (x = c1.getD (l.length + 1) 0) := ⟨_, Lib.hid rfl⟩
          obtain ⟨x2, e2⟩ : ∃ x, Hid (x = c1.getD (l.length + 2) 0) := ⟨_, Lib.hid rfl⟩
          obtain ⟨x3, e3⟩ : ∃ x, Hid (x = c1.getD (l.length + 3) 0) := ⟨_, Lib.hid rfl⟩
          rw [← e0.out] at hx0
          rw [← e1.out] at hx1
          rw [← e2.out] at hx2
          rw [← e3.out] at hx3
          go_wp2
          go_loop [13, 14] (fun sd i => ∃ k : Nat, k ≤ 4 ∧ i = .int .i64 (3 - (k : Int)) ∧ sd = .int .u32 (sdTo x0 x1 x2 x3 k).toNat) (fun _ i => (intOf i + 1).toNat)
          case atStart => exact ⟨0, by omega, rfl, rfl⟩
          case round =>
            obtain ⟨k2, hk2, rfl, rfl⟩ := hrel
            by_cases hlt2 : k2 < 4
            · have hb0 : (x0.toNat : Int) < 256 := by have := x0.toNat_lt; omega
              have hb1 : (x1.toNat : Int) < 256 := by have := x1.toNat_lt; omega
              have hb2 : (x2.toNat : Int) < 256 := by have := x2.toNat_lt; omega
              have hb3 : (x3.toNat : Int) < 256 := by have := x3.toNat_lt; omega
              obtain rfl | rfl | rfl | rfl : k2 = 0 ∨ k2 = 1 ∨ k2 = 2 ∨ k2 = 3 := by omega
              · go_wp2
                exact ⟨⟨1, by omega, by go_num, by rw [or8]; simp [sdTo]⟩, by simp [intOf]⟩
              · go_wp2
                exact ⟨⟨2, by omega, by go_num, by rw [or8]; rfl⟩, by simp [intOf]⟩
              · go_wp2
                exact ⟨⟨3, by omega, by go_num, by rw [or8]; rfl⟩, by simp [intOf]⟩
              · go_wp2
                exact ⟨⟨4, by omega, by go_num, by rw [or8]; rfl⟩, by simp [intOf]⟩
            · obtain rfl : k2 = 4 := by omega
              have Tr := hT.below hbr hT0
              have hB := hbr.size
              have hpre := hownr.byt.take l.length (by rw [hcl1.out]; omega)
              have hsplit : c1 = c1.take l.length ++ [x0, x1, x2, x3] := by
                have hl := hcl1.out
                have g0 := e0.out
                have g1 := e1.out
                have g2 := e2.out
                have g3 := e3.out
                rw [g0, g1, g2, g3]
                exact last_four c1 l.length (by omega)
              have hN4 : N = l.length + 4 := by omega
              have hbur := crc_burst l mask fr (c1.take l.length) x0 x1 x2 x3 (by rw [← hs.out, ← hc0.out, ← hN4, ← hc1.out]; exact hsplit)
              rw [← hN4, ← htu.out, ← sd_num4] at hbur
              have HB := Lib.hid hbur
              clear hbur hsplit hN4 hx0 hx1 hx2 hx3
              have S3 := sum_calls _ _ wr Tr hpre
              obtain ⟨y, hy⟩ : ∃ y, Hid (y = crcExt 0 (c1.take l.length)) := ⟨_, Lib.hid rfl⟩
              rw [← hy.out] at S3
              have H3 := Lib.hid S3
              clear S3
              obtain ⟨z, hz⟩ : ∃ z, Hid (z = sdTo x0 x1 x2 x3 4) := ⟨_, Lib.hid rfl⟩
              rw [← hz.out]
              have hfin : ((y.toNat : Int) == (z.toNat : Int)) = !tu := by
                rw [toNat_beq32]
                have := HB.out
                rw [← hy.out, ← hz.out] at this
                cases tu
                · simpa using this
                · simpa using this
              go_wp2_with fail
              refine H3.out.mono ?_
              rintro e w2 ⟨rfl, rfl⟩
              cases tu
              all_goals
                go_wp2_with (go_at_call 9; refine (works_calls _ Tr Tr.pos).mono ?_; rintro e w1 ⟨rfl, hb1⟩)
                go_ret
                exact ⟨rfl, hbr.trans (hb1.mono hB)⟩
end Go.Proofs.YtbfhgpaobnlodaaDoor
