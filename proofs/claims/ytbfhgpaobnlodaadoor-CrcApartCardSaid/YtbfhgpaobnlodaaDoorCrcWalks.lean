/-
  The walks of crc.Extend, crc.Sum, lintelref02.step, Extend, Sum: each computes what the plain law's functions say; the world stays.
-/
import Derived.Test.YtbfhgpaobnlodaaDoorBase
import Derived.Test.YtbfhgpaobnlodaaDoorCrcPlain
import Derived.Lib.SlBytesConst
namespace Go.Proofs.YtbfhgpaobnlodaaDoor
open Go Go.RowKit

/-- The package's table, where it lies. -/
def Tab (w : World) : Prop := ∀ j, j < 16 → w.cell? ⟨0, j, none⟩ = some (.int .u32 (tab j).toNat)

theorem Tab.below {w w' : World} {B : Nat} (h : Tab w) (hb : Below B w w') (hB : 0 < B) : Tab w' := fun j hj => by
  rw [hb.cell (p := ⟨0, j, none⟩) hB]
  exact h j hj
theorem Tab.pos {w : World} (h : Tab w) : 0 < w.heap.size := lt_of_cell (h 0 (by omega))

theorem bits_xor32 (x y : BitVec 32) : bits .xor .u32 (x.toNat : Int) (y.toNat : Int) = ((x ^^^ y).toNat : Int) := by
  have h1 : ∀ z : BitVec 32, BitVec.ofInt IntKind.u32.bits (z.toNat : Int) = z := by
    intro z
    apply BitVec.eq_of_toNat_eq
    have := z.isLt
    rw [BitVec.toNat_ofInt]
    simp [IntKind.bits]
    omega
  simp only [bits, h1]
  rw [IntKind.wrap_u32]
  have := (x ^^^ y).isLt
  show (((x ^^^ y).toNat : Int)) % 4294967296 = _
  omega

theorem bits_and15 (x : BitVec 32) : bits .and .u32 (x.toNat : Int) 15 = ((x.toNat % 16 : Nat) : Int) := by
  have h1 : BitVec.ofInt IntKind.u32.bits (x.toNat : Int) = x := by
    apply BitVec.eq_of_toNat_eq
    have := x.isLt
    rw [BitVec.toNat_ofInt]
    simp [IntKind.bits]
    omega
  have e : x &&& 15#32 = BitVec.ofNat 32 (x.toNat % 16) := by
    apply BitVec.eq_of_toNat_eq
    rw [BitVec.toNat_and, show (15#32).toNat = 2 ^ 4 - 1 from rfl, Nat.and_two_pow_sub_one_eq_mod, BitVec.toNat_ofNat]
    omega
  simp only [bits, h1]
  rw [IntKind.wrap_u32]
  show (((x &&& 15#32).toNat : Int)) % 4294967296 = _
  rw [e, BitVec.toNat_ofNat]
  omega

theorem toNat_beq32 (x y : BitVec 32) : ((x.toNat : Int) == (y.toNat : Int)) = decide (x = y) := by
  by_cases h : x = y
  · simp [h]
  · have : ¬ ((x.toNat : Int) = (y.toNat : Int)) := fun e => h (BitVec.eq_of_toNat_eq (by omega))
    simp [h, this]

theorem not32 (x : BitVec 32) : bits .xor .u32 IntKind.u32.max (x.toNat : Int) = ((~~~ x).toNat : Int) := by
  have : (IntKind.u32.max : Int) = ((~~~ 0#32).toNat : Int) := by decide
  rw [this, bits_xor32]
  congr 2

theorem ext_toNat (c : UInt8) : (ext c).toNat = c.toNat := by
  have hc : c.toNat < 256 := c.toNat_lt
  unfold ext
  rw [BitVec.toNat_ofNat]
  omega

set_option maxHeartbeats 800000 in
theorem ext_calls (s : BitVec 32) (v : Value) (l : List UInt8) (w : World) (hT : Tab w) (hv : Byt w v l) :
    Calls Tryd.prog 13 #[.int .u32 s.toNat, v] w fun e w' => e = .returned (.int .u32 (crcExt s l).toNat) ∧ w = w' := by
  obtain ⟨a, cap, rfl, h1, h2, h3⟩ := hv.open
  unfold maxLen at h2
  have e0 := not32 s
  obtain ⟨s1, hs1⟩ : ∃ s1, s1 = ~~~ s := ⟨_, rfl⟩
  rw [← hs1] at e0
  have Hs1 := Lib.hid hs1
  clear hs1
  go_enter Tryd.func13, Tryd.ntmps13
  go_wp2
  go_loop [5, 12] (fun x i => ∃ k : Nat, k ≤ l.length ∧ i = .int .i64 k ∧ x = .int .u32 (reg s1 (l.take k)).toNat) (fun _ i => l.length - (intOf i).toNat)
  case atStart => exact ⟨0, by omega, rfl, rfl⟩
  case round =>
    obtain ⟨k, hk, rfl, rfl⟩ := hrel
    by_cases hlt : k < l.length
    · obtain ⟨b, off, rfl, hc⟩ := h3 k hlt
      obtain ⟨y, hy⟩ : ∃ y, Hid (y = reg s1 (l.take k)) := ⟨_, Lib.hid rfl⟩
      obtain ⟨c, hcv⟩ : ∃ c, Hid (c = l.getD k 0) := ⟨_, Lib.hid rfl⟩
      rw [← hy.out]
      rw [← hcv.out] at hc
      have hcb : (c.toNat : Int) < 256 := by have := c.toNat_lt; omega
      have e1 := bits_xor32 y (ext c)
      rw [ext_toNat] at e1
      obtain ⟨z, hz⟩ : ∃ z, Hid (z = y ^^^ ext c) := ⟨_, Lib.hid rfl⟩
      rw [← hz.out] at e1
      clear h3
      go_wp2
      go_loop [5, 20] (fun x i => ∃ k : Nat, k ≤ 2 ∧ i = .int .i64 k ∧ x = .int .u32 (nibs k z).toNat) (fun _ i => 2 - (intOf i).toNat)
      case atStart => exact ⟨0, by omega, rfl, rfl⟩
      case round =>
        obtain ⟨k2, hk2, rfl, rfl⟩ := hrel
        clear hc hcb e1 e0
        by_cases hlt2 : k2 < 2
        · obtain ⟨y2, hy2⟩ : ∃ y, Hid (y = nibs k2 z) := ⟨_, Lib.hid rfl⟩
          rw [← hy2.out]
          have e2 := bits_and15 y2
          have hj : y2.toNat % 16 < 16 := by omega
          have hcell := hT (y2.toNat % 16) hj
          have e3 := bits_xor32 (y2 >>> 4) (tab (y2.toNat % 16))
          rw [BitVec.toNat_ushiftRight, Nat.shiftRight_eq_div_pow, show ((y2.toNat / 2 ^ 4 : Nat) : Int) = (y2.toNat : Int) / 16 from by omega] at e3
          obtain ⟨t, ht⟩ : ∃ t, Hid (t = nib y2) := ⟨_, Lib.hid rfl⟩
          have ht' := ht.out
          unfold nib at ht'
          rw [← ht'] at e3
          clear ht'
          generalize y2.toNat % 16 = j at *
          generalize tab j = tj at *
          go_wp2
          go_round
          case rel => exact ⟨k2 + 1, by omega, by go_num, by rw [nibs, ← hy2.out, ← ht.out]⟩
          case measure => simp [intOf]; omega
        · obtain rfl : k2 = 2 := by omega
          go_wp2
          go_round
          case rel =>
            refine ⟨k + 1, by omega, by go_num, ?_⟩
            have : reg s1 (l.take (k + 1)) = nibs 2 z := by
              rw [List.take_succ_eq_append_getElem hlt, reg_append, ← hy.out, hz.out, hcv.out]
              simp [reg, byt, List.getD, hlt]
            rw [this]
          case measure => simp [intOf]; omega
    · have e4 := not32 (reg s1 l)
      obtain rfl : k = l.length := by omega
      rw [List.take_length]
      obtain ⟨y, hy⟩ : ∃ y, Hid (y = reg s1 l) := ⟨_, Lib.hid rfl⟩
      rw [← hy.out] at e4 ⊢
      clear h3 e0
      go_wp2
      go_ret
      exact ⟨by unfold crcExt; rw [← Hs1.out, ← hy.out]; simp, rfl⟩

set_option maxHeartbeats 400000 in
theorem sum_calls (v : Value) (l : List UInt8) (w : World) (hT : Tab w) (hv : Byt w v l) :
    Calls Tryd.prog 11 #[v] w fun e w' => e = .returned (.int .u32 (crcExt 0 l).toNat) ∧ w = w' := by
  go_enter Tryd.func11, Tryd.ntmps11
  go_wp2_with (go_at_call 13; refine (ext_calls 0 v l _ hT hv).mono ?_; rintro e w1 ⟨rfl, rfl⟩)
  go_ret
  exact ⟨rfl, rfl⟩

theorem bits_and1 (x : BitVec 32) : bits .and .u32 (x.toNat : Int) 1 = (if x.getLsbD 0 then 1 else 0) := by
  have h1 : BitVec.ofInt IntKind.u32.bits (x.toNat : Int) = x := by
    apply BitVec.eq_of_toNat_eq
    have := x.isLt
    rw [BitVec.toNat_ofInt]
    simp [IntKind.bits]
    omega
  have e : (x &&& 1#32).toNat = x.toNat % 2 := by
    rw [BitVec.toNat_and, show (1#32).toNat = 2 ^ 1 - 1 from rfl, Nat.and_two_pow_sub_one_eq_mod]
  simp only [bits, h1]
  rw [IntKind.wrap_u32]
  show (((x &&& 1#32).toNat : Int)) % 4294967296 = _
  rw [e]
  have e2 : x.getLsbD 0 = decide (x.toNat % 2 = 1) := by
    rw [BitVec.getLsbD, Nat.testBit_zero]
  rw [e2]
  by_cases h : x.toNat % 2 = 1
  · simp [h]
  · simp [show x.toNat % 2 = 0 by omega]

set_option maxHeartbeats 400000 in
theorem step_calls (x y : BitVec 32) (w : World) :
    Calls Tryd.prog 18 #[.int .u32 x.toNat, .int .u32 y.toNat] w fun e w' => e = .returned (.int .u32 (refStep x y).toNat) ∧ w = w' := by
  have e1 := bits_xor32 x y
  have e2 := bits_and1 (x ^^^ y)
  have e3 := bits_xor32 (x >>> 1) P32
  have er : refStep x y = if (x ^^^ y).getLsbD 0 then (x >>> 1) ^^^ P32 else x >>> 1 := by
    unfold refStep; split <;> simp
  have hs : (x >>> 1).toNat = x.toNat / 2 := by rw [BitVec.toNat_ushiftRight, Nat.shiftRight_eq_div_pow]
  rw [hs, show ((x.toNat / 2 : Nat) : Int) = (x.toNat : Int) / 2 from by omega, show ((P32.toNat : Nat) : Int) = 3988292384 from rfl] at e3
  obtain ⟨z, hz⟩ : ∃ z, Hid (z = x ^^^ y) := ⟨_, Lib.hid rfl⟩
  obtain ⟨t, ht⟩ : ∃ t, Hid (t = (x >>> 1) ^^^ P32) := ⟨_, Lib.hid rfl⟩
  rw [← hz.out] at e1 e2 er
  rw [← ht.out] at e3 er
  have Er := Lib.hid er
  have Hs := Lib.hid hs
  clear er hs
  cases hb : z.getLsbD 0
  · rw [hb] at e2
    simp only [Bool.false_eq_true, if_false] at e2
    have Hb := Lib.hid hb
    clear hb e3
    go_enter Tryd.func18, Tryd.ntmps18
    go_wp2
    go_ret
    exact ⟨by rw [Er.out, Hb.out, if_neg (by simp), Hs.out]; simp, rfl⟩
  · rw [hb] at e2
    simp only [if_true] at e2
    have Hb := Lib.hid hb
    clear hb
    go_enter Tryd.func18, Tryd.ntmps18
    go_wp2
    go_ret
    exact ⟨by rw [Er.out, Hb.out]; simp, rfl⟩

set_option maxHeartbeats 800000 in
theorem refExt_calls (s : BitVec 32) (v : Value) (l : List UInt8) (w : World) (hv : Byt w v l) (hl : l.length ≤ 1000000000000) :
    Calls Tryd.prog 14 #[.int .u32 s.toNat, v] w fun e w' => e = .returned (.int .u32 (crcExt s l).toNat) ∧ w = w' := by
  obtain ⟨a, cap, rfl, h1, h2, h3⟩ := hv.open
  unfold maxLen at h2
  have e0 := not32 s
  obtain ⟨s1, hs1⟩ : ∃ s1, s1 = ~~~ s := ⟨_, rfl⟩
  rw [← hs1] at e0
  have Hs1 := Lib.hid hs1
  clear hs1
  go_enter Tryd.func14, Tryd.ntmps14
  go_wp2
  go_loop [5, 6] (fun x i => ∃ k : Nat, k ≤ 8 * l.length ∧ i = .int .i64 k ∧ x = .int .u32 (refTo s1 l k).toNat) (fun _ i => 8 * l.length - (intOf i).toNat)
  case atStart => exact ⟨0, by omega, rfl, rfl⟩
  case round =>
    obtain ⟨k, hk, rfl, rfl⟩ := hrel
    clear e0
    by_cases hlt : k < 8 * l.length
    · obtain ⟨b, off, rfl, hc⟩ := h3 (k / 8) (by omega)
      obtain ⟨y, hy⟩ : ∃ y, Hid (y = refTo s1 l k) := ⟨_, Lib.hid rfl⟩
      obtain ⟨c, hcv⟩ : ∃ c, Hid (c = l.getD (k / 8) 0) := ⟨_, Lib.hid rfl⟩
      rw [← hy.out]
      rw [← hcv.out] at hc
      have hbit : ((c.toNat : Int) / 2 ^ (k % 8) % 4294967296) = ((refBit l k).toNat : Int) := by
        rw [refBit, BitVec.toNat_ofNat, ← hcv.out]
        simp
      have Hbit := Lib.hid hbit
      clear h3 hbit
      go_wp2_with (go_at_call 18; rw [Hbit.out]; refine (step_calls y (refBit l k) _).mono ?_; rintro e w1 ⟨rfl, rfl⟩)
      go_round
      case rel => exact ⟨k + 1, by omega, by go_num, by rw [refTo, ← hy.out]⟩
      case measure => simp [intOf]; omega
    · obtain rfl : k = 8 * l.length := by omega
      have hq : refTo s1 l (8 * l.length) = reg s1 l := by rw [refTo_eq s1 l l.length (Nat.le_refl _), List.take_length]
      rw [hq]
      have e4 := not32 (reg s1 l)
      obtain ⟨y, hy⟩ : ∃ y, Hid (y = reg s1 l) := ⟨_, Lib.hid rfl⟩
      rw [← hy.out] at e4 ⊢
      clear h3 hq
      go_wp2
      go_ret
      exact ⟨by unfold crcExt; rw [← Hs1.out, ← hy.out]; simp, rfl⟩

set_option maxHeartbeats 400000 in
theorem refSum_calls (v : Value) (l : List UInt8) (w : World) (hv : Byt w v l) (hl : l.length ≤ 1000000000000) :
    Calls Tryd.prog 12 #[v] w fun e w' => e = .returned (.int .u32 (crcExt 0 l).toNat) ∧ w = w' := by
  go_enter Tryd.func12, Tryd.ntmps12
  go_wp2_with (go_at_call 14; refine (refExt_calls 0 v l _ hv hl).mono ?_; rintro e w1 ⟨rfl, rfl⟩)
  go_ret
  exact ⟨rfl, rfl⟩

theorem check9 : crcExt 0 [49, 50, 51, 52, 53, 54, 55, 56, 57] = 0xcbf43926#32 := by decide +kernel

set_option maxHeartbeats 400000 in
theorem works_calls (w : World) (hT : Tab w) (hz : 0 < w.heap.size) :
    Calls Tryd.prog 9 #[] w fun e w' => e = .returned (.bool true) ∧ Below w.heap.size w w' := by
  go_enter Tryd.func9, Tryd.ntmps9
  have kc := fun (w : World) (C : Array Value) (n c : Nat) => Lib.run_convert_bytes_const (P := Tryd.prog) w 23 5 C n c Tryd.underlying23 Tryd.underlying5
  have hb : ∀ C fr, Below w.heap.size w (w.alloc (.cells C 5 fr)) := fun C fr => (Below.refl _ _).alloc (Nat.le_refl _) _
  have HB := Lib.hid hb
  clear hb
  go_wp2_with (go_at_call 11; refine (sum_calls _ [49, 50, 51, 52, 53, 54, 55, 56, 57] _ (hT.below (HB.out _ _) hz) (Byt.made w _ _ _ _ rfl (by decide))).mono ?_; rintro e w1 ⟨rfl, rfl⟩; rw [check9])
  go_ret
  exact ⟨rfl, HB.out _ _⟩
end Go.Proofs.YtbfhgpaobnlodaaDoor
