/-
  Contracts of octet.get, in both orders; Get, GetBig.
-/
import Derived.Test.YtilanncobbdlfaaOct2
namespace Go.Proofs.Ytilanncobbdlfaa
open Go Go.RowKit

theorem or64 (a j c : Nat) (hj : j ≤ 56) (ha : a < 2 ^ j) (hc : c < 256) : bits .or .u64 (a : Int) (IntKind.u64.wrap ((c : Int) * 2 ^ j)) = ((a + c * 2 ^ j : Nat) : Int) := by
  have hp : (2 : Nat) ^ j ≤ 2 ^ 56 := Nat.pow_le_pow_right (by decide) hj
  have hcj : c * 2 ^ j < 2 ^ 64 := by
    have : c * 2 ^ j ≤ 255 * 2 ^ 56 := Nat.mul_le_mul (by omega) hp
    omega
  have hcast : IntKind.u64.wrap ((c : Int) * 2 ^ j) = ((c * 2 ^ j : Nat) : Int) := by
    have : ((c * 2 ^ j : Nat) : Int) = (c : Int) * 2 ^ j := by simp
    rw [← this]
    exact IntWalk.u64_in _ (by omega)
  have ha64 : a < 2 ^ 64 := by omega
  rw [hcast, (bits_nat .u64 64 (by decide) (fun n h1 h2 => IntWalk.u64_in n (by omega)) a (c * 2 ^ j) ha64 hcj).2]
  rw [Nat.mul_comm c, Nat.or_comm, Nat.add_comm, ← Nat.two_pow_add_eq_or_of_lt ha]

theorem numL_step (q : List UInt8) (k : Nat) (hk : k < q.length) : numL (q.take (k + 1)) = numL (q.take k) + (q.getD k 0).toNat * 2 ^ (8 * k) := by
  rw [List.take_succ_eq_append_getElem hk, numL_snoc, List.length_take, Nat.min_eq_left (by omega), show (256 : Nat) = 2 ^ 8 from rfl, ← Nat.pow_mul]
  simp [List.getD, hk]

theorem numL_take_lt (q : List UInt8) (k : Nat) (hk : k ≤ q.length) : numL (q.take k) < 2 ^ (8 * k) := by
  have := numL_lt (q.take k)
  rw [List.length_take, Nat.min_eq_left hk, show (256 : Nat) = 2 ^ 8 from rfl, ← Nat.pow_mul] at this
  exact this

set_option maxHeartbeats 1600000 in
theorem getS_calls (v : Value) (l : List UInt8) (p n : Int) (w : World) (hv : Byt w v l) (hp : I64 p) (hn : I64 n) (hl : l.length ≤ 1000000000000) :
    Calls Try.prog 55 #[v, .int .i64 p, .int .i64 n, .func (.func 43) #[] #[]] w fun e w' => e = .returned (.tuple #[.int .u64 (gotL l p n), .int .i64 (gotE l p n)]) ∧ Below w.heap.size w w' := by
  obtain ⟨a, cap, rfl, h1, h2, _⟩ := hv.open
  cases hs : sizedB n with
  | false =>
    have hno : Hid (gotL l p n = 0 ∧ gotE l p n = 1) := by unfold Hid gotL gotE getOk; rw [hs]; exact ⟨rfl, rfl⟩
    have hq := fun w => sized_calls n w
    rw [hs] at hq
    have HQ := Lib.hid hq
    clear hq hs
    go_enter Try.func55, Try.ntmps55
    go_wp2_with (go_at_call 50; refine (HQ.out _).mono ?_; rintro e w1 ⟨rfl, hb1⟩)
    go_ret2
    exact ⟨by rw [hno.out.1, hno.out.2]; rfl, hb1⟩
  | true =>
    cases hw : withinB l.length p n with
    | false =>
      have hno : Hid (gotL l p n = 0 ∧ gotE l p n = 1) := by unfold Hid gotL gotE getOk; rw [hs, hw]; exact ⟨rfl, rfl⟩
      have hq := fun w => sized_calls n w
      rw [hs] at hq
      have HQ := Lib.hid hq
      have hq2 := fun w hv => within_calls (.slice a l.length cap) l p n w hv hp hn
      rw [hw] at hq2
      have HQ2 := Lib.hid hq2
      clear hq hs hq2 hw
      go_enter Try.func55, Try.ntmps55
      go_wp2_with (first
        | (go_at_call 50; refine (HQ.out _).mono ?_; rintro e w1 ⟨rfl, hb1⟩)
        | (go_at_call 64; refine (HQ2.out _ (hv.below hb1)).mono ?_; rintro e w2 ⟨rfl, rfl⟩))
      go_ret2
      exact ⟨by rw [hno.out.1, hno.out.2]; rfl, hb1⟩
    | true =>
      have hyes : Hid (gotL l p n = numL (seg l p n) ∧ gotE l p n = 0) := by unfold Hid gotL gotE getOk; rw [hs, hw]; exact ⟨rfl, rfl⟩
      have hsz := (sizedB_iff n).1 hs
      have hbd := (withinB_iff _ _ _).1 hw
      have hsl := seg_length l p n hw
      have hgd := seg_getD l p n hw
      have hq := fun w => sized_calls n w
      rw [hs] at hq
      have HQ := Lib.hid hq
      have hq2 := fun w hv => within_calls (.slice a l.length cap) l p n w hv hp hn
      rw [hw] at hq2
      have HQ2 := Lib.hid hq2
      clear hq hs hq2 hw hp hn
      obtain ⟨b0, b1, b2, b3⟩ := hbd
      obtain ⟨P, rfl⟩ := Int.eq_ofNat_of_zero_le b0
      obtain ⟨N, rfl⟩ := Int.eq_ofNat_of_zero_le b1
      obtain ⟨q, hqq⟩ : ∃ q, Hid (q = seg l P N) := ⟨_, Lib.hid rfl⟩
      rw [← hqq.out] at hsl hgd hyes
      rw [Int.toNat_natCast] at hsl
      have hN : N ≤ 8 := by omega
      clear hsz b0 b1
      have HL := Lib.hid hsl
      have HG := Lib.hid hgd
      clear hsl hgd
      go_enter Try.func55, Try.ntmps55
      go_wp2_with (first
        | (go_at_call 50; refine (HQ.out _).mono ?_; rintro e w1 ⟨rfl, hb1⟩)
        | (go_at_call 64; refine (HQ2.out _ (hv.below hb1)).mono ?_; rintro e w2 ⟨rfl, rfl⟩))
      obtain ⟨_, _, e0, _, _, h3⟩ := (hv.below hb1).open
      simp only [Value.slice.injEq] at e0
      obtain ⟨rfl, _, rfl⟩ := e0
      go_loop [8, 22] (fun x i => ∃ k : Nat, k ≤ N ∧ i = .int .i64 k ∧ x = .int .u64 (numL (q.take k))) (fun _ i => N - (intOf i).toNat)
      case atStart => exact ⟨0, by omega, rfl, rfl⟩
      case round =>
        obtain ⟨k, hk, rfl, rfl⟩ := hrel
        by_cases hlt : k < N
        · obtain ⟨b, off, rfl, hc⟩ := h3 (P + k) (by omega)
          have hgk := HG.out k (by omega)
          rw [Int.toNat_natCast] at hgk
          rw [← hgk] at hc
          have hor := or64 (numL (q.take k)) (8 * k) (q.getD k 0).toNat (by omega) (numL_take_lt q k (by rw [HL.out]; omega)) (by have := (q.getD k 0).toNat_lt; omega)
          rw [← numL_step q k (by rw [HL.out]; omega)] at hor
          generalize numL (q.take k) = X at *
          obtain ⟨c, hcc⟩ : ∃ c, Hid (c = q.getD k 0) := ⟨_, Lib.hid rfl⟩
          rw [← hcc.out] at hc hor
          obtain ⟨Y, hy⟩ : ∃ Y, Hid (Y = numL (q.take (k + 1))) := ⟨_, Lib.hid rfl⟩
          rw [← hy.out] at hor
          have hcb : (c.toNat : Int) < 256 := by have := c.toNat_lt; omega
          clear h3 hgk
          go_wp2_with (go_at_call 43; refine (straight_calls _ _).mono ?_; rintro e w2 ⟨rfl, rfl⟩)
          exact ⟨⟨k + 1, by omega, by go_num, by rw [← hy.out]⟩, by simp [intOf]; omega⟩
        · obtain rfl : k = N := by omega
          rw [List.take_of_length_le (by rw [HL.out]; exact Nat.le_refl _)]
          clear h3
          go_wp2
          go_ret2
          exact ⟨by rw [hyes.out.1, hyes.out.2]; rfl, hb1⟩
set_option maxHeartbeats 400000 in
theorem get_calls (v : Value) (l : List UInt8) (p n : Int) (w : World) (hv : Byt w v l) (hp : I64 p) (hn : I64 n) (hl : l.length ≤ 1000000000000) :
    Calls Try.prog 48 #[v, .int .i64 p, .int .i64 n] w fun e w' => e = .returned (.tuple #[.int .u64 (gotL l p n), .int .i64 (gotE l p n)]) ∧ Below w.heap.size w w' := by
  go_enter Try.func48, Try.ntmps48
  go_wp2_with (go_at_call 55; refine (getS_calls v l p n _ hv hp hn hl).mono ?_; rintro e w1 ⟨rfl, hb1⟩)
  go_ret2
  exact ⟨rfl, hb1⟩

end Go.Proofs.Ytilanncobbdlfaa
