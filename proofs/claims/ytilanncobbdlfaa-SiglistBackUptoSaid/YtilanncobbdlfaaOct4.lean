/-
  Contracts of the document's own Turned, GetBig, Get.
-/
import Derived.Test.YtilanncobbdlfaaOct3
namespace Go.Proofs.Ytilanncobbdlfaa
open Go Go.RowKit

set_option maxHeartbeats 800000 in
theorem turnedL_calls (v : Value) (l : List UInt8) (w : World) (h : Byt w v l) (hl : l.length ≤ 1000000000000) :
    Calls Try.prog 62 #[v] w fun e w' => ∃ v', e = .returned v' ∧ OwnB w' w.heap.size v' l.reverse ∧ Below w.heap.size w w' := by
  obtain ⟨a, cap, rfl, h1, h2, h3⟩ := h.open
  go_enter Try.func62, Try.ntmps62
  go_wp2
  go_loopw [3, 4] (fun out i wr => ∃ (k : Nat) (m : List UInt8), k ≤ l.length ∧ Hid (m = l.reverse.take k) ∧ m.length ≤ 1000000000000 ∧ i = .int .i64 ((l.length : Int) - 1 - k) ∧ OwnB wr w.heap.size out m ∧ Below w.heap.size w wr) (fun _ i _ => (intOf i + 1).toNat)
  case atStart => exact ⟨0, [], by omega, Lib.hid (by simp), by simp, by go_num, OwnB.empty _ _ _, Below.refl _ _⟩
  case round =>
    obtain ⟨k, m, hk, hm, hml, rfl, hown, hb⟩ := hrel
    by_cases hlt : k < l.length
    · obtain ⟨b, off, rfl, hc0⟩ := h3 (l.length - 1 - k) (by omega)
      have hc := (hb.cell (p := ⟨b, off + (l.length - 1 - k), none⟩) (lt_of_cell hc0)).trans hc0
      clear h3 hc0
      obtain ⟨c, hcc⟩ : ∃ c, Hid (c = l.getD (l.length - 1 - k) 0) := ⟨_, Lib.hid rfl⟩
      rw [← hcc.out] at hc
      go_wp2_with (at_builtin; refine wpList_append_byt rfl _ _ rfl w.heap.size _ m rfl (hown.alloc _) _ [c] rfl (Byt.one _ _ _ _ ?c1) ?c2 ?c3 ?_)
      case c1 => rfl
      case c2 => simp; omega
      case c3 => have := hb.size; simp; omega
      intro v' w' hown' hg _
      go_wp2
      go_roundw
      case rel =>
        refine ⟨k + 1, m ++ [c], by omega, Lib.hid ?_, ?_, by go_num, hown', (hb.alloc hb.size _).grown hg (by have := hb.size; simp; omega) (fun j hj => (hown.lt j hj).1)⟩
        · rw [List.take_succ_eq_append_getElem (by simp; omega), ← hm.out, hcc.out]
          simp [List.getD, show l.length - 1 - k < l.length by omega]
        · have := hm.out
          have hml2 : m.length = k := by rw [this, List.length_take, List.length_reverse]; omega
          simp; omega
      case measure => simp [intOf]; omega
    · obtain rfl : k = l.length := by omega
      clear h3
      go_wp2
      go_ret
      exact ⟨_, rfl, by rw [hm.out, List.take_of_length_le (by simp)] at hown; exact hown, hb⟩

theorem wrap64u (X c : Nat) (h : X * 256 + c < 2 ^ 64) : IntKind.u64.wrap ((X : Int) * 256) = ((X * 256 : Nat) : Int) ∧ IntKind.u64.wrap (((X * 256 : Nat) : Int) + (c : Int)) = ((X * 256 + c : Nat) : Int) :=
  ⟨by rw [IntWalk.u64_in _ (by omega)]; simp, by rw [IntWalk.u64_in _ (by omega)]; simp⟩

set_option maxHeartbeats 1600000 in
theorem refGetBig_calls (v : Value) (l : List UInt8) (p n : Int) (w : World) (hv : Byt w v l) (hp : I64 p) (hn : I64 n) (hl : l.length ≤ 1000000000000) :
    Calls Try.prog 61 #[v, .int .i64 p, .int .i64 n] w fun e w' => e = .returned (.tuple #[.int .u64 (gotB l p n), .int .i64 (gotE l p n)]) ∧ Below w.heap.size w w' := by
  have hC := refCut_calls v l p n w hv hp hn hl
  have hS := fun w => refSized_calls n w
  cases hs : sizedB n with
  | false =>
    have hno : Hid (gotB l p n = 0 ∧ gotE l p n = 1) := by unfold Hid gotB gotE getOk; rw [hs]; exact ⟨rfl, rfl⟩
    rw [hs] at hS
    have HC := Lib.hid hC
    have HS := Lib.hid hS
    clear hC hS hs
    go_enter Try.func61, Try.ntmps61
    go_wp2_with (first
      | (go_at_call 59; refine HC.out.mono ?_; rintro e w1 ⟨v1, rfl, hown, hb1⟩)
      | (go_at_call 60; refine (HS.out _).mono ?_; rintro e w2 ⟨rfl, rfl⟩))
    go_ret2
    exact ⟨by rw [hno.out.1, hno.out.2]; rfl, hb1⟩
  | true =>
    rw [hs] at hS
    cases hw : withinB l.length p n with
    | false =>
      have hno : Hid (gotB l p n = 0 ∧ gotE l p n = 1) := by unfold Hid gotB gotE getOk; rw [hs, hw]; exact ⟨rfl, rfl⟩
      rw [hw] at hC
      have HC := Lib.hid hC
      have HS := Lib.hid hS
      clear hC hS hs hw
      go_enter Try.func61, Try.ntmps61
      go_wp2_with (first
        | (go_at_call 59; refine HC.out.mono ?_; rintro e w1 ⟨v1, rfl, hown, hb1⟩)
        | (go_at_call 60; refine (HS.out _).mono ?_; rintro e w2 ⟨rfl, rfl⟩))
      go_ret2
      exact ⟨by rw [hno.out.1, hno.out.2]; rfl, hb1⟩
    | true =>
      have hyes : Hid (gotB l p n = numL (seg l p n).reverse ∧ gotE l p n = 0) := by unfold Hid gotB gotE getOk; rw [hs, hw]; exact ⟨rfl, rfl⟩
      have hcut : cutL l p n = seg l p n := by unfold cutL; rw [hw]; rfl
      have hsz := (sizedB_iff n).1 hs
      have hsl := seg_length l p n hw
      rw [hw, hcut] at hC
      obtain ⟨q, hq⟩ : ∃ q, Hid (q = seg l p n) := ⟨_, Lib.hid rfl⟩
      rw [← hq.out] at hC hsl hyes
      have HC := Lib.hid hC
      have HS := Lib.hid hS
      clear hC hS hs hw hcut
      obtain ⟨N, rfl⟩ := Int.eq_ofNat_of_zero_le (show 0 ≤ n by omega)
      have hN : N ≤ 8 := by omega
      rw [Int.toNat_natCast] at hsl
      have HL := Lib.hid hsl
      clear hsl hsz hn
      go_enter Try.func61, Try.ntmps61
      go_wp2_with (first
        | (go_at_call 59; refine HC.out.mono ?_; rintro e w1 ⟨v1, rfl, hown, hb1⟩)
        | (go_at_call 60; refine (HS.out _).mono ?_; rintro e w2 ⟨rfl, rfl⟩))
      obtain ⟨a1, cap1, rfl, _, g2, h3⟩ := hown.byt.open
      rw [HL.out] at h3 ⊢
      unfold maxLen at g2
      go_loop [10, 11] (fun x i => ∃ k : Nat, k ≤ N ∧ i = .int .i64 k ∧ x = .int .u64 (numB (q.take k))) (fun _ i => N - (intOf i).toNat)
      case atStart => exact ⟨0, by omega, rfl, rfl⟩
      case round =>
        obtain ⟨k, hk, rfl, rfl⟩ := hrel
        by_cases hlt : k < N
        · obtain ⟨b, off, rfl, hc⟩ := h3 k hlt
          have hst : numB (q.take (k + 1)) = numB (q.take k) * 256 + (q.getD k 0).toNat := by
            rw [List.take_succ_eq_append_getElem (by rw [HL.out]; exact hlt), numB_snoc]
            simp [List.getD, show k < q.length by rw [HL.out]; exact hlt]
          have hlt2 : numB (q.take (k + 1)) < 2 ^ 64 := by
            have := numB_lt (q.take (k + 1))
            rw [List.length_take, HL.out, Nat.min_eq_left (by omega)] at this
            have h8 : (256 : Nat) ^ (k + 1) ≤ 256 ^ 8 := Nat.pow_le_pow_right (by decide) (by omega)
            omega
          rw [hst] at hlt2
          obtain ⟨e1, e2⟩ := wrap64u (numB (q.take k)) (q.getD k 0).toNat hlt2
          rw [← hst] at e2
          clear hst hlt2
          generalize numB (q.take k) = X at *
          obtain ⟨c, hcc⟩ : ∃ c, Hid (c = q.getD k 0) := ⟨_, Lib.hid rfl⟩
          rw [← hcc.out] at hc e2
          have hcb : (c.toNat : Int) < 256 := by have := c.toNat_lt; omega
          obtain ⟨Y, hy⟩ : ∃ Y, Hid (Y = numB (q.take (k + 1))) := ⟨_, Lib.hid rfl⟩
          rw [← hy.out] at e2
          generalize X * 256 = M at *
          clear h3
          go_wp2
          exact ⟨⟨k + 1, by omega, by go_num, by rw [← hy.out]⟩, by simp [intOf]; omega⟩
        · obtain rfl : k = N := by omega
          rw [List.take_of_length_le (by rw [HL.out]; exact Nat.le_refl _)]
          clear h3
          go_wp2
          go_ret2
          exact ⟨by rw [hyes.out.1, hyes.out.2, ← numB_eq]; rfl, hb1⟩

theorem gotB_rev (l : List UInt8) (p n : Int) (hs : sizedB n = true) (hw : withinB l.length p n = true) : gotB (seg l p n).reverse 0 n = gotL l p n ∧ gotE (seg l p n).reverse 0 n = gotE l p n := by
  have hl := seg_length l p n hw
  have hsz := (sizedB_iff n).1 hs
  have hw2 : withinB (seg l p n).reverse.length 0 n = true := by
    rw [withinB_iff, List.length_reverse, hl]; omega
  have hok : getOk (seg l p n).reverse 0 n = true := by unfold getOk; rw [hs, hw2]; rfl
  have hok2 : getOk l p n = true := by unfold getOk; rw [hs, hw]; rfl
  have hseg : seg (seg l p n).reverse 0 n = (seg l p n).reverse := by
    conv => lhs; unfold seg
    rw [Int.toNat_zero, List.drop_zero, List.take_of_length_le (by rw [List.length_reverse, List.length_take, List.length_drop]; omega)]
    rfl
  unfold gotB gotL gotE
  rw [hok, hok2, hseg, List.reverse_reverse]
  exact ⟨rfl, rfl⟩

set_option maxHeartbeats 1600000 in
theorem refGet_calls (v : Value) (l : List UInt8) (p n : Int) (w : World) (hv : Byt w v l) (hp : I64 p) (hn : I64 n) (hl : l.length ≤ 1000000000000) :
    Calls Try.prog 51 #[v, .int .i64 p, .int .i64 n] w fun e w' => e = .returned (.tuple #[.int .u64 (gotL l p n), .int .i64 (gotE l p n)]) ∧ Below w.heap.size w w' := by
  have hC := refCut_calls v l p n w hv hp hn hl
  have hS := fun w => refSized_calls n w
  cases hs : sizedB n with
  | false =>
    have hno : Hid (gotL l p n = 0 ∧ gotE l p n = 1) := by unfold Hid gotL gotE getOk; rw [hs]; exact ⟨rfl, rfl⟩
    rw [hs] at hS
    have HC := Lib.hid hC
    have HS := Lib.hid hS
    clear hC hS hs
    go_enter Try.func51, Try.ntmps51
    go_wp2_with (first
      | (go_at_call 59; refine HC.out.mono ?_; rintro e w1 ⟨v1, rfl, hown, hb1⟩)
      | (go_at_call 60; refine (HS.out _).mono ?_; rintro e w2 ⟨rfl, rfl⟩))
    go_ret2
    exact ⟨by rw [hno.out.1, hno.out.2]; rfl, hb1⟩
  | true =>
    rw [hs] at hS
    cases hw : withinB l.length p n with
    | false =>
      have hno : Hid (gotL l p n = 0 ∧ gotE l p n = 1) := by unfold Hid gotL gotE getOk; rw [hs, hw]; exact ⟨rfl, rfl⟩
      rw [hw] at hC
      have HC := Lib.hid hC
      have HS := Lib.hid hS
      clear hC hS hs hw
      go_enter Try.func51, Try.ntmps51
      go_wp2_with (first
        | (go_at_call 59; refine HC.out.mono ?_; rintro e w1 ⟨v1, rfl, hown, hb1⟩)
        | (go_at_call 60; refine (HS.out _).mono ?_; rintro e w2 ⟨rfl, rfl⟩))
      go_ret2
      exact ⟨by rw [hno.out.1, hno.out.2]; rfl, hb1⟩
    | true =>
      have hcut : cutL l p n = seg l p n := by unfold cutL; rw [hw]; rfl
      have hsl : (seg l p n).length ≤ 1000000000000 := by have := cutL_length_le l p n; rw [hcut] at this; omega
      have hrev := Lib.hid (gotB_rev l p n hs hw)
      rw [hw, hcut] at hC
      obtain ⟨q, hq⟩ : ∃ q, Hid (q = seg l p n) := ⟨_, Lib.hid rfl⟩
      rw [← hq.out] at hC hsl hrev
      have HC := Lib.hid hC
      have HS := Lib.hid hS
      clear hC hS hs hw hcut
      go_enter Try.func51, Try.ntmps51
      go_wp2_with (first
        | (go_at_call 59; refine HC.out.mono ?_; rintro e w1 ⟨v1, rfl, hown, hb1⟩)
        | (go_at_call 60; refine (HS.out _).mono ?_; rintro e w2 ⟨rfl, rfl⟩)
        | (go_at_call 62; refine (turnedL_calls _ q _ hown.byt hsl).mono ?_; rintro e w2 ⟨v2, rfl, hown2, hb2⟩)
        | (go_at_call 61; refine (refGetBig_calls _ q.reverse 0 n _ hown2.byt (by unfold I64; omega) hn (by simpa using hsl)).mono ?_; rintro e w3 ⟨rfl, hb3⟩))
      go_ret2
      exact ⟨by rw [← hrev.out.1, ← hrev.out.2]; rfl, hb1.trans ((hb2.mono hb1.size).trans (hb3.mono (Nat.le_trans hb1.size hb2.size)))⟩
end Go.Proofs.Ytilanncobbdlfaa
