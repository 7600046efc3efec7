/-
  Contracts of octet.Put, PutBig; the document's low, Put, PutBig.
-/
import Derived.Test.YtilanncobbdlfaaOct5
namespace Go.Proofs.Ytilanncobbdlfaa
open Go Go.RowKit

def lowS (X : Nat) (n : Int) : List UInt8 := if sizedB n then lowN X n.toNat else []
theorem putL_eq (l : List UInt8) (X : Nat) (n : Int) : putL l X n = l ++ lowS X n := by unfold putL lowS; split <;> simp
theorem putB_eq (l : List UInt8) (X : Nat) (n : Int) : putB l X n = l ++ (lowS X n).reverse := by unfold putB lowS; split <;> simp
theorem lowS_length_le (X : Nat) (n : Int) : (lowS X n).length ≤ 8 := by
  unfold lowS
  split
  · rename_i h
    rw [sizedB_iff] at h
    rw [lowN_length]
    omega
  · simp

set_option maxHeartbeats 400000 in
theorem put_calls (v : Value) (l : List UInt8) (X : Nat) (n : Int) (w : World) (hv : Byt w v l) (hX : X < 2 ^ 64) (hl : l.length ≤ 1000000000000) :
    Calls Try.prog 32 #[v, .int .u64 X, .int .i64 n] w fun e w' => ∃ v', e = .returned v' ∧ OwnB w' w.heap.size v' (putL l X n) ∧ Below w.heap.size w w' := by
  go_enter Try.func32, Try.ntmps32
  go_wp2_with (go_at_call 42; refine (putS_calls v l X n _ hv hX hl).mono ?_; rintro e w1 ⟨v1, rfl, hown, hb1⟩)
  go_ret
  exact ⟨_, rfl, hown, hb1⟩

set_option maxHeartbeats 1600000 in
theorem low_calls (X : Nat) (n : Int) (w : World) (hX : X < 2 ^ 64) :
    Calls Try.prog 54 #[.int .u64 X, .int .i64 n] w fun e w' => ∃ v', e = .returned v' ∧ OwnB w' w.heap.size v' (lowS X n) ∧ Below w.heap.size w w' := by
  have hS := fun w => refSized_calls n w
  cases hs : sizedB n with
  | false =>
    have hno : Hid (lowS X n = []) := by unfold Hid lowS; rw [hs]; rfl
    rw [hs] at hS
    have HS := Lib.hid hS
    clear hS hs
    go_enter Try.func54, Try.ntmps54
    go_wp2
    go_loopw [5, 6] (fun o i wr => o = .slice none 0 0 ∧ i = .int .i64 0 ∧ wr = w) (fun _ _ _ => 0)
    case atStart => exact ⟨rfl, rfl, rfl⟩
    case round =>
      obtain ⟨rfl, rfl, rfl⟩ := hrel
      by_cases hlt : 0 < n
      · go_wp2_with (go_at_call 60; refine (HS.out _).mono ?_; rintro e w1 ⟨rfl, rfl⟩)
        go_ret
        exact ⟨_, rfl, by rw [hno.out]; exact OwnB.empty _ _ _, Below.refl _ _⟩
      · go_wp2
        go_ret
        exact ⟨_, rfl, by rw [hno.out]; exact OwnB.empty _ _ _, Below.refl _ _⟩
  | true =>
    have hyes : Hid (lowS X n = lowN X n.toNat) := by unfold Hid lowS; rw [hs]; rfl
    have hsz := (sizedB_iff n).1 hs
    rw [hs] at hS
    have HS := Lib.hid hS
    clear hS hs
    obtain ⟨N, rfl⟩ := Int.eq_ofNat_of_zero_le (show 0 ≤ n by omega)
    rw [Int.toNat_natCast] at hyes
    have hN : 1 ≤ N ∧ N ≤ 8 := by omega
    clear hsz
    go_enter Try.func54, Try.ntmps54
    go_wp2
    go_loopw [0, 5, 6] (fun x out i wr => ∃ (k Y : Nat) (m : List UInt8), k ≤ N ∧ Hid (m = lowN X k) ∧ m.length ≤ 8 ∧ Hid (Y = X / 2 ^ (8 * k)) ∧ Y < 2 ^ 64 ∧ i = .int .i64 k ∧ x = .int .u64 Y ∧ OwnB wr w.heap.size out m ∧ Below w.heap.size w wr) (fun _ _ i _ => N - (intOf i).toNat)
    case atStart => exact ⟨0, X, [], by omega, Lib.hid rfl, by simp, Lib.hid (by simp), hX, rfl, rfl, OwnB.empty _ _ _, Below.refl _ _⟩
    case round =>
      obtain ⟨k, Y, m, hk, hm, hml, hY, hYl, rfl, rfl, hown, hb⟩ := hrel
      by_cases hlt : k < N
      · go_wp2_with (first
          | (go_at_call 60; refine (HS.out _).mono ?_; rintro e w1 ⟨rfl, rfl⟩)
          | (at_builtin; refine wpList_append_byt rfl _ _ rfl w.heap.size _ m rfl (hown.alloc _) _ [UInt8.ofNat Y] rfl (Byt.one _ _ _ _ ?c1) ?c2 ?c3 ?_))
        case c1 =>
          rw [UInt8.toNat_ofNat']
          simp
        case c2 => simp; omega
        case c3 => have := hb.size; simp; omega
        intro v' w' hown' hg _
        go_wp2
        refine ⟨⟨k + 1, Y / 256, m ++ [UInt8.ofNat Y], by omega, Lib.hid ?_, ?_, Lib.hid ?_, by omega, by go_num, by go_num, hown', (hb.alloc hb.size _).grown hg (by have := hb.size; simp; omega) (fun j hj => (hown.lt j hj).1)⟩, by simp [intOf]; omega⟩
        · rw [lowN_snoc, hm.out, hY.out]
        · have : m.length = k := by rw [hm.out, lowN_length]
          simp; omega
        · rw [hY.out, Nat.div_div_eq_div_mul, show (256 : Nat) = 2 ^ 8 from rfl, ← Nat.pow_add, Nat.mul_add]
      · obtain rfl : k = N := by omega
        go_wp2
        go_ret
        exact ⟨_, rfl, by rw [hyes.out, ← hm.out]; exact hown, hb⟩

set_option maxHeartbeats 800000 in
theorem refPut_calls (v : Value) (l : List UInt8) (X : Nat) (n : Int) (w : World) (hv : Byt w v l) (hX : X < 2 ^ 64) (hl : l.length ≤ 1000000000000) :
    Calls Try.prog 47 #[v, .int .u64 X, .int .i64 n] w fun e w' => ∃ v', e = .returned v' ∧ OwnB w' w.heap.size v' (putL l X n) ∧ Below w.heap.size w w' := by
  have h8 := lowS_length_le X n
  rw [putL_eq]
  obtain ⟨m, hm⟩ : ∃ m, Hid (m = lowS X n) := ⟨_, Lib.hid rfl⟩
  have HL := Lib.hid (fun w => low_calls X n w hX)
  rw [← hm.out] at h8 ⊢ HL
  go_enter Try.func47, Try.ntmps47
  go_wp2_with (first
    | (go_at_call 53; refine (copyBytes_calls v l _ hv (by omega)).mono ?_; rintro e w1 ⟨v1, rfl, hown, hb1⟩)
    | (go_at_call 54; refine (HL.out _).mono ?_; rintro e w2 ⟨v2, rfl, hown2, hb2⟩)
    | (at_builtin; refine wpList_append_byt rfl _ _ rfl w.heap.size _ l rfl (hown.below hb2) _ m rfl hown2.byt ?c2 ?c3 ?_))
  case c2 => omega
  case c3 => exact Nat.le_trans hb1.size hb2.size
  intro v' w' hown' hg _
  go_wp2
  go_ret
  exact ⟨_, rfl, hown', (hb1.trans (hb2.mono hb1.size)).grown hg (Nat.le_trans hb1.size hb2.size) (fun j hj => ((hown.below hb2).lt j hj).1)⟩

end Go.Proofs.Ytilanncobbdlfaa
