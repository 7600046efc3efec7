/-
  The plain law of Put and Get: what was put is got; the two orders are one another's turned.
-/
import Derived.Test.YtookmdkcpbpofaaCutOpen
namespace Go.Proofs.Ytookmdkcpbpofaa
open Go Go.RowKit

theorem putL_yes (l : List UInt8) (X N : Nat) (h : sizedB N = true) : putL l X N = l ++ lowN X N := by unfold putL; rw [h, Int.toNat_natCast]; rfl
theorem putB_yes (l : List UInt8) (X N : Nat) (h : sizedB N = true) : putB l X N = l ++ (lowN X N).reverse := by unfold putB; rw [h, Int.toNat_natCast]; rfl

theorem seg_end (l m : List UInt8) (N : Nat) (h : m.length = N) : withinB (l ++ m).length (l.length : Int) (N : Int) = true ∧ seg (l ++ m) (l.length : Int) (N : Int) = m := by
  constructor
  · rw [withinB_iff, List.length_append]; omega
  · unfold seg
    rw [Int.toNat_natCast, Int.toNat_natCast, List.drop_left, List.take_of_length_le (by omega)]

theorem back_get (l : List UInt8) (X N : Nat) (h : sizedB N = true) : gotL (putL l X N) l.length N = X % 256 ^ N ∧ gotE (putL l X N) l.length N = 0 := by
  rw [putL_yes l X N h]
  obtain ⟨h1, h2⟩ := seg_end l (lowN X N) N (lowN_length X N)
  have e : getOk (l ++ lowN X N) l.length N = true := by unfold getOk; rw [h, h1]; rfl
  unfold gotL gotE
  rw [e, h2]
  exact ⟨numL_lowN X N, rfl⟩
theorem back_getBig (l : List UInt8) (X N : Nat) (h : sizedB N = true) : gotB (putB l X N) l.length N = X % 256 ^ N ∧ gotE (putB l X N) l.length N = 0 := by
  rw [putB_yes l X N h]
  obtain ⟨h1, h2⟩ := seg_end l (lowN X N).reverse N (by rw [List.length_reverse, lowN_length])
  have e : getOk (l ++ (lowN X N).reverse) l.length N = true := by unfold getOk; rw [h, h1]; rfl
  unfold gotB gotE
  rw [e, h2, List.reverse_reverse]
  exact ⟨numL_lowN X N, rfl⟩

theorem back_len (l : List UInt8) (X N : Nat) (h : sizedB N = true) : (putL l X N).length = l.length + N ∧ (putB l X N).length = l.length + N := by
  rw [putL_yes l X N h, putB_yes l X N h, List.length_append, List.length_append, List.length_reverse, lowN_length]
  exact ⟨rfl, rfl⟩
theorem back_head (l : List UInt8) (X N : Nat) (h : sizedB N = true) (k : Nat) (hk : k < l.length) : (putL l X N).getD k 0 = l.getD k 0 ∧ (putB l X N).getD k 0 = l.getD k 0 := by
  rw [putL_yes l X N h, putB_yes l X N h]
  simp [List.getD, List.getElem?_append_left hk]
theorem back_tail (l : List UInt8) (X N : Nat) (h : sizedB N = true) (k : Nat) (hk : k < N) : (putL l X N).getD (l.length + k) 0 = (putB l X N).getD (l.length + N - 1 - k) 0 := by
  rw [putL_yes l X N h, putB_yes l X N h]
  simp only [List.getD]
  rw [List.getElem?_append_right (by omega), List.getElem?_append_right (by omega), List.getElem?_reverse (by rw [lowN_length]; omega), lowN_length]
  congr 2
  omega

theorem narS_len (l : List UInt8) (hok : narOk l = true) : (narS l).length ≤ (l.length + 1) / 2 := by
  have e : narS l = evs l ((l.length + 1) / 2) := by unfold narS; exact if_pos hok
  exact Nat.le_of_eq (by rw [e, evs_length])
end Go.Proofs.Ytookmdkcpbpofaa
