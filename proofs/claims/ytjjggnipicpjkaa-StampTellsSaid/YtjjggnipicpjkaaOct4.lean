/-
  Contracts of the document's own Turned, GetBig, Get.
-/
import Derived.Test.YtjjggnipicpjkaaOct3
namespace Go.Proofs.Ytjjggnipicpjkaa
open Go Go.RowKit

theorem wrap64u (X c : Nat) (h : X * 256 + c < 2 ^ 64) : IntKind.u64.wrap ((X : Int) * 256) = ((X * 256 : Nat) : Int) ∧ IntKind.u64.wrap (((X * 256 : Nat) : Int) + (c : Int)) = ((X * 256 + c : Nat) : Int) :=
  ⟨by rw [IntWalk.u64_in _ (by omega)]; simp, by rw [IntWalk.u64_in _ (by omega)]; simp⟩

theorem gotB_rev (l : List UInt8) (p n : Int) (hs : sizedB n = true) (hw : withinB l.length p n = true) : gotB (seg l p n).reverse 0 n = gotL l p n ∧ gotE (seg l p n).reverse 0 n = gotE l p n := by
  have hl := seg_length l p n hw
  have hsz := (sizedB_iff n).1 hs
  have hw2 : withinB (seg l p n).reverse.length 0 n = true := by
    rw [withinB_iff, List.length_reverse, hl]; omega
  have hok : getOk (seg l p n).reverse 0 n = true := by unfold getOk; rw [hs, hw2]; rfl
  have hok2 : getOk l p n = true := by unfold getOk; rw [hs, hw]; rfl
  have hseg : seg (seg l p n).reverse 0 n = (seg l p n).reverse := by
    conv => lhs; unfold seg
    rw [Int.toNat_zero, List.drop_zero, List.take_of_length_le (by rw [List.length_reverse, List.length_take, List.length_drop]; omega)]
    rfl
  unfold gotB gotL gotE
  rw [hok, hok2, hseg, List.reverse_reverse]
  exact ⟨rfl, rfl⟩

end Go.Proofs.Ytjjggnipicpjkaa
