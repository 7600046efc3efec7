/-
  The plain law of moments' bytes: what is written is read, and the other way round.
-/
import Derived.Test.YtemojckmnlgkdaaStamp6
import Derived.Test.YtemojckmnlgkdaaStamp10
namespace Go.Proofs.Ytemojckmnlgkdaa
open Go Go.RowKit

theorem bz_u8 (z : Int) (h : 0 ≤ z ∧ z ≤ 255) : ((u8 z).toNat : Int) = z := (u8_eq z h).symm

theorem wrL_form (t : Tm) : wrL t = [UInt8.ofNat (t.y.toNat / 2 ^ 0), UInt8.ofNat (t.y.toNat / 2 ^ 8), u8 t.mo, u8 t.d, u8 t.h, u8 t.mi, u8 t.s, 0, 0, 0, 0, 0, 0, 0, 0, 0] := by
  unfold wrL lowN
  rfl

theorem rdT_wrL (t : Tm) (ht : t.Fit) : rdT (wrL t) = t := by
  obtain ⟨h1, h2, h3, h4, h5, h6⟩ := ht
  rw [wrL_form]
  apply Tm.ext'
  · show ((UInt8.ofNat (t.y.toNat / 2 ^ 0)).toNat : Int) + 256 * ((UInt8.ofNat (t.y.toNat / 2 ^ 8)).toNat : Int) = t.y
    rw [UInt8.toNat_ofNat', UInt8.toNat_ofNat']
    omega
  · exact bz_u8 _ h2
  · exact bz_u8 _ h3
  · exact bz_u8 _ h4
  · exact bz_u8 _ h5
  · exact bz_u8 _ h6

theorem rdB_wrL (t : Tm) (ht : t.Fit) : rdB (wrL t) = (isZ t || rightB t) := by
  have h1 : mxL ((wrL t).drop 7) 9 = 0 := by
    rw [wrL_form]
    rfl
  unfold rdB
  rw [rdT_wrL t ht, decide_eq_true ⟨wrL_length t, h1⟩]
  rfl

theorem ext16 (l m : List UInt8) (hl : l.length = 16) (hm : m.length = 16) (h : ∀ i, i < 16 → l.getD i 0 = m.getD i 0) : l = m := by
  apply List.ext_getElem (by omega)
  intro i h1 h2
  have := h i (by omega)
  simpa [List.getD, h1, h2] using this

theorem wrL_rdT (l : List UInt8) (h : rdB l = true) : wrL (rdT l) = l := by
  unfold rdB at h
  rw [Bool.and_eq_true, decide_eq_true_iff] at h
  obtain ⟨⟨hl, hm⟩, _⟩ := h
  have hz := (mx_drop l).1 hm
  refine ext16 _ _ (wrL_length _) hl fun i hi => ?_
  rw [wrL_form]
  have u : ∀ j, u8 (bz l j) = l.getD j 0 := fun j => by
    unfold u8 bz
    rw [Int.toNat_natCast]
    exact UInt8.ofNat_toNat
  have hy : (rdT l).y.toNat = (l.getD 0 0).toNat + 256 * (l.getD 1 0).toNat := by
    show (bz l 0 + 256 * bz l 1).toNat = _
    unfold bz
    omega
  have b0 := (l.getD 0 0).toNat_lt
  have b1 := (l.getD 1 0).toNat_lt
  have : i = 0 ∨ i = 1 ∨ i = 2 ∨ i = 3 ∨ i = 4 ∨ i = 5 ∨ i = 6 ∨ 7 ≤ i := by omega
  rcases this with rfl | rfl | rfl | rfl | rfl | rfl | rfl | h7
  · show UInt8.ofNat ((rdT l).y.toNat / 2 ^ 0) = l.getD 0 0
    apply UInt8.toNat_inj.1
    rw [UInt8.toNat_ofNat', hy]
    omega
  · show UInt8.ofNat ((rdT l).y.toNat / 2 ^ 8) = l.getD 1 0
    apply UInt8.toNat_inj.1
    rw [UInt8.toNat_ofNat', hy]
    omega
  · exact u 2
  · exact u 3
  · exact u 4
  · exact u 5
  · exact u 6
  · rw [hz i h7 hi]
    have : i = 7 ∨ i = 8 ∨ i = 9 ∨ i = 10 ∨ i = 11 ∨ i = 12 ∨ i = 13 ∨ i = 14 ∨ i = 15 := by omega
    rcases this with rfl | rfl | rfl | rfl | rfl | rfl | rfl | rfl | rfl <;> rfl
end Go.Proofs.Ytemojckmnlgkdaa
