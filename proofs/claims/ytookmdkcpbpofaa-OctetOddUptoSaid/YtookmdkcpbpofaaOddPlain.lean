/-
  The plain law of wide texts with a byte more, or a byte turned.
-/
import Derived.Test.YtookmdkcpbpofaaNarPlain
namespace Go.Proofs.Ytookmdkcpbpofaa
open Go Go.RowKit

theorem odd_more (t : List UInt8) (c : UInt8) : narE (dbl t ++ [c]) = 9 := by
  refine (narE_bad _ (narOk_not _ ⟨t.length, ?_, ?_⟩)).2
  · rw [List.length_append, dbl_length]; simp
  · intro h
    have := h.1
    rw [List.length_append, dbl_length] at this
    simp at this

theorem getD_set_self (b : List UInt8) (k : Nat) (c : UInt8) (h : k < b.length) : (b.set k c).getD k 0 = c := by simp [List.getD, h]
theorem getD_set_other (b : List UInt8) (k j : Nat) (c : UInt8) (h : k ≠ j) : (b.set k c).getD j 0 = b.getD j 0 := by simp [List.getD, List.getElem?_set_ne h]

theorem odd_second (t : List UInt8) (h : t.all letB = true) (j : Nat) (hj : j < t.length) (c : UInt8) : narE ((dbl t).set (2 * j + 1) c) = if c = 0 then 0 else 9 := by
  have hl : 2 * j + 1 < (dbl t).length := by rw [dbl_length]; omega
  by_cases hc : c = 0
  · subst hc
    have e : (dbl t).set (2 * j + 1) 0 = dbl t := by
      apply ext_getD
      · simp
      · intro i hi
        by_cases hij : 2 * j + 1 = i
        · subst hij
          rw [getD_set_self _ _ _ hl, (dbl_getD t j).2]
        · rw [getD_set_other _ _ _ _ hij]
    rw [e, if_pos rfl]
    exact (narS_dbl t h).2
  · rw [if_neg hc]
    refine (narE_bad _ (narOk_not _ ⟨j, by rw [List.length_set]; omega, fun hp => hc ?_⟩)).2
    have := hp.2.2
    rw [getD_set_self _ _ _ hl] at this
    exact this

theorem odd_first (t : List UInt8) (h : t.all letB = true) (j : Nat) (hj : j < t.length) (c : UInt8) :
    (letB c = true → narE ((dbl t).set (2 * j) c) = 0 ∧ narS ((dbl t).set (2 * j) c) = t.set j c) ∧ (letB c = false → narE ((dbl t).set (2 * j) c) = 9) := by
  have hl : 2 * j < (dbl t).length := by rw [dbl_length]; omega
  constructor
  · intro hc
    have e : (dbl t).set (2 * j) c = dbl (t.set j c) := by
      apply ext_getD
      · rw [List.length_set, dbl_length, dbl_length, List.length_set]
      · intro i hi
        rcases Nat.mod_two_eq_zero_or_one i with hm | hm
        · obtain ⟨q, rfl⟩ : ∃ q, i = 2 * q := ⟨i / 2, by omega⟩
          rw [(dbl_getD (t.set j c) q).1]
          by_cases hq : j = q
          · subst hq
            rw [getD_set_self _ _ _ hl, getD_set_self _ _ _ hj]
          · rw [getD_set_other _ _ _ _ (by omega), getD_set_other _ _ _ _ hq, (dbl_getD t q).1]
        · obtain ⟨q, rfl⟩ : ∃ q, i = 2 * q + 1 := ⟨i / 2, by omega⟩
          rw [(dbl_getD (t.set j c) q).2, getD_set_other _ _ _ _ (by omega), (dbl_getD t q).2]
    have hall : (t.set j c).all letB = true := by
      rw [letters_iff]
      intro q hq
      rw [List.length_set] at hq
      by_cases hjq : j = q
      · subst hjq
        rw [getD_set_self _ _ _ hj]
        exact (letB_iff c).1 hc
      · rw [getD_set_other _ _ _ _ hjq]
        exact (letters_iff t).1 h q hq
    rw [e]
    exact ⟨(narS_dbl _ hall).2, (narS_dbl _ hall).1⟩
  · intro hc
    refine (narE_bad _ (narOk_not _ ⟨j, by rw [List.length_set]; omega, fun hp => ?_⟩)).2
    have := hp.2.1
    rw [getD_set_self _ _ _ hl] at this
    rw [(letB_iff c).2 this] at hc
    cases hc

theorem set_eq_iff (t : List UInt8) (j : Nat) (hj : j < t.length) (c : UInt8) : t.set j c = t ↔ c = t.getD j 0 := by
  constructor
  · intro e
    rw [← e, getD_set_self _ _ _ hj]
  · intro e
    apply ext_getD
    · simp
    · intro i _
      by_cases hij : j = i
      · subst hij
        rw [getD_set_self _ _ _ hj, e]
      · rw [getD_set_other _ _ _ _ hij]
end Go.Proofs.Ytookmdkcpbpofaa
