/-
  The plain law of wide texts: what is wide is made narrow, and the other way round.
-/
import Derived.Test.YtookmdkcpbpofaaOct11
namespace Go.Proofs.Ytookmdkcpbpofaa
open Go Go.RowKit

theorem ext_getD (a b : List UInt8) (hl : a.length = b.length) (h : ∀ j, j < a.length → a.getD j 0 = b.getD j 0) : a = b := by
  apply List.ext_getElem hl
  intro j h1 h2
  have := h j h1
  simpa [List.getD, h1, h2] using this

theorem dbl_getD : ∀ (m : List UInt8) (k : Nat), (dbl m).getD (2 * k) 0 = m.getD k 0 ∧ (dbl m).getD (2 * k + 1) 0 = 0
  | [], k => by simp [dbl]
  | c :: m, 0 => by simp [dbl]
  | c :: m, k + 1 => by
    have := dbl_getD m k
    have e : dbl (c :: m) = c :: 0 :: dbl m := rfl
    rw [e, show 2 * (k + 1) = (2 * k + 1) + 1 by omega]
    simp only [List.getD_cons_succ]
    exact this

theorem dbl_append (a b : List UInt8) : dbl (a ++ b) = dbl a ++ dbl b := by simp [dbl, List.flatMap_append]

theorem letters_iff (m : List UInt8) : m.all letB = true ↔ ∀ k, k < m.length → 1 ≤ (m.getD k 0).toNat ∧ (m.getD k 0).toNat ≤ 127 := by
  rw [List.all_eq_true]
  constructor
  · intro h k hk
    exact (letB_iff _).1 (h _ (by simp [List.getD, hk]))
  · intro h c hc
    obtain ⟨k, hk, rfl⟩ := List.getElem_of_mem hc
    rw [letB_iff]
    have := h k hk
    simpa [List.getD, hk] using this

theorem narOk_dbl (m : List UInt8) (h : m.all letB = true) : narOk (dbl m) = true := by
  rw [narOk_iff]
  intro x hx
  rw [dbl_length] at hx
  have hx' : x < m.length := by omega
  refine ⟨by rw [dbl_length]; omega, ?_, (dbl_getD m x).2⟩
  rw [(dbl_getD m x).1]
  exact (letters_iff m).1 h x hx'

theorem evs_dbl (m : List UInt8) : evs (dbl m) m.length = m := by
  apply ext_getD
  · rw [evs_length]
  · intro j hj
    rw [evs_length] at hj
    have : (evs (dbl m) m.length).getD j 0 = (dbl m).getD (2 * j) 0 := by simp [evs, List.getD, hj]
    rw [this, (dbl_getD m j).1]

theorem narS_dbl (m : List UInt8) (h : m.all letB = true) : narS (dbl m) = m ∧ narE (dbl m) = 0 := by
  unfold narS narE
  rw [narOk_dbl m h]
  refine ⟨?_, rfl⟩
  rw [if_pos rfl, dbl_length, show (2 * m.length + 1) / 2 = m.length by omega, evs_dbl]

theorem evs_getD (b : List UInt8) (n k : Nat) (h : k < n) : (evs b n).getD k 0 = b.getD (2 * k) 0 := by simp [evs, List.getD, h]

theorem narOk_even (b : List UInt8) (h : narOk b = true) : b.length = 2 * ((b.length + 1) / 2) := by
  rw [narOk_iff] at h
  by_cases h0 : b.length = 0
  · omega
  · have := (h ((b.length - 1) / 2) (by omega)).1
    omega

theorem dbl_evs (b : List UInt8) (h : narOk b = true) : dbl (evs b ((b.length + 1) / 2)) = b := by
  have he := narOk_even b h
  have hi := (narOk_iff b).1 h
  apply ext_getD
  · rw [dbl_length, evs_length, ← he]
  · intro j hj
    rw [dbl_length, evs_length] at hj
    have hk : j / 2 < (b.length + 1) / 2 := by omega
    rcases Nat.mod_two_eq_zero_or_one j with e | e
    · rw [show j = 2 * (j / 2) by omega, (dbl_getD _ _).1, evs_getD b _ _ hk]
    · have hz := (hi (j / 2) (by omega)).2.2
      rw [show j = 2 * (j / 2) + 1 by omega, (dbl_getD _ _).2, hz]

theorem letters_evs (b : List UInt8) (h : narOk b = true) : (evs b ((b.length + 1) / 2)).all letB = true := by
  rw [letters_iff]
  intro k hk
  rw [evs_length] at hk
  rw [evs_getD b _ _ hk]
  exact ((narOk_iff b).1 h k (by omega)).2.1

theorem wide_narS (b : List UInt8) (h : narOk b = true) : wideL (narS b) = b ∧ narE b = 0 := by
  unfold narS narE wideL
  rw [h, if_pos rfl, letters_evs b h, if_pos rfl, dbl_evs b h]
  exact ⟨rfl, rfl⟩
theorem narE_bad (b : List UInt8) (h : narOk b = false) : narS b = [] ∧ narE b = 9 := by
  unfold narS narE
  rw [h]
  exact ⟨rfl, rfl⟩

theorem wideL_all (l : List UInt8) (h : l.all letB = true) : wideL l = dbl l := by unfold wideL; rw [h]; rfl
theorem wideL_none (l : List UInt8) (h : l.all letB = false) : wideL l = [] := by unfold wideL; rw [h]; rfl

theorem sOf_append (a b : List UInt8) : sOf a ++ sOf b = sOf (a ++ b) := by
  apply ByteArray.ext
  simp [sOf]
end Go.Proofs.Ytookmdkcpbpofaa
