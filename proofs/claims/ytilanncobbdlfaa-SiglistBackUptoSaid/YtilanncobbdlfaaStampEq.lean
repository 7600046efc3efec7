/-
  Moments compared: one law for == and one for !=.
-/
import Derived.Test.YtilanncobbdlfaaStamp1
namespace Go.Proofs.Ytilanncobbdlfaa
open Go Go.RowKit

def eqT (a b : Tm) : Bool := decide (a.y = b.y ∧ a.mo = b.mo ∧ a.d = b.d ∧ a.h = b.h ∧ a.mi = b.mi ∧ a.s = b.s)
theorem eqT_iff (a b : Tm) : eqT a b = true ↔ a = b := by
  unfold eqT
  rw [decide_eq_true_iff]
  constructor
  · intro ⟨h1, h2, h3, h4, h5, h6⟩; exact Tm.ext' h1 h2 h3 h4 h5 h6
  · intro h; subst h; exact ⟨rfl, rfl, rfl, rfl, rfl, rfl⟩

theorem run_tm_eq (a b : Tm) (W : World) : (binOp .eql 72 (tmV a) (tmV b)).run Try.prog W = .ok (.bool (eqT a b)) W := by
  obtain ⟨y, mo, d, h, mi, s⟩ := a
  obtain ⟨y2, mo2, d2, h2, mi2, s2⟩ := b
  unfold tmV eqT
  simp only
  go_simp
  by_cases h1 : y = y2
  · by_cases h2' : mo = mo2
    · by_cases h3 : d = d2
      · by_cases h4 : h = h2
        · by_cases h5 : mi = mi2
          · by_cases h6 : s = s2
            · simp [h1, h2', h3, h4, h5, h6]
            · simp [h1, h2', h3, h4, h5, h6]
          · simp [h1, h2', h3, h4, h5]
        · simp [h1, h2', h3, h4]
      · simp [h1, h2', h3]
    · simp [h1, h2']
  · simp [h1]

theorem run_tm_neq (a b : Tm) (W : World) : (binOp .neq 72 (tmV a) (tmV b)).run Try.prog W = .ok (.bool (!(eqT a b))) W := by
  obtain ⟨y, mo, d, h, mi, s⟩ := a
  obtain ⟨y2, mo2, d2, h2, mi2, s2⟩ := b
  unfold tmV eqT
  simp only
  go_simp
  by_cases h1 : y = y2
  · by_cases h2' : mo = mo2
    · by_cases h3 : d = d2
      · by_cases h4 : h = h2
        · by_cases h5 : mi = mi2
          · by_cases h6 : s = s2
            · simp [h1, h2', h3, h4, h5, h6]
            · simp [h1, h2', h3, h4, h5, h6]
          · simp [h1, h2', h3, h4, h5]
        · simp [h1, h2', h3, h4]
      · simp [h1, h2', h3]
    · simp [h1, h2']
  · simp [h1]
end Go.Proofs.Ytilanncobbdlfaa
