/-
  The contract of octet.Narrow.
-/
import Derived.Test.YtemojckmnlgkdaaRound
namespace Go.Proofs.Ytemojckmnlgkdaa
open Go Go.RowKit Go.Shelf

attribute [local go_sem] Oper.semAt_some

def pairOk (l : List UInt8) (x : Nat) : Prop := 2 * x + 1 < l.length ∧ (1 ≤ (l.getD (2 * x) 0).toNat ∧ (l.getD (2 * x) 0).toNat ≤ 127) ∧ l.getD (2 * x + 1) 0 = 0

theorem boxed_kept {A B' : World} {B : Nat} {t : TypeId} {v : Value} {row : Option Nat} (h : Boxed A B t v) (hg : A.grownBy B' row) (hr : ∀ r, row = some r → ∃ o : Obj, A.heap[r]? = some o ∧ o.isCells = false) : Boxed B' B t v :=
  h.kept hg (fun e => by
    obtain ⟨o, ho, hc⟩ := hr B e.symm
    rw [show A.heap[B]? = _ from h] at ho
    cases ho
    cases hc)

def evL (l : List UInt8) (pre : List (Pl l.length)) : List UInt8 := pre.map fun x => l.getD (2 * x.1) 0

theorem OwnB.block {w : World} {base : Nat} {v : Value} {l : List UInt8} (h : OwnB w base v l) (k : Nat) (hk : ownB v = some k) : ∃ cur, w.heap[k]? = some (.cells cur 5 (0, 0)) := by
  rcases h.2 with ⟨a, rfl, _⟩ | ⟨g, cap, cur, rfl, _, hg, _, h0, _⟩
  · cases a <;> simp [ownB] at hk
  · have : cap ≠ 0 := by omega
    simp [ownB, this] at hk
    subst hk
    exact ⟨cur, hg⟩
theorem OwnB.not_box {W : World} {B base : Nat} {t : TypeId} {u v : Value} {l : List UInt8} (hb : Boxed W B t u) (hte : t ≠ 5) (h : OwnB W base v l) : some B ≠ ownB v := by
  intro e
  obtain ⟨cur, hc⟩ := h.block B e.symm
  rw [show W.heap[B]? = _ from hb] at hc
  simp at hc
  exact hte hc.2
theorem OwnB.grown {w w' : World} {base : Nat} {v : Value} {l : List UInt8} {row : Option Nat} (h : OwnB w base v l) (hg : w.grownBy w' row) (hr : ∀ r, row = some r → ∃ o : Obj, w.heap[r]? = some o ∧ o.isCells = false) : OwnB w' base v l :=
  Own.kept h hg (fun k hk e => by
    obtain ⟨o, ho, hc⟩ := hr k e
    obtain ⟨cur, hc2⟩ := h.block k hk
    rw [hc2] at ho
    cases ho
    cases hc)

end Go.Proofs.Ytemojckmnlgkdaa
