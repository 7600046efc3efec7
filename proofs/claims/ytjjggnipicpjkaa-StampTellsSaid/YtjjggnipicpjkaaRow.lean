/-
  A block that is known whole, as one statement that each call hands on. No condition; nothing of the program in sight.
-/
import Derived.Test.YtjjggnipicpjkaaRg
import Derived.Test.YtjjggnipicpjkaaApart0
import Derived.Deep.RegionHeld3
import Derived.Deep.QuietTactic
namespace Go.Proofs.Ytjjggnipicpjkaa
open Go Go.RowKit

/-- Block b holds these cells, and may be written. -/
structure RowAt (w : World) (b : Nat) (cs : Array Value) : Prop where
  lt : b < w.heap.size
  cell : ∀ (o : Nat) v, cs[o]? = some v → w.cell? ⟨b, o, none⟩ = some v
  free : ∀ o, w.frozen? ⟨b, o, none⟩ = false

theorem RowAt.new (w : World) (cs : Array Value) (e : TypeId) (b : Nat) (hb : b = w.heap.size) : RowAt (w.alloc (.cells cs e)) b cs := by
  subst hb
  have h := heap_alloc_new w (.cells cs e)
  exact ⟨by simp, fun o v hv => (cell_of_row _ w.heap.size o cs e (0, 0) h).trans hv, fun o => by unfold World.frozen?; rw [h]; simp⟩

theorem RowAt.below {w w' : World} {b : Nat} {cs : Array Value} (h : RowAt w b cs) (hb : Below w.heap.size w w') : RowAt w' b cs :=
  ⟨Nat.lt_of_lt_of_le h.lt hb.size, fun o v hv => (hb.cell (p := ⟨b, o, none⟩) h.lt).trans (h.cell o v hv), fun o => (hb.frozen (p := ⟨b, o, none⟩) h.lt).trans (h.free o)⟩
theorem RowAt.alloc {w : World} {b : Nat} {cs : Array Value} (h : RowAt w b cs) (o : Obj) : RowAt (w.alloc o) b cs := h.below ((Below.refl _ _).alloc (Nat.le_refl _) o)
theorem RowAt.drew {w : World} {b : Nat} {cs : Array Value} (h : RowAt w b cs) : RowAt w.drew b cs := h.below (Below.refl _ _).drew
theorem RowAt.drewN {w : World} {b : Nat} {cs : Array Value} (h : RowAt w b cs) (n : Nat) : RowAt (w.drewN n) b cs := h.below (below_drewN (Below.refl _ _) n)
theorem RowAt.far {w : World} {b k i : Nat} {cs : Array Value} {u : Value} (h : RowAt w b cs) (hne : k ≠ b) : RowAt (w.setCell ⟨k, i, none⟩ u) b cs :=
  ⟨by simpa [World.setCell] using h.lt, fun o v hv => (World.cell?_setCell_far w ⟨k, i, none⟩ ⟨b, o, none⟩ u (by show k ≠ b; exact hne)).trans (h.cell o v hv), fun o => by simpa using h.free o⟩
theorem RowAt.grown {w w' : World} {b : Nat} {cs : Array Value} {row : Option Nat} (h : RowAt w b cs) (hg : w.grownBy w' row) (hne : row ≠ some b) : RowAt w' b cs :=
  ⟨Nat.lt_of_lt_of_le h.lt hg.size, fun o v hv => (World.cell?_of_block (hg.block b h.lt (fun e => hne e.symm))).trans (h.cell o v hv), fun o => by
    have := hg.block b h.lt (fun e => hne e.symm)
    have h2 := h.free o
    unfold World.frozen? at h2 ⊢
    rw [this]; exact h2⟩
/-- One of its cells written. -/
theorem RowAt.set {w : World} {b i : Nat} {cs : Array Value} {u : Value} (h : RowAt w b cs) (hi : i < cs.size) : RowAt (w.setCell ⟨b, i, none⟩ u) b (cs.set i u hi) :=
  ⟨by simpa [World.setCell] using h.lt, fun o v hv => by
    by_cases e : i = o
    · subst e
      rw [Array.getElem?_set_self] at hv
      cases hv
      exact World.cell?_setCell_same' w _ _ (by rw [h.cell i _ (Array.getElem?_eq_getElem hi)]; rfl)
    · rw [Array.getElem?_set_ne hi e] at hv
      rw [World.cell?_setCell_other w ⟨b, i, none⟩ ⟨b, o, none⟩ u (by intro h; exact e (congrArg Addr.off h))]
      exact h.cell o v hv, fun o => by simpa using h.free o⟩
theorem ownB_some {g o n cap : Nat} (h : 0 < cap) : ownB (.slice (some ⟨g, o, none⟩) n cap) = some g := by
  have : ¬ (cap = 0) := by omega
  simp [ownB, this]
end Go.Proofs.Ytjjggnipicpjkaa
