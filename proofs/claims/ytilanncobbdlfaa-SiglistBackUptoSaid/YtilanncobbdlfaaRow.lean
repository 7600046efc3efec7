/-
  A block that is known whole, as one statement that each call hands on. No condition; nothing of the program in sight.
-/
import Derived.Test.YtilanncobbdlfaaRg
import Derived.Test.YtilanncobbdlfaaApart0
import Derived.Deep.RegionHeld3
import Derived.Deep.QuietTactic
namespace Go.Proofs.Ytilanncobbdlfaa
open Go Go.RowKit

/-- Block b holds these cells, and may be written. -/
structure RowAt (w : World) (b : Nat) (cs : Array Value) : Prop where
  lt : b < w.heap.size
  cell : ∀ (o : Nat) v, cs[o]? = some v → w.cell? ⟨b, o, none⟩ = some v
  free : ∀ o, w.frozen? ⟨b, o, none⟩ = false

theorem RowAt.new (w : World) (cs : Array Value) (e : TypeId) (b : Nat) (hb : b = w.heap.size) : RowAt (w.alloc (.cells cs e)) b cs := by
  subst hb
  have h := heap_alloc_new w (.cells cs e)
  exact ⟨by simp, fun o v hv => (cell_of_row _ w.heap.size o cs e (0, 0) h).trans hv, fun o => by unfold World.frozen?; rw [h]; simp⟩

theorem RowAt.below {w w' : World} {b : Nat} {cs : Array Value} (h : RowAt w b cs) (hb : Below w.heap.size w w') : RowAt w' b cs :=
  ⟨Nat.lt_of_lt_of_le h.lt hb.size, fun o v hv => (hb.cell (p := ⟨b, o, none⟩) h.lt).trans (h.cell o v hv), fun o => (hb.frozen (p := ⟨b, o, none⟩) h.lt).trans (h.free o)⟩
theorem RowAt.alloc {w : World} {b : Nat} {cs : Array Value} (h : RowAt w b cs) (o : Obj) : RowAt (w.alloc o) b cs := h.below ((Below.refl _ _).alloc (Nat.le_refl _) o)
theorem RowAt.drew {w : World} {b : Nat} {cs : Array Value} (h : RowAt w b cs) : RowAt w.drew b cs := h.below (Below.refl _ _).drew
theorem RowAt.drewN {w : World} {b : Nat} {cs : Array Value} (h : RowAt w b cs) (n : Nat) : RowAt (w.drewN n) b cs := h.below (below_drewN (Below.refl _ _) n)
theorem RowAt.far {w : World} {b k i : Nat} {cs : Array Value} {u : Value} (h : RowAt w b cs) (hne : k ≠ b) : RowAt (w.setCell ⟨k, i, none⟩ u) b cs :=
  ⟨by simpa [World.setCell] using h.lt, fun o v hv => (World.cell?_setCell_far w ⟨k, i, none⟩ ⟨b, o, none⟩ u (by show k ≠ b; exact hne)).trans (h.cell o v hv), fun o => by simpa using h.free o⟩
theorem RowAt.grown {w w' : World} {b : Nat} {cs : Array Value} {row : Option Nat} (h : RowAt w b cs) (hg : w.grownBy w' row) (hne : row ≠ some b) : RowAt w' b cs :=
  ⟨Nat.lt_of_lt_of_le h.lt hg.size, fun o v hv => (World.cell?_of_block (hg.block b h.lt (fun e => hne e.symm))).trans (h.cell o v hv), fun o => by
    have := hg.block b h.lt (fun e => hne e.symm)
    have h2 := h.free o
    unfold World.frozen? at h2 ⊢
    rw [this]; exact h2⟩
/-- One of its cells written. -/
theorem RowAt.set {w : World} {b i : Nat} {cs : Array Value} {u : Value} (h : RowAt w b cs) (hi : i < cs.size) : RowAt (w.setCell ⟨b, i, none⟩ u) b (cs.set i u hi) :=
  ⟨by simpa [World.setCell] using h.lt, fun o v hv => by
    by_cases e : i = o
    · subst e
      rw [Array.getElem?_set_self] at hv
      cases hv
      exact World.cell?_setCell_same' w _ _ (by rw [h.cell i _ (Array.getElem?_eq_getElem hi)]; rfl)
    · rw [Array.getElem?_set_ne hi e] at hv
      rw [World.cell?_setCell_other w ⟨b, i, none⟩ ⟨b, o, none⟩ u (by intro h; exact e (congrArg Addr.off h))]
      exact h.cell o v hv, fun o => by simpa using h.free o⟩
theorem ownB_some {g o n cap : Nat} (h : 0 < cap) : ownB (.slice (some ⟨g, o, none⟩) n cap) = some g := by
  have : ¬ (cap = 0) := by omega
  simp [ownB, this]

/-! ### A few blocks that may be written -/

/-- Growth, but for the blocks of a list. -/
structure Chg (L : List Nat) (w w' : World) : Prop where
  os : w'.os = w.os
  tape : w'.tape = w.tape
  output : w'.output = w.output
  size : w.heap.size ≤ w'.heap.size
  block : ∀ k, k < w.heap.size → k ∉ L → w'.heap[k]? = w.heap[k]?

theorem Chg.refl (L : List Nat) (w : World) : Chg L w w := ⟨rfl, rfl, rfl, Nat.le_refl _, fun _ _ _ => rfl⟩
theorem Chg.trans {L : List Nat} {a b c : World} (h : Chg L a b) (k : Chg L b c) : Chg L a c :=
  ⟨k.os.trans h.os, k.tape.trans h.tape, k.output.trans h.output, Nat.le_trans h.size k.size, fun i hi hn => (k.block i (Nat.lt_of_lt_of_le hi h.size) hn).trans (h.block i hi hn)⟩
theorem Chg.mono {L L' : List Nat} {a b : World} (h : Chg L a b) (hl : ∀ k, k ∈ L → k ∈ L') : Chg L' a b :=
  ⟨h.os, h.tape, h.output, h.size, fun i hi hn => h.block i hi (fun e => hn (hl i e))⟩
theorem Below.chg {w w' : World} (h : Below w.heap.size w w') (L : List Nat) : Chg L w w' := ⟨h.os, h.tape, h.output, h.size, fun i hi _ => h.block i hi⟩
theorem Chg.setCell {L : List Nat} {a w : World} (h : Chg L a w) {b i : Nat} (hb : b ∈ L) (u : Value) : Chg L a (w.setCell ⟨b, i, none⟩ u) :=
  ⟨h.os, h.tape, h.output, by simpa [World.setCell] using h.size, fun k hk hn => (Below.heap_setCell w ⟨b, i, none⟩ u k (fun e => hn (by rw [e]; exact hb))).trans (h.block k hk hn)⟩
theorem Chg.alloc {L : List Nat} {a w : World} (h : Chg L a w) (o : Obj) : Chg L a (w.alloc o) := h.trans (Below.chg ((Below.refl _ _).alloc (Nat.le_refl _) o) L)
theorem Chg.drew {L : List Nat} {a w : World} (h : Chg L a w) : Chg L a w.drew := ⟨h.os, h.tape, h.output, h.size, h.block⟩
theorem Chg.below {L : List Nat} {a w : World} (h : Chg L a w) {w' : World} (hb : Below w.heap.size w w') : Chg L a w' := h.trans (Below.chg hb L)
/-- What lies below them all stays. -/
theorem Below.andChg {B : Nat} {L : List Nat} {a w w' : World} (h : Below B a w) (k : Chg L w w') (hB : B ≤ w.heap.size) (hL : ∀ x, x ∈ L → B ≤ x) : Below B a w' :=
  ⟨k.os.trans h.os, k.tape.trans h.tape, k.output.trans h.output, Nat.le_trans h.size k.size, fun i hi => (k.block i (Nat.lt_of_lt_of_le hi hB) (fun e => by have := hL i e; omega)).trans (h.block i hi)⟩
theorem RowAt.chg {L : List Nat} {w w' : World} {b : Nat} {cs : Array Value} (h : RowAt w b cs) (k : Chg L w w') (hn : b ∉ L) : RowAt w' b cs :=
  ⟨Nat.lt_of_lt_of_le h.lt k.size, fun o v hv => (World.cell?_of_block (k.block b h.lt hn)).trans (h.cell o v hv), fun o => by
    have h2 := h.free o
    unfold World.frozen? at h2 ⊢
    rw [k.block b h.lt hn]; exact h2⟩
theorem Own.chg {L : List Nat} {w w' : World} {base e size n : Nat} {v : Value} {xs : List Value} (h : Own w base e size v n xs) (k : Chg L w w') (hn : ∀ x, x ∈ L → ownB v ≠ some x) : Own w' base e size v n xs := by
  refine ⟨h.1, ?_⟩
  rcases h.2 with hc | ⟨g, cap, cur, rfl, hbg, hgg, h1, h0, h2⟩
  · exact .inl hc
  · refine .inr ⟨g, cap, cur, rfl, hbg, ?_, h1, h0, h2⟩
    rw [k.block g (Array.getElem?_eq_some_iff.1 hgg).1 (fun hm => hn g hm (ownB_some h0))]
    exact hgg
theorem OwnB.chg {L : List Nat} {w w' : World} {base : Nat} {v : Value} {l : List UInt8} (h : OwnB w base v l) (k : Chg L w w') (hn : ∀ x, x ∈ L → ownB v ≠ some x) : OwnB w' base v l := Own.chg h k hn
/-- What was made since is none of the blocks that were there. -/
theorem OwnB.chg' {L : List Nat} {w w' : World} {base : Nat} {v : Value} {l : List UInt8} (h : OwnB w base v l) (k : Chg L w w') (hL : ∀ x, x ∈ L → x < base) : OwnB w' base v l :=
  h.chg k (fun x hx e => by have := (Own.lt h x e).1; have := hL x hx; omega)
end Go.Proofs.Ytilanncobbdlfaa
