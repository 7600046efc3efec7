/-
  What told's loop over the five pointers keeps. No condition.
-/
import Derived.Test.YtjjggnipicpjkaaStamp11
namespace Go.Proofs.Ytjjggnipicpjkaa
open Go Go.RowKit

/-- The body's box, the place's box, the moment's row, the pointers' row, the result's row. -/
structure TI (w wr : World) (l : List UInt8) (k b off L cap : Nat) (YY : Int) (B0 R Bat T P : Nat) (i : Nat) : Prop where
  body : wr.cell? ⟨B0, 0, none⟩ = some (.slice (some ⟨b, off, none⟩) L cap)
  plc : wr.cell? ⟨Bat, 0, none⟩ = some (.int .i64 ((k + 2 * i : Nat) : Int))
  plf : wr.frozen? ⟨Bat, 0, none⟩ = false
  yr : wr.cell? ⟨T, 0, none⟩ = some (.int .u16 YY)
  fl : ∀ j, j < 5 → wr.cell? ⟨T, j + 1, none⟩ = some (.int .u8 (if j < i then numD l (k + 2 * j) 2 else 0))
  ff : ∀ j, j < 6 → wr.frozen? ⟨T, j, none⟩ = false
  ps : ∀ j, j < 5 → wr.cell? ⟨P, j, none⟩ = some (.pointer (some ⟨T, j + 1, none⟩))
  r0 : wr.cell? ⟨R, 0, none⟩ = some (.int .u16 0)
  r1 : ∀ j, j < 5 → wr.cell? ⟨R, j + 1, none⟩ = some (.int .u8 0)
  rf : ∀ j, j < 6 → wr.frozen? ⟨R, j, none⟩ = false
  bel : Below w.heap.size w wr
  sz : w.heap.size + 5 ≤ wr.heap.size

theorem frozen_gb {w w' : World} {row : Option Nat} {B o : Nat} {v : Value} (hg : w.grownBy w' row) (hc : w.cell? ⟨B, o, none⟩ = some v) (hne : row ≠ some B) (hf : w.frozen? ⟨B, o, none⟩ = false) : w'.frozen? ⟨B, o, none⟩ = false := by
  rw [← hf]
  exact World.frozen?_of_block (w := w) (hg.block B (lt_of_cell hc) (fun e => hne e.symm))

theorem frozen_set {W : World} {a : Addr} {v : Value} {p : Addr} : (W.setCell a v).frozen? p = W.frozen? p := by simp

theorem TI.step {w wr w2 : World} {l : List UInt8} {k b off L cap : Nat} {YY : Int} {B0 R Bat T P i : Nat} (h : TI w wr l k b off L cap YY B0 R Bat T P i) (hi : i < 5) (hd : B0 ≠ Bat ∧ R ≠ Bat ∧ T ≠ Bat ∧ P ≠ Bat ∧ B0 ≠ T ∧ R ≠ T ∧ P ≠ T) (hT : w.heap.size ≤ T) (hB : w.heap.size ≤ Bat)
    (hg : wr.grownBy w2 (some Bat)) (hat : w2.cell? ⟨Bat, 0, none⟩ = some (.int .i64 ((k + 2 * i + 2 : Nat) : Int))) (hfr : w2.frozen? ⟨Bat, 0, none⟩ = false) :
    TI w (w2.setCell ⟨T, i + 1, none⟩ (.int .u8 (numD l (k + 2 * i) 2))) l k b off L cap YY B0 R Bat T P (i + 1) := by
  obtain ⟨d1, d2, d3, d4, d5, d6, d7⟩ := hd
  have far : ∀ (B o : Nat) (v : Value), B ≠ T → w2.cell? ⟨B, o, none⟩ = some v → (w2.setCell ⟨T, i + 1, none⟩ (.int .u8 (numD l (k + 2 * i) 2))).cell? ⟨B, o, none⟩ = some v := fun B o v hne h => by
    rw [World.cell?_setCell_other (h := by intro e; cases e; exact hne rfl)]; exact h
  have old : ∀ (B o : Nat) (v : Value), B ≠ Bat → wr.cell? ⟨B, o, none⟩ = some v → w2.cell? ⟨B, o, none⟩ = some v := fun B o v hne h => World.grownBy.cell hg h (by intro e; exact hne (Option.some.inj e))
  have hT0 := old T 0 _ d3 h.yr
  refine ⟨far _ _ _ d5 (old _ _ _ d1 h.body), ?_, ?_, ?_, ?_, ?_, ?_, ?_, ?_, ?_, ?_, ?_⟩
  · rw [World.cell?_setCell_other (h := by intro e; cases e), hat, show k + 2 * (i + 1) = k + 2 * i + 2 by omega]
  · rw [frozen_set]; exact hfr
  · rw [World.cell?_setCell_other (h := by intro e; cases e)]; exact hT0
  · intro j hj
    by_cases e : j = i
    · subst e
      rw [World.cell?_setCell_same (h := old T (j + 1) _ d3 (h.fl j hj)), if_pos (by omega)]
    · rw [World.cell?_setCell_other (h := by intro e2; cases e2; exact e rfl), old T (j + 1) _ d3 (h.fl j hj)]
      by_cases hji : j < i
      · rw [if_pos hji, if_pos (by omega)]
      · rw [if_neg hji, if_neg (by omega)]
  · intro j hj
    rw [frozen_set]
    cases j with
    | zero => exact frozen_gb hg h.yr (by intro e; exact d3 (Option.some.inj e).symm) (h.ff 0 hj)
    | succ j => exact frozen_gb hg (h.fl j (by omega)) (by intro e; exact d3 (Option.some.inj e).symm) (h.ff (j + 1) hj)
  · intro j hj
    exact far _ _ _ d7 (old _ _ _ d4 (h.ps j hj))
  · exact far _ _ _ d6 (old _ _ _ d2 h.r0)
  · intro j hj
    exact far _ _ _ d6 (old _ _ _ d2 (h.r1 j hj))
  · intro j hj
    rw [frozen_set]
    cases j with
    | zero => exact frozen_gb hg h.r0 (by intro e; exact d2 (Option.some.inj e).symm) (h.rf 0 hj)
    | succ j => exact frozen_gb hg (h.r1 j (by omega)) (by intro e; exact d2 (Option.some.inj e).symm) (h.rf (j + 1) hj)
  · refine (h.bel.grown hg (by have := h.sz; omega) (fun e he => by cases he; exact hB)).setCell (p := ⟨T, i + 1, none⟩) hT _
  · have := h.sz
    have := hg.size
    simp [World.setCell]
    omega

theorem TI.start {w w1 : World} {l : List UInt8} {k b off L cap : Nat} {YY : Int} {e0 e1 e2 e3 e4 : Nat} (hs1 : w1.heap.size = w.heap.size + 3)
    (hg : (((w.alloc (.cells #[.slice (some ⟨b, off, none⟩) L cap] e0)).alloc (.cells #[.int .u16 0, .int .u8 0, .int .u8 0, .int .u8 0, .int .u8 0, .int .u8 0] e1)).alloc (.cells #[.int .i64 0] e2)).grownBy w1 (some (w.heap.size + 1 + 1)))
    (hat : w1.cell? ⟨w.heap.size + 1 + 1, 0, none⟩ = some (.int .i64 (k : Int))) (hfr : w1.frozen? ⟨w.heap.size + 1 + 1, 0, none⟩ = false) :
    TI w ((w1.alloc (.cells #[.int .u16 YY, .int .u8 0, .int .u8 0, .int .u8 0, .int .u8 0, .int .u8 0] e3)).alloc (.cells #[.pointer (some ⟨w.heap.size + 3, 1, none⟩), .pointer (some ⟨w.heap.size + 3, 2, none⟩), .pointer (some ⟨w.heap.size + 3, 3, none⟩), .pointer (some ⟨w.heap.size + 3, 4, none⟩), .pointer (some ⟨w.heap.size + 3, 5, none⟩)] e4))
      l k b off L cap YY w.heap.size (w.heap.size + 1) (w.heap.size + 1 + 1) (w.heap.size + 3) (w.heap.size + 4) 0 := by
  obtain ⟨T, hT⟩ : ∃ T, T = w.heap.size + 3 := ⟨_, rfl⟩
  have hP : w.heap.size + 4 = T + 1 := by omega
  rw [← hT] at hs1 ⊢
  rw [hP]
  have hs2 : (w1.alloc (.cells #[.int .u16 YY, .int .u8 0, .int .u8 0, .int .u8 0, .int .u8 0, .int .u8 0] e3)).heap.size = T + 1 := by simp [hs1]
  have low : ∀ (B o : Nat) (v : Value), B < T → w1.cell? ⟨B, o, none⟩ = some v → ((w1.alloc (.cells #[.int .u16 YY, .int .u8 0, .int .u8 0, .int .u8 0, .int .u8 0, .int .u8 0] e3)).alloc (.cells #[.pointer (some ⟨T, 1, none⟩), .pointer (some ⟨T, 2, none⟩), .pointer (some ⟨T, 3, none⟩), .pointer (some ⟨T, 4, none⟩), .pointer (some ⟨T, 5, none⟩)] e4)).cell? ⟨B, o, none⟩ = some v := fun B o v hB h => by
    have b1 : Below w1.heap.size w1 ((w1.alloc (.cells #[.int .u16 YY, .int .u8 0, .int .u8 0, .int .u8 0, .int .u8 0, .int .u8 0] e3)).alloc (.cells #[.pointer (some ⟨T, 1, none⟩), .pointer (some ⟨T, 2, none⟩), .pointer (some ⟨T, 3, none⟩), .pointer (some ⟨T, 4, none⟩), .pointer (some ⟨T, 5, none⟩)] e4)) := ((Below.refl _ _).alloc (Nat.le_refl _) _).alloc (by simp) _
    exact (b1.cell (p := ⟨B, o, none⟩) (by rw [hs1]; exact hB)).trans h
  have lowf : ∀ (B o : Nat), B < T → w1.frozen? ⟨B, o, none⟩ = false → ((w1.alloc (.cells #[.int .u16 YY, .int .u8 0, .int .u8 0, .int .u8 0, .int .u8 0, .int .u8 0] e3)).alloc (.cells #[.pointer (some ⟨T, 1, none⟩), .pointer (some ⟨T, 2, none⟩), .pointer (some ⟨T, 3, none⟩), .pointer (some ⟨T, 4, none⟩), .pointer (some ⟨T, 5, none⟩)] e4)).frozen? ⟨B, o, none⟩ = false := fun B o hB h => by
    have b1 : Below w1.heap.size w1 ((w1.alloc (.cells #[.int .u16 YY, .int .u8 0, .int .u8 0, .int .u8 0, .int .u8 0, .int .u8 0] e3)).alloc (.cells #[.pointer (some ⟨T, 1, none⟩), .pointer (some ⟨T, 2, none⟩), .pointer (some ⟨T, 3, none⟩), .pointer (some ⟨T, 4, none⟩), .pointer (some ⟨T, 5, none⟩)] e4)) := ((Below.refl _ _).alloc (Nat.le_refl _) _).alloc (by simp) _
    exact (b1.frozen (p := ⟨B, o, none⟩) (by rw [hs1]; exact hB)).trans h
  have tc : ∀ (o : Nat), ((w1.alloc (.cells #[.int .u16 YY, .int .u8 0, .int .u8 0, .int .u8 0, .int .u8 0, .int .u8 0] e3)).alloc (.cells #[.pointer (some ⟨T, 1, none⟩), .pointer (some ⟨T, 2, none⟩), .pointer (some ⟨T, 3, none⟩), .pointer (some ⟨T, 4, none⟩), .pointer (some ⟨T, 5, none⟩)] e4)).cell? ⟨T, o, none⟩ = (#[.int .u16 YY, .int .u8 0, .int .u8 0, .int .u8 0, .int .u8 0, .int .u8 0] : Array Value)[o]? := fun o => by
    rw [World.cell?_alloc_lt (h := by show T < _; rw [hs2]; omega), ← hs1]
    exact cell_of_row _ w1.heap.size o _ _ (0, 0) (heap_alloc_new w1 _)
  have wc : ∀ (B o : Nat) (v : Value), B ≠ w.heap.size + 1 + 1 → (((w.alloc (.cells #[.slice (some ⟨b, off, none⟩) L cap] e0)).alloc (.cells #[.int .u16 0, .int .u8 0, .int .u8 0, .int .u8 0, .int .u8 0, .int .u8 0] e1)).alloc (.cells #[.int .i64 0] e2)).cell? ⟨B, o, none⟩ = some v → w1.cell? ⟨B, o, none⟩ = some v := fun B o v hne h => World.grownBy.cell hg h (by intro e; exact hne (Option.some.inj e))
  have hr0 := wc (w.heap.size + 1) 0 (.int .u16 0) (by omega) (by simp [go_sem])
  have hr1 : ∀ j, j < 5 → w1.cell? ⟨w.heap.size + 1, j + 1, none⟩ = some (.int .u8 0) := fun j hj => by
    have : j = 0 ∨ j = 1 ∨ j = 2 ∨ j = 3 ∨ j = 4 := by omega
    rcases this with rfl | rfl | rfl | rfl | rfl <;> exact wc _ _ _ (by omega) (by simp [go_sem])
  refine ⟨low _ _ _ (by omega) (wc _ _ _ (by omega) (by simp [go_sem])), low _ _ _ (by omega) (by simpa using hat), lowf _ _ (by omega) hfr, tc 0, fun j hj => ?_, fun j hj => ?_, fun j hj => ?_, low _ _ _ (by omega) hr0, fun j hj => low _ _ _ (by omega) (hr1 j hj), fun j hj => ?_, ?_, ?_⟩
  · rw [tc, if_neg (by omega)]
    have : j = 0 ∨ j = 1 ∨ j = 2 ∨ j = 3 ∨ j = 4 := by omega
    rcases this with rfl | rfl | rfl | rfl | rfl <;> rfl
  · have hb := Below.heap_alloc (w1.alloc (.cells #[.int .u16 YY, .int .u8 0, .int .u8 0, .int .u8 0, .int .u8 0, .int .u8 0] e3)) (.cells #[.pointer (some ⟨T, 1, none⟩), .pointer (some ⟨T, 2, none⟩), .pointer (some ⟨T, 3, none⟩), .pointer (some ⟨T, 4, none⟩), .pointer (some ⟨T, 5, none⟩)] e4) T (by rw [hs2]; omega)
    have hn := heap_alloc_new w1 (.cells #[.int .u16 YY, .int .u8 0, .int .u8 0, .int .u8 0, .int .u8 0, .int .u8 0] e3)
    rw [hs1] at hn
    rw [hn] at hb
    simp [World.frozen?, hb]
  · rw [← hs2]
    rw [cell_of_row _ _ j _ _ (0, 0) (heap_alloc_new _ _)]
    have : j = 0 ∨ j = 1 ∨ j = 2 ∨ j = 3 ∨ j = 4 := by omega
    rcases this with rfl | rfl | rfl | rfl | rfl <;> rfl
  · refine lowf _ _ (by omega) ?_
    cases j with
    | zero => exact frozen_gb hg (v := .int .u16 0) (by simp [go_sem]) (by simp) (by simp [go_sem])
    | succ j =>
      have h5 : j < 5 := by omega
      have : j = 0 ∨ j = 1 ∨ j = 2 ∨ j = 3 ∨ j = 4 := by omega
      rcases this with rfl | rfl | rfl | rfl | rfl <;> exact frozen_gb hg (v := .int .u8 0) (by simp [go_sem]) (by simp) (by simp [go_sem])
  · refine Below.alloc (Below.alloc (Below.grown ?_ hg (by simp; omega) (fun e he => by cases he; omega)) (by omega) _) (by omega) _
    exact (((Below.refl _ _).alloc (Nat.le_refl _) _).alloc (by simp) _).alloc (by simp; omega) _
  · simp [hs1]; omega
end Go.Proofs.Ytjjggnipicpjkaa
