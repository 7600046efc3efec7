/-
  Small laws for items that are walked over: loaded out of a row, laid in a variable of their own.
-/
import Derived.Test.YtilanncobbdlfaaSg7
namespace Go.Proofs.Ytilanncobbdlfaa
open Go Go.RowKit
set_option linter.unusedVariables false

theorem alloc_setRow (W : World) (Z X : Array Value) (t : TypeId) : (W.alloc (.cells Z t)).setRow W.heap.size X = W.alloc (.cells X t) := by
  have hh : ((W.alloc (.cells Z t)).setRow W.heap.size X).heap = (W.alloc (.cells X t)).heap := by
    apply Array.ext_getElem?
    intro k
    by_cases e : k = W.heap.size
    · subst e
      rw [setRow_heap _ _ _ _ _ _ (heap_alloc_new W (.cells Z t)), heap_alloc_new]
    · rw [setRow_other _ _ _ _ e]
      by_cases hk : k < W.heap.size
      · rw [Below.heap_alloc W _ k hk, Below.heap_alloc W _ k hk]
      · rw [Array.getElem?_eq_none (by simp; omega), Array.getElem?_eq_none (by simp; omega)]
  have : ∀ (A B : World), A.heap = B.heap → A.tape = B.tape → A.drawn = B.drawn → A.os = B.os → A.output = B.output → A = B := by
    intro A B h1 h2 h3 h4 h5
    cases A; cases B
    simp only at h1 h2 h3 h4 h5
    subst h1 h2 h3 h4 h5
    rfl
  exact this _ _ hh rfl rfl rfl rfl
section
variable {ops : Array Oper} {rest : List Oper} {o : Oper} {a : Act} {w : World} {Q : Exit → Act → World → Prop}
/-- An item is stored into a variable that was just laid. -/
theorem wpList_store_item (hgd : o.guard = none) (x y : Operand) (ho : o.op = .store 49 x y) (W : World) (Z : Array Value) (X : List Value) (hZ : Z.size = 17) (hX : X.length = 17) (h1 : ∀ u ∈ X, u.oneCell' = true)
    (hx : a.eval x = .pointer (some ⟨W.heap.size, 0, none⟩)) (hy : a.eval y = .agg X.toArray) (h : wpList Try.prog ops Q rest (a.put o.dst undef) (W.alloc (.cells X.toArray 49))) : wpList Try.prog ops Q (o :: rest) a (W.alloc (.cells Z 49)) := by
  refine wpList_store_row (w := W.alloc (.cells Z 49)) hgd 49 x y ho W.heap.size X.toArray hx hy 49 Z (heap_alloc_new W _) (by rw [sizeI]; simp [hX]) (by simp [hX, hZ]) (all_oneCell_toArray h1) ?_
  rw [alloc_setRow]
  exact h
end
theorem Byt.oneCell {w : World} {v : Value} {l : List UInt8} (h : Byt w v l) : v.oneCell' = true := by
  obtain ⟨a, c, rfl, _⟩ := h.open
  rfl
theorem itC_at16 (x : ItV) (h : x.o.length = 16) : (itC x)[16]? = some x.v := by
  unfold itC
  rw [List.getElem?_append_right (by simp [h])]
  simp [h]
/-- The i-th item, opened. -/
theorem Its.item {w : World} {a : Option Addr} {n cap : Nat} {xs : List ItV} (h : Its w (.slice a n cap) xs) (j : Nat) (hj : j < xs.length) :
    ∃ (b off : Nat) (x : ItV) (s : Option Addr) (m c : Nat), xs[j]? = some x ∧ a = some ⟨b, off, none⟩ ∧ w.rangeAt b (off + j * 17) (itC x) ∧ x.v = .slice s m c ∧ m = x.d.length ∧ m ≤ c ∧ c ≤ 9223372036854775807 ∧ Byt w x.v x.d ∧ x.o.length = 16 ∧ (itC x).length = 17 ∧ (∀ u ∈ itC x, u.oneCell' = true) := by
  have hx : xs[j]? = some xs[j] := List.getElem?_eq_getElem hj
  obtain ⟨b, off, e, hr⟩ := h.at hx
  have hm : xs[j] ∈ xs := List.getElem_mem _
  have hb := h.byt _ hm
  obtain ⟨s, c, e2, h1, h2, _⟩ := hb.open
  unfold maxLen at h2
  exact ⟨b, off, xs[j], s, _, c, hx, e, hr, e2, rfl, h1, by omega, hb, h.len _ hm, itC_length _ (h.len _ hm), itC_oneCell _ (Byt.oneCell hb)⟩
end Go.Proofs.Ytilanncobbdlfaa
