/-
  Small laws for items: built, laid in a slice of one, loaded, appended; and the growth of a region that makes an item.
-/
import Derived.Test.YtilanncobbdlfaaSg3
import Derived.Test.YtilanncobbdlfaaRg2
namespace Go.Proofs.Ytilanncobbdlfaa
open Go Go.RowKit
set_option linter.unusedVariables false

theorem list16 (l : List UInt8) (h : l.length = 16) : ∃ a0 a1 a2 a3 a4 a5 a6 a7 a8 a9 a10 a11 a12 a13 a14 a15, l = [a0, a1, a2, a3, a4, a5, a6, a7, a8, a9, a10, a11, a12, a13, a14, a15] := by
  match l, h with
  | [a0, a1, a2, a3, a4, a5, a6, a7, a8, a9, a10, a11, a12, a13, a14, a15], _ => exact ⟨_, _, _, _, _, _, _, _, _, _, _, _, _, _, _, _, rfl⟩

theorem item_built (g : List UInt8) (hg : g.length = 16) (x : Option Addr) (m c : Nat) :
    Try.prog.built 49 [(0, .agg (g.map b8).toArray), (1, .slice x m c)] = some (g.map b8 ++ [Value.slice x m c]).toArray := by
  obtain ⟨a0, a1, a2, a3, a4, a5, a6, a7, a8, a9, a10, a11, a12, a13, a14, a15, rfl⟩ := list16 g hg
  kernel_rfl

theorem infoI : (Try.prog.info? 49).map (fun i => (i.zero, i.size, i.bytes)) = some (some (.agg #[.int .u8 0, .int .u8 0, .int .u8 0, .int .u8 0, .int .u8 0, .int .u8 0, .int .u8 0, .int .u8 0, .int .u8 0, .int .u8 0, .int .u8 0, .int .u8 0, .int .u8 0, .int .u8 0, .int .u8 0, .int .u8 0, .slice none 0 0]), 17, 40) := by kernel_rfl
theorem infoL : (Try.prog.info? 39).map (fun i => (i.zero, i.size, i.bytes)) = some (some (.agg #[.int .u8 0, .slice none 0 0]), 2, 32) := by kernel_rfl
theorem sizeI : (Try.prog.info? 49).map (·.size) = some 17 := by kernel_rfl
theorem sizeL : (Try.prog.info? 39).map (·.size) = some 2 := by kernel_rfl

theorem run_bslice_item (X : List Value) (h : X.length = 17) (W : World) :
    (Instr.buildSlice 37 1 #[(0, .agg X.toArray)]).run Try.prog W = .ok (.slice (some ⟨W.heap.size, 0, none⟩) 1 1) (W.alloc (.cells X.toArray 49)) := by
  obtain ⟨i, hi, hz, hi2, hi3⟩ := info_parts infoI
  match X, h with
  | [a0, a1, a2, a3, a4, a5, a6, a7, a8, a9, a10, a11, a12, a13, a14, a15, a16], _ =>
    go_simp

section
variable {ops : Array Oper} {rest : List Oper} {o : Oper} {a : Act} {w : World} {Q : Exit → Act → World → Prop}
/-- A slice of one item. -/
theorem wpList_bslice_item (hgd : o.guard = none) (x : Operand) (ho : o.op = .buildSlice 37 1 #[(0, x)]) (X : List Value) (hX : X.length = 17) (hx : a.eval x = .agg X.toArray)
    (h : wpList Try.prog ops Q rest (a.put o.dst (.slice (some ⟨w.heap.size, 0, none⟩) 1 1)) (w.alloc (.cells X.toArray 49))) : wpList Try.prog ops Q (o :: rest) a w :=
  wpList_plain hgd fun K hK => by
    unfold Oper.wp execOp
    simp only [ho, List.map_toArray, List.map_cons, List.map_nil, hx, Sem.run_bind, run_bslice_item X hX, Result.andThen_ok, Sem.run_pure]
    exact hK _ _ h
/-- append(items, item): as one operation of a plain list. -/
theorem wpList_append_item (hgd : o.guard = none) (s x : Operand) (ho : o.op = .call { callee := .builtin .append, args := #[s, x], argTypes := #[37, 37] })
    (base : Nat) (v : Value) (n : Nat) (xs : List Value) (hs : a.eval s = v) (hown : Own w base 49 17 v n xs) (y : Value) (news : List Value) (hxe : a.eval x = y) (hx : Rd w 17 y 1 news) (h1 : ∀ u ∈ news, u.oneCell' = true)
    (hn : n ≤ 1000000000) (hbase : base ≤ w.heap.size)
    (h : ∀ v' w', Own w' base 49 17 v' (n + 1) (xs ++ news) → w.grownBy w' (ownB v) → (ownB v' = ownB v ∨ ∃ g, ownB v' = some g ∧ w.heap.size ≤ g) → wpList Try.prog ops Q rest (a.put o.dst v') w') : wpList Try.prog ops Q (o :: rest) a w :=
  wpList_append_rd w hgd s x 37 ho base 49 _ 17 40 Try.underlying37 infoI rfl (by decide) v n xs hs hown y 1 news hxe hx h1 (by unfold maxLen; omega) (by omega) hbase
    fun v' w' h2 h3 h4 _ => h v' w' h2 h3 h4
theorem wpList_append_list (hgd : o.guard = none) (s x : Operand) (ho : o.op = .call { callee := .builtin .append, args := #[s, x], argTypes := #[29, 29] })
    (base : Nat) (v : Value) (n : Nat) (xs : List Value) (hs : a.eval s = v) (hown : Own w base 39 2 v n xs) (y : Value) (news : List Value) (hxe : a.eval x = y) (hx : Rd w 2 y 1 news) (h1 : ∀ u ∈ news, u.oneCell' = true)
    (hn : n ≤ 1000000000) (hbase : base ≤ w.heap.size)
    (h : ∀ v' w', Own w' base 39 2 v' (n + 1) (xs ++ news) → w.grownBy w' (ownB v) → (ownB v' = ownB v ∨ ∃ g, ownB v' = some g ∧ w.heap.size ≤ g) → wpList Try.prog ops Q rest (a.put o.dst v') w') : wpList Try.prog ops Q (o :: rest) a w :=
  wpList_append_rd w hgd s x 29 ho base 39 _ 2 32 Try.underlying29 infoL rfl (by decide) v n xs hs hown y 1 news hxe hx h1 (by unfold maxLen; omega) (by omega) hbase
    fun v' w' h2 h3 h4 _ => h v' w' h2 h3 h4
end

/-- Rows of two types are two. -/
theorem own_kinds {w : World} {b b' e e' s s' n n' : Nat} {v v' : Value} {xs xs' : List Value} (h : Own w b e s v n xs) (h' : Own w b' e' s' v' n' xs') (he : e ≠ e') : ∀ k, ownB v = some k → ownB v' ≠ some k := by
  intro k hk hk'
  rcases h.2 with ⟨a, rfl, _⟩ | ⟨g, cap, cur, rfl, _, hg, _, h0, _⟩
  · cases a <;> simp [ownB] at hk
  · rcases h'.2 with ⟨a, rfl, _⟩ | ⟨g', cap', cur', rfl, _, hg', _, h0', _⟩
    · cases a <;> simp [ownB] at hk'
    · rw [ownB_some h0] at hk
      rw [ownB_some h0'] at hk'
      cases hk
      cases hk'
      rw [hg] at hg'
      cases hg'
      exact he rfl
theorem itC_oneCell (x : ItV) (hv : x.v.oneCell' = true) : ∀ u ∈ itC x, u.oneCell' = true := by
  intro u hu
  unfold itC at hu
  rw [List.mem_append] at hu
  rcases hu with hu | hu
  · exact b8_oneCell x.o u hu
  · rw [List.mem_singleton.1 hu]; exact hv
theorem itsC_snoc (xs : List ItV) (x : ItV) : itsC (xs ++ [x]) = itsC xs ++ itC x := by unfold itsC; simp
theorem lisC_snoc (xs : List LiV) (x : LiV) : lisC (xs ++ [x]) = lisC xs ++ liC x := by unfold lisC; simp
theorem OwnB.oneCell {w : World} {base : Nat} {v : Value} {l : List UInt8} (h : OwnB w base v l) : v.oneCell' = true := by
  obtain ⟨a, c, rfl, _⟩ := Own.shape h
  rfl
/-- One item more. -/
theorem OwnIts.snoc {w w' : World} {base : Nat} {v v' : Value} {xs : List ItV} {x : ItV} (h : OwnIts w base v xs) (hr : Own w' base 49 17 v' (xs.length + 1) (itsC xs ++ itC x)) (hg : w.grownBy w' (ownB v)) (hl : x.o.length = 16) (hx : OwnB w base x.v x.d) : OwnIts w' base v' (xs ++ [x]) := by
  have hk : ∀ {u : Value} {l : List UInt8}, OwnB w base u l → OwnB w' base u l := fun {u l} hu => Own.kept hu hg (fun k hk e => own_kinds h.row hu (by decide) k e hk)
  refine ⟨by rw [itsC_snoc, List.length_append]; exact hr, fun y hy => ?_, fun y hy => ?_⟩
  · rcases List.mem_append.1 hy with hy | hy
    · exact h.len y hy
    · rw [List.mem_singleton.1 hy]; exact hl
  · rcases List.mem_append.1 hy with hy | hy
    · exact hk (h.byt y hy)
    · rw [List.mem_singleton.1 hy]; exact hk hx
theorem OwnIts.alloc {w : World} {base : Nat} {v : Value} {xs : List ItV} (h : OwnIts w base v xs) (o : Obj) : OwnIts (w.alloc o) base v xs := h.below ((Below.refl _ _).alloc (Nat.le_refl _) o)
theorem OwnIts.chg {w w' : World} {base : Nat} {v : Value} {xs : List ItV} {L : List Nat} (h : OwnIts w base v xs) (hc : Chg L w w') (hL : ∀ x ∈ L, x < base) : OwnIts w' base v xs :=
  ⟨h.row.chg hc (fun x hx e => by have := (Own.lt h.row x e).1; have := hL x hx; omega), h.len, fun x hx => (h.byt x hx).chg' hc hL⟩

/-! ### The growth of a region that makes an item -/
structure GI (N : Nat) (g : List UInt8) (d : List UInt8) (w w' : World) : Prop where
  bel : Below N w w'
  size : w.heap.size ≤ w'.heap.size
  keep : ∀ k, k < w.heap.size → w'.heap[k]? = w.heap[k]? ∨ (N ≤ k ∧ (∃ cs : Array Value, w.heap[k]? = some (.cells cs 49 (0, 0)) ∧ cs.size = 17) ∧ ∃ u, w'.heap[k]? = some (.cells (g.map b8 ++ [u]).toArray 49 (0, 0)) ∧ OwnB w' N u d)
theorem GI.refl {N : Nat} {g d : List UInt8} (w : World) : GI N g d w w := ⟨Below.refl _ _, Nat.le_refl _, fun _ _ => .inl rfl⟩
theorem GI.own {N base : Nat} {g d l : List UInt8} {w w' : World} {v : Value} (h : GI N g d w w') (ho : OwnB w base v l) : OwnB w' base v l := by
  refine ⟨ho.1, ?_⟩
  rcases ho.2 with hn | ⟨b, cap, cur, rfl, hb, hg, r⟩
  · exact .inl hn
  · refine .inr ⟨b, cap, cur, rfl, hb, ?_, r⟩
    rcases h.keep b (Array.getElem?_eq_some_iff.1 hg).1 with e | ⟨_, ⟨cs, e, _⟩, _⟩
    · rw [e]; exact hg
    · rw [hg] at e; cases e
theorem GI.trans {N : Nat} {g d : List UInt8} (a b c : World) (h : GI N g d a b) (k : GI N g d b c) : GI N g d a c := by
  refine ⟨h.bel.trans k.bel, Nat.le_trans h.size k.size, fun i hi => ?_⟩
  rcases h.keep i hi with e | ⟨hN, hcs, u, e, ho⟩
  · rcases k.keep i (Nat.lt_of_lt_of_le hi h.size) with e2 | ⟨hN, hcs, r⟩
    · exact .inl (e2.trans e)
    · exact .inr ⟨hN, by rw [← e]; exact hcs, r⟩
  · rcases k.keep i (Nat.lt_of_lt_of_le hi h.size) with e2 | ⟨_, _, r⟩
    · exact .inr ⟨hN, hcs, u, e2.trans e, k.own ho⟩
    · exact .inr ⟨hN, hcs, r⟩
theorem GI.of_below {N : Nat} {g d : List UInt8} {w w' : World} (hN : N ≤ w.heap.size) (h : Below w.heap.size w w') : GI N g d w w' := ⟨h.mono hN, h.size, fun k hk => .inl (h.block k hk)⟩
/-- The item's row, laid. -/
def RowI (N : Nat) (v : Value) (w : World) : Prop := ∃ b cs, v = .pointer (some ⟨b, 0, none⟩) ∧ N ≤ b ∧ w.heap[b]? = some (.cells cs 49 (0, 0)) ∧ cs.size = 17
/-- The item's row, filled. -/
def RowX (N : Nat) (g d : List UInt8) (v : Value) (w : World) : Prop := ∃ b u, v = .pointer (some ⟨b, 0, none⟩) ∧ N ≤ b ∧ w.heap[b]? = some (.cells (g.map b8 ++ [u]).toArray 49 (0, 0)) ∧ OwnB w N u d
theorem GI.rowI {N : Nat} {g d : List UInt8} (hg : g.length = 16) {w w' : World} {v : Value} (h : GI N g d w w') (hr : RowI N v w) : RowI N v w' := by
  obtain ⟨b, cs, rfl, hN, e, hc⟩ := hr
  rcases h.keep b (Array.getElem?_eq_some_iff.1 e).1 with e2 | ⟨_, _, u, e2, _⟩
  · exact ⟨b, cs, rfl, hN, e2.trans e, hc⟩
  · exact ⟨b, _, rfl, hN, e2, by simp [hg]⟩
theorem GI.rowX {N : Nat} {g d : List UInt8} {w w' : World} {v : Value} (h : GI N g d w w') (hr : RowX N g d v w) : RowX N g d v w' := by
  obtain ⟨b, u, rfl, hN, e, ho⟩ := hr
  rcases h.keep b (Array.getElem?_eq_some_iff.1 e).1 with e2 | ⟨_, _, u2, e2, ho2⟩
  · exact ⟨b, u, rfl, hN, e2.trans e, h.own ho⟩
  · exact ⟨b, u2, rfl, hN, e2, ho2⟩
/-- The item's row is written: the store's own step. -/
theorem GI.store {N b : Nat} {g d : List UInt8} {w : World} {cs : Array Value} {u : Value} (hN : N ≤ b) (hb : w.heap[b]? = some (.cells cs 49 (0, 0))) (hc : cs.size = 17) (ho : OwnB w N u d) :
    GI N g d w (w.setRow b (g.map b8 ++ [u]).toArray) ∧ RowX N g d (.pointer (some ⟨b, 0, none⟩)) (w.setRow b (g.map b8 ++ [u]).toArray) := by
  have hs : (w.setRow b (g.map b8 ++ [u]).toArray).heap[b]? = some (.cells (g.map b8 ++ [u]).toArray 49 (0, 0)) := setRow_heap w b cs _ _ _ hb
  have hoth : ∀ k, k ≠ b → (w.setRow b (g.map b8 ++ [u]).toArray).heap[k]? = w.heap[k]? := fun k hk => setRow_other w b k _ hk
  have hsz : (w.setRow b (g.map b8 ++ [u]).toArray).heap.size = w.heap.size := by simp [World.setRow]
  have ho' : OwnB (w.setRow b (g.map b8 ++ [u]).toArray) N u d := by
    refine Own.kept ho (row := some b) ⟨rfl, rfl, rfl, by omega, fun k _ hk => hoth k (fun e => hk (by rw [e]))⟩ (fun k hk e => ?_)
    cases e
    have hO : Own w N 49 17 (.slice (some ⟨b, 0, none⟩) 1 1) 1 (cs.toList.take 17) := ⟨by simp [hc], .inr ⟨b, 1, cs, rfl, hN, hb, by omega, by omega, by unfold maxLen; omega, by omega, by simp⟩⟩
    exact own_kinds hO ho (by decide) b (ownB_some (by omega)) hk
  refine ⟨⟨⟨rfl, rfl, rfl, by omega, fun k hk => hoth k (by omega)⟩, by omega, fun k hk => ?_⟩, ⟨b, u, rfl, hN, hs, ho'⟩⟩
  by_cases e : k = b
  · subst e
    exact .inr ⟨hN, ⟨cs, hb, hc⟩, u, hs, ho'⟩
  · exact .inl (hoth k e)
end Go.Proofs.Ytilanncobbdlfaa
