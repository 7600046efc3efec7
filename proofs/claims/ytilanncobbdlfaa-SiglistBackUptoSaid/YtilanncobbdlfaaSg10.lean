/-
  Small laws for Write: lists loaded and laid, a string appended, the plain steps of the lists' bytes.
-/
import Derived.Test.YtilanncobbdlfaaSg9
import Derived.Test.YtilanncobbdlfaaOct6
import Derived.Test.YtilanncobbdlfaaOpLaw
import Derived.Lib.AppendStr
import Derived.Deep.RegionHeld3
namespace Go.Proofs.Ytilanncobbdlfaa
open Go Go.RowKit
set_option linter.unusedVariables false

section
variable {ops : Array Oper} {rest : List Oper} {o : Oper} {a : Act} {w : World} {Q : Exit → Act → World → Prop}
/-- append(out, s...), s a string. -/
theorem wpList_append_str (hgd : o.guard = none) (s x : Operand)
    (ho : o.op = .call { callee := .builtin .append, args := #[s, x], argTypes := #[22, 9] })
    (base : Nat) (v : Value) (l : List UInt8) (hs : a.eval s = v) (hown : OwnB w base v l) (h0 : v = .slice none 0 0 ∨ 0 < l.length)
    (m : List UInt8) (hx : a.eval x = .string (sOf m)) (hlen : l.length + m.length ≤ 140737488355328) (hbase : base ≤ w.heap.size)
    (h : ∀ v' w', OwnB w' base v' (l ++ m) → w.grownBy w' (ownB v) → wpList Try.prog ops Q rest (a.put o.dst v') w') : wpList Try.prog ops Q (o :: rest) a w := by
  obtain ⟨i, hi, hz, hi2, hi3⟩ := info_parts infoB
  have hsz : (sOf m).size = m.length := by simp [sOf, ByteArray.size]
  have hown' : w.ownsRow base 5 1 v l.length (l.map b8) := by
    refine ⟨hown.1, ?_⟩
    rcases hown.2 with ⟨a, e, e2⟩ | ⟨g, cap, cur, rfl, hb, hg, h1, h2, h3, h4, h5⟩
    · rcases h0 with h0 | h0
      · exact .inl ⟨h0, e2⟩
      · omega
    · exact .inr ⟨g, cap, cur, rfl, hb, hg, h1, h3, h4, h5⟩
  have hbl : v.ownBlock = ownB v := by
    rcases hown.2 with ⟨a, e, e2⟩ | ⟨g, cap, cur, rfl, hb, hg, h1, h2, h3, h4, h5⟩
    · rcases h0 with h0 | h0
      · rw [h0]; rfl
      · omega
    · rw [ownB_some h2]; rfl
  refine Go.Lib.wpList_append_own_string w hgd s x 22 9 ho base 5 i Try.underlying22 Try.underlying9 hi hz hi2 hi3 v l.length (l.map b8) hs hown' (sOf m) hx (by rw [hsz]; unfold maxLen; omega) (by rw [hsz]; exact hlen) hbase ?_
  intro v' w' h1 h2 _
  refine h v' w' ?_ (by rw [← hbl]; exact h2)
  have := Own.of_ownsRow h1
  rw [hsz] at this
  unfold OwnB
  rw [List.length_append, List.map_append]
  exact this
/-- A list is stored into a variable that was just laid. -/
theorem wpList_store_list (hgd : o.guard = none) (x y : Operand) (ho : o.op = .store 39 x y) (W : World) (Z : Array Value) (X : Array Value) (hZ : Z.size = 2) (hX : X.size = 2) (h1 : ∀ u ∈ X.toList, u.oneCell' = true)
    (hx : a.eval x = .pointer (some ⟨W.heap.size, 0, none⟩)) (hy : a.eval y = .agg X) (h : wpList Try.prog ops Q rest (a.put o.dst undef) (W.alloc (.cells X 39))) : wpList Try.prog ops Q (o :: rest) a (W.alloc (.cells Z 39)) := by
  refine wpList_store_row (w := W.alloc (.cells Z 39)) hgd 39 x y ho W.heap.size X hx hy 39 Z (heap_alloc_new W _) (by rw [sizeL]; simp [hX]) (by simp [hX, hZ]) (by have := all_oneCell_toArray h1; simpa using this) ?_
  rw [alloc_setRow]
  exact h
end
theorem RowAt.range {w : World} {b : Nat} {cs : Array Value} (h : RowAt w b cs) : w.rangeAt b 0 cs.toList := fun r v hr => by
  rw [Nat.zero_add]
  exact h.cell r v (by simpa using hr)
/-- An item's owner, in the item's own row. -/
theorem owner_byt {w : World} {b : Nat} {y : ItV} (h : RowAt w b (itC y).toArray) (hl : y.o.length = 16) : Byt w (.slice (some ⟨b, 0, none⟩) 16 16) y.o := by
  refine Byt.of hl.symm (Nat.le_refl _) (by unfold maxLen; omega) (fun q hq => ⟨b, 0, rfl, ?_⟩)
  rw [Nat.zero_add]
  refine h.cell q _ ?_
  unfold itC
  rw [List.getElem?_toArray, List.getElem?_append_left (by simpa using hq), List.getElem?_map, List.getElem?_eq_getElem hq]
  simp [b8, List.getD, hq]
/-- Two cells, one behind the other. -/
theorem range_two {w : World} {b o : Nat} {x y : Value} (h0 : w.cell? ⟨b, o, none⟩ = some x) (h1 : w.cell? ⟨b, o + 1, none⟩ = some y) : w.rangeAt b o [x, y] := fun r v hr => by
  match r with
  | 0 => simp only [List.getElem?_cons_zero, Option.some.injEq] at hr; subst hr; exact h0
  | 1 => simp only [List.getElem?_cons_succ, List.getElem?_cons_zero, Option.some.injEq] at hr; subst hr; exact h1
  | r + 2 => simp at hr
/-- The i-th list, opened. -/
theorem Lis.item {w : World} {a : Option Addr} {n cap : Nat} {xs : List LiV} (h : Lis w (.slice a n cap) xs) (j : Nat) (hj : j < xs.length) :
    ∃ (b off : Nat) (x : LiV) (s : Option Addr) (m c : Nat), xs[j]? = some x ∧ a = some ⟨b, off, none⟩ ∧ w.rangeAt b (off + j * 2) [.int .u8 x.k, .slice s m c] ∧ x.v = .slice s m c ∧ m = x.i.length ∧ m ≤ c ∧ c ≤ 9223372036854775807 ∧ Its w (.slice s m c) x.i := by
  have hx : xs[j]? = some xs[j] := List.getElem?_eq_getElem hj
  obtain ⟨b, off, e, h0, h1⟩ := h.at hx
  have hi := h.its _ (List.getElem_mem hj)
  obtain ⟨s, c, e2, h2, h3⟩ := hi.open
  rw [e2] at h1 hi
  exact ⟨b, off, xs[j], s, _, c, hx, e, range_two h0 h1, e2, rfl, h2, h3, hi⟩

/-- What an append answers is not in a block that was there beside it. -/
theorem fresh_ne {w W : World} {base e size n n6 : Nat} {v v' : Value} {cs : List Value} (h : Own w base e size v n cs) (hn : w.heap.size ≤ n6) (hw : ownB v' = ownB v ∨ ∃ g, ownB v' = some g ∧ W.heap.size ≤ g) (hW : n6 < W.heap.size) : ownB v' ≠ some n6 := by
  intro e
  rcases hw with e2 | ⟨g, e2, hg⟩
  · rw [e2] at e
    have := (Own.lt h n6 e).2
    omega
  · rw [e2] at e
    cases e
    omega

/-! ### The plain steps -/
theorem li_at {xs : List LiV} {j : Nat} {x : LiV} (h : xs[j]? = some x) : (xs.map LiV.li)[j]? = some x.li := by rw [List.getElem?_map, h]; rfl
theorem it_at {xs : List ItV} {j : Nat} {x : ItV} (h : xs[j]? = some x) : (xs.map ItV.it)[j]? = some x.it := by rw [List.getElem?_map, h]; rfl
theorem take_at {α : Type} {xs : List α} {j : Nat} {x : α} (h : xs[j]? = some x) : xs.take (j + 1) = xs.take j ++ [x] := by
  rw [List.take_add_one, h]; rfl
theorem lsW_step {ls : List Li} {j : Nat} {x : Li} (h : ls[j]? = some x) : lsW (ls.take (j + 1)) = lsW (ls.take j) ++ liW x := by
  rw [take_at h]; unfold lsW; simp
theorem bodyL_step {is : List It} {i : Nat} {y : It} (h : is[i]? = some y) : bodyL (is.take (i + 1)) = bodyL (is.take i) ++ y.o ++ y.d := by
  rw [take_at h]; unfold bodyL; simp
theorem lsW_app (a b : List Li) : lsW (a ++ b) = lsW a ++ lsW b := by unfold lsW; simp
theorem lsW_take (ls : List Li) (j : Nat) : (lsW (ls.take j)).length ≤ (lsW ls).length := by
  conv => rhs; rw [← List.take_append_drop j ls]
  rw [lsW_app, List.length_append]; omega
theorem wr_bad {ls : List Li} {j : Nat} {x : Li} (h : ls[j]? = some x) (hb : riB x = false) : wrR ls = [] ∧ wrE ls = 1 := by
  have : wrB ls = false := by
    cases e : wrB ls with
    | false => rfl
    | true =>
      unfold wrB at e
      rw [List.all_eq_true] at e
      rw [e x (List.mem_of_getElem? h)] at hb
      cases hb
  unfold wrR wrE
  rw [this]
  exact ⟨rfl, rfl⟩
theorem wr_good {xs : List LiV} (h : ∀ j x, j < xs.length → xs[j]? = some x → riB x.li = true) : wrB (xs.map LiV.li) = true := by
  unfold wrB
  rw [List.all_eq_true]
  intro y hy
  obtain ⟨x, hx, rfl⟩ := List.mem_map.1 hy
  obtain ⟨j, hj, e⟩ := List.getElem_of_mem hx
  exact h j x hj (by rw [← e]; exact List.getElem?_eq_getElem hj)
theorem wr_big {ls : List Li} (hb : wrB ls = true) (j : Nat) (h : 65536 < (lsW (ls.take j)).length) : wrR ls = [] ∧ wrE ls = 10 := by
  have := lsW_take ls j
  unfold wrR wrE
  rw [hb, if_pos rfl, if_pos rfl, if_neg (by omega), if_neg (by omega)]
  exact ⟨rfl, rfl⟩
theorem wr_fit {ls : List Li} (hb : wrB ls = true) (h : (lsW ls).length ≤ 65536) : wrR ls = lsW ls ∧ wrE ls = 0 := by
  unfold wrR wrE
  rw [hb, if_pos rfl, if_pos rfl, if_pos h, if_pos h]
  exact ⟨rfl, rfl⟩
theorem riB_pos {x : LiV} (h : riB x.li = true) : 0 < x.i.length := by
  unfold riB at h
  rw [Bool.and_eq_true, decide_eq_true_iff] at h
  rcases Nat.eq_zero_or_pos x.i.length with e | e
  · have : x.i = [] := List.eq_nil_of_length_eq_zero e
    exact absurd (by show List.map ItV.it x.i = []; rw [this]; rfl) h.2
  · exact e
theorem riB_all {x : LiV} (h : riB x.li = true) : ∀ y ∈ x.i, mayB x.k y.d = true ∧ y.d.length = szL x.li := by
  unfold riB at h
  rw [Bool.and_eq_true, List.all_eq_true] at h
  intro y hy
  have := h.1 y.it (List.mem_map.2 ⟨y, hy, rfl⟩)
  rw [Bool.and_eq_true, decide_eq_true_iff] at this
  exact this
theorem bodyL_length (is : List It) (s : Nat) (h : ∀ y ∈ is, y.o.length + y.d.length = s) : (bodyL is).length = is.length * s := by
  unfold bodyL
  exact chunk_length (fun y : It => y.o ++ y.d) s is (fun y hy => by rw [List.length_append]; exact h y hy)
end Go.Proofs.Ytilanncobbdlfaa
