/-
  What Apart's four loops keep: statements on memory alone, without the program's text.
-/
import Derived.Test.YtemojckmnlgkdaaApart0
namespace Go.Proofs.Ytemojckmnlgkdaa
open Go Go.RowKit

theorem Own.one {w : World} {base e size n : Nat} {v : Value} {xs : List Value} (h : Own w base e size v n xs) : v.oneCell' = true := by
  obtain ⟨a, cap, rfl, _, _⟩ := h.shape
  rfl

theorem own_cell2 {w : World} {base e n m : Nat} {g cap : Nat} {xs : List Value} (h : Own w base e 1 (.slice (some ⟨g, 0, none⟩) m cap) n xs) (i : Nat) (hi : i < n) : w.cell? ⟨g, i, none⟩ = some (xs.getD i (.slice none 0 0)) := by
  obtain ⟨a, c, e1, _, _⟩ := h.shape
  simp only [Value.slice.injEq] at e1
  obtain ⟨_, rfl, _⟩ := e1
  exact own_cell h i hi

theorem b8u_ne : 5 ≠ 22 := by decide

/-- Bytes that are owned stay where a slice of slices grows. -/
theorem OwnB.past {w w' : World} {b b' n : Nat} {u m : Value} {l : List UInt8} {xs : List Value} (h : OwnB w b u l) (hm : Own w b' 22 1 m n xs) (hg : w.grownBy w' (ownB m)) : OwnB w' b u l :=
  Own.kept h hg (own_types h hm b8u_ne)

theorem getD_snoc_lt {α : Type} (l : List α) (x d : α) (j : Nat) (h : j < l.length) : (l ++ [x]).getD j d = l.getD j d := by
  simp [List.getD, List.getElem?_append_left h]
theorem getD_snoc_eq {α : Type} (l : List α) (x d : α) : (l ++ [x]).getD l.length d = x := by
  simp [List.getD]

theorem getD_rep (l : List UInt8) (c : UInt8) (m p : Nat) (h : p < m) : (l ++ List.replicate m c).getD (l.length + p) 0 = c := by
  simp only [List.getD]
  rw [List.getElem?_append_right (by omega), Nat.add_sub_cancel_left, List.getElem?_replicate, if_pos h]
  rfl

theorem wrap_succ8 (c : UInt8) : ((c.toNat : Int) + 1) % 256 = ((c + 1).toNat : Int) := by
  rw [UInt8.toNat_add]
  simp

/-- What stands fast all the while. -/
structure Fast (w w1 : World) (base : Nat) (allv wasv : Value) (vs : List Value) : Prop where
  base : base ≤ w.heap.size
  size : w.heap.size ≤ w1.heap.size
  all : ∀ b, ownB allv = some b → b < w.heap.size
  was : ∀ b, ownB wasv = some b → b < w1.heap.size
  ov : ∀ j, j < vs.length → ∀ b, ownB (vs.getD j (.slice none 0 0)) = some b → b < w.heap.size
  part : Parted vs

/-- Behind the first loop, and in the second one. -/
structure St2 (w w1 wr : World) (base : Nat) (allv wasv morev : Value) (vs ws ms : List Value) (ls : List (List UInt8)) (k : Nat) : Prop where
  all : Own wr base 22 1 allv vs.length vs
  was : Own wr w.heap.size 22 1 wasv vs.length ws
  more : Own wr w1.heap.size 22 1 morev k ms
  ov : ∀ j, j < vs.length → OwnB wr base (vs.getD j (.slice none 0 0)) (ls.getD j [])
  ow : ∀ j, j < vs.length → OwnB wr w.heap.size (ws.getD j (.slice none 0 0)) (ls.getD j [])
  om : ∀ j, j < k → OwnB wr base (ms.getD j (.slice none 0 0)) (ls.getD j [] ++ List.replicate 40 (UInt8.ofNat (j + 1)))
  mw : ∀ j, j < k → ownB (ms.getD j (.slice none 0 0)) = ownB (vs.getD j (.slice none 0 0)) ∨ ∃ b, ownB (ms.getD j (.slice none 0 0)) = some b ∧ w1.heap.size ≤ b
  len : ms.length = k
  bel : Below base w wr
  ge : w1.heap.size ≤ wr.heap.size

theorem St2.below {w w1 wr wr' : World} {base : Nat} {allv wasv morev : Value} {vs ws ms : List Value} {ls : List (List UInt8)} {k : Nat} (h : St2 w w1 wr base allv wasv morev vs ws ms ls k) (f : Fast w w1 base allv wasv vs) (hb : Below wr.heap.size wr wr') :
    St2 w w1 wr' base allv wasv morev vs ws ms ls k := by
  have hL := Nat.le_refl wr.heap.size
  exact ⟨h.all.below hb hL, h.was.below hb hL, h.more.below hb hL, fun j hj => (h.ov j hj).below hb, fun j hj => (h.ow j hj).below hb, fun j hj => (h.om j hj).below hb, h.mw, h.len,
    h.bel.trans (hb.mono (by have := h.bel.size; have := f.base; omega)), by have := h.ge; have := hb.size; omega⟩

theorem St2.alloc {w w1 wr : World} {base : Nat} {allv wasv morev : Value} {vs ws ms : List Value} {ls : List (List UInt8)} {k : Nat} (h : St2 w w1 wr base allv wasv morev vs ws ms ls k) (f : Fast w w1 base allv wasv vs) (o : Obj) :
    St2 w w1 (wr.alloc o) base allv wasv morev vs ws ms ls k := h.below f ((Below.refl _ _).alloc (Nat.le_refl _) _)

/-- A round's slice has grown. -/
theorem St2.mid {w w1 wr wi : World} {base : Nat} {allv wasv morev g : Value} {vs ws ms : List Value} {ls : List (List UInt8)} {k : Nat} {m : List UInt8} (h : St2 w w1 wr base allv wasv morev vs ws ms ls k) (f : Fast w w1 base allv wasv vs) (hk : k < vs.length)
    (G : Grow wr wi base (vs.getD k (.slice none 0 0)) g (ls.getD k []) m) : St2 w w1 wi base allv wasv morev vs ws ms ls k := by
  have hvk := f.ov k hk
  refine ⟨G.other h.all ?_, G.other h.was ?_, G.other h.more ?_, fun j hj => ?_, fun j hj => G.other (h.ow j hj) ?_, fun j hj => G.other (h.om j hj) ?_, h.mw, h.len, ?_, ?_⟩
  · exact own_types h.all (h.ov k hk) b8u_ne.symm
  · exact own_types h.was (h.ov k hk) b8u_ne.symm
  · exact own_types h.more (h.ov k hk) b8u_ne.symm
  · by_cases e : j = k
    · subst e; exact G.old
    · exact G.other (h.ov j hj) (f.part j k hj hk e)
  · intro b hb hb2
    have := (Own.lt (h.ow j hj) b hb).1
    have := hvk b hb2
    omega
  · intro b hb hb2
    have hb3 := hvk b hb2
    rcases h.mw j hj with e | ⟨b', e, hb'⟩
    · rw [e] at hb
      exact f.part j k (by omega) hk (by omega) b hb hb2
    · rw [e] at hb
      simp only [Option.some.injEq] at hb
      have := f.size
      omega
  · refine h.bel.grown G.all (by have := h.bel.size; have := f.base; omega) fun b hb => (Own.lt (h.ov k hk) b hb).1
  · exact Nat.le_trans h.ge G.all.size

theorem St2.push {w w1 wi w' : World} {base : Nat} {allv wasv morev morev' g : Value} {vs ws ms : List Value} {ls : List (List UInt8)} {k : Nat} (h : St2 w w1 wi base allv wasv morev vs ws ms ls k) (f : Fast w w1 base allv wasv vs)
    (hg : OwnB wi base g (ls.getD k [] ++ List.replicate 40 (UInt8.ofNat (k + 1)))) (hw : ownB g = ownB (vs.getD k (.slice none 0 0)) ∨ ∃ b, ownB g = some b ∧ w1.heap.size ≤ b)
    (hm : Own w' w1.heap.size 22 1 morev' (k + 1) (ms ++ [g])) (hgb : wi.grownBy w' (ownB morev)) : St2 w w1 w' base allv wasv morev' vs ws (ms ++ [g]) ls (k + 1) := by
  have hml := h.len
  refine ⟨Own.kept h.all hgb ?_, Own.kept h.was hgb ?_, hm, fun j hj => (h.ov j hj).past h.more hgb, fun j hj => (h.ow j hj).past h.more hgb, fun j hj => ?_, fun j hj => ?_, by simp [hml], ?_, ?_⟩
  · intro b hb hb2
    have := f.all b hb
    have := (h.more.lt b hb2).1
    have := f.size
    omega
  · intro b hb hb2
    have := f.was b hb
    have := (h.more.lt b hb2).1
    omega
  · by_cases e : j = k
    · subst e
      rw [← hml, getD_snoc_eq, hml]
      exact hg.past h.more hgb
    · rw [getD_snoc_lt ms g _ j (by omega)]
      exact (h.om j (by omega)).past h.more hgb
  · by_cases e : j = k
    · subst e
      rw [← hml, getD_snoc_eq, hml]
      exact hw
    · rw [getD_snoc_lt ms g _ j (by omega)]
      exact h.mw j (by omega)
  · exact h.bel.grown hgb (by have := h.bel.size; have := f.base; omega) fun b hb => by have := (h.more.lt b hb).1; have := f.base; have := f.size; omega
  · exact Nat.le_trans h.ge hgb.size

/-- In the last loop. -/
structure St4 (w wr : World) (base : Nat) (allv wasv : Value) (vs ws : List Value) (ls : List (List UInt8)) (k : Nat) : Prop where
  all : Own wr base 22 1 allv vs.length vs
  was : Own wr w.heap.size 22 1 wasv vs.length ws
  ov : ∀ j, k ≤ j → j < vs.length → OwnB wr base (vs.getD j (.slice none 0 0)) (ls.getD j [])
  ow : ∀ j, j < vs.length → OwnB wr w.heap.size (ws.getD j (.slice none 0 0)) (ls.getD j [])
  bel : Below base w wr

theorem St2.four {w w1 wr : World} {base : Nat} {allv wasv morev : Value} {vs ws ms : List Value} {ls : List (List UInt8)} {k : Nat} (h : St2 w w1 wr base allv wasv morev vs ws ms ls k) : St4 w wr base allv wasv vs ws ls 0 :=
  ⟨h.all, h.was, fun j _ hj => h.ov j hj, h.ow, h.bel⟩

theorem St4.below {w wr wr' : World} {base : Nat} {allv wasv : Value} {vs ws : List Value} {ls : List (List UInt8)} {k : Nat} (h : St4 w wr base allv wasv vs ws ls k) (hbs : base ≤ w.heap.size) (hb : Below wr.heap.size wr wr') : St4 w wr' base allv wasv vs ws ls k := by
  have hL := Nat.le_refl wr.heap.size
  exact ⟨h.all.below hb hL, h.was.below hb hL, fun j hj hj2 => (h.ov j hj hj2).below hb, fun j hj => (h.ow j hj).below hb, h.bel.trans (hb.mono (by have := h.bel.size; omega))⟩

/-- A round's slice has been written over. -/
theorem St4.next {w w1 wr wi : World} {base : Nat} {allv wasv : Value} {vs ws : List Value} {ls : List (List UInt8)} {k : Nat} (h : St4 w wr base allv wasv vs ws ls k) (f : Fast w w1 base allv wasv vs) (hk : k < vs.length) (hg : wr.grownBy wi (ownB (vs.getD k (.slice none 0 0)))) : St4 w wi base allv wasv vs ws ls (k + 1) := by
  have hvk := f.ov k hk
  refine ⟨Own.kept h.all hg ?_, Own.kept h.was hg ?_, fun j hj hj2 => Own.kept (h.ov j (by omega) hj2) hg ?_, fun j hj => Own.kept (h.ow j hj) hg ?_, ?_⟩
  · exact own_types h.all (h.ov k (Nat.le_refl _) hk) b8u_ne.symm
  · exact own_types h.was (h.ov k (Nat.le_refl _) hk) b8u_ne.symm
  · exact f.part j k hj2 hk (by omega)
  · intro b hb hb2
    have := (Own.lt (h.ow j hj) b hb).1
    have := hvk b hb2
    omega
  · exact h.bel.grown hg (by have := h.bel.size; have := f.base; omega) fun b hb => (Own.lt (h.ov k (Nat.le_refl _) hk) b hb).1

theorem gb_setCell (W : World) (b o : Nat) (v : Value) : W.grownBy (W.setCell ⟨b, o, none⟩ v) (some b) :=
  ⟨rfl, rfl, rfl, by simp [World.setCell], fun k _ hne => Below.heap_setCell _ _ _ _ (fun e => hne (by rw [e]))⟩
theorem gb_drew {W W' : World} {r : Option Nat} (h : W.grownBy W' r) : W.grownBy W'.drew r := ⟨h.os, h.tape, h.output, h.size, h.block⟩
end Go.Proofs.Ytemojckmnlgkdaa
