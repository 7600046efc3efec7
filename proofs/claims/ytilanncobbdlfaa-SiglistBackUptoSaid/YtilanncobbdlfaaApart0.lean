/-
  What the statements' helper Apart wants of memory: slices of slices that the call owns, and slices that grow in place or elsewhere. No condition.
-/
import Derived.Test.YtilanncobbdlfaaBase
namespace Go.Proofs.Ytilanncobbdlfaa
open Go Go.RowKit

theorem infoS : (Try.prog.info? 22).map (fun i => (i.zero, i.size, i.bytes)) = some (some (.slice none 0 0), 1, 24) := by kernel_rfl

theorem gb_trans {w w1 w2 : World} {r r' : Option Nat} (h : w.grownBy w1 r) (k : w1.grownBy w2 r') (hr : r' = r ∨ ∀ b, r' = some b → w.heap.size ≤ b) : w.grownBy w2 r :=
  ⟨k.os.trans h.os, k.tape.trans h.tape, k.output.trans h.output, Nat.le_trans h.size k.size, fun j hj hne =>
    (k.block j (Nat.lt_of_lt_of_le hj h.size) (by
      rcases hr with rfl | hr
      · exact hne
      · intro e
        have := hr j e.symm
        omega)).trans (h.block j hj hne)⟩

theorem gb_weak {w w1 : World} {r : Option Nat} (h : w.grownBy w1 none) : w.grownBy w1 r := ⟨h.os, h.tape, h.output, h.size, fun j hj _ => h.block j hj (by simp)⟩

theorem gb_of_below {w w1 : World} {r : Option Nat} (h : Below w.heap.size w w1) : w.grownBy w1 r := ⟨h.os, h.tape, h.output, h.size, fun j hj _ => h.block j hj⟩

theorem own_block {w : World} {base e size n : Nat} {v : Value} {xs : List Value} (h : Own w base e size v n xs) : ∀ k, ownB v = some k → ∃ cur, w.heap[k]? = some (.cells cur e (0, 0)) := by
  intro k hk
  rcases h.2 with ⟨a, rfl, _⟩ | ⟨g, cap, cur, rfl, hb, hg, _, h0, _⟩
  · cases a <;> simp [ownB] at hk
  · have : cap ≠ 0 := by omega
    simp [ownB, this] at hk
    subst hk
    exact ⟨cur, hg⟩

/-- Rows of unlike kinds are unlike rows. -/
theorem own_types {w : World} {b1 b2 e1 e2 s1 s2 n1 n2 : Nat} {v1 v2 : Value} {x1 x2 : List Value} (h1 : Own w b1 e1 s1 v1 n1 x1) (h2 : Own w b2 e2 s2 v2 n2 x2) (he : e1 ≠ e2) : ∀ k, ownB v1 = some k → ownB v2 ≠ some k := by
  intro k hk hk2
  obtain ⟨c1, h1⟩ := own_block h1 k hk
  obtain ⟨c2, h2⟩ := own_block h2 k hk2
  rw [h1] at h2
  simp only [Option.some.injEq, Obj.cells.injEq] at h2
  exact he h2.2.1

/-- What lies at the head of a slice that has grown in place. -/
theorem own_under {w w' : World} {base e n N : Nat} {v g : Value} {xs ys : List Value} (hv : Own w base e 1 v n xs) (hg : Own w base e 1 g N ys) (hs : ownB v = ownB g) (hn : n ≤ N) (hpre : ys.take n = xs) (hg' : Own w' base e 1 g N ys) : Own w' base e 1 v n xs := by
  refine ⟨hv.1, ?_⟩
  rcases hv.2 with h | ⟨b, cap, cur, rfl, hb, hh, h1, h0, h2, h3, h4⟩
  · exact .inl h
  · have hc : cap ≠ 0 := by omega
    have hob : ownB g = some b := by rw [← hs]; simp [ownB, hc]
    rcases hg.2 with ⟨a, rfl, _⟩ | ⟨b2, cap2, cur2, rfl, hb2, hh2, k1, k0, k2, k3, k4⟩
    · cases a <;> simp [ownB] at hob
    · have hc2 : cap2 ≠ 0 := by omega
      simp [ownB, hc2] at hob
      subst hob
      rw [hh] at hh2
      simp only [Option.some.injEq, Obj.cells.injEq] at hh2
      obtain ⟨rfl, _, _⟩ := hh2
      obtain rfl : cap2 = cap := by omega
      have ht := Own.take hg' n hn
      rw [Nat.mul_one, hpre] at ht
      exact ht.2

/-- g has grown out of v: v is still what it was; g lies where v lies, or in a block that was not there when w0 was. -/
structure Grow (w0 w : World) (base : Nat) (v g : Value) (l m : List UInt8) : Prop where
  old : OwnB w base v l
  new : OwnB w base g m
  pre : m.take l.length = l
  len : l.length ≤ m.length
  whr : ownB g = ownB v ∨ ∃ b, ownB g = some b ∧ w0.heap.size ≤ b
  all : w0.grownBy w (ownB v)

theorem Grow.start {w : World} {base : Nat} {v : Value} {l : List UInt8} (h : OwnB w base v l) : Grow w w base v v l l := ⟨h, h, List.take_length, Nat.le_refl _, .inl rfl, World.grownBy.refl _ _⟩

theorem Grow.alloc {w0 w : World} {base : Nat} {v g : Value} {l m : List UInt8} (h : Grow w0 w base v g l m) (o : Obj) : Grow w0 (w.alloc o) base v g l m :=
  ⟨h.old.alloc o, h.new.alloc o, h.pre, h.len, h.whr, gb_trans h.all (World.grownBy_alloc w o none) (.inr (fun b e => by cases e))⟩

theorem Grow.step {w0 w w' : World} {base : Nat} {v g g' : Value} {l m : List UInt8} (h : Grow w0 w base v g l m) (hv0 : ∀ k, ownB v = some k → k < w0.heap.size) (c : List UInt8) (hn : OwnB w' base g' (m ++ c)) (hg : w.grownBy w' (ownB g))
    (hch : ownB g' = ownB g ∨ ∃ b, ownB g' = some b ∧ w.heap.size ≤ b) (hold : OwnB w' base g m) : Grow w0 w' base v g' l (m ++ c) := by
  have hmp : (m.map b8).take l.length = l.map b8 := by rw [← List.map_take, h.pre]
  refine ⟨?_, hn, ?_, ?_, ?_, ?_⟩
  · rcases h.whr with e | ⟨b, e, hb⟩
    · exact own_under h.old h.new e.symm h.len hmp hold
    · refine Own.kept h.old hg fun k hk => ?_
      rw [e]
      intro e2
      have := hv0 k hk
      simp only [Option.some.injEq] at e2
      omega
  · rw [List.take_append_of_le_length h.len, h.pre]
  · rw [List.length_append]; have := h.len; omega
  · rcases hch with e | ⟨b, e, hb⟩
    · rw [e]; exact h.whr
    · exact .inr ⟨b, e, Nat.le_trans h.all.size hb⟩
  · refine gb_trans h.all hg ?_
    rcases h.whr with e | ⟨b, e, hb⟩
    · exact .inl e
    · refine .inr fun k hk => ?_
      rw [e] at hk
      simp only [Option.some.injEq] at hk
      omega

/-- What is owned beside it stays. -/
theorem Grow.other {w0 w : World} {base : Nat} {v g : Value} {l m : List UInt8} (h : Grow w0 w base v g l m) {base' e size n : Nat} {u : Value} {xs : List Value} (hu : Own w0 base' e size u n xs) (hne : ∀ k, ownB u = some k → ownB v ≠ some k) : Own w base' e size u n xs :=
  Own.kept hu h.all hne

section
variable {w : World} {ops : Array Oper} {rest : List Oper} {o : Oper} {a : Act} {Q : Exit → Act → World → Prop}

/-- append(out, bytes...), and what was appended to is still what it was. -/
theorem wpList_append_byt2 (hgd : o.guard = none) (s x : Operand)
    (ho : o.op = .call { callee := .builtin .append, args := #[s, x], argTypes := #[22, 22] })
    (base : Nat) (v : Value) (l : List UInt8) (hs : a.eval s = v) (hown : OwnB w base v l)
    (y : Value) (m : List UInt8) (hxe : a.eval x = y) (hx : Byt w y m) (hlen : l.length + m.length ≤ 140737488355328) (hbase : base ≤ w.heap.size)
    (h : ∀ v' w', OwnB w' base v' (l ++ m) → w.grownBy w' (ownB v) → (ownB v' = ownB v ∨ ∃ g, ownB v' = some g ∧ w.heap.size ≤ g) → OwnB w' base v l → wpList Try.prog ops Q rest (a.put o.dst v') w') : wpList Try.prog ops Q (o :: rest) a w :=
  wpList_append_rd2 w hgd s x 22 ho base 5 (.int .u8 0) 1 1 Try.underlying22 infoB rfl (by decide) v l.length (l.map b8) hs hown y m.length (m.map b8) hxe hx (b8_oneCell m)
    (by unfold maxLen; omega) (by omega) hbase fun v' w' h1 h2 h3 h4 => h v' w' (by simpa [OwnB] using h1) h2 h3 h4

end

/-- The slices vs, in rows of their own, hold the bytes ls. -/
structure Hold (w : World) (base : Nat) (vs : List Value) (ls : List (List UInt8)) : Prop where
  len : vs.length = ls.length
  own : ∀ i, i < ls.length → OwnB w base (vs.getD i (.slice none 0 0)) (ls.getD i [])

/-- They share no row. -/
def Parted (vs : List Value) : Prop := ∀ i j, i < vs.length → j < vs.length → i ≠ j → ∀ k, ownB (vs.getD i (.slice none 0 0)) = some k → ownB (vs.getD j (.slice none 0 0)) ≠ some k

theorem own_cell {w : World} {base e n : Nat} {g cap : Nat} {xs : List Value} (h : Own w base e 1 (.slice (some ⟨g, 0, none⟩) n cap) n xs) (i : Nat) (hi : i < n) : w.cell? ⟨g, i, none⟩ = some (xs.getD i (.slice none 0 0)) := by
  obtain ⟨a, c, e1, hl, _, _, h3⟩ := Own.rd h
  have hlt : i < xs.length := by omega
  obtain ⟨b, off, e2, hc⟩ := h3 i (xs.getD i (.slice none 0 0)) (by simp [List.getD, hlt])
  simp only [Value.slice.injEq] at e1
  rw [← e1.1] at e2
  cases e2
  rw [Nat.zero_add] at hc
  exact hc

theorem ownB_ne_below {w : World} {base e1 s1 n1 : Nat} {v1 v2 : Value} {x1 : List Value} (h1 : Own w base e1 s1 v1 n1 x1) (h2 : ∀ k, ownB v2 = some k → w.heap.size ≤ k) : ∀ k, ownB v1 = some k → ownB v2 ≠ some k := by
  intro k hk hk2
  have := (h1.lt k hk).2
  have := h2 k hk2
  omega
end Go.Proofs.Ytilanncobbdlfaa
