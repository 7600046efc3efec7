/-
  The kit of this seat's own lemmas: slices that are read (Rd, Byt), slices that the call itself has made (Own), and the builtin append over them. No condition; nothing of the program in sight.
-/
import Derived.WalkKit
import Derived.Lib.Hide
namespace Go.Proofs.Ytilanncobbdlfaa
open Go Go.RowKit

/-! ### Small words on worlds -/

theorem add0 (b o i : Nat) : (⟨b, o, none⟩ : Addr).add i = ⟨b, o + i, none⟩ := by
  unfold Addr.add; split <;> simp_all

theorem spot_of_cell {w : World} {a : Addr} {v : Value} (h : w.cell? a = some v) : a = ⟨a.block, a.off, none⟩ := by
  have := World.cell?_spot h
  cases a; simp_all

/-- A cell that is there lies in a block that is there. -/
theorem lt_of_cell {w : World} {a : Addr} {v : Value} (h : w.cell? a = some v) : a.block < w.heap.size := World.block_lt_of_cell? w a h

/-! ### A slice that is read -/

/-- The slice value v has n elements of 'size' cells each, and reads the cells xs. -/
def Rd (w : World) (size : Nat) (v : Value) (n : Nat) (xs : List Value) : Prop :=
  ∃ a cap, v = .slice a n cap ∧ xs.length = n * size ∧ n ≤ cap ∧ cap ≤ maxLen ∧
    ∀ j u, xs[j]? = some u → ∃ b off, a = some ⟨b, off, none⟩ ∧ w.cell? ⟨b, off + j, none⟩ = some u

theorem Rd.below {w w' : World} {size n B : Nat} {v : Value} {xs : List Value} (h : Rd w size v n xs) (hb : Below B w w') (hB : w.heap.size ≤ B) : Rd w' size v n xs := by
  obtain ⟨a, cap, h1, h2, h3, h4, h5⟩ := h
  refine ⟨a, cap, h1, h2, h3, h4, fun j u hj => ?_⟩
  obtain ⟨b, off, e, hc⟩ := h5 j u hj
  refine ⟨b, off, e, ?_⟩
  rw [hb.cell (p := ⟨b, off + j, none⟩) (Nat.lt_of_lt_of_le (lt_of_cell hc) hB)]
  exact hc

theorem Rd.nil (w : World) (size : Nat) : Rd w size (.slice none 0 0) 0 [] := ⟨none, 0, rfl, by simp, Nat.le_refl _, by unfold maxLen; omega, fun j u h => by simp at h⟩

/-- A new block, read from its head on. -/
theorem Rd.made (w : World) (size : Nat) (cs : Array Value) (e n cap : Nat) (fr : Nat × Nat) (hs : cs.size = cap * size) (hn : n ≤ cap) (hm : cap ≤ maxLen) :
    Rd (w.alloc (.cells cs e fr)) size (.slice (some ⟨w.heap.size, 0, none⟩) n cap) n (cs.toList.take (n * size)) := by
  refine ⟨_, cap, rfl, ?_, hn, hm, fun j u hj => ⟨w.heap.size, 0, rfl, ?_⟩⟩
  · rw [List.length_take, Array.length_toList, hs]
    exact Nat.min_eq_left (Nat.mul_le_mul_right _ hn)
  · rw [Nat.zero_add, cell_of_row _ w.heap.size j cs e fr (heap_alloc_new w _)]
    rw [List.getElem?_take] at hj
    split at hj
    · simpa using hj
    · cases hj

/-- A byte as a cell. -/
def b8 (c : UInt8) : Value := .int .u8 c.toNat

theorem b8_oneCell (l : List UInt8) : ∀ u ∈ l.map b8, u.oneCell' = true := by
  intro u hu
  obtain ⟨_, _, rfl⟩ := List.mem_map.1 hu
  rfl

/-- The slice value v reads the bytes l. -/
def Byt (w : World) (v : Value) (l : List UInt8) : Prop := Rd w 1 v l.length (l.map b8)

theorem Byt.below {w w' : World} {v : Value} {l : List UInt8} (h : Byt w v l) (hb : Below w.heap.size w w') : Byt w' v l := Rd.below h hb (Nat.le_refl _)
theorem Byt.nil (w : World) : Byt w (.slice none 0 0) [] := Rd.nil w 1

/-- OPENED: the value's shape, and each of its cells where it is asked for. -/
theorem Byt.open {w : World} {v : Value} {l : List UInt8} (h : Byt w v l) :
    ∃ a cap, v = .slice a l.length cap ∧ l.length ≤ cap ∧ cap ≤ maxLen ∧
      ∀ i, i < l.length → ∃ b off, a = some ⟨b, off, none⟩ ∧ w.cell? ⟨b, off + i, none⟩ = some (.int .u8 (l.getD i 0).toNat) := by
  obtain ⟨a, cap, h1, h2, h3, h4, h5⟩ := h
  refine ⟨a, cap, h1, h3, h4, fun i hi => ?_⟩
  obtain ⟨b, off, e, hc⟩ := h5 i (.int .u8 (l.getD i 0).toNat) (by simp [List.getD, hi, b8])
  exact ⟨b, off, e, hc⟩

theorem Byt.of {w : World} {a : Option Addr} {n cap : Nat} {l : List UInt8} (hn : n = l.length) (h1 : n ≤ cap) (h2 : cap ≤ maxLen)
    (h : ∀ i, i < l.length → ∃ b off, a = some ⟨b, off, none⟩ ∧ w.cell? ⟨b, off + i, none⟩ = some (.int .u8 (l.getD i 0).toNat)) : Byt w (.slice a n cap) l := by
  subst hn
  refine ⟨a, cap, rfl, by simp, h1, h2, fun j u hj => ?_⟩
  rw [List.getElem?_map] at hj
  obtain ⟨c, hc, rfl⟩ := Option.map_eq_some_iff.1 hj
  obtain ⟨hl, rfl⟩ := List.getElem?_eq_some_iff.1 hc
  obtain ⟨b, off, e, hcell⟩ := h j hl
  refine ⟨b, off, e, ?_⟩
  rw [hcell]
  simp [List.getD, hl, b8]

/-- A new row of bytes, written out. -/
theorem Byt.made (w : World) (l : List UInt8) (cs : Array Value) (e : Nat) (fr : Nat × Nat) (h : cs.toList = l.map b8) (hl : l.length ≤ maxLen) : Byt (w.alloc (.cells cs e fr)) (.slice (some ⟨w.heap.size, 0, none⟩) l.length l.length) l := by
  have hs : cs.size = l.length * 1 := by rw [← Array.length_toList, h]; simp
  have := Rd.made w 1 cs e l.length l.length fr hs (Nat.le_refl _) hl
  rw [h, List.take_of_length_le (by simp)] at this
  exact this

theorem Byt.one (w : World) (x : Int) (c : UInt8) (e : Nat) (h : x = (c.toNat : Int)) : Byt (w.alloc (.cells #[.int .u8 x] e)) (.slice (some ⟨w.heap.size, 0, none⟩) 1 1) [c] :=
  Byt.made w [c] _ e (0, 0) (by simp [b8, h]) (by unfold maxLen; simp)

theorem Byt.two (w : World) (x y : Int) (c d : UInt8) (e : Nat) (h : x = (c.toNat : Int)) (h' : y = (d.toNat : Int)) : Byt (w.alloc (.cells #[.int .u8 x, .int .u8 y] e)) (.slice (some ⟨w.heap.size, 0, none⟩) 2 2) [c, d] :=
  Byt.made w [c, d] _ e (0, 0) (by simp [b8, h, h']) (by unfold maxLen; simp)

/-! ### Bytes as a string -/

/-- The string of bytes. -/
def sOf (l : List UInt8) : ByteArray := ⟨l.toArray⟩

theorem sOf_inj {a b : List UInt8} (h : sOf a = sOf b) : a = b := by
  have := congrArg (fun s : ByteArray => s.data.toList) h
  simpa [sOf] using this

theorem sOf_beq (a b : List UInt8) : ((sOf a).toList == (sOf b).toList) = decide (a = b) := by
  rw [ByteArray.toList_eq, ByteArray.toList_eq]
  by_cases h : a = b <;> simp [sOf, h]

theorem sOf_toList (s : ByteArray) : sOf s.data.toList = s := by simp [sOf]

theorem run_tostring {P : Program} {w : World} {v : Value} {l : List UInt8} (h : Byt w v l) (src dst e : TypeId) (hs : P.underlying src = some (.slice e)) (he : P.underlying e = some (.int .u8))
    (hd : P.underlying dst = some .string) : (convert src dst v).run P w = .ok (.string (sOf l)) w := by
  obtain ⟨a, cap, rfl, _, _, hc⟩ := h.open
  rw [run_convert_bytes_string w src dst e _ _ cap hs he hd]
  cases a with
  | none =>
    have : l = [] := by
      cases l with
      | nil => rfl
      | cons c l => obtain ⟨_, _, e0, _⟩ := hc 0 (by simp); cases e0
    subst this
    simp [Conv.bytesToString, sOf]
    rfl
  | some a =>
    have hl : (loadCells a l.length).run P w = .ok ((l.map fun c => (c.toNat : Int)).map (Value.int .u8)).toArray w := by
      have := run_loadCells_list (P := P) w a (l.map b8) (fun j u hj => by
        rw [List.getElem?_map] at hj
        obtain ⟨c, hj', rfl⟩ := Option.map_eq_some_iff.1 hj
        obtain ⟨hlt, rfl⟩ := List.getElem?_eq_some_iff.1 hj'
        obtain ⟨b, off, e0, hcell⟩ := hc j hlt
        cases e0
        rw [add0, hcell]
        simp [List.getD, hlt, b8])
      rw [List.length_map] at this
      rw [this]
      simp [List.map_map, b8, Function.comp_def]
    rw [run_bytesToString w a _ cap _ hl, foldl_push_bytes]
    simp [sOf, ByteArray.empty, ByteArray.emptyWithCapacity, List.map_map, Function.comp_def]
    rfl

/-- The slice value v reads the slices of bytes ls. -/
def Byts (w : World) (v : Value) (ls : List (List UInt8)) : Prop :=
  ∃ a cap, v = .slice a ls.length cap ∧ ls.length ≤ cap ∧ cap ≤ maxLen ∧
    ∀ i, i < ls.length → ∃ b off u, a = some ⟨b, off, none⟩ ∧ w.cell? ⟨b, off + i, none⟩ = some u ∧ Byt w u (ls.getD i [])

theorem Byts.at {w : World} {a : Option Addr} {n cap : Nat} {ls : List (List UInt8)} (h : Byts w (.slice a n cap) ls) (k : Nat) (hk : k < ls.length) :
    ∃ b off u, a = some ⟨b, off, none⟩ ∧ w.cell? ⟨b, off + k, none⟩ = some u ∧ Byt w u (ls.getD k []) := by
  obtain ⟨a', cap', e, _, _, h3⟩ := h
  simp only [Value.slice.injEq] at e
  obtain ⟨rfl, _, rfl⟩ := e
  exact h3 k hk

theorem Byts.below {w w' : World} {v : Value} {ls : List (List UInt8)} (h : Byts w v ls) (hb : Below w.heap.size w w') : Byts w' v ls := by
  obtain ⟨a, cap, h1, h2, h3, h4⟩ := h
  refine ⟨a, cap, h1, h2, h3, fun i hi => ?_⟩
  obtain ⟨b, off, u, e, hc, hu⟩ := h4 i hi
  exact ⟨b, off, u, e, (hb.cell (p := ⟨b, off + i, none⟩) (lt_of_cell hc)).trans hc, hu.below hb⟩

/-! ### A slice that the call itself has made -/

/-- The block that v may write: none, where v has no room at all. -/
def ownB : Value → Option Nat
  | .slice (some a) _ cap => if cap = 0 then none else some a.block
  | _ => none

/-- The slice value v of n elements (of type e, 'size' cells each) owns the cells xs: it has no room at all, or it begins at the head of a row among the blocks from 'base' on, not frozen, whose first cells are xs. -/
def Own (w : World) (base : Nat) (e : TypeId) (size : Nat) (v : Value) (n : Nat) (xs : List Value) : Prop :=
  xs.length = n * size ∧
  ((∃ a, v = .slice a 0 0 ∧ n = 0) ∨
   ∃ g cap cur, v = .slice (some ⟨g, 0, none⟩) n cap ∧ base ≤ g ∧ w.heap[g]? = some (.cells cur e (0, 0)) ∧ n ≤ cap ∧ 0 < cap ∧ cap ≤ maxLen ∧ cur.size = cap * size ∧ cur.toList.take (n * size) = xs)

theorem Own.empty (w : World) (base : Nat) (e size : Nat) (a : Option Addr) : Own w base e size (.slice a 0 0) 0 [] := ⟨by simp, .inl ⟨a, rfl, rfl⟩⟩

theorem Own.len {w : World} {base e size n : Nat} {v : Value} {xs : List Value} (h : Own w base e size v n xs) : xs.length = n * size := h.1

theorem Own.shape {w : World} {base e size n : Nat} {v : Value} {xs : List Value} (h : Own w base e size v n xs) : ∃ a cap, v = .slice a n cap ∧ n ≤ cap ∧ cap ≤ maxLen := by
  rcases h.2 with ⟨a, rfl, rfl⟩ | ⟨g, cap, cur, rfl, _, _, h1, _, h2, _⟩
  · exact ⟨a, 0, rfl, Nat.le_refl _, by unfold maxLen; omega⟩
  · exact ⟨_, cap, rfl, h1, h2⟩

theorem Own.lt {w : World} {base e size n : Nat} {v : Value} {xs : List Value} (h : Own w base e size v n xs) : ∀ k, ownB v = some k → base ≤ k ∧ k < w.heap.size := by
  intro k hk
  rcases h.2 with ⟨a, rfl, _⟩ | ⟨g, cap, cur, rfl, hb, hg, _, h0, _⟩
  · cases a <;> simp [ownB] at hk
  · have : cap ≠ 0 := by omega
    simp [ownB, this] at hk
    subst hk
    exact ⟨hb, (Array.getElem?_eq_some_iff.1 hg).1⟩

theorem Own.kept {w w' : World} {base e size n : Nat} {v : Value} {xs : List Value} {row : Option Nat} (h : Own w base e size v n xs) (hg : w.grownBy w' row) (hne : ∀ k, ownB v = some k → row ≠ some k) : Own w' base e size v n xs := by
  refine ⟨h.1, ?_⟩
  rcases h.2 with hn | ⟨g, cap, cur, rfl, hb, hgg, h1, h0, h2⟩
  · exact .inl hn
  · refine .inr ⟨g, cap, cur, rfl, hb, ?_, h1, h0, h2⟩
    have hc : cap ≠ 0 := by omega
    rw [hg.block g (Array.getElem?_eq_some_iff.1 hgg).1 (fun e => hne g (by simp [ownB, hc]) e.symm)]
    exact hgg

/-- Behind a call that turns nothing of what was there. -/
theorem Own.below {w w' : World} {base e size n B : Nat} {v : Value} {xs : List Value} (h : Own w base e size v n xs) (hb : Below B w w') (hB : w.heap.size ≤ B) : Own w' base e size v n xs := by
  refine ⟨h.1, ?_⟩
  rcases h.2 with hn | ⟨g, cap, cur, rfl, hbg, hgg, h2⟩
  · exact .inl hn
  · refine .inr ⟨g, cap, cur, rfl, hbg, ?_, h2⟩
    rw [hb.block g (Nat.lt_of_lt_of_le (Array.getElem?_eq_some_iff.1 hgg).1 hB)]
    exact hgg

theorem Own.mono {w : World} {base base' e size n : Nat} {v : Value} {xs : List Value} (h : Own w base e size v n xs) (hb : base' ≤ base) : Own w base' e size v n xs := by
  refine ⟨h.1, ?_⟩
  rcases h.2 with hn | ⟨g, cap, cur, rfl, hbg, r⟩
  · exact .inl hn
  · exact .inr ⟨g, cap, cur, rfl, Nat.le_trans hb hbg, r⟩

theorem Own.alloc {w : World} {base e size n : Nat} {v : Value} {xs : List Value} (h : Own w base e size v n xs) (o : Obj) : Own (w.alloc o) base e size v n xs :=
  h.kept (World.grownBy_alloc w o none) (fun _ _ h => by cases h)

theorem Own.drew {w : World} {base e size n : Nat} {v : Value} {xs : List Value} (h : Own w base e size v n xs) : Own w.drew base e size v n xs := h

/-- What is owned is read. -/
theorem Own.rd {w : World} {base e size n : Nat} {v : Value} {xs : List Value} (h : Own w base e size v n xs) : Rd w size v n xs := by
  obtain ⟨hl, h⟩ := h
  rcases h with ⟨a, rfl, rfl⟩ | ⟨g, cap, cur, rfl, _, hg, h1, _, h2, h3, h4⟩
  · have : xs = [] := List.eq_nil_of_length_eq_zero (by simpa using hl)
    subst this
    exact ⟨a, 0, rfl, by simp, Nat.le_refl _, by unfold maxLen; omega, fun j u h => by simp at h⟩
  · refine ⟨_, cap, rfl, hl, h1, h2, fun j u hj => ⟨g, 0, rfl, ?_⟩⟩
    rw [Nat.zero_add, cell_of_row w g j cur e (0, 0) hg]
    rw [← h4, List.getElem?_take] at hj
    split at hj
    · simpa using hj
    · cases hj

/-- A new row, owned. -/
theorem Own.made (w : World) (base e size : Nat) (cs : Array Value) (n cap : Nat) (hb : base ≤ w.heap.size) (hs : cs.size = cap * size) (h0 : 0 < cap) (hn : n ≤ cap) (hm : cap ≤ maxLen) :
    Own (w.alloc (.cells cs e)) base e size (.slice (some ⟨w.heap.size, 0, none⟩) n cap) n (cs.toList.take (n * size)) := by
  refine ⟨?_, .inr ⟨w.heap.size, cap, cs, rfl, hb, heap_alloc_new w _, hn, h0, hm, hs, rfl⟩⟩
  rw [List.length_take, Array.length_toList, hs]
  exact Nat.min_eq_left (Nat.mul_le_mul_right _ hn)

/-- A beginning of what is owned, as a slice with the same room. -/
theorem Own.take {w : World} {base e size n : Nat} {a : Option Addr} {cap : Nat} {xs : List Value} (h : Own w base e size (.slice a n cap) n xs) (m : Nat) (hm : m ≤ n) :
    Own w base e size (.slice a m cap) m (xs.take (m * size)) := by
  obtain ⟨hl, h⟩ := h
  have hms : m * size ≤ n * size := Nat.mul_le_mul_right _ hm
  refine ⟨by rw [List.length_take, hl]; exact Nat.min_eq_left hms, ?_⟩
  rcases h with ⟨a', e1, rfl⟩ | ⟨g, cap', cur, e1, hb, hg, h1, h0, h2, h3, h4⟩
  · obtain rfl : m = 0 := by omega
    simp only [Value.slice.injEq] at e1
    obtain ⟨rfl, _, rfl⟩ := e1
    exact .inl ⟨a, rfl, rfl⟩
  · simp only [Value.slice.injEq] at e1
    obtain ⟨rfl, _, rfl⟩ := e1
    refine .inr ⟨g, cap, cur, rfl, hb, hg, by omega, h0, h2, h3, ?_⟩
    rw [← h4, List.take_take, Nat.min_eq_left hms]

/-- One cell of it written. -/
theorem Own.set {w : World} {base e n : Nat} {g cap : Nat} {xs : List Value} (h : Own w base e 1 (.slice (some ⟨g, 0, none⟩) n cap) n xs) (i : Nat) (hi : i < n) (u : Value) :
    Own (w.setCell ⟨g, i, none⟩ u) base e 1 (.slice (some ⟨g, 0, none⟩) n cap) n (xs.set i u) := by
  obtain ⟨hl, h⟩ := h
  refine ⟨by simpa using hl, ?_⟩
  rcases h with ⟨a', e1, rfl⟩ | ⟨g', cap', cur, e1, hb, hg, h1, h0, h2, h3, h4⟩
  · omega
  · simp only [Value.slice.injEq, Option.some.injEq, Addr.mk.injEq] at e1
    obtain ⟨⟨rfl, _⟩, _, rfl⟩ := e1
    refine .inr ⟨g, cap, cur.setIfInBounds i u, rfl, hb, ?_, h1, h0, h2, by simpa using h3, ?_⟩
    · simp only [World.setCell, Array.getElem?_modify, hg]
      simp
    · rw [← h4, Array.toList_setIfInBounds, List.take_set]

theorem Own.free {w : World} {base e n : Nat} {g cap : Nat} {xs : List Value} (h : Own w base e 1 (.slice (some ⟨g, 0, none⟩) n cap) n xs) (h0 : 0 < n) (i : Nat) : w.frozen? ⟨g, i, none⟩ = false := by
  obtain ⟨_, h⟩ := h
  rcases h with ⟨a', e1, rfl⟩ | ⟨g', cap', cur, e1, hb, hg, h1, _⟩
  · omega
  · simp only [Value.slice.injEq, Option.some.injEq, Addr.mk.injEq] at e1
    obtain ⟨⟨rfl, _⟩, _, rfl⟩ := e1
    simp [World.frozen?, hg]

/-- What has an element lies at the head of a block. -/
theorem Own.head {w : World} {base e size n : Nat} {v : Value} {xs : List Value} (h : Own w base e size v n xs) (h0 : 0 < n) : ∃ g cap, v = .slice (some ⟨g, 0, none⟩) n cap ∧ base ≤ g ∧ g < w.heap.size ∧ 0 < cap ∧ n ≤ cap ∧ cap ≤ maxLen := by
  rcases h.2 with ⟨a, rfl, rfl⟩ | ⟨g, cap, cur, rfl, hb, hg, h1, h2, h3, _⟩
  · omega
  · exact ⟨g, cap, rfl, hb, (Array.getElem?_eq_some_iff.1 hg).1, h2, h1, h3⟩

/-- The guide's own word on a row that is owned gives ours. -/
theorem Own.of_ownsRow {w : World} {base e size n : Nat} {v : Value} {xs : List Value} (h : w.ownsRow base e size v n xs) : Own w base e size v n xs := by
  refine ⟨h.1, ?_⟩
  rcases h.2 with ⟨rfl, rfl⟩ | ⟨g, cap, cur, rfl, hb, hg, h1, h2, h3, h4⟩
  · exact .inl ⟨none, rfl, rfl⟩
  · by_cases h0 : cap = 0
    · subst h0
      obtain rfl : n = 0 := by omega
      exact .inl ⟨_, rfl, rfl⟩
    · exact .inr ⟨g, cap, cur, rfl, hb, hg, h1, by omega, h2, h3, h4⟩

/-- Bytes that the call owns. -/
def OwnB (w : World) (base : Nat) (v : Value) (l : List UInt8) : Prop := Own w base 5 1 v l.length (l.map b8)

theorem OwnB.byt {w : World} {base : Nat} {v : Value} {l : List UInt8} (h : OwnB w base v l) : Byt w v l := Own.rd h
theorem OwnB.below {w w' : World} {base : Nat} {v : Value} {l : List UInt8} (h : OwnB w base v l) (hb : Below w.heap.size w w') : OwnB w' base v l := Own.below h hb (Nat.le_refl _)
theorem OwnB.mono {w : World} {base base' : Nat} {v : Value} {l : List UInt8} (h : OwnB w base v l) (hb : base' ≤ base) : OwnB w base' v l := Own.mono h hb
theorem OwnB.alloc {w : World} {base : Nat} {v : Value} {l : List UInt8} (h : OwnB w base v l) (o : Obj) : OwnB (w.alloc o) base v l := Own.alloc h o
theorem OwnB.empty (w : World) (base : Nat) (a : Option Addr) : OwnB w base (.slice a 0 0) [] := Own.empty w base _ 1 a

theorem OwnB.cell_some {w : World} {base g n cap : Nat} {l : List UInt8} (h : OwnB w base (.slice (some ⟨g, 0, none⟩) n cap) l) (i : Nat) (hi : i < l.length) : ∃ u, w.cell? ⟨g, i, none⟩ = some u := by
  obtain ⟨a, c, e, _, _, h3⟩ := h.byt.open
  obtain ⟨b, off, e2, hc⟩ := h3 i hi
  simp only [Value.slice.injEq] at e
  rw [← e.1] at e2
  cases e2
  rw [Nat.zero_add] at hc
  exact ⟨_, hc⟩

theorem OwnB.cell_at {w : World} {base g n cap : Nat} {l : List UInt8} (h : OwnB w base (.slice (some ⟨g, 0, none⟩) n cap) l) (i : Nat) (hi : i < l.length) : w.cell? ⟨g, i, none⟩ = some (.int .u8 (l.getD i 0).toNat) := by
  obtain ⟨a, c, e, _, _, h3⟩ := h.byt.open
  obtain ⟨b, off, e2, hc⟩ := h3 i hi
  simp only [Value.slice.injEq] at e
  rw [← e.1] at e2
  cases e2
  rw [Nat.zero_add] at hc
  exact hc

theorem OwnB.len {w : World} {base n cap : Nat} {a : Option Addr} {l : List UInt8} (h : OwnB w base (.slice a n cap) l) : n = l.length := by
  obtain ⟨a', c', e, _⟩ := Own.shape h
  simp only [Value.slice.injEq] at e
  exact e.2.1

/-- One byte of it written. -/
theorem OwnB.set {w : World} {base g n cap : Nat} {l : List UInt8} (h : OwnB w base (.slice (some ⟨g, 0, none⟩) n cap) l) (i : Nat) (hi : i < n) (c : UInt8) (x : Int) (hx : x = (c.toNat : Int)) :
    OwnB (w.setCell ⟨g, i, none⟩ (.int .u8 x)) base (.slice (some ⟨g, 0, none⟩) n cap) (l.set i c) := by
  subst hx
  have e := h.len
  subst e
  have := Own.set h i hi (.int .u8 (c.toNat : Int))
  unfold OwnB
  rw [List.length_set, List.map_set]
  exact this

theorem OwnB.free {w : World} {base g n cap : Nat} {l : List UInt8} (h : OwnB w base (.slice (some ⟨g, 0, none⟩) n cap) l) (h0 : 0 < n) (i : Nat) : w.frozen? ⟨g, i, none⟩ = false := by
  have e := h.len
  subst e
  exact Own.free h h0 i

/-- Where a slice's whole is owned, a beginning of it is read. -/
theorem Byt.take {w : World} {a : Option Addr} {n cap : Nat} {l : List UInt8} (h : Byt w (.slice a n cap) l) (m : Nat) (hm : m ≤ l.length) : Byt w (.slice a m cap) (l.take m) := by
  obtain ⟨a', cap', e1, h1, h2, h3⟩ := h.open
  simp only [Value.slice.injEq] at e1
  obtain ⟨rfl, _, rfl⟩ := e1
  refine Byt.of (by rw [List.length_take]; omega) (by omega) h2 fun i hi => ?_
  rw [List.length_take] at hi
  obtain ⟨b, off, e, hc⟩ := h3 i (by omega)
  refine ⟨b, off, e, ?_⟩
  rw [hc]
  simp [List.getD, show i < m by omega]

theorem bits_xor8 (c d : UInt8) : bits .xor .u8 (c.toNat : Int) (d.toNat : Int) = ((c ^^^ d).toNat : Int) := by
  have h1 : ∀ z : UInt8, BitVec.ofInt IntKind.u8.bits (z.toNat : Int) = z.toBitVec := by
    intro z
    apply BitVec.eq_of_toNat_eq
    have := z.toNat_lt
    rw [BitVec.toNat_ofInt]
    simp [IntKind.bits]
    omega
  simp only [bits, h1]
  rw [IntKind.wrap_u8]
  have h2 := (c ^^^ d).toNat_lt
  show (((c.toBitVec ^^^ d.toBitVec).toNat : Int)) % 256 = _
  rw [show (c.toBitVec ^^^ d.toBitVec).toNat = (c ^^^ d).toNat from rfl]
  omega

/-- A contract on the world that stays, said the other way round (for a region that draws its order). -/
theorem calls_still {P : Program} {f : FuncId} {args : Array Value} {w : World} {v : Value} (h : Calls P f args w fun e w' => e = .returned v ∧ w = w') : Calls P f args w fun e w' => e = .returned v ∧ w' = w :=
  h.mono fun _ _ ⟨a, b⟩ => ⟨a, b.symm⟩

/-! ### append -/

section
variable {P : Program} (w : World)

theorem append_rd (base : Nat) (t ty e : TypeId) (i : TypeInfo) (z : Value) (size bytes : Nat) (ht : P.underlying t = some (.slice e)) (hi : P.info? e = some i) (hz : i.zero = some z)
    (hsize : i.size = size) (hby : i.bytes = bytes) (hzs : z.cells.size = size) (hsz : 0 < size)
    (v : Value) (n : Nat) (xs : List Value) (hown : Own w base e size v n xs)
    (x : Value) (m : Nat) (news : List Value) (hx : Rd w size x m news) (h1 : ∀ u ∈ news, u.oneCell' = true)
    (h63 : n + m ≤ maxLen) (hbytes : (n + m) * bytes ≤ 140737488355328) (hbase : base ≤ w.heap.size) :
    ∃ v' w', (Builtin.append_ #[t, t] ty #[v, x]).run P w = .ok v' w' ∧ Own w' base e size v' (n + m) (xs ++ news) ∧ w.grownBy w' (ownB v) ∧
      (ownB v' = ownB v ∨ ∃ g, ownB v' = some g ∧ w.heap.size ≤ g) ∧ (n + m = 0 → v' = v) ∧ Own w' base e size v n xs := by
  subst hsize
  subst hby
  obtain ⟨ax, mc, rfl, hl, hmc, hmm, hnews⟩ := hx
  have hsmall : n + m ≤ 9223372036854775807 := by simp only [maxLen] at h63; omega
  have hlen : (xs ++ news).length = (n + m) * i.size := by rw [List.length_append, hown.1, hl, Nat.add_mul]
  have grown : ∀ (old : Nat), old < n + m → ∀ (row : Option Nat),
      Own (w.drew.alloc (.cells (xs.toArray ++ news.toArray ++ Builtin.zeroCells z.cells (grownCap w (n + m) old e - (n + m))) e)) base e i.size
        (.slice (some ⟨w.heap.size, 0, none⟩) (n + m) (grownCap w (n + m) old e)) (n + m) (xs ++ news) ∧
      w.grownBy (w.drew.alloc (.cells (xs.toArray ++ news.toArray ++ Builtin.zeroCells z.cells (grownCap w (n + m) old e - (n + m))) e)) row := by
    intro old ho row
    have hge := grownCap_ge w (n + m) old e
    have hcm : grownCap w (n + m) old e ≤ maxLen := grownCap_le_maxLen w (n + m) old e h63
    refine ⟨⟨hlen, .inr ⟨w.heap.size, _, _, rfl, hbase, heap_alloc_new w.drew _, hge, by omega, hcm, ?_, ?_⟩⟩, ⟨rfl, rfl, rfl, by simp, fun k hk _ => Below.heap_alloc w.drew _ k hk⟩⟩
    · simp only [Array.size_append, List.size_toArray, size_zeroCells, hzs, hown.1, hl, ← Nat.add_mul]
      congr 1
      omega
    · simp only [Array.toList_append, List.append_assoc]
      rw [← List.append_assoc, ← hlen]
      exact List.take_left
  by_cases hm : m = 0
  · -- nothing is appended
    subst hm
    have hn0 : news = [] := List.eq_nil_of_length_eq_zero (by simpa using hl)
    subst hn0
    obtain ⟨a, cap, rfl, hnc, hcm⟩ := hown.shape
    refine ⟨.slice a n cap, w, ?_, by simpa using hown, World.grownBy.refl _ _, .inl rfl, fun _ => rfl, hown⟩
    cases a <;> cases ax <;> simp [Builtin.append_, run_underlying ht, sizeOf, typeInfo, hi, Builtin.lenOf, hnc, Builtin.firstCells, loadCells, loadCellsFrom, storeCells]
  · -- something is: its address is there
    obtain ⟨ad, rfl⟩ : ∃ ad, ax = some ad := by
      have hp : 0 < news.length := by rw [hl]; exact Nat.mul_pos (by omega) hsz
      obtain ⟨b, off, e0, _⟩ := hnews 0 news[0] (by simp [hp])
      exact ⟨_, e0⟩
    have hnews' : ∀ j u, news[j]? = some u → w.cell? (ad.add j) = some u := by
      intro j u hj
      obtain ⟨b, off, e0, hc⟩ := hnews j u hj
      cases e0
      rw [add0]
      exact hc
    rcases hown.2 with ⟨a, rfl, rfl⟩ | ⟨g, cap, cur, rfl, hbg, hg, hnc, h0, hcm, hcs, htake⟩
    · have hxs : xs = [] := List.eq_nil_of_length_eq_zero (by simpa using hown.1)
      subst hxs
      have hgr := grown 0 (by omega) (ownB (.slice a 0 0))
      have hcap : grownCap w m 0 e ≠ 0 := by have := grownCap_ge w m 0 e; omega
      refine ⟨_, _, ?_, hgr.1, hgr.2, .inr ⟨w.heap.size, by simp [ownB, hcap], Nat.le_refl _⟩, fun h => by omega, Own.empty _ _ _ _ _⟩
      cases a with
      | none =>
        have hr := run_append_nil (P := P) w t ty e i z ht hi hz ad m mc news hl hnews' (by omega) (by omega) (by simp only [Nat.zero_add] at hbytes; omega)
        simpa using hr
      | some a =>
        have hr := run_append_grow (P := P) w t ty e i z ht hi hz a 0 0 [] (by simp) (fun j u h => by simp at h) ad m mc news hl hnews' (by omega) (by omega) (growslice_fits (by omega) hbytes)
        exact hr
    · by_cases hroom : n + m ≤ cap
      · have hfit : n * i.size + news.length ≤ cur.size := by rw [hl, hcs, ← Nat.add_mul]; exact Nat.mul_le_mul_right _ hroom
        have hr := run_append_room (P := P) w t ty e i ht hi g n cap cur hg ad m mc news hl hnews' h1 hroom hfit
        have hc0 : cap ≠ 0 := by omega
        refine ⟨_, _, hr, ⟨hlen, .inr ⟨g, cap, _, rfl, hbg, setRow_heap w g cur _ e _ hg, hroom, h0, hcm, ?_, ?_⟩⟩, ⟨rfl, rfl, rfl, by simp, fun k _ hk => setRow_other w g k _ (fun e => hk (by simp [ownB, e, hc0]))⟩, .inl (by simp [ownB]), fun h => by omega, ?_⟩
        · simp only [List.size_toArray, List.length_append, List.length_take, List.length_drop, Array.length_toList]
          omega
        · rw [htake, ← hlen]
          exact List.take_left
        · refine ⟨hown.1, .inr ⟨g, cap, _, rfl, hbg, setRow_heap w g cur _ e _ hg, hnc, h0, hcm, ?_, ?_⟩⟩
          · simp only [List.size_toArray, List.length_append, List.length_take, List.length_drop, Array.length_toList]
            omega
          · rw [htake, ← hown.1, List.append_assoc]
            exact List.take_left
      · have holds : ∀ j u, xs[j]? = some u → w.cell? ((⟨g, 0, none⟩ : Addr).add j) = some u := by
          intro j u hj
          obtain ⟨a', cap', e1, _, _, _, h5⟩ := hown.rd
          obtain ⟨b, off, e2, hc⟩ := h5 j u hj
          cases e1
          cases e2
          rw [add0]
          exact hc
        have hr := run_append_grow (P := P) w t ty e i z ht hi hz ⟨g, 0, none⟩ n cap xs hown.1 holds ad m mc news hl hnews' (by omega) (by omega) (growslice_fits (by omega) hbytes)
        have hgr := grown cap (by omega) (ownB (.slice (some ⟨g, 0, none⟩) n cap))
        have hcap : grownCap w (n + m) cap e ≠ 0 := by have := grownCap_ge w (n + m) cap e; omega
        exact ⟨_, _, hr, hgr.1, hgr.2, .inr ⟨w.heap.size, by simp [ownB, hcap], Nat.le_refl _⟩, fun h => by omega, hown.drew.alloc _⟩

/-- THE WALK's LAW: append of whatever slice that can be read, to one that the call owns. -/
theorem wpList_append_rd {ops : Array Oper} {rest : List Oper} {o : Oper} {a : Act} {Q : Exit → Act → World → Prop} (hgd : o.guard = none) (s x : Operand) (t : TypeId)
    (ho : o.op = .call { callee := .builtin .append, args := #[s, x], argTypes := #[t, t] })
    (base : Nat) (e : TypeId) (z : Value) (size bytes : Nat) (ht : P.underlying t = some (.slice e)) (hi : (P.info? e).map (fun i => (i.zero, i.size, i.bytes)) = some (some z, size, bytes)) (hzs : z.cells.size = size) (hsz : 0 < size)
    (v : Value) (n : Nat) (xs : List Value) (hs : a.eval s = v) (hown : Own w base e size v n xs)
    (y : Value) (m : Nat) (news : List Value) (hxe : a.eval x = y) (hx : Rd w size y m news) (h1 : ∀ u ∈ news, u.oneCell' = true)
    (h63 : n + m ≤ maxLen) (hbytes : (n + m) * bytes ≤ 140737488355328) (hbase : base ≤ w.heap.size)
    (h : ∀ v' w', Own w' base e size v' (n + m) (xs ++ news) → w.grownBy w' (ownB v) → (ownB v' = ownB v ∨ ∃ g, ownB v' = some g ∧ w.heap.size ≤ g) → (n + m = 0 → v' = v) → wpList P ops Q rest (a.put o.dst v') w') : wpList P ops Q (o :: rest) a w := by
  refine wpList_plain hgd fun K hK => ?_
  obtain ⟨i, hi, hz, hi2, hi3⟩ := info_parts hi
  obtain ⟨v', w', hr, h2, h3, h4, h5, _⟩ := append_rd (P := P) w base t o.type e i z size bytes ht hi hz hi2 hi3 hzs hsz v n xs hown y m news hx h1 h63 hbytes hbase
  unfold Oper.wp execOp
  simp only [ho, resolve, invoke, builtin, Sem.run_bind, Sem.run_pure, Result.andThen_ok, List.map_toArray, List.map_cons, List.map_nil, hs, hxe, hr]
  exact hK _ _ (h v' w' h2 h3 h4 h5)

/-- The same, and what was appended to is still what it was. -/
theorem wpList_append_rd2 {ops : Array Oper} {rest : List Oper} {o : Oper} {a : Act} {Q : Exit → Act → World → Prop} (hgd : o.guard = none) (s x : Operand) (t : TypeId)
    (ho : o.op = .call { callee := .builtin .append, args := #[s, x], argTypes := #[t, t] })
    (base : Nat) (e : TypeId) (z : Value) (size bytes : Nat) (ht : P.underlying t = some (.slice e)) (hi : (P.info? e).map (fun i => (i.zero, i.size, i.bytes)) = some (some z, size, bytes)) (hzs : z.cells.size = size) (hsz : 0 < size)
    (v : Value) (n : Nat) (xs : List Value) (hs : a.eval s = v) (hown : Own w base e size v n xs)
    (y : Value) (m : Nat) (news : List Value) (hxe : a.eval x = y) (hx : Rd w size y m news) (h1 : ∀ u ∈ news, u.oneCell' = true)
    (h63 : n + m ≤ maxLen) (hbytes : (n + m) * bytes ≤ 140737488355328) (hbase : base ≤ w.heap.size)
    (h : ∀ v' w', Own w' base e size v' (n + m) (xs ++ news) → w.grownBy w' (ownB v) → (ownB v' = ownB v ∨ ∃ g, ownB v' = some g ∧ w.heap.size ≤ g) → Own w' base e size v n xs → wpList P ops Q rest (a.put o.dst v') w') : wpList P ops Q (o :: rest) a w := by
  refine wpList_plain hgd fun K hK => ?_
  obtain ⟨i, hi, hz, hi2, hi3⟩ := info_parts hi
  obtain ⟨v', w', hr, h2, h3, h4, _, h6⟩ := append_rd (P := P) w base t o.type e i z size bytes ht hi hz hi2 hi3 hzs hsz v n xs hown y m news hx h1 h63 hbytes hbase
  unfold Oper.wp execOp
  simp only [ho, resolve, invoke, builtin, Sem.run_bind, Sem.run_pure, Result.andThen_ok, List.map_toArray, List.map_cons, List.map_nil, hs, hxe, hr]
  exact hK _ _ (h v' w' h2 h3 h4 h6)
end

end Go.Proofs.Ytilanncobbdlfaa
