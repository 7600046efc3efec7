/-
  Lists that a law is handed: opened to their kinds, items and bytes; and how much they read.
-/
import Derived.Test.YtilanncobbdlfaaGid
import Derived.Test.YtilanncobbdlfaaSg1
import Derived.Lib.SmallJoins
namespace Go.Proofs.Ytilanncobbdlfaa
open Go Go.RowKit Go.ChangeShapes Go.WideShapes Go.ChangeAt Go.Deep

theorem bulk_pos {H : Type} (d : DataW H) : 1 ≤ Rows.uptoBulk d := by
  cases d with
  | lit x => cases x <;> simp only [Rows.uptoBulk] <;> omega
  | nil => simp only [Rows.uptoBulk]; omega
  | ptr d => simp only [Rows.uptoBulk]; omega
  | slice a b => simp only [Rows.uptoBulk]; omega
  | agg a => simp only [Rows.uptoBulk]; omega
  | iface a d => simp only [Rows.uptoBulk]; omega
  | map a => simp only [Rows.uptoBulk]; omega
  | held a => simp only [Rows.uptoBulk]; omega
theorem bulk_le {H : Type} (c : Nat) : ∀ l : List (DataW H), (∀ d ∈ l, c ≤ Rows.uptoBulk d) → l.length * c ≤ Rows.uptoBulkAll l
  | [], _ => by simp
  | d :: l, h => by
    have h1 := h d (by simp)
    have h2 := bulk_le c l (fun x hx => h x (by simp [hx]))
    simp only [Rows.uptoBulkAll, List.length_cons, Nat.add_mul]
    omega
theorem bulk_mem {H : Type} : ∀ {l : List (DataW H)} {d : DataW H}, d ∈ l → Rows.uptoBulk d ≤ Rows.uptoBulkAll l
  | d :: l, x, h => by
    simp only [Rows.uptoBulkAll]
    rcases List.mem_cons.1 h with rfl | h
    · omega
    · have := bulk_mem h; omega
theorem slice_bulk {H : Type} {enc : TypeId × Value → H} {W : World} {base : Nat} {sp : Nat → Bool} {held : Bool} {fuel : Nat} {T E : TypeId} {a : Option Addr} {len cap : Nat} {y : DataW H × List MemPlace}
    (hT : Try.prog.underlying T = some (.slice E)) (hE : Try.prog.underlying E = some (.int .u8)) (hc : Try.prog.cellsOf E = 1)
    (hf : DataW.trod enc Try.prog W base sp held fuel T (Value.slice a len cap).cells.toList = some y) : len ≤ Rows.uptoBulk y.1 := by
  rcases open_ints hT hE hc hf with ⟨hcs, _⟩ | ⟨x, l, c, zs, hcs, _, hl, hm, hz, hx, _, _⟩
  · simp [Value.cells] at hcs
    omega
  · simp [Value.cells] at hcs
    obtain ⟨rfl, rfl, rfl⟩ := hcs
    subst hx
    have hzl : len ≤ zs.length := by rw [hz]; split <;> omega
    have h1 := bulk_le 1 (lits (H := H) .u8 (zs.take len)) (fun d _ => bulk_pos d)
    have h2 : (lits (H := H) .u8 (zs.take len)).length = len := by unfold lits; rw [List.length_map, List.length_take]; omega
    simp only [Rows.uptoBulk]
    omega

instance : Inhabited ItV := ⟨⟨[], [], .slice none 0 0⟩⟩
instance : Inhabited LiV := ⟨⟨0, [], .slice none 0 0⟩⟩

/-- An item, as its cells. -/
theorem item_cells {H : Type} {enc : TypeId × Value → H} {w : World} {base fuel : Nat} {spare : Nat → Bool} {held : Bool} {cs : List Value} {x : DataW H × List MemPlace}
    (hf : DataW.trod enc Try.prog w base spare held fuel 49 cs = some x) : ∃ y : ItV, cs = itC y ∧ y.o.length = 16 ∧ Byt w y.v y.d ∧ y.d.length ≤ Rows.uptoBulk x.1 := by
  have hs := Try.underlying49
  have hC : Try.prog.cellsOf 49 = 17 := by kernel_rfl
  obtain ⟨xs, n, _, hx, hsz, hlen, hg⟩ := DataW.trod_struct hs hf
  rw [hC] at hsz
  match xs, hlen with
  | [y0, y1], _ =>
    have t0 : DataW.trod enc Try.prog w base spare held n 47 ((cs.drop 0).take 16) = some y0 := by
      rw [← show Try.prog.cellsOf 47 = 16 by kernel_rfl]
      exact hg 0 _ rfl
    have t1 : DataW.trod enc Try.prog w base spare held n 22 ((cs.drop 16).take 1) = some y1 := by
      rw [← show Try.prog.cellsOf 22 = 1 by kernel_rfl]
      exact hg 1 _ rfl
    obtain ⟨g, lg, e0⟩ := bytes_cells Try.underlying47 Try.underlying5 (by kernel_rfl) (by kernel_rfl) t0
    obtain ⟨a1, n1, c1, e1⟩ := Go.Joins.slice_form Try.underlying22 t1
    rw [e1] at t1
    obtain ⟨l1, hl1, b1⟩ := byt_in Try.underlying22 Try.underlying5 (by kernel_rfl) (a := a1) (len := n1) (cap := c1) t1
    have hb1 := slice_bulk Try.underlying22 Try.underlying5 (by kernel_rfl) (a := a1) (len := n1) (cap := c1) t1
    refine ⟨⟨g, l1, .slice a1 n1 c1⟩, ?_, lg, b1, ?_⟩
    · have hcat : cs = (cs.drop 0).take 16 ++ (cs.drop 16).take 1 := by
        rw [List.drop_zero, List.take_of_length_le (by rw [List.length_drop]; omega : (cs.drop 16).length ≤ 1), List.take_append_drop]
      rw [hcat, e0, e1]
      rfl
    · rw [hx]
      simp only [List.map_cons, List.map_nil, Rows.uptoBulk, Rows.uptoBulkAll]
      show l1.length ≤ _
      omega

/-- The rows of a slice, laid end to end. -/
theorem rd_of_rows {α : Type} [Inhabited α] {w : World} {base size len cap : Nat} {a : Addr} {f : α → List Value} (R : Nat → α) (hs : 0 < size) (hl : len ≤ cap) (hm : cap ≤ maxLen)
    (h : ∀ i, i < len → w.cells? base (a.add (i * size)) size = some (f (R i))) : Rd w size (.slice (some a) len cap) len (((List.range len).map R).flatMap f) := by
  have hlen : ∀ i, i < len → (f (R i)).length = size := fun i hi => (World.cells?_some (h i hi)).2.1
  have hfl : ∀ x ∈ (List.range len).map R, (f x).length = size := by
    intro x hx
    obtain ⟨i, hi, rfl⟩ := List.mem_map.1 hx
    exact hlen i (List.mem_range.1 hi)
  refine ⟨some a, cap, rfl, by rw [chunk_length f size _ hfl]; simp, hl, hm, fun j u hj => ?_⟩
  have hjl := (List.getElem?_eq_some_iff.1 hj).1
  rw [chunk_length f size _ hfl, List.length_map, List.length_range] at hjl
  have hi : j / size < len := by rw [Nat.div_lt_iff_lt_mul hs]; exact hjl
  have hr : j % size < size := Nat.mod_lt _ hs
  have e : j / size * size + j % size = j := by rw [Nat.mul_comm]; exact Nat.div_add_mod j size
  rw [← e, chunk_at f size _ hfl (j / size) (j % size) (R (j / size)) (by simp [hi]) hr] at hj
  have hc := (World.cells?_some (h (j / size) hi)).2.2 (j % size) hr
  rw [hj, Deep.add_add, e] at hc
  have hl0 : 0 < len := Nat.lt_of_le_of_lt (Nat.zero_le _) hi
  obtain ⟨b, off, sp⟩ := a
  have hsp : sp = none := by
    have hc0 := (World.cells?_some (h 0 hl0)).2.2 0 hs
    rw [List.getElem?_eq_getElem (by rw [hlen 0 hl0]; exact hs), Deep.add_add, Nat.zero_mul, Nat.add_zero] at hc0
    have h9 := congrArg Addr.spot (spot_of_cell hc0)
    unfold Addr.add at h9
    rw [if_pos rfl] at h9
    exact h9
  subst hsp
  refine ⟨b, off, rfl, ?_⟩
  rw [add0] at hc
  exact hc

theorem items_in {H : Type} {enc : TypeId × Value → H} {W : World} {base : Nat} {sp : Nat → Bool} {held : Bool} {fuel : Nat} {a : Option Addr} {len cap : Nat} {y : DataW H × List MemPlace}
    (hf : DataW.trod enc Try.prog W base sp held fuel 37 [Value.slice a len cap] = some y) : ∃ xs : List ItV, Its W (.slice a len cap) xs ∧ xs.length * 3 ≤ Rows.uptoBulk y.1 ∧ ∀ x ∈ xs, x.d.length ≤ Rows.uptoBulk y.1 := by
  have hC : Try.prog.cellsOf 49 = 17 := by kernel_rfl
  rcases Deep.open_slice Try.underlying37 hf with ⟨hcs, _⟩ | ⟨x, l, c, m, n, D, Pl, hcs, _, hl, hm, hmm, hy, hV⟩
  · simp only [List.cons.injEq, Value.slice.injEq, and_true] at hcs
    obtain ⟨rfl, rfl, rfl⟩ := hcs
    exact ⟨[], Its.nil _, by simp, fun x hx => by simp at hx⟩
  · simp only [List.cons.injEq, Value.slice.injEq, and_true] at hcs
    obtain ⟨rfl, rfl, rfl⟩ := hcs
    have hlm : len ≤ m := by rw [hmm]; split <;> omega
    have hel : ∀ i, i < len → ∃ z : ItV, W.cells? base (x.add (i * 17)) 17 = some (itC z) ∧ z.o.length = 16 ∧ Byt W z.v z.d ∧ z.d.length ≤ Rows.uptoBulk (D i) := by
      intro i hi
      obtain ⟨cs', h1, h2⟩ := hV i (by omega)
      obtain ⟨z, rfl, h3, h4, h5⟩ := item_cells h2
      rw [hC] at h1
      exact ⟨z, h1, h3, h4, h5⟩
    obtain ⟨R, hR⟩ := Deep.choose_lt hel
    have hmem : ∀ x ∈ (List.range len).map R, ∃ i, i < len ∧ R i = x := fun x hx => by
      obtain ⟨i, hi, e⟩ := List.mem_map.1 hx
      exact ⟨i, List.mem_range.1 hi, e⟩
    have hb : Rows.uptoBulkAll ((List.range len).map D) + 1 ≤ Rows.uptoBulk y.1 := by
      rw [hy]
      simp only [Rows.uptoBulk]
      omega
    refine ⟨(List.range len).map R, ⟨?_, fun x hx => ?_, fun x hx => ?_⟩, ?_, fun x hx => ?_⟩
    · show Rd W 17 _ ((List.range len).map R).length (((List.range len).map R).flatMap itC)
      rw [List.length_map, List.length_range]
      exact rd_of_rows (f := itC) R (by omega) hl hm (fun i hi => (hR i hi).1)
    · obtain ⟨i, hi, rfl⟩ := hmem x hx
      exact (hR i hi).2.1
    · obtain ⟨i, hi, rfl⟩ := hmem x hx
      exact (hR i hi).2.2.1
    · have h3 := bulk_le 3 ((List.range len).map D) (fun d hd => by
        obtain ⟨i, hi, rfl⟩ := List.mem_map.1 hd
        obtain ⟨cs', h1, h2⟩ := hV i (by have := List.mem_range.1 hi; omega)
        obtain ⟨ws, q, _, hx, _, hlen, _⟩ := DataW.trod_struct Try.underlying49 h2
        match ws, hlen with
        | [u0, u1], _ =>
          have e : D i = .agg [u0.1, u1.1] := congrArg Prod.fst hx
          have p0 := bulk_pos u0.1
          have p1 := bulk_pos u1.1
          rw [e]
          simp only [Rows.uptoBulk, Rows.uptoBulkAll]
          omega)
      simp only [List.length_map, List.length_range] at h3 ⊢
      omega
    · obtain ⟨i, hi, rfl⟩ := hmem x hx
      have h5 := (hR i hi).2.2.2
      have h6 := bulk_mem (List.mem_map.2 ⟨i, List.mem_range.2 hi, rfl⟩ : D i ∈ (List.range len).map D)
      omega

/-- A list, as its cells. -/
theorem list_cells {H : Type} {enc : TypeId × Value → H} {w : World} {base fuel : Nat} {spare : Nat → Bool} {held : Bool} {cs : List Value} {x : DataW H × List MemPlace}
    (hf : DataW.trod enc Try.prog w base spare held fuel 39 cs = some x) : ∃ y : LiV, cs = liC y ∧ (0 ≤ y.k ∧ y.k ≤ 255) ∧ Its w y.v y.i ∧ y.i.length * 3 ≤ Rows.uptoBulk x.1 ∧ ∀ z ∈ y.i, z.d.length ≤ Rows.uptoBulk x.1 := by
  have hs := Try.underlying39
  have hC : Try.prog.cellsOf 39 = 2 := by kernel_rfl
  obtain ⟨xs, n, _, hx, hsz, hlen, hg⟩ := DataW.trod_struct hs hf
  rw [hC] at hsz
  match xs, hlen with
  | [y0, y1], _ =>
    have t0 : DataW.trod enc Try.prog w base spare held n 5 ((cs.drop 0).take 1) = some y0 := by
      rw [← show Try.prog.cellsOf 5 = 1 by kernel_rfl]
      exact hg 0 _ rfl
    have t1 : DataW.trod enc Try.prog w base spare held n 37 ((cs.drop 1).take 1) = some y1 := by
      rw [← show Try.prog.cellsOf 37 = 1 by kernel_rfl]
      exact hg 1 _ rfl
    obtain ⟨k, e0, _, w0⟩ := DataW.trod_int Try.underlying5 t0
    obtain ⟨a1, n1, c1, e1⟩ := Go.Joins.slice_form Try.underlying37 t1
    rw [e1] at t1
    obtain ⟨is, h1, h2, h3⟩ := items_in t1
    have hb : Rows.uptoBulk y1.1 ≤ Rows.uptoBulk x.1 := by
      rw [hx]
      simp only [List.map_cons, List.map_nil, Rows.uptoBulk, Rows.uptoBulkAll]
      omega
    refine ⟨⟨k, is, .slice a1 n1 c1⟩, ?_, bounds_u8 w0, h1, by show is.length * 3 ≤ _; omega, fun z hz => by have := h3 z hz; omega⟩
    have hcat : cs = (cs.drop 0).take 1 ++ (cs.drop 1).take 1 := by
      rw [List.drop_zero, List.take_of_length_le (by rw [List.length_drop]; omega : (cs.drop 1).length ≤ 1), List.take_append_drop]
    rw [hcat, e0, e1]
    rfl

theorem lists_in {H : Type} {enc : TypeId × Value → H} {W : World} {base : Nat} {sp : Nat → Bool} {held : Bool} {fuel : Nat} {a : Option Addr} {len cap : Nat} {y : DataW H × List MemPlace}
    (hf : DataW.trod enc Try.prog W base sp held fuel 29 [Value.slice a len cap] = some y) : ∃ xs : List LiV, Lis W (.slice a len cap) xs ∧ xs.length ≤ Rows.uptoBulk y.1 ∧ (∀ x ∈ xs, x.i.length * 3 ≤ Rows.uptoBulk y.1) ∧ ∀ x ∈ xs, ∀ z ∈ x.i, z.d.length ≤ Rows.uptoBulk y.1 := by
  have hC : Try.prog.cellsOf 39 = 2 := by kernel_rfl
  rcases Deep.open_slice Try.underlying29 hf with ⟨hcs, _⟩ | ⟨x, l, c, m, n, D, Pl, hcs, _, hl, hm, hmm, hy, hV⟩
  · simp only [List.cons.injEq, Value.slice.injEq, and_true] at hcs
    obtain ⟨rfl, rfl, rfl⟩ := hcs
    exact ⟨[], Lis.nil _, by simp, fun x hx => by simp at hx, fun x hx => by simp at hx⟩
  · simp only [List.cons.injEq, Value.slice.injEq, and_true] at hcs
    obtain ⟨rfl, rfl, rfl⟩ := hcs
    have hlm : len ≤ m := by rw [hmm]; split <;> omega
    have hel : ∀ i, i < len → ∃ z : LiV, W.cells? base (x.add (i * 2)) 2 = some (liC z) ∧ (0 ≤ z.k ∧ z.k ≤ 255) ∧ Its W z.v z.i ∧ z.i.length * 3 ≤ Rows.uptoBulk (D i) ∧ ∀ u ∈ z.i, u.d.length ≤ Rows.uptoBulk (D i) := by
      intro i hi
      obtain ⟨cs', h1, h2⟩ := hV i (by omega)
      obtain ⟨z, rfl, h3⟩ := list_cells h2
      rw [hC] at h1
      exact ⟨z, h1, h3⟩
    obtain ⟨R, hR⟩ := Deep.choose_lt hel
    have hmem : ∀ x ∈ (List.range len).map R, ∃ i, i < len ∧ R i = x := fun x hx => by
      obtain ⟨i, hi, e⟩ := List.mem_map.1 hx
      exact ⟨i, List.mem_range.1 hi, e⟩
    have hb : Rows.uptoBulkAll ((List.range len).map D) + 1 ≤ Rows.uptoBulk y.1 := by
      rw [hy]
      simp only [Rows.uptoBulk]
      omega
    have hbi : ∀ i, i < len → Rows.uptoBulk (D i) ≤ Rows.uptoBulk y.1 := fun i hi => by
      have h6 := bulk_mem (List.mem_map.2 ⟨i, List.mem_range.2 hi, rfl⟩ : D i ∈ (List.range len).map D)
      omega
    refine ⟨(List.range len).map R, ⟨?_, fun x hx => ?_, fun x hx => ?_⟩, ?_, fun x hx => ?_, fun x hx z hz => ?_⟩
    · show Rd W 2 _ ((List.range len).map R).length (((List.range len).map R).flatMap liC)
      rw [List.length_map, List.length_range]
      exact rd_of_rows (f := liC) R (by omega) hl hm (fun i hi => (hR i hi).1)
    · obtain ⟨i, hi, rfl⟩ := hmem x hx
      exact (hR i hi).2.1
    · obtain ⟨i, hi, rfl⟩ := hmem x hx
      exact (hR i hi).2.2.1
    · have h3 := bulk_le 1 ((List.range len).map D) (fun d _ => bulk_pos d)
      simp only [List.length_map, List.length_range] at h3 ⊢
      omega
    · obtain ⟨i, hi, rfl⟩ := hmem x hx
      have := (hR i hi).2.2.2.1
      have := hbi i hi
      omega
    · obtain ⟨i, hi, rfl⟩ := hmem x hx
      have := (hR i hi).2.2.2.2 z hz
      have := hbi i hi
      omega
/-- Lists that came in. -/
theorem open_lis {H : Type} {enc : TypeId × Value → H} {w : World} {base : Nat} {spare : Nat → Bool} {held : Bool} {r : Reach} {b0 : Nat} {v : Value} {d : DataW H} {p : List MemPlace}
    (hv : Value.okWide Try.prog w r b0 29 v) (h : DataW.Trod enc Try.prog w base spare held 29 v d p) :
    ∃ xs : List LiV, Lis w v xs ∧ xs.length ≤ Rows.uptoBulk d ∧ (∀ x ∈ xs, x.i.length * 3 ≤ Rows.uptoBulk d) ∧ ∀ x ∈ xs, ∀ z ∈ x.i, z.d.length ≤ Rows.uptoBulk d := by
  obtain ⟨a, len, cap, rfl⟩ := okWide_slice Try.underlying29 hv
  obtain ⟨fuel, hf⟩ := h
  exact lists_in (y := (d, p)) hf
end Go.Proofs.Ytilanncobbdlfaa
