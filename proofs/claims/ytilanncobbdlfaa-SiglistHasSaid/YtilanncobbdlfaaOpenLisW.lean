/-
  Lists that a law is handed: opened to their kinds, items and bytes; and that no list's items take more memory than there is.
-/
import Derived.Test.YtilanncobbdlfaaOpenLis
import Derived.SizedLaws
namespace Go.Proofs.Ytilanncobbdlfaa
open Go Go.RowKit Go.ChangeShapes Go.WideShapes Go.ChangeAt Go.Deep

theorem weights_all {H : Type} {P : Program} {e : TypeId} {n : Nat} : ∀ {l : List (DataW H)} {d : DataW H}, d ∈ l → n ∈ DataW.weights P e d → n ∈ DataW.weightsAll P e l
  | d :: l, x, h, hn => by
    simp only [DataW.weightsAll, List.mem_append]
    rcases List.mem_cons.1 h with rfl | h
    · exact .inl hn
    · exact .inr (weights_all h hn)
theorem items_w {H : Type} {enc : TypeId × Value → H} {W : World} {base : Nat} {sp : Nat → Bool} {held : Bool} {fuel : Nat} {a : Option Addr} {len cap : Nat} {y : DataW H × List MemPlace}
    (hf : DataW.trod enc Try.prog W base sp held fuel 37 [Value.slice a len cap] = some y) (hw : ∀ n ∈ DataW.weights Try.prog 37 y.1, n ≤ 140737488351232) :
    ∃ xs : List ItV, Its W (.slice a len cap) xs ∧ xs.length * 40 ≤ 140737488351232 := by
  have hC : Try.prog.cellsOf 49 = 17 := by kernel_rfl
  have hB : Try.prog.bytesOf 49 = 40 := by kernel_rfl
  rcases Deep.open_slice Try.underlying37 hf with ⟨hcs, _⟩ | ⟨x, l, c, m, n, D, Pl, hcs, _, hl, hm, hmm, hy, hV⟩
  · simp only [List.cons.injEq, Value.slice.injEq, and_true] at hcs
    obtain ⟨rfl, rfl, rfl⟩ := hcs
    exact ⟨[], Its.nil _, by simp⟩
  · simp only [List.cons.injEq, Value.slice.injEq, and_true] at hcs
    obtain ⟨rfl, rfl, rfl⟩ := hcs
    have hlm : len ≤ m := by rw [hmm]; split <;> omega
    have hel : ∀ i, i < len → ∃ z : ItV, W.cells? base (x.add (i * 17)) 17 = some (itC z) ∧ z.o.length = 16 ∧ Byt W z.v z.d := by
      intro i hi
      obtain ⟨cs', h1, h2⟩ := hV i (by omega)
      obtain ⟨z, rfl, h3, h4, h5⟩ := item_cells h2
      rw [hC] at h1
      exact ⟨z, h1, h3, h4⟩
    obtain ⟨R, hR⟩ := Deep.choose_lt hel
    have hmem : ∀ x ∈ (List.range len).map R, ∃ i, i < len ∧ R i = x := fun x hx => by
      obtain ⟨i, hi, e⟩ := List.mem_map.1 hx
      exact ⟨i, List.mem_range.1 hi, e⟩
    refine ⟨(List.range len).map R, ⟨?_, fun x hx => ?_, fun x hx => ?_⟩, ?_⟩
    · show Rd W 17 _ ((List.range len).map R).length (((List.range len).map R).flatMap itC)
      rw [List.length_map, List.length_range]
      exact rd_of_rows (f := itC) R (by omega) hl hm (fun i hi => (hR i hi).1)
    · obtain ⟨i, hi, rfl⟩ := hmem x hx
      exact (hR i hi).2.1
    · obtain ⟨i, hi, rfl⟩ := hmem x hx
      exact (hR i hi).2.2
    · rw [hy] at hw
      simp only [DataW.weights, Try.underlying37, List.mem_cons, hB, List.length_map, List.length_range] at hw
      have := hw _ (.inl rfl)
      rw [List.length_map, List.length_range]
      omega

/-- A list, as its cells. -/
theorem list_w {H : Type} {enc : TypeId × Value → H} {w : World} {base fuel : Nat} {spare : Nat → Bool} {held : Bool} {cs : List Value} {x : DataW H × List MemPlace}
    (hf : DataW.trod enc Try.prog w base spare held fuel 39 cs = some x) (hw : ∀ n ∈ DataW.weights Try.prog 39 x.1, n ≤ 140737488351232) :
    ∃ y : LiV, cs = liC y ∧ (0 ≤ y.k ∧ y.k ≤ 255) ∧ Its w y.v y.i ∧ y.i.length * 40 ≤ 140737488351232 := by
  have hs := Try.underlying39
  have hC : Try.prog.cellsOf 39 = 2 := by kernel_rfl
  obtain ⟨xs, n, _, hx, hsz, hlen, hg⟩ := DataW.trod_struct hs hf
  rw [hC] at hsz
  match xs, hlen with
  | [y0, y1], _ =>
    have t0 : DataW.trod enc Try.prog w base spare held n 5 ((cs.drop 0).take 1) = some y0 := by
      rw [← show Try.prog.cellsOf 5 = 1 by kernel_rfl]
      exact hg 0 _ rfl
    have t1 : DataW.trod enc Try.prog w base spare held n 37 ((cs.drop 1).take 1) = some y1 := by
      rw [← show Try.prog.cellsOf 37 = 1 by kernel_rfl]
      exact hg 1 _ rfl
    obtain ⟨k, e0, _, w0⟩ := DataW.trod_int Try.underlying5 t0
    obtain ⟨a1, n1, c1, e1⟩ := Go.Joins.slice_form Try.underlying37 t1
    rw [e1] at t1
    obtain ⟨is, h1, h2⟩ := items_w t1 (fun m hm => hw m (by
      rw [hx]
      simp only [DataW.weights, hs, List.map_cons, List.map_nil, DataW.weightsEach, List.mem_append]
      exact .inr (.inl hm)))
    refine ⟨⟨k, is, .slice a1 n1 c1⟩, ?_, bounds_u8 w0, h1, h2⟩
    have hcat : cs = (cs.drop 0).take 1 ++ (cs.drop 1).take 1 := by
      rw [List.drop_zero, List.take_of_length_le (by rw [List.length_drop]; omega : (cs.drop 1).length ≤ 1), List.take_append_drop]
    rw [hcat, e0, e1]
    rfl

theorem lists_w {H : Type} {enc : TypeId × Value → H} {W : World} {base : Nat} {sp : Nat → Bool} {held : Bool} {fuel : Nat} {a : Option Addr} {len cap : Nat} {y : DataW H × List MemPlace}
    (hf : DataW.trod enc Try.prog W base sp held fuel 29 [Value.slice a len cap] = some y) (hw : ∀ n ∈ DataW.weights Try.prog 29 y.1, n ≤ 140737488351232) :
    ∃ xs : List LiV, Lis W (.slice a len cap) xs ∧ ∀ x ∈ xs, x.i.length * 40 ≤ 140737488351232 := by
  have hC : Try.prog.cellsOf 39 = 2 := by kernel_rfl
  rcases Deep.open_slice Try.underlying29 hf with ⟨hcs, _⟩ | ⟨x, l, c, m, n, D, Pl, hcs, _, hl, hm, hmm, hy, hV⟩
  · simp only [List.cons.injEq, Value.slice.injEq, and_true] at hcs
    obtain ⟨rfl, rfl, rfl⟩ := hcs
    exact ⟨[], Lis.nil _, fun x hx => by simp at hx⟩
  · simp only [List.cons.injEq, Value.slice.injEq, and_true] at hcs
    obtain ⟨rfl, rfl, rfl⟩ := hcs
    have hlm : len ≤ m := by rw [hmm]; split <;> omega
    have hel : ∀ i, i < len → ∃ z : LiV, W.cells? base (x.add (i * 2)) 2 = some (liC z) ∧ (0 ≤ z.k ∧ z.k ≤ 255) ∧ Its W z.v z.i ∧ z.i.length * 40 ≤ 140737488351232 := by
      intro i hi
      obtain ⟨cs', h1, h2⟩ := hV i (by omega)
      obtain ⟨z, rfl, h3⟩ := list_w h2 (fun q hq => hw q (by
        rw [hy]
        simp only [DataW.weights, Try.underlying29, List.mem_cons, List.mem_append]
        exact .inr (.inl (weights_all (List.mem_map.2 ⟨i, List.mem_range.2 hi, rfl⟩) hq))))
      rw [hC] at h1
      exact ⟨z, h1, h3⟩
    obtain ⟨R, hR⟩ := Deep.choose_lt hel
    have hmem : ∀ x ∈ (List.range len).map R, ∃ i, i < len ∧ R i = x := fun x hx => by
      obtain ⟨i, hi, e⟩ := List.mem_map.1 hx
      exact ⟨i, List.mem_range.1 hi, e⟩
    refine ⟨(List.range len).map R, ⟨?_, fun x hx => ?_, fun x hx => ?_⟩, fun x hx => ?_⟩
    · show Rd W 2 _ ((List.range len).map R).length (((List.range len).map R).flatMap liC)
      rw [List.length_map, List.length_range]
      exact rd_of_rows (f := liC) R (by omega) hl hm (fun i hi => (hR i hi).1)
    · obtain ⟨i, hi, rfl⟩ := hmem x hx
      exact (hR i hi).2.1
    · obtain ⟨i, hi, rfl⟩ := hmem x hx
      exact (hR i hi).2.2.1
    · obtain ⟨i, hi, rfl⟩ := hmem x hx
      exact (hR i hi).2.2.2
/-- Lists that came in. -/
theorem open_lisw {H : Type} {enc : TypeId × Value → H} {w : World} {base : Nat} {spare : Nat → Bool} {held : Bool} {r : Reach} {b0 : Nat} {v : Value} {d : DataW H} {p : List MemPlace}
    (hv : Value.okWide Try.prog w r b0 29 v) (h : DataW.Trod enc Try.prog w base spare held 29 v d p) (hw : ∀ n ∈ DataW.weights Try.prog 29 d, n ≤ 140737488351232) :
    ∃ xs : List LiV, Lis w v xs ∧ ∀ x ∈ xs, x.i.length * 40 ≤ 140737488351232 := by
  obtain ⟨a, len, cap, rfl⟩ := okWide_slice Try.underlying29 hv
  obtain ⟨fuel, hf⟩ := h
  exact lists_w (y := (d, p)) hf hw
end Go.Proofs.Ytilanncobbdlfaa
