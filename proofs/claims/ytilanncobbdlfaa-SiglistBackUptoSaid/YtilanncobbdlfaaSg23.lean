/-
  Lists that are not vast: vast, twins, Write and the document's Write, siglist.Has and SameLists as the laws take them.
-/
import Derived.Test.YtilanncobbdlfaaSg19
import Derived.Test.YtilanncobbdlfaaSg22
namespace Go.Proofs.Ytilanncobbdlfaa
open Go Go.RowKit
set_option linter.unusedVariables false

/-- Lists that are not vast, of a bulk that a law looks at. -/
def LiS (L : List Li) : Prop := L.length ≤ 100 ∧ (∀ x ∈ L, x.i.length ≤ 349525) ∧ ∀ x ∈ L, ∀ y ∈ x.i, y.d.length ≤ 16384
theorem LiS.of {xs : List LiV} (h1 : xs.length ≤ 100) (h2 : ∀ x ∈ xs, x.i.length ≤ 349525) (h3 : ∀ x ∈ xs, ∀ y ∈ x.i, y.d.length ≤ 16384) : LiS (xs.map LiV.li) := by
  refine ⟨by simpa using h1, fun x hx => ?_, fun x hx y hy => ?_⟩
  · obtain ⟨u, hu, rfl⟩ := List.mem_map.1 hx
    simpa [LiV.li] using h2 u hu
  · obtain ⟨u, hu, rfl⟩ := List.mem_map.1 hx
    obtain ⟨z, hz, rfl⟩ := List.mem_map.1 (show y ∈ u.i.map ItV.it from hy)
    exact h3 u hu z hz
theorem LiS.xs {xs : List LiV} {L : List Li} (h : LiS L) (e : xs.map LiV.li = L) : xs.length ≤ 100 ∧ (∀ x ∈ xs, x.i.length ≤ 349525) ∧ ∀ x ∈ xs, ∀ y ∈ x.i, y.d.length ≤ 16384 := by
  subst e
  obtain ⟨h1, h2, h3⟩ := h
  refine ⟨by simpa using h1, fun x hx => ?_, fun x hx y hy => ?_⟩
  · have := h2 x.li (List.mem_map.2 ⟨x, hx, rfl⟩)
    simpa [LiV.li] using this
  · exact h3 x.li (List.mem_map.2 ⟨x, hx, rfl⟩) y.it (List.mem_map.2 ⟨y, hy, rfl⟩)
theorem LiS.take {L : List Li} (h : LiS L) (n : Nat) : LiS (L.take n) :=
  ⟨Nat.le_trans (by rw [List.length_take]; omega) h.1, fun x hx => h.2.1 x (List.mem_of_mem_take hx), fun x hx => h.2.2 x (List.mem_of_mem_take hx)⟩
theorem LiS.lisN {xs : List LiV} {L : List Li} (h : LiS L) (e : xs.map LiV.li = L) : LisN xs 349525 := by
  obtain ⟨h1, h2, _⟩ := h.xs e
  exact ⟨by omega, h2⟩
theorem vast_form (v : Value) (xs : List LiV) (L : List Li) (w : World) (hL : xs.map LiV.li = L) (hv : Lis w v xs) (hi : ∀ x ∈ xs, x.i.length * 3 ≤ 1048576) :
    Calls Try.prog 14 #[v] w fun e w' => (∃ B, e = .returned (.bool B) ∧ (B = false → LiS L)) ∧ w = w' := by
  refine (vast_calls v xs w hv).mono ?_
  rintro e w' ⟨⟨B, rfl, hB⟩, rfl⟩
  refine ⟨⟨B, rfl, fun h => ?_⟩, rfl⟩
  rw [← hL]
  exact LiS.of (hB h).1 (fun x hx => by have := hi x hx; omega) (hB h).2
theorem twins_form (v : Value) (xs : List LiV) (L : List Li) (w : World) (hL : xs.map LiV.li = L) (hv : Lis w v xs) (hs : LiS L) :
    Calls Try.prog 17 #[v] w fun e w' => ∃ a n c ys, e = .returned (.slice a n c) ∧ Hid (ys.map LiV.li = L) ∧ Hid (OwnLis w' w.heap.size (.slice a n c) ys) ∧ Below w.heap.size w w' := by
  obtain ⟨h1, h2, h3⟩ := hs.xs hL
  refine (twins_calls v xs w hv (by omega) (fun x hx => by have := h2 x hx; omega) (fun x hx y hy => by have := h3 x hx y hy; omega)).mono ?_
  rintro e w' ⟨v', ys, rfl, hm, ho, hb⟩
  obtain ⟨a, c, rfl, _, _⟩ := ho.lis.open
  exact ⟨a, _, c, ys, rfl, Lib.hid (hm.trans hL), Lib.hid ho, hb⟩
theorem wrR_le (L : List Li) : (wrR L).length ≤ 65536 := by
  unfold wrR
  split
  · split
    · assumption
    · simp
  · simp
/-- Write's answer, opened. -/
def WrForm (R : List UInt8) (E : Int) (w : World) (e : Ending) (w' : World) : Prop := ∃ a n c, e = .returned (.tuple #[.slice a n c, .int .i64 E]) ∧ Hid (n = R.length) ∧ Hid (R.length ≤ 65536) ∧ Hid (OwnB w' w.heap.size (.slice a n c) R) ∧ Below w.heap.size w w'
theorem wr_of {f : FuncId} {v : Value} {L : List Li} {w : World} (h : Calls Try.prog f #[v] w (WrRes L w)) (R : List UInt8) (hR : R = wrR L) (E : Int) (hE : E = wrE L) : Calls Try.prog f #[v] w (WrForm R E w) := by
  subst hR hE
  refine h.mono fun e w' hr => ?_
  unfold WrRes at hr
  obtain ⟨a, n, c, rfl, ho, hb⟩ := hr
  have hn : n = (wrR L).length := by
    obtain ⟨x, c', e, _⟩ := Own.shape ho
    simp only [Value.slice.injEq] at e
    exact e.2.1
  exact ⟨a, n, c, rfl, Lib.hid hn, Lib.hid (wrR_le L), Lib.hid ho, hb⟩
theorem wr_form (v : Value) (xs : List LiV) (L : List Li) (R : List UInt8) (hR : R = wrR L) (E : Int) (hE : E = wrE L) (w : World) (hL : xs.map LiV.li = L) (hv : Lis w v xs) (hs : LiS L) :
    Calls Try.prog 16 #[v] w (WrForm R E w) := by
  obtain ⟨h1, h2, h3⟩ := hs.xs hL
  refine wr_of ?_ R hR E hE
  rw [← hL]
  exact sgWrite_calls v xs w hv (by omega) (fun x hx => by have := h2 x hx; omega) (fun x hx y hy => by have := h3 x hx y hy; omega)
theorem refWr_form (v : Value) (xs : List LiV) (L : List Li) (R : List UInt8) (hR : R = wrR L) (E : Int) (hE : E = wrE L) (w : World) (hL : xs.map LiV.li = L) (hv : Lis w v xs) (hs : LiS L) :
    Calls Try.prog 24 #[v] w (WrForm R E w) := by
  obtain ⟨h1, h2, h3⟩ := hs.xs hL
  refine wr_of ?_ R hR E hE
  rw [← hL]
  exact refWriteL_calls v xs w hv (by omega) (fun x hx => by have := h2 x hx; omega) (fun x hx y hy => by have := h3 x hx y hy; omega)
end Go.Proofs.Ytilanncobbdlfaa
