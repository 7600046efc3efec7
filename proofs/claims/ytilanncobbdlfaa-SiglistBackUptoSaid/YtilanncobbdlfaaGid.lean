/-
  Sixteen bytes that a law is handed as an array: opened.
-/
import Derived.Test.YtilanncobbdlfaaFrame
import Derived.OpenShut
import Derived.Deep.Slices
namespace Go.Proofs.Ytilanncobbdlfaa
open Go Go.RowKit Go.ChangeShapes Go.WideShapes Go.ChangeAt

/-- An array of bytes, as its cells. -/
theorem bytes_cells {H : Type} {enc : TypeId × Value → H} {w : World} {base fuel : Nat} {spare : Nat → Bool} {held : Bool} {t e : TypeId} {n : Nat} {cs : List Value} {x : DataW H × List MemPlace}
    (ht : Try.prog.underlying t = some (.array n e)) (he : Try.prog.underlying e = some (.int .u8)) (hc : Try.prog.cellsOf e = 1) (hct : Try.prog.cellsOf t = n)
    (h : DataW.trod enc Try.prog w base spare held fuel t cs = some x) : ∃ g : List UInt8, g.length = n ∧ cs = g.map b8 := by
  obtain ⟨xs, m, _, _, hlen, hxs, hg⟩ := DataW.trod_array ht h
  rw [hct] at hlen
  rw [hc] at hg
  have hel : ∀ i, i < n → ∃ c : UInt8, cs[i]? = some (b8 c) := by
    intro i hi
    have h1 := hg i hi
    have hic : i < cs.length := by omega
    have e1 : (cs.drop (i * 1)).take 1 = [cs[i]] := by
      rw [Nat.mul_one]
      apply List.ext_getElem
      · rw [List.length_take, List.length_drop]; simp; omega
      · intro j h1 h2
        simp at h2
        subst h2
        simp
    rw [e1, List.getElem?_eq_getElem (by omega : i < xs.length)] at h1
    obtain ⟨n0, e0, _, w0⟩ := DataW.trod_int he h1
    simp only [List.cons.injEq, and_true] at e0
    have hb := bounds_u8 w0
    refine ⟨UInt8.ofNat n0.toNat, ?_⟩
    rw [List.getElem?_eq_getElem hic, e0]
    unfold b8
    rw [UInt8.toNat_ofNat']
    congr 2
    omega
  obtain ⟨R, hR⟩ := Deep.choose_lt hel
  refine ⟨(List.range n).map R, by simp, ?_⟩
  apply List.ext_getElem?
  intro i
  by_cases hi : i < n
  · rw [hR i hi]; simp [hi]
  · rw [List.getElem?_eq_none (by omega), List.getElem?_eq_none (by simp; omega)]

theorem okWide_array {w : World} {r : Reach} {base : Nat} {t e : TypeId} {n : Nat} {v : Value} (ht : Try.prog.underlying t = some (.array n e)) (h : Value.okWide Try.prog w r base t v) : ∃ cs, v = .agg cs ∧ cs.size = Try.prog.cellsOf t := by
  simp only [Value.okWide, ht] at h
  obtain ⟨cs, h1, h2, _⟩ := h
  exact ⟨cs, h1, h2⟩

theorem open_gid {H : Type} {enc : TypeId × Value → H} {w : World} {base : Nat} {spare : Nat → Bool} {held : Bool} {r : Reach} {b0 : Nat} {v : Value} {d : DataW H} {p : List MemPlace}
    (hv : Value.okWide Try.prog w r b0 47 v) (h : DataW.Trod enc Try.prog w base spare held 47 v d p) : ∃ g : List UInt8, g.length = 16 ∧ v = .agg (g.map b8).toArray := by
  obtain ⟨cs, rfl, _⟩ := okWide_array Try.underlying47 hv
  obtain ⟨fuel, hf⟩ := h
  obtain ⟨g, h1, h2⟩ := bytes_cells Try.underlying47 Try.underlying5 (by kernel_rfl) (by kernel_rfl) hf
  refine ⟨g, h1, ?_⟩
  rw [← h2]
  simp [Value.cells]
end Go.Proofs.Ytilanncobbdlfaa
