/-
  A moment that a law is handed: opened to its six numbers, which fit.
-/
import Derived.Test.YtemojckmnlgkdaaFrame
import Derived.Test.YtemojckmnlgkdaaStamp1
import Derived.Lib.SmallJoins
import Derived.OpenShut
namespace Go.Proofs.Ytemojckmnlgkdaa
open Go Go.RowKit Go.ChangeShapes Go.WideShapes Go.ChangeAt Go.Joins Go.Deep

theorem open_tm {H : Type} {enc : TypeId × Value → H} {w : World} {base : Nat} {spare : Nat → Bool} {held : Bool} {r : Reach} {b0 : Nat} {v : Value} {d : DataW H} {p : List MemPlace}
    (hv : Value.okWide Try.prog w r b0 25 v) (h : DataW.Trod enc Try.prog w base spare held 25 v d p) : ∃ t : Tm, v = tmV t ∧ t.Fit := by
  have hs := Try.underlying25
  obtain ⟨cs, rfl, hsz⟩ := okWide_struct hs hv
  have hC : Try.prog.cellsOf 25 = 6 := by kernel_rfl
  obtain ⟨l⟩ := cs
  match l, hsz.trans hC with
  | [c0, c1, c2, c3, c4, c5], _ =>
    obtain ⟨fuel, hf⟩ := h
    obtain ⟨xs, n, _, _, _, hlen, hg⟩ := DataW.trod_struct hs hf
    match xs, hlen with
    | [y0, y1, y2, y3, y4, y5], _ =>
      have o16 : Try.prog.cellsOf 23 = 1 := by kernel_rfl
      have o8 : Try.prog.cellsOf 5 = 1 := by kernel_rfl
      have t0 : DataW.trod enc Try.prog w base spare held n 23 [c0] = some y0 := by simpa [Value.cells, o16] using hg 0 _ rfl
      have t1 : DataW.trod enc Try.prog w base spare held n 5 [c1] = some y1 := by simpa [Value.cells, o8] using hg 1 _ rfl
      have t2 : DataW.trod enc Try.prog w base spare held n 5 [c2] = some y2 := by simpa [Value.cells, o8] using hg 2 _ rfl
      have t3 : DataW.trod enc Try.prog w base spare held n 5 [c3] = some y3 := by simpa [Value.cells, o8] using hg 3 _ rfl
      have t4 : DataW.trod enc Try.prog w base spare held n 5 [c4] = some y4 := by simpa [Value.cells, o8] using hg 4 _ rfl
      have t5 : DataW.trod enc Try.prog w base spare held n 5 [c5] = some y5 := by simpa [Value.cells, o8] using hg 5 _ rfl
      obtain ⟨n0, e0, _, w0⟩ := DataW.trod_int Try.underlying23 t0
      obtain ⟨n1, e1, _, w1⟩ := DataW.trod_int Try.underlying5 t1
      obtain ⟨n2, e2, _, w2⟩ := DataW.trod_int Try.underlying5 t2
      obtain ⟨n3, e3, _, w3⟩ := DataW.trod_int Try.underlying5 t3
      obtain ⟨n4, e4, _, w4⟩ := DataW.trod_int Try.underlying5 t4
      obtain ⟨n5, e5, _, w5⟩ := DataW.trod_int Try.underlying5 t5
      simp only [List.cons.injEq, and_true] at e0 e1 e2 e3 e4 e5
      subst e0 e1 e2 e3 e4 e5
      exact ⟨⟨n0, n1, n2, n3, n4, n5⟩, rfl, ⟨bounds_u16 w0, bounds_u8 w1, bounds_u8 w2, bounds_u8 w3, bounds_u8 w4, bounds_u8 w5⟩⟩
end Go.Proofs.Ytemojckmnlgkdaa
