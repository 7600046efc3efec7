/-
  A variable that a law is handed: opened to its name, space, attributes, moment and data.
-/
import Derived.Test.YtemojckmnlgkdaaGid
import Derived.Test.YtemojckmnlgkdaaVarPlain
import Derived.Lib.SmallJoins
namespace Go.Proofs.Ytemojckmnlgkdaa
open Go Go.RowKit Go.ChangeShapes Go.WideShapes Go.ChangeAt Go.Joins Go.Deep

/-- A moment, as its cells. -/
theorem tm_cells {H : Type} {enc : TypeId × Value → H} {w : World} {base fuel : Nat} {spare : Nat → Bool} {held : Bool} {cs : List Value} {x : DataW H × List MemPlace}
    (hf : DataW.trod enc Try.prog w base spare held fuel 25 cs = some x) : ∃ t : Tm, cs = tmC t ∧ t.Fit := by
  have hs := Try.underlying25
  have hC : Try.prog.cellsOf 25 = 6 := by kernel_rfl
  obtain ⟨xs, n, _, _, hsz, hlen, hg⟩ := DataW.trod_struct hs hf
  match cs, hsz.trans hC with
  | [c0, c1, c2, c3, c4, c5], _ =>
    match xs, hlen with
    | [y0, y1, y2, y3, y4, y5], _ =>
      have o16 : Try.prog.cellsOf 23 = 1 := by kernel_rfl
      have o8 : Try.prog.cellsOf 5 = 1 := by kernel_rfl
      have t0 : DataW.trod enc Try.prog w base spare held n 23 [c0] = some y0 := by simpa [Value.cells, o16] using hg 0 _ rfl
      have t1 : DataW.trod enc Try.prog w base spare held n 5 [c1] = some y1 := by simpa [Value.cells, o8] using hg 1 _ rfl
      have t2 : DataW.trod enc Try.prog w base spare held n 5 [c2] = some y2 := by simpa [Value.cells, o8] using hg 2 _ rfl
      have t3 : DataW.trod enc Try.prog w base spare held n 5 [c3] = some y3 := by simpa [Value.cells, o8] using hg 3 _ rfl
      have t4 : DataW.trod enc Try.prog w base spare held n 5 [c4] = some y4 := by simpa [Value.cells, o8] using hg 4 _ rfl
      have t5 : DataW.trod enc Try.prog w base spare held n 5 [c5] = some y5 := by simpa [Value.cells, o8] using hg 5 _ rfl
      obtain ⟨n0, e0, _, w0⟩ := DataW.trod_int Try.underlying23 t0
      obtain ⟨n1, e1, _, w1⟩ := DataW.trod_int Try.underlying5 t1
      obtain ⟨n2, e2, _, w2⟩ := DataW.trod_int Try.underlying5 t2
      obtain ⟨n3, e3, _, w3⟩ := DataW.trod_int Try.underlying5 t3
      obtain ⟨n4, e4, _, w4⟩ := DataW.trod_int Try.underlying5 t4
      obtain ⟨n5, e5, _, w5⟩ := DataW.trod_int Try.underlying5 t5
      simp only [List.cons.injEq, and_true] at e0 e1 e2 e3 e4 e5
      subst e0 e1 e2 e3 e4 e5
      exact ⟨⟨n0, n1, n2, n3, n4, n5⟩, rfl, ⟨bounds_u16 w0, bounds_u8 w1, bounds_u8 w2, bounds_u8 w3, bounds_u8 w4, bounds_u8 w5⟩⟩

theorem open_var {H : Type} {enc : TypeId × Value → H} {w : World} {base : Nat} {spare : Nat → Bool} {held : Bool} {r : Reach} {b0 : Nat} {v : Value} {d : DataW H} {p : List MemPlace}
    (hv : Value.okWide Try.prog w r b0 43 v) (h : DataW.Trod enc Try.prog w base spare held 43 v d p) :
    ∃ (a : DV) (dv : Value), v = .agg (varC a dv).toArray ∧ a.Ok ∧ Byt w dv a.d := by
  have hs := Try.underlying43
  obtain ⟨cs, rfl, _⟩ := okWide_struct hs hv
  obtain ⟨fuel, hf⟩ := h
  obtain ⟨cs⟩ := cs
  simp only [Value.cells] at hf
  obtain ⟨xs, n, _, _, hsz, hlen, hg⟩ := DataW.trod_struct hs hf
  have hC : Try.prog.cellsOf 43 = 57 := by kernel_rfl
  rw [hC] at hsz
  match xs, hlen with
  | [y0, y1, y2, y3, y4, y5], _ =>
    have t0 : DataW.trod enc Try.prog w base spare held n 9 ((cs.drop 0).take 1) = some y0 := by
      rw [← show Try.prog.cellsOf 9 = 1 by kernel_rfl]
      exact hg 0 _ rfl
    have t1 : DataW.trod enc Try.prog w base spare held n 27 ((cs.drop 1).take 16) = some y1 := by
      rw [← show Try.prog.cellsOf 27 = 16 by kernel_rfl]
      exact hg 1 _ rfl
    have t2 : DataW.trod enc Try.prog w base spare held n 28 ((cs.drop 17).take 1) = some y2 := by
      rw [← show Try.prog.cellsOf 28 = 1 by kernel_rfl]
      exact hg 2 _ rfl
    have t3 : DataW.trod enc Try.prog w base spare held n 25 ((cs.drop 18).take 6) = some y3 := by
      rw [← show Try.prog.cellsOf 25 = 6 by kernel_rfl]
      exact hg 3 _ rfl
    have t4 : DataW.trod enc Try.prog w base spare held n 41 ((cs.drop 24).take 32) = some y4 := by
      rw [← show Try.prog.cellsOf 41 = 32 by kernel_rfl]
      exact hg 4 _ rfl
    have t5 : DataW.trod enc Try.prog w base spare held n 22 ((cs.drop 56).take 1) = some y5 := by
      rw [← show Try.prog.cellsOf 22 = 1 by kernel_rfl]
      exact hg 5 _ rfl
    obtain ⟨s, e0, _, w0⟩ := DataW.trod_string Try.underlying9 t0
    obtain ⟨g, lg, e1⟩ := bytes_cells Try.underlying27 Try.underlying5 (by kernel_rfl) (by kernel_rfl) t1
    obtain ⟨z, e2, _, w2⟩ := DataW.trod_int Try.underlying28 t2
    obtain ⟨t, e3, ft⟩ := tm_cells t3
    obtain ⟨o, lo, e4⟩ := bytes_cells Try.underlying41 Try.underlying5 (by kernel_rfl) (by kernel_rfl) t4
    obtain ⟨a5, n5, c5, e5⟩ := Go.Joins.slice_form Try.underlying22 t5
    rw [e5] at t5
    obtain ⟨l5, _, b5⟩ := byt_in Try.underlying22 Try.underlying5 (by kernel_rfl) (a := a5) (len := n5) (cap := c5) t5
    have hb := bounds_u32 w2
    have hz : ((z.toNat : Nat) : Int) = z := Int.toNat_of_nonneg hb.1
    unfold maxLen at w0
    refine ⟨⟨s.data.toList, g, z.toNat, t, o, l5⟩, .slice a5 n5 c5, ?_, ⟨lg, lo, ft, by show z.toNat < 4294967296; omega, ?_⟩, b5⟩
    · have hcat : cs = (cs.drop 0).take 1 ++ ((cs.drop 1).take 16 ++ ((cs.drop 17).take 1 ++ ((cs.drop 18).take 6 ++ ((cs.drop 24).take 32 ++ (cs.drop 56).take 1)))) := by
        have d : ∀ k m, (cs.drop k).take m ++ cs.drop (k + m) = cs.drop k := fun k m => by
          have := List.take_append_drop m (cs.drop k)
          rw [List.drop_drop] at this
          exact this
        have d6 : (cs.drop 56).take 1 = cs.drop 56 := List.take_of_length_le (by rw [List.length_drop]; omega)
        rw [d6, d 24 32, d 18 6, d 17 1, d 1 16, d 0 1, List.drop_zero]
      rw [hcat]
      have e0' : (cs.drop 0).take 1 = [.string s] := e0
      have e1' : (cs.drop 1).take 16 = g.map b8 := e1
      have e2' : (cs.drop 17).take 1 = [.int .u32 z] := e2
      have e3' : (cs.drop 18).take 6 = tmC t := e3
      have e4' : (cs.drop 24).take 32 = o.map b8 := e4
      have e5' : (cs.drop 56).take 1 = [.slice a5 n5 c5] := e5
      rw [e0', e1', e2', e3', e4', e5']
      unfold varC
      rw [sOf_toList, hz]
    · show s.data.toList.length ≤ _
      have : s.data.toList.length = s.size := by simp
      omega
end Go.Proofs.Ytemojckmnlgkdaa
