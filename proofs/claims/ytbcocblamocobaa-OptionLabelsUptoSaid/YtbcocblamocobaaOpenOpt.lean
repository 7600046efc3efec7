/-
  An option that a law is handed: opened to its number, label, path and data.
-/
import Derived.Test.YtbcocblamocobaaFrame
import Derived.Test.YtbcocblamocobaaOpt1
import Derived.Lib.SmallJoins
import Derived.OpenShut
namespace Go.Proofs.Ytbcocblamocobaa
open Go Go.RowKit Go.ChangeShapes Go.WideShapes Go.ChangeAt Go.Joins Go.Deep

theorem opt_cells {H : Type} {enc : TypeId × Value → H} {w : World} {base n : Nat} {spare : Nat → Bool} {held : Bool} {v0 v1 v2 v3 : Value} {y0 y1 y2 y3 : DataW H × List MemPlace}
    (t0 : DataW.trod enc Try.prog w base spare held n 22 [v0] = some y0) (t1 : DataW.trod enc Try.prog w base spare held n 9 [v1] = some y1)
    (t2 : DataW.trod enc Try.prog w base spare held n 23 [v2] = some y2) (t3 : DataW.trod enc Try.prog w base spare held n 23 [v3] = some y3) :
    ∃ (o : Opt) (pv dv : Value), Value.agg #[v0, v1, v2, v3] = optV o.a o.s pv dv ∧ o.a < 4294967296 ∧ Byt w pv o.p ∧ Byt w dv o.d ∧ o.s.length ≤ 9223372036854775807 := by
  obtain ⟨n0, e0, _, w0⟩ := DataW.trod_int Try.underlying22 t0
  obtain ⟨s, e1, _, w1⟩ := DataW.trod_string Try.underlying9 t1
  obtain ⟨a2, n2, c2, e2⟩ := Go.Joins.slice_form Try.underlying23 t2
  obtain ⟨a3, n3, c3, e3⟩ := Go.Joins.slice_form Try.underlying23 t3
  simp only [List.cons.injEq, and_true] at e0 e1 e2 e3
  subst e0 e1 e2 e3
  obtain ⟨l2, _, b2⟩ := byt_in Try.underlying23 Try.underlying5 (by kernel_rfl) t2
  obtain ⟨l3, _, b3⟩ := byt_in Try.underlying23 Try.underlying5 (by kernel_rfl) t3
  have hb := bounds_u32 w0
  have h0 : ((n0.toNat : Nat) : Int) = n0 := Int.toNat_of_nonneg hb.1
  unfold maxLen at w1
  refine ⟨⟨n0.toNat, s.data.toList, l2, l3⟩, _, _, ?_, by show n0.toNat < 4294967296; omega, b2, b3, ?_⟩
  · unfold optV
    rw [sOf_toList, h0]
  · show s.data.toList.length ≤ _
    have : s.data.toList.length = s.size := by simp
    omega

theorem open_opt {H : Type} {enc : TypeId × Value → H} {w : World} {base : Nat} {spare : Nat → Bool} {held : Bool} {r : Reach} {b0 : Nat} {v : Value} {d : DataW H} {p : List MemPlace}
    (hv : Value.okWide Try.prog w r b0 25 v) (h : DataW.Trod enc Try.prog w base spare held 25 v d p) :
    ∃ (o : Opt) (pv dv : Value), v = optV o.a o.s pv dv ∧ o.a < 4294967296 ∧ Byt w pv o.p ∧ Byt w dv o.d ∧ o.s.length ≤ 9223372036854775807 := by
  obtain ⟨c0, c1, c2, c3, y0, y1, y2, y3, nn, rfl, _, _, t0, t1, t2, t3⟩ := Go.Joins.open_agg4 Try.underlying25 (by kernel_rfl) (by kernel_rfl) hv h
  exact opt_cells t0 t1 t2 t3
end Go.Proofs.Ytbcocblamocobaa
