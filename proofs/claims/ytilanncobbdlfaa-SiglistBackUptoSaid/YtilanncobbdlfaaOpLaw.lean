/-
  append as one operation of a region that draws its order.
-/
import Derived.Test.YtilanncobbdlfaaApart0
namespace Go.Proofs.Ytilanncobbdlfaa
open Go Go.RowKit

/-- append(out, bytes...), as one operation. -/
theorem op2_append_byt {w : World} {o : Oper} {a : Act} {K : Act → World → Prop} {Q : Exit → Act → World → Prop} (s x : Operand)
    (ho : o.op = .call { callee := .builtin .append, args := #[s, x], argTypes := #[22, 22] })
    (base : Nat) (v : Value) (l : List UInt8) (hs : a.eval s = v) (hown : OwnB w base v l)
    (y : Value) (m : List UInt8) (hxe : a.eval x = y) (hx : Byt w y m) (hlen : l.length + m.length ≤ 140737488355328) (hbase : base ≤ w.heap.size)
    (h : ∀ v' w', OwnB w' base v' (l ++ m) → w.grownBy w' (ownB v) → (ownB v' = ownB v ∨ ∃ g, ownB v' = some g ∧ w.heap.size ≤ g) → OwnB w' base v l → K (a.put o.dst v') w') : o.wp Try.prog a w K Q := by
  obtain ⟨i, hi, hz, hi2, hi3⟩ := info_parts infoB
  obtain ⟨v', w', hr, h2, h3, h4, _, h6⟩ := append_rd (P := Try.prog) w base 22 o.type 5 i (.int .u8 0) 1 1 Try.underlying22 hi hz hi2 hi3 rfl (by decide) v l.length (l.map b8) hown y m.length (m.map b8) hx (b8_oneCell m) (by unfold maxLen; omega) (by omega) hbase
  unfold Oper.wp execOp
  simp only [ho, resolve, invoke, builtin, Sem.run_bind, Sem.run_pure, Result.andThen_ok, List.map_toArray, List.map_cons, List.map_nil, hs, hxe, hr]
  exact h v' w' (by simpa [OwnB] using h2) h3 h4 h6

theorem wanted_if2 {ops : Array Oper} {a : Act} {o : Oper} {X Y : Prop} (hg : o.guard = none) (h : X) : if Region.wanted o (yielded ops a.tmps) = true then X else Y := by
  simp only [Region.wanted, hg, if_true]
  exact h
end Go.Proofs.Ytilanncobbdlfaa
