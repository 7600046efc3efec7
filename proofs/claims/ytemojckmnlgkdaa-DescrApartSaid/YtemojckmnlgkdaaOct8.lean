/-
  The contracts of slices.Chunk and of its closure, at chunks of two bytes; letter.
-/
import Derived.Test.YtemojckmnlgkdaaOct7
import Derived.RangeFuncNested
import Derived.RangeFuncBound
import Derived.RangeFuncCalls
import Derived.RangeFuncLeaves
import Derived.RangeFuncBox
import Derived.RangeFuncFrom
import Derived.Shelf.Abstract
import Derived.OwnWalkIn
import Derived.TacticsInMore
import Derived.LoopNIn
import Derived.LoopIn
import Derived.Maps.AppendAt
namespace Go.Proofs.Ytemojckmnlgkdaa
open Go Go.RowKit Go.Shelf

attribute [local go_sem] Oper.semAt_some

theorem slice_from (b off L cap p : Nat) (h1 : p < L) (h2 : L ≤ cap) (_h3 : cap ≤ maxLen) (W : World) :
    (Instr.sliceAt 22 (.slice (some ⟨b, off, none⟩) L cap) (some (.int .i64 p)) none none).run Try.prog W = .ok (.slice (some ⟨b, off + p, none⟩) (L - p) (cap - p)) W := by
  obtain ⟨i, hi, hz0, hz1, hz2⟩ := info_parts infoB
  have b2 : (0 : Int) ≤ (p : Int) ∧ (p : Int) ≤ (L : Int) := by omega
  have b3 : ¬ cap = p := by omega
  simp [Instr.sliceAt, Instr.slice, Instr.sliceBounds, Instr.sliceBound, run_underlying Try.underlying22, asIntOf, b2, b3, sizeOf, typeInfo, hi, hz1, add0]
  try omega

theorem slice_three (b off L cap p q : Nat) (h0 : p < q) (h1 : q ≤ L) (h2 : L ≤ cap) (_h3 : cap ≤ maxLen) (W : World) :
    (Instr.sliceAt 22 (.slice (some ⟨b, off, none⟩) L cap) (some (.int .i64 p)) (some (.int .i64 q)) (some (.int .i64 q))).run Try.prog W = .ok (.slice (some ⟨b, off + p, none⟩) (q - p) (q - p)) W := by
  obtain ⟨i, hi, hz0, hz1, hz2⟩ := info_parts infoB
  have b1 : (0 : Int) ≤ (q : Int) ∧ (q : Int) ≤ (cap : Int) := by omega
  have b2 : (0 : Int) ≤ (p : Int) ∧ (p : Int) ≤ (q : Int) := by omega
  have b3 : ¬ q = p := by omega
  simp [Instr.sliceAt, Instr.slice, Instr.sliceBounds, Instr.sliceBound, run_underlying Try.underlying22, asIntOf, b1, b2, b3, sizeOf, typeInfo, hi, hz1, add0]
  rw [if_pos (by omega), if_pos (by omega)]

/-- The chunks' places of L bytes. -/
abbrev Pl (L : Nat) := { x : Nat // 2 * x < L }
/-- What has come when k rounds are over. -/
def cho (L k : Nat) : List (Pl L) := (List.range k).filterMap fun x => if h : 2 * x < L then some ⟨x, h⟩ else none
theorem cho_succ (L k : Nat) (h : 2 * k < L) : cho L (k + 1) = cho L k ++ [⟨k, h⟩] := by
  simp [cho, List.range_succ, h]
def chV (b off L : Nat) (x : Pl L) : Value := .slice (some ⟨b, off + 2 * x.1, none⟩) (min 2 (L - 2 * x.1)) (min 2 (L - 2 * x.1))
theorem cho_length (L k : Nat) (h : 2 * k < L + 2) : (cho L k).length = k := by
  induction k with
  | zero => rfl
  | succ k ih => rw [cho_succ L k (by omega), List.length_append, ih (by omega)]; rfl

/-- The two boxes of the closure are as they were. -/
structure Keep2 (B : Nat) (W W' : World) : Prop where
  a : W'.heap[B]? = W.heap[B]?
  b : W'.heap[B + 1]? = W.heap[B + 1]?
theorem Keep2.refl (B : Nat) (W : World) : Keep2 B W W := ⟨rfl, rfl⟩
theorem Keep2.trans {B : Nat} {W W' W'' : World} (h : Keep2 B W W') (k : Keep2 B W' W'') : Keep2 B W W'' := ⟨k.a.trans h.a, k.b.trans h.b⟩
theorem Keep2.drew {B : Nat} {W W' : World} (h : Keep2 B W W') : Keep2 B W W'.drew := ⟨h.a, h.b⟩
theorem Keep2.cella {B : Nat} {W W' : World} (h : Keep2 B W W') : W'.cell? ⟨B, 0, none⟩ = W.cell? ⟨B, 0, none⟩ := World.cell?_of_block h.a
theorem Keep2.cellb {B : Nat} {W W' : World} (h : Keep2 B W W') : W'.cell? ⟨B + 1, 0, none⟩ = W.cell? ⟨B + 1, 0, none⟩ := World.cell?_of_block h.b

end Go.Proofs.Ytemojckmnlgkdaa
