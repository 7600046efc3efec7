/-
  Sixteen bytes held against sixteen bytes.
-/
import Derived.Test.YtilanncobbdlfaaBase
import Derived.DeepKeys
namespace Go.Proofs.Ytilanncobbdlfaa
open Go Go.RowKit

theorem mapM_all {α β : Type} (f : α → Option β) (g : α → β) : ∀ (l : List α), (∀ x ∈ l, f x = some (g x)) → l.mapM f = some (l.map g)
  | [], _ => by simp
  | x :: l, h => by
    rw [List.mapM_cons, h x (by simp), mapM_all f g l (fun y hy => h y (by simp [hy]))]
    rfl
/-- A byte, as a key tells it. -/
def l8 (c : UInt8) : Lit := .int .u8 (c.toNat : Int)
theorem l8_wf (c : UInt8) : (Lit.int .u8 (c.toNat : Int)).wf = true := by
  have := c.toNat_lt
  simp [Lit.wf, IntKind.min, IntKind.max, IntKind.signed, IntKind.bits]
  omega
theorem l8_inj {a b : List UInt8} (h : a.map l8 = b.map l8) : a = b := by
  refine (List.map_inj_right (f := l8) ?_).1 h
  intro x y e
  unfold l8 at e
  have : (x.toNat : Int) = (y.toNat : Int) := by injection e
  exact UInt8.toNat_inj.1 (by omega)
theorem gid_lits (d : Nat) (g : List UInt8) (h : g.length = 16) : Try.prog.keyLits (d + 2) 47 (g.map b8) = some (g.map l8) := by
  have hu := Try.underlying47
  have h8 := Try.underlying5
  have hc : Try.prog.cellsOf 47 = 16 := by kernel_rfl
  have hc8 : Try.prog.cellsOf 5 = 1 := by kernel_rfl
  unfold Program.keyLits
  simp only [hu, hc, hc8, List.length_map, h, if_true]
  rw [mapM_all _ (fun i => [l8 (g.getD i 0)]) _ (fun i hi => by
    have hi' : i < 16 := List.mem_range.1 hi
    have e : ((g.map b8).drop (i * 1)).take 1 = [b8 (g.getD i 0)] := by
      rw [Nat.mul_one]
      apply List.ext_getElem
      · rw [List.length_take, List.length_drop, List.length_map]; simp; omega
      · intro j h1 h2
        simp at h2
        subst h2
        simp [List.getD, show i < g.length by omega]
    rw [e]
    unfold Program.keyLits b8
    simp only [h8, l8_wf, and_self, if_true]
    rfl)]
  simp only [Option.map_some, Option.some.injEq]
  apply List.ext_getElem?
  intro i
  have e : ((List.range 16).map fun i => [l8 (g.getD i 0)]).flatten = (List.range 16).map fun i => l8 (g.getD i 0) := by
    generalize List.range 16 = r
    induction r with
    | nil => rfl
    | cons x r ih => simp only [List.map_cons, List.flatten_cons, ih, List.singleton_append]
  rw [e]
  by_cases hi : i < 16
  · simp [hi, List.getD, show i < g.length by omega]
  · rw [List.getElem?_eq_none (by simp; omega), List.getElem?_eq_none (by simp; omega)]
/-- The model's own word: are they the same? -/
theorem run_gid_equal (a b : List UInt8) (ha : a.length = 16) (hb : b.length = 16) (W : World) :
    (Op.equal 47 (.agg (a.map b8).toArray) (.agg (b.map b8).toArray)).run Try.prog W = .ok (decide (a = b)) W := by
  have hk : Try.prog.keyTypeAt 2 47 = true := by kernel_rfl
  have hc : Try.prog.cellsOf 47 = 16 := by kernel_rfl
  have hf : ∀ g : List UInt8, g.length = 16 → (Value.agg (g.map b8).toArray).formed Try.prog 47 = true := fun g hg => by
    simp [Value.formed, Try.underlying47, hc, hg]
  have hl : ∀ g : List UInt8, g.length = 16 → Try.prog.keyLits 2 47 (Value.agg (g.map b8).toArray).cells.toList = some (g.map l8) := fun g hg => by
    simp only [Value.cells]
    exact gid_lits 0 g hg
  obtain ⟨r, hr, hi⟩ := run_equalIn_deep (P := Try.prog) 9998 2 47 hk W 2 2 _ _ _ _ (hf a ha) (hf b hb) (hl a ha) (hl b hb)
  have e : r = decide (a = b) := by
    by_cases h : a = b
    · rw [decide_eq_true h]; exact hi.2 (by rw [h])
    · rw [decide_eq_false h]
      cases r with
      | false => rfl
      | true => exact absurd (l8_inj (hi.1 rfl)) h
  rw [← e]
  exact hr
theorem run_gid_eq (a b : List UInt8) (ha : a.length = 16) (hb : b.length = 16) (W : World) :
    (binOp .eql 47 (.agg (a.map b8).toArray) (.agg (b.map b8).toArray)).run Try.prog W = .ok (.bool (decide (a = b))) W := by
  have h := run_gid_equal a b ha hb W
  simp [binOp, h]
theorem run_gid_neq (a b : List UInt8) (ha : a.length = 16) (hb : b.length = 16) (W : World) :
    (binOp .neq 47 (.agg (a.map b8).toArray) (.agg (b.map b8).toArray)).run Try.prog W = .ok (.bool (!decide (a = b))) W := by
  have h := run_gid_equal a b ha hb W
  simp [binOp, h]
end Go.Proofs.Ytilanncobbdlfaa
