/-
  A variable's cells.
-/
import Derived.Test.YtemojckmnlgkdaaDsPlain
namespace Go.Proofs.Ytemojckmnlgkdaa
open Go Go.RowKit
set_option linter.unusedVariables false

/-- A variable: its name, space, attributes, moment, owner and data. -/
structure DV where
  nm : List UInt8
  g : List UInt8
  a : Nat
  t : Tm
  o : List UInt8
  d : List UInt8
structure DV.Ok (x : DV) : Prop where
  g : x.g.length = 16
  o : x.o.length = 32
  t : x.t.Fit
  a : x.a < 4294967296
  n : x.nm.length ≤ 9223372036854775807
/-- A moment's cells. -/
def tmC (t : Tm) : List Value := [.int .u16 t.y, .int .u8 t.mo, .int .u8 t.d, .int .u8 t.h, .int .u8 t.mi, .int .u8 t.s]
/-- Its cells; dv: its data's slice. -/
def varC (x : DV) (dv : Value) : List Value := [.string (sOf x.nm)] ++ (x.g.map b8 ++ ([.int .u32 (x.a : Int)] ++ (tmC x.t ++ (x.o.map b8 ++ [dv]))))
theorem varC_length (x : DV) (dv : Value) (h : x.Ok) : (varC x dv).length = 57 := by
  unfold varC tmC
  simp [h.g, h.o]
theorem at_on {a b : List Value} {n k : Nat} (h : a.length = n) : (a ++ b)[n + k]? = b[k]? := by
  rw [List.getElem?_append_right (by omega)]
  congr 1
  omega
theorem varC_at (x : DV) (dv : Value) (h : x.Ok) : (varC x dv)[0]? = some (.string (sOf x.nm)) ∧ (varC x dv)[17]? = some (.int .u32 (x.a : Int)) ∧
    (varC x dv)[18]? = some (.int .u16 x.t.y) ∧ (varC x dv)[19]? = some (.int .u8 x.t.mo) ∧ (varC x dv)[20]? = some (.int .u8 x.t.d) ∧ (varC x dv)[21]? = some (.int .u8 x.t.h) ∧ (varC x dv)[22]? = some (.int .u8 x.t.mi) ∧ (varC x dv)[23]? = some (.int .u8 x.t.s) ∧
    (varC x dv)[56]? = some dv ∧ ∀ j v, (x.g.map b8)[j]? = some v → (varC x dv)[1 + j]? = some v := by
  have lg : (x.g.map b8).length = 16 := by rw [List.length_map]; exact h.g
  have lo : (x.o.map b8).length = 32 := by rw [List.length_map]; exact h.o
  have lt : (tmC x.t).length = 6 := rfl
  unfold varC
  have e17 : ∀ k, ([Value.string (sOf x.nm)] ++ (x.g.map b8 ++ ([Value.int .u32 (x.a : Int)] ++ (tmC x.t ++ (x.o.map b8 ++ [dv])))))[1 + (16 + k)]? = ([Value.int .u32 (x.a : Int)] ++ (tmC x.t ++ (x.o.map b8 ++ [dv])))[k]? := fun k => by
    rw [at_on (by rfl), at_on lg]
  have e18 : ∀ k, ([Value.string (sOf x.nm)] ++ (x.g.map b8 ++ ([Value.int .u32 (x.a : Int)] ++ (tmC x.t ++ (x.o.map b8 ++ [dv])))))[1 + (16 + (1 + k))]? = (tmC x.t ++ (x.o.map b8 ++ [dv]))[k]? := fun k => by
    rw [e17, at_on (by rfl)]
  have e24 : ∀ k, ([Value.string (sOf x.nm)] ++ (x.g.map b8 ++ ([Value.int .u32 (x.a : Int)] ++ (tmC x.t ++ (x.o.map b8 ++ [dv])))))[1 + (16 + (1 + (6 + k)))]? = (x.o.map b8 ++ [dv])[k]? := fun k => by
    rw [e18, at_on lt]
  refine ⟨rfl, e17 0, e18 0, e18 1, e18 2, e18 3, e18 4, e18 5, ?_, fun j v hj => ?_⟩
  · have := e24 (32 + 0)
    rw [at_on lo] at this
    exact this
  · rw [at_on (by rfl), List.getElem?_append_left (by have := (List.getElem?_eq_some_iff.1 hj).1; omega)]
    exact hj
end Go.Proofs.Ytemojckmnlgkdaa
