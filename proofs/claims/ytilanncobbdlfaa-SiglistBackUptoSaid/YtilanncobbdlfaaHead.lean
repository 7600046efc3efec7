/-
  The head of bytes: b[:q].
-/
import Derived.Test.YtilanncobbdlfaaOct1
namespace Go.Proofs.Ytilanncobbdlfaa
open Go Go.RowKit

/-- b[:q], of bytes that are within. -/
theorem byt_head {w : World} {a : Option Addr} {len cap q : Nat} {l : List UInt8} (h : Byt w (.slice a len cap) l) (hlen : len = l.length) (hq : q ≤ len) :
    (∀ W : World, (Instr.sliceAt 22 (.slice a len cap) none (some (.int .i64 (q : Int))) none).run Try.prog W = .ok (.slice a q cap) W) ∧ Byt w (.slice a q cap) (l.take q) := by
  subst hlen
  refine ⟨fun W => ?_, h.take q hq⟩
  obtain ⟨a', cap', e, hlc, hcm, hc⟩ := h.open
  simp only [Value.slice.injEq] at e
  obtain ⟨rfl, _, rfl⟩ := e
  obtain ⟨i, hi, hz0, hz1, hz2⟩ := info_parts infoB
  have b2 : (0 : Int) ≤ (q : Int) ∧ (q : Int) ≤ (cap : Int) := by omega
  have hq2 : q ≤ cap := by omega
  have hadd : ∀ x : Addr, x.add 0 = x := fun x => by cases x; simp [Addr.add]
  have hmap : Option.map (fun x : Addr => x.add 0) a = a := by cases a <;> simp [hadd]
  simp [Instr.sliceAt, Instr.slice, Instr.sliceBounds, Instr.sliceBound, run_underlying Try.underlying22, asIntOf, b2, sizeOf, typeInfo, hi, hz1, hq2, hmap]
end Go.Proofs.Ytilanncobbdlfaa
