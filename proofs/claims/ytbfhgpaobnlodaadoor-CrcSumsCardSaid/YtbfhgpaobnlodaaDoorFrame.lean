/-
  What the frames of the rows share: a slice of bytes that came in, as Byt.
-/
import Derived.Test.YtbfhgpaobnlodaaDoorRows
import Derived.Test.YtbfhgpaobnlodaaDoorKit
import Derived.ProofKit
import Derived.OpenShut
import Derived.ShutString
import Derived.ChangeOld
import Derived.Below
namespace Go.Proofs.YtbfhgpaobnlodaaDoor
open Go Go.RowKit Go.ChangeShapes Go.WideShapes Go.ChangeAt

theorem own : ownKnob Tryd.prog.godebug = none := by kernel_rfl
theorem laidOut : laidOutB Tryd.prog = true := by kernel_rfl

/-- A slice of bytes that came in. -/
theorem byt_in {H : Type} {enc : TypeId × Value → H} {W : World} {base : Nat} {sp : Nat → Bool} {held : Bool} {fuel : Nat} {T E : TypeId} {a : Option Addr} {len cap : Nat} {y : DataW H × List MemPlace}
    (hT : Tryd.prog.underlying T = some (.slice E)) (hE : Tryd.prog.underlying E = some (.int .u8)) (hc : Tryd.prog.cellsOf E = 1)
    (hf : DataW.trod enc Tryd.prog W base sp held fuel T (Value.slice a len cap).cells.toList = some y) : ∃ l : List UInt8, l.length = len ∧ Byt W (.slice a len cap) l := by
  rcases open_ints hT hE hc hf with ⟨hcs, _⟩ | ⟨x, l, c, zs, hcs, _, hl, hm, hz, _, hcell, hwz⟩
  · simp [Value.cells] at hcs
    obtain ⟨rfl, rfl, rfl⟩ := hcs
    exact ⟨[], rfl, Byt.nil _⟩
  · simp [Value.cells] at hcs
    obtain ⟨rfl, rfl, rfl⟩ := hcs
    have hzl : len ≤ zs.length := by rw [hz]; split <;> omega
    clear hz
    have hlen : ((zs.take len).map fun n => UInt8.ofNat n.toNat).length = len := by
      rw [List.length_map, List.length_take]; omega
    refine ⟨(zs.take len).map fun n => UInt8.ofNat n.toNat, hlen, ?_⟩
    refine Byt.of hlen.symm hl hm fun i hi => ?_
    rw [hlen] at hi
    have hi' : i < zs.length := by omega
    have hci := hcell i (by omega)
    have h0' := hcell 0 (by omega)
    obtain ⟨b, off, sp⟩ := x
    have hsp : sp = none := by
      have := spot_of_cell h0'
      simpa [Addr.add] using this
    subst hsp
    refine ⟨b, off, rfl, ?_⟩
    rw [add0] at hci
    rw [hci]
    have hw : (Lit.int .u8 (zs.getD i 0)).wf = true := hwz _ (by simp [List.getD, hi'])
    have hb := bounds_u8 hw
    have : ((zs.take len).map fun n => UInt8.ofNat n.toNat).getD i 0 = UInt8.ofNat (zs.getD i 0).toNat := by
      simp [List.getD, hi, hi']
    rw [this, UInt8.toNat_ofNat']
    congr 2
    omega
end Go.Proofs.YtbfhgpaobnlodaaDoor
