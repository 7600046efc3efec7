/-
  What the frames of the rows share: a slice of bytes that came in, as Byt.
-/
import Derived.Test.YtilanncobbdlfaaRows
import Derived.Test.YtilanncobbdlfaaKit
import Derived.ProofKit
import Derived.OpenShut
import Derived.ShutString
import Derived.ChangeOld
import Derived.Below
import Derived.Deep.Slices
namespace Go.Proofs.Ytilanncobbdlfaa
open Go Go.RowKit Go.ChangeShapes Go.WideShapes Go.ChangeAt

theorem own : ownKnob Try.prog.godebug = none := by kernel_rfl
theorem laidOut : laidOutB Try.prog = true := by kernel_rfl

/-- A slice of bytes that came in. -/
theorem byt_in {H : Type} {enc : TypeId × Value → H} {W : World} {base : Nat} {sp : Nat → Bool} {held : Bool} {fuel : Nat} {T E : TypeId} {a : Option Addr} {len cap : Nat} {y : DataW H × List MemPlace}
    (hT : Try.prog.underlying T = some (.slice E)) (hE : Try.prog.underlying E = some (.int .u8)) (hc : Try.prog.cellsOf E = 1)
    (hf : DataW.trod enc Try.prog W base sp held fuel T (Value.slice a len cap).cells.toList = some y) : ∃ l : List UInt8, l.length = len ∧ Byt W (.slice a len cap) l := by
  rcases open_ints hT hE hc hf with ⟨hcs, _⟩ | ⟨x, l, c, zs, hcs, _, hl, hm, hz, _, hcell, hwz⟩
  · simp [Value.cells] at hcs
    obtain ⟨rfl, rfl, rfl⟩ := hcs
    exact ⟨[], rfl, Byt.nil _⟩
  · simp [Value.cells] at hcs
    obtain ⟨rfl, rfl, rfl⟩ := hcs
    have hzl : len ≤ zs.length := by rw [hz]; split <;> omega
    clear hz
    have hlen : ((zs.take len).map fun n => UInt8.ofNat n.toNat).length = len := by
      rw [List.length_map, List.length_take]; omega
    refine ⟨(zs.take len).map fun n => UInt8.ofNat n.toNat, hlen, ?_⟩
    refine Byt.of hlen.symm hl hm fun i hi => ?_
    rw [hlen] at hi
    have hi' : i < zs.length := by omega
    have hci := hcell i (by omega)
    have h0' := hcell 0 (by omega)
    obtain ⟨b, off, sp⟩ := x
    have hsp : sp = none := by
      have := spot_of_cell h0'
      simpa [Addr.add] using this
    subst hsp
    refine ⟨b, off, rfl, ?_⟩
    rw [add0] at hci
    rw [hci]
    have hw : (Lit.int .u8 (zs.getD i 0)).wf = true := hwz _ (by simp [List.getD, hi'])
    have hb := bounds_u8 hw
    have : ((zs.take len).map fun n => UInt8.ofNat n.toNat).getD i 0 = UInt8.ofNat (zs.getD i 0).toNat := by
      simp [List.getD, hi, hi']
    rw [this, UInt8.toNat_ofNat']
    congr 2
    omega

/-- A slice of slices of bytes that came in. -/
theorem byts_in {H : Type} {enc : TypeId × Value → H} {W : World} {base : Nat} {sp : Nat → Bool} {held : Bool} {fuel : Nat} {T E B : TypeId} {a : Option Addr} {len cap : Nat} {y : DataW H × List MemPlace}
    (hT : Try.prog.underlying T = some (.slice E)) (hc1 : Try.prog.cellsOf E = 1) (hE : Try.prog.underlying E = some (.slice B)) (hB : Try.prog.underlying B = some (.int .u8)) (hc : Try.prog.cellsOf B = 1)
    (hf : DataW.trod enc Try.prog W base sp held fuel T (Value.slice a len cap).cells.toList = some y) : ∃ l : List (List UInt8), l.length = len ∧ Byts W (.slice a len cap) l := by
  rcases Deep.open_slice1 hT hc1 hf with ⟨hcs, _⟩ | ⟨x, l, c, m, n, V, D, Pl, hcs, _, hl, hm, hmm, _, hV⟩
  · simp [Value.cells] at hcs
    obtain ⟨rfl, rfl, rfl⟩ := hcs
    exact ⟨[], rfl, none, 0, rfl, Nat.le_refl _, by unfold maxLen; omega, fun i hi => by simp at hi⟩
  · simp [Value.cells] at hcs
    obtain ⟨rfl, rfl, rfl⟩ := hcs
    have hlm : len ≤ m := by rw [hmm]; split <;> omega
    have hel : ∀ i, i < len → ∃ r : List UInt8, Byt W (V i) r := by
      intro i hi
      obtain ⟨_, ht⟩ := hV i (by omega)
      rcases DataW.trod_slice hE ht with ⟨e, _⟩ | ⟨a', len', cap', _, _, _, _, e, _⟩
      · simp only [List.cons.injEq, and_true] at e
        rw [e]
        exact ⟨[], Byt.nil _⟩
      · simp only [List.cons.injEq, and_true] at e
        rw [e] at ht ⊢
        obtain ⟨r, _, hr⟩ := byt_in hE hB hc (a := some a') (len := len') (cap := cap') ht
        exact ⟨r, hr⟩
    obtain ⟨R, hR⟩ := Deep.choose_lt hel
    refine ⟨(List.range len).map R, by simp, some x, cap, by simp, by simpa using hl, hm, fun i hi => ?_⟩
    have hi' : i < len := by simpa using hi
    have h0 := (hV 0 (by omega)).1
    obtain ⟨b, off, sp⟩ := x
    have hsp : sp = none := by
      have := spot_of_cell h0
      simpa [Addr.add] using this
    subst hsp
    have hci := (hV i (by omega)).1
    rw [add0] at hci
    refine ⟨b, off, V i, rfl, hci, ?_⟩
    have : ((List.range len).map R).getD i [] = R i := by simp [List.getD, hi']
    rw [this]
    exact hR i hi'
end Go.Proofs.Ytilanncobbdlfaa
