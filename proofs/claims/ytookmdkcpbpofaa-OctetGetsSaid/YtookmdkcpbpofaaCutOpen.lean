/-
  Cut's contract, its answer laid open.
-/
import Derived.Test.YtookmdkcpbpofaaOct11
namespace Go.Proofs.Ytookmdkcpbpofaa
open Go Go.RowKit

theorem seg_all (t : List UInt8) (n : Int) (h : (t.length : Int) = n) : seg t 0 n = t := by
  unfold seg
  rw [show (0 : Int).toNat = 0 from rfl, List.drop_zero, List.take_of_length_le (by omega)]

/-- Cut, its answer as a slice that is laid open. -/
theorem cut_open (l : List UInt8) (p n : Int) (hp : I64 p) (hn : I64 n) (hl : l.length ≤ 1000000000000) (m : Nat) (A : List UInt8) (b : Bool) (hA : cutL l p n = A) (hm : A.length = m) (hb : withinB l.length p n = b) (v : Value) (w : World) (hv : Byt w v l) :
    Calls Try.prog 18 #[v, .int .i64 p, .int .i64 n] w fun e w' => ∃ a cap, e = .returned (.tuple #[.slice a m cap, .bool b]) ∧ OwnB w' w.heap.size (.slice a m cap) A ∧ Below w.heap.size w w' := by
  refine (cut_calls v l p n w hv hp hn hl).mono ?_
  rintro e w' ⟨v', rfl, hown, hbl⟩
  rw [hA] at hown
  rw [hb]
  obtain ⟨a, cap, rfl, _⟩ := hown.byt.open
  rw [hm] at hown ⊢
  exact ⟨a, cap, rfl, hown, hbl⟩

theorem take_seg (l : List UInt8) (K m : Nat) (h : K + m ≤ l.length) : l.take K ++ seg l K m = l.take (K + m) := by
  unfold seg
  rw [Int.toNat_natCast, Int.toNat_natCast, List.take_add]
end Go.Proofs.Ytookmdkcpbpofaa
