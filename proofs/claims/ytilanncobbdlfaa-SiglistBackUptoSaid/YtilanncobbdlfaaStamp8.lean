/-
  The contracts of slices.Max over bytes, of stamp's Read and of the document's own.
-/
import Derived.Test.YtilanncobbdlfaaStamp3
import Derived.Test.YtilanncobbdlfaaOct3
import Derived.WalkLawsBesides
namespace Go.Proofs.Ytilanncobbdlfaa
open Go Go.RowKit

/-- The greatest of the first k bytes. -/
def mxL (l : List UInt8) : Nat → Int
  | 0 => 0
  | k + 1 => max (mxL l k) ((l.getD k 0).toNat : Int)
theorem mxL_bd (l : List UInt8) (k : Nat) : 0 ≤ mxL l k ∧ mxL l k ≤ 255 := by
  induction k with
  | zero => simp [mxL]
  | succ k ih => have := (l.getD k 0).toNat_lt; unfold mxL; omega
theorem mxL_zero (l : List UInt8) (k : Nat) : mxL l k = 0 ↔ ∀ i, i < k → l.getD i 0 = 0 := by
  induction k with
  | zero => simp [mxL]
  | succ k ih =>
    have hb := mxL_bd l k
    unfold mxL
    constructor
    · intro h i hi
      by_cases e : i = k
      · subst e
        apply UInt8.toNat_inj.1
        show (l.getD i 0).toNat = 0
        omega
      · exact ih.1 (by omega) i (by omega)
    · intro h
      have h1 := ih.2 (fun i hi => h i (by omega))
      have h2 := h k (by omega)
      rw [h1, h2]
      rfl

set_option maxHeartbeats 1000000 in
theorem max_calls (v : Value) (l : List UInt8) (w : World) (hv : Byt w v l) (h1 : 1 ≤ l.length) (h2 : l.length ≤ 1000) :
    Calls Try.prog 56 #[v] w fun e w' => e = .returned (.int .u8 (mxL l l.length)) ∧ w = w' := by
  obtain ⟨a, cap, rfl, _, _, hc⟩ := hv.open
  obtain ⟨L, hL⟩ : ∃ L, Hid (L = l.length) := ⟨_, Lib.hid rfl⟩
  obtain ⟨b, off, rfl, hc0⟩ := hc 0 (by omega)
  have HC : Hid (∀ i, i < L → w.cell? ⟨b, off + i, none⟩ = some (.int .u8 ((l.getD i 0).toNat : Int))) := Lib.hid (fun i hi => by
    obtain ⟨b', off', e, h⟩ := hc i (by have := hL.out; omega)
    cases e
    exact h)
  have hm1 : Hid (mxL l 1 = ((l.getD 0 0).toNat : Int)) := Lib.hid (by unfold mxL mxL; omega)
  obtain ⟨m1, hm1d⟩ : ∃ m, Hid (m = ((l.getD 0 0).toNat : Int)) := ⟨_, Lib.hid rfl⟩
  rw [← hm1d.out] at hc0 hm1
  rw [← hL.out] at h1 h2 ⊢
  clear hc hm1d
  rw [Nat.add_zero] at hc0
  go_enter Try.func56, Try.ntmps56
  go_wp2
  go_loop [3, 4] (fun m i => ∃ k : Nat, 1 ≤ k ∧ k ≤ L ∧ i = .int .i64 k ∧ ∃ z, m = .int .u8 z ∧ 0 ≤ z ∧ z ≤ 255 ∧ Hid (z = mxL l k)) (fun _ i => L - (intOf i).toNat)
  case atStart => exact ⟨1, by omega, by omega, rfl, m1, rfl, by have := mxL_bd l 1; have := hm1.out; omega, by have := mxL_bd l 1; have := hm1.out; omega, Lib.hid hm1.out.symm⟩
  case round =>
    obtain ⟨k, hk0, hk, rfl, z, rfl, hz0, hz1, hz⟩ := hrel
    by_cases hlt : k < L
    · have hck := HC.out k hlt
      obtain ⟨x, hx⟩ : ∃ x : Int, Hid (x = ((l.getD k 0).toNat : Int)) := ⟨_, Lib.hid rfl⟩
      have hxb : 0 ≤ x ∧ x ≤ 255 := by rw [hx.out]; have := (l.getD k 0).toNat_lt; omega
      rw [← hx.out] at hck
      have hs : Hid (mxL l (k + 1) = max z x) := Lib.hid (by rw [hz.out, hx.out]; rfl)
      by_cases hzx : z < x
      · go_wp2
        go_round
        case rel => exact ⟨k + 1, by omega, by omega, by go_num, x, by first | rfl | (simp; omega), by omega, by omega, Lib.hid (by have := hs.out; omega)⟩
        case measure => simp [intOf]; omega
      · have hzx2 : decide (z < x) = false := by simpa using hzx
        go_wp2
        go_round
        case rel => exact ⟨k + 1, by omega, by omega, by go_num, z, by first | rfl | (simp; omega), by omega, by omega, Lib.hid (by have := hs.out; omega)⟩
        case measure => simp [intOf]; omega
    · obtain rfl : k = L := by omega
      go_wp2
      go_ret
      exact ⟨ret_int hz.out, rfl⟩
end Go.Proofs.Ytilanncobbdlfaa
