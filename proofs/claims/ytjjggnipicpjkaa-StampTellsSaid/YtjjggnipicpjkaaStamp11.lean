/-
  The contracts of the inner functions of told: the digit test, slices.ContainsFunc over it, and the closure that takes the next digits.
-/
import Derived.Test.YtjjggnipicpjkaaStamp3
namespace Go.Proofs.Ytjjggnipicpjkaa
open Go Go.RowKit

set_option maxHeartbeats 1000000 in
theorem dig1_calls (c : UInt8) (w : World) : Calls Try.prog 52 #[.int .u8 (c.toNat : Int)] w fun e w' => e = .returned (.bool (!(digB c))) ∧ w = w' := by
  have hb := c.toNat_lt
  obtain ⟨x, hx⟩ : ∃ x : Int, Hid (x = (c.toNat : Int)) := ⟨_, Lib.hid rfl⟩
  have hxb : 0 ≤ x ∧ x ≤ 255 := by rw [hx.out]; omega
  have hways : (x < 48 ∧ Hid (digB c = false)) ∨ (decide (x < 48) = false ∧ 57 < x ∧ Hid (digB c = false)) ∨ (decide (x < 48) = false ∧ decide (57 < x) = false ∧ Hid (digB c = true)) := by
    unfold Hid digB
    simp only [decide_eq_true_iff, decide_eq_false_iff_not]
    have := hx.out
    omega
  rw [← hx.out]
  clear hb
  rcases hways with ⟨h1, hr⟩ | ⟨h1, h2, hr⟩ | ⟨h1, h2, hr⟩
  all_goals
    go_enter Try.func52, Try.ntmps52
    go_wp2
    go_ret
    exact ⟨by rw [hr.out]; rfl, rfl⟩

def badD (m : List UInt8) : Prop := ∃ i, i < m.length ∧ digB (m.getD i 0) = false

set_option maxHeartbeats 1000000 in
theorem indexD_calls (v : Value) (m : List UInt8) (w : World) (hv : Byt w v m) (hm : m.length ≤ 1000) :
    Calls Try.prog 59 #[v, .func (.func 52) #[] #[]] w fun e w' => (∃ r : Int, -1 ≤ r ∧ Hid (0 ≤ r ↔ badD m) ∧ e = .returned (.int .i64 r)) ∧ w = w' := by
  obtain ⟨a, cap, rfl, _, _, hc⟩ := hv.open
  have HC := Lib.hid hc
  obtain ⟨L, hL⟩ : ∃ L, Hid (L = m.length) := ⟨_, Lib.hid rfl⟩
  rw [← hL.out] at hm ⊢
  clear hc hv
  go_enter Try.func59, Try.ntmps59
  go_wp2
  go_loop [8] (fun i => ∃ k : Nat, k ≤ L ∧ i = .int .i64 k ∧ Hid (∀ j, j < k → digB (m.getD j 0) = true)) (fun i => L - (intOf i).toNat)
  case atStart => exact ⟨0, by omega, rfl, Lib.hid (fun j hj => by omega)⟩
  case round =>
    obtain ⟨k, hk, rfl, hno⟩ := hrel
    by_cases hlt : k < L
    · obtain ⟨b, off, rfl, hck⟩ := HC.out k (by have := hL.out; omega)
      obtain ⟨c, hcd⟩ : ∃ c, Hid (c = m.getD k 0) := ⟨_, Lib.hid rfl⟩
      rw [← hcd.out] at hck
      have HD := Lib.hid (dig1_calls c)
      cases hg : digB c with
      | true =>
        rw [hg] at HD
        have hgk := Lib.hid hg
        clear hg
        go_wp2_with (go_at_call 52; refine (HD.out _).mono ?_; rintro e w' ⟨rfl, rfl⟩)
        go_round
        case rel =>
          refine ⟨k + 1, by omega, by go_num, Lib.hid (fun j hj => ?_)⟩
          by_cases hjk : j < k
          · exact hno.out j hjk
          · obtain rfl : j = k := by omega
            rw [← hcd.out]; exact hgk.out
        case measure => simp [intOf]; omega
      | false =>
        rw [hg] at HD
        have hgk := Lib.hid hg
        clear hg
        go_wp2_with (go_at_call 52; refine (HD.out _).mono ?_; rintro e w' ⟨rfl, rfl⟩)
        go_ret
        refine ⟨⟨k, by omega, Lib.hid ⟨fun _ => ⟨k, by have := hL.out; omega, ?_⟩, fun _ => by omega⟩, rfl⟩, rfl⟩
        rw [← hcd.out]; exact hgk.out
    · obtain rfl : k = L := by omega
      go_wp2
      go_ret
      refine ⟨⟨-1, by omega, Lib.hid ⟨fun h => by omega, fun h => ?_⟩, rfl⟩, rfl⟩
      obtain ⟨i, hi, hb⟩ := h
      rw [hno.out i (by have := hL.out; omega)] at hb
      cases hb

set_option maxHeartbeats 1000000 in
theorem containsD_calls (v : Value) (m : List UInt8) (w : World) (B : Bool) (hB : B = true ↔ badD m) (hv : Byt w v m) (hm : m.length ≤ 1000) :
    Calls Try.prog 51 #[v, .func (.func 52) #[] #[]] w fun e w' => e = .returned (.bool B) ∧ w = w' := by
  have HB := Lib.hid hB
  clear hB
  go_enter Try.func51, Try.ntmps51
  go_wp2_with (go_at_call 59; refine (indexD_calls v m _ hv hm).mono ?_; rintro e w1 ⟨⟨r, hr1, hr2, rfl⟩, rfl⟩)
  go_ret
  refine ⟨ret_bool ?_, rfl⟩
  rw [Bool.eq_iff_iff, decide_eq_true_iff]
  exact hr2.out.trans HB.out.symm

theorem gb_set0 (W : World) (b o : Nat) (v : Value) : W.grownBy (W.setCell ⟨b, o, none⟩ v) (some b) :=
  ⟨rfl, rfl, rfl, by simp [World.setCell], fun k _ hne => Below.heap_setCell _ _ _ _ (fun e => hne (by rw [e]))⟩
theorem gb_trans0 {w w1 w2 : World} {r : Option Nat} (h : w.grownBy w1 r) (k : w1.grownBy w2 r) : w.grownBy w2 r :=
  ⟨k.os.trans h.os, k.tape.trans h.tape, k.output.trans h.output, Nat.le_trans h.size k.size, fun j hj hne => (k.block j (Nat.lt_of_lt_of_le hj h.size) hne).trans (h.block j hj hne)⟩

set_option maxHeartbeats 2000000 in
theorem next_calls (l : List UInt8) (N L K n b off cap B0 Bat : Nat) (w : World) (hc : ∀ i, i < N → w.cell? ⟨b, off + i, none⟩ = some (.int .u8 ((l.getD i 0).toNat : Int))) (hB0 : w.cell? ⟨B0, 0, none⟩ = some (.slice (some ⟨b, off, none⟩) L cap))
    (hBat : w.cell? ⟨Bat, 0, none⟩ = some (.int .i64 (K : Int))) (hfz : w.frozen? ⟨Bat, 0, none⟩ = false) (hd : allD l N) (hKn : K + n ≤ N) (hNL : N ≤ L) (hLc : L ≤ cap) (hL : L ≤ 1000) (hn4 : n ≤ 4) (hbB : b ≠ Bat) (hb0 : B0 ≠ Bat) :
    Calls Try.prog 53 #[.int .i64 (n : Int), .pointer (some ⟨B0, 0, none⟩), .pointer (some ⟨Bat, 0, none⟩)] w fun e w' => e = .returned (.int .i64 (numD l K n)) ∧ w'.cell? ⟨Bat, 0, none⟩ = some (.int .i64 ((K + n : Nat) : Int)) ∧ w'.frozen? ⟨Bat, 0, none⟩ = false ∧ w.grownBy w' (some Bat) ∧ w'.heap.size = w.heap.size := by
  have HC := Lib.hid hc
  have HD := Lib.hid hd
  have HB0 := Lib.hid hB0
  clear hc hd hB0
  go_enter Try.func53, Try.ntmps53
  go_wp2
  go_loopw [0, 4] (fun m x wr => ∃ j : Nat, j ≤ n ∧ m = .int .i64 ((n - j : Nat) : Int) ∧ (∃ z : Int, x = .int .i64 z ∧ 0 ≤ z ∧ z ≤ 9999 ∧ Hid (z = numD l K j)) ∧ wr.cell? ⟨Bat, 0, none⟩ = some (.int .i64 ((K + j : Nat) : Int)) ∧ wr.frozen? ⟨Bat, 0, none⟩ = false ∧ Hid (w.grownBy wr (some Bat)) ∧ Hid (wr.heap.size = w.heap.size)) (fun m _ _ => (intOf m).toNat)
  case atStart => exact ⟨0, by omega, rfl, ⟨0, rfl, by omega, by omega, Lib.hid rfl⟩, by simpa using hBat, hfz, Lib.hid (World.grownBy.refl _ _), Lib.hid rfl⟩
  case round =>
    obtain ⟨j, hj, rfl, ⟨z, rfl, hz0, hz1, hz⟩, hat, hfr, hg, hsz⟩ := hrel
    clear hBat hfz
    by_cases hlt : j < n
    · obtain ⟨p, hp⟩ : ∃ p, Hid (p = K + j) := ⟨_, Lib.hid rfl⟩
      obtain ⟨q, hq⟩ : ∃ q, Hid (q + 1 = n - j) := ⟨n - j - 1, Lib.hid (by omega)⟩
      rw [← hp.out] at hat
      rw [← hq.out]
      have hqb : q ≤ 3 := by have := hq.out; omega
      have hpl : p < L := by have := hp.out; omega
      have hc0 := World.grownBy.cell hg.out HB0.out (by intro e; exact hb0 (Option.some.inj e))
      have hck := World.grownBy.cell hg.out (HC.out p (by have := hp.out; omega)) (by intro e; exact hbB (Option.some.inj e))
      obtain ⟨x, hx⟩ : ∃ x : Int, Hid (x = ((l.getD p 0).toNat : Int)) := ⟨_, Lib.hid rfl⟩
      have hxb : 48 ≤ x ∧ x ≤ 57 := by have := HD.out p (by have := hp.out; omega); rw [hx.out]; omega
      rw [← hx.out] at hck
      have hzj : Hid (z ≤ 999) := Lib.hid (by
        have h := numD_le l N HD.out K j (by omega)
        have : j = 0 ∨ j = 1 ∨ j = 2 ∨ j = 3 := by omega
        rw [hz.out]
        rcases this with rfl | rfl | rfl | rfl <;> omega)
      have hz99 : z ≤ 999 := hzj.out
      have hnew : Hid (10 * z + (x - 48) = numD l K (j + 1)) := Lib.hid (by
        show _ = 10 * numD l K j + ((l.getD (K + j) 0).toNat - 48 : Int)
        rw [← hz.out, ← hp.out, ← hx.out])
      have hgn : Hid (w.grownBy (wr.setCell ⟨Bat, 0, none⟩ (.int .i64 ((p : Int) + 1))) (some Bat)) := Lib.hid (gb_trans0 hg.out (gb_set0 wr Bat 0 _))
      have hszn : Hid ((wr.setCell ⟨Bat, 0, none⟩ (.int .i64 ((p : Int) + 1))).heap.size = w.heap.size) := Lib.hid (by rw [← hsz.out]; simp [World.setCell])
      have hcn : (wr.setCell ⟨Bat, 0, none⟩ (.int .i64 ((p : Int) + 1))).cell? ⟨Bat, 0, none⟩ = some (.int .i64 ((p : Int) + 1)) := World.cell?_setCell_same' wr _ _ (by rw [hat]; rfl)
      have HCN := Lib.hid hcn
      clear hcn
      go_wp2
      go_roundw
      case rel => exact ⟨j + 1, by omega, by rw [show n - (j + 1) = q by have := hq.out; omega], ⟨_, rfl, by omega, by omega, hnew⟩, by rw [show K + (j + 1) = p + 1 by have := hp.out; omega]; simpa using HCN.out, by simpa using hfr, hgn, hszn⟩
      case measure => simp [intOf]
    · obtain rfl : j = n := by omega
      rw [Nat.sub_self]
      go_wp2
      go_ret
      exact ⟨ret_int hz.out, hat, hfr, hg.out, hsz.out⟩
end Go.Proofs.Ytjjggnipicpjkaa
