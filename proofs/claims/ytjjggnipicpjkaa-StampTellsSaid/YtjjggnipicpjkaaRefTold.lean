/-
  The contracts of the document's own two, moment, Utc and General.
-/
import Derived.Test.YtjjggnipicpjkaaStamp12
import Derived.Test.YtjjggnipicpjkaaStamp3
import Derived.Test.YtjjggnipicpjkaaTextPlain
import Derived.Test.YtjjggnipicpjkaaRow
import Derived.BigQuiet
namespace Go.Proofs.Ytjjggnipicpjkaa
open Go Go.RowKit

/-- The number of two digits at a place; 100: they are none. -/
def two (l : List UInt8) (p : Nat) : Int := if digB (l.getD p 0) && digB (l.getD (p + 1) 0) then numD l p 2 else 100
theorem two_num (l : List UInt8) (p : Nat) : numD l p 2 = 10 * ((l.getD p 0).toNat - 48 : Int) + ((l.getD (p + 1) 0).toNat - 48 : Int) := by
  simp only [numD, Nat.add_zero]; omega
theorem two_yes (l : List UInt8) (p : Nat) (h1 : digB (l.getD p 0) = true) (h2 : digB (l.getD (p + 1) 0) = true) : two l p = numD l p 2 ∧ 0 ≤ two l p ∧ two l p ≤ 99 := by
  have e : two l p = numD l p 2 := by unfold two; rw [h1, h2]; rfl
  refine ⟨e, ?_⟩
  rw [e, two_num]
  have := (digB_iff _).1 h1
  have := (digB_iff _).1 h2
  omega
theorem two_no (l : List UInt8) (p : Nat) (h : digB (l.getD p 0) = false ∨ digB (l.getD (p + 1) 0) = false) : two l p = 100 := by
  unfold two
  rcases h with h | h
  · rw [h]; rfl
  · rw [h, Bool.and_false]; rfl
theorem two_bd (l : List UInt8) (p : Nat) : 0 ≤ two l p ∧ two l p ≤ 100 := by
  cases h1 : digB (l.getD p 0) with
  | false => rw [two_no l p (.inl h1)]; omega
  | true =>
    cases h2 : digB (l.getD (p + 1) 0) with
    | false => rw [two_no l p (.inr h2)]; omega
    | true => have := (two_yes l p h1 h2).2; omega

/-- The ways of a byte through the test on digits. -/
def DigWays (x : Int) (B : Bool) : Prop := (decide (x < 48) = true ∧ B = false) ∨ (decide (x < 48) = false ∧ decide (57 < x) = true ∧ B = false) ∨ (decide (x < 48) = false ∧ decide (57 < x) = false ∧ B = true)
theorem dig_ways (c : UInt8) : DigWays (c.toNat : Int) (digB c) := by
  unfold DigWays digB
  simp only [decide_eq_true_iff, decide_eq_false_iff_not]
  omega

set_option maxHeartbeats 2000000 in
theorem refTwo_calls (v : Value) (l : List UInt8) (p : Nat) (w : World) (hv : Byt w v l) (hp : p + 2 ≤ l.length) (hl : l.length ≤ 100) :
    Calls Try.prog 42 #[v, .int .i64 (p : Int)] w fun e w' => e = .returned (.int .i64 (two l p)) ∧ Below w.heap.size w w' := by
  obtain ⟨a, cap, rfl, h1, h2, hc⟩ := hv.open
  unfold maxLen at h2
  obtain ⟨b, off, rfl, c0⟩ := hc p (by omega)
  obtain ⟨b', off', e', c1⟩ := hc (p + 1) (by omega)
  cases e'
  have w0 := dig_ways (l.getD p 0)
  have w1 := dig_ways (l.getD (p + 1) 0)
  have T0 := Lib.hid (two_yes l p)
  have T1 := Lib.hid (two_no l p)
  have TN := Lib.hid (two_num l p)
  have b0 := (l.getD p 0).toNat_lt
  have b1 := (l.getD (p + 1) 0).toNat_lt
  obtain ⟨x, hx⟩ : ∃ x : Int, Hid (x = ((l.getD p 0).toNat : Int)) := ⟨_, Lib.hid rfl⟩
  obtain ⟨y, hy⟩ : ∃ y : Int, Hid (y = ((l.getD (p + 1) 0).toNat : Int)) := ⟨_, Lib.hid rfl⟩
  obtain ⟨B0, hB0⟩ : ∃ B, Hid (B = digB (l.getD p 0)) := ⟨_, Lib.hid rfl⟩
  obtain ⟨B1, hB1⟩ : ∃ B, Hid (B = digB (l.getD (p + 1) 0)) := ⟨_, Lib.hid rfl⟩
  obtain ⟨T, hT⟩ : ∃ T, Hid (T = two l p) := ⟨_, Lib.hid rfl⟩
  have hxb : 0 ≤ x ∧ x ≤ 255 := by rw [hx.out]; omega
  have hyb : 0 ≤ y ∧ y ≤ 255 := by rw [hy.out]; omega
  rw [← hx.out, ← hB0.out] at w0
  rw [← hy.out, ← hB1.out] at w1
  rw [← hx.out] at c0
  rw [← hy.out] at c1
  rw [← hB0.out, ← hB1.out, ← hT.out] at T0 T1
  rw [← hx.out, ← hy.out] at TN
  rw [← hT.out]
  obtain ⟨L, hL⟩ : ∃ L, Hid (L = l.length) := ⟨_, Lib.hid rfl⟩
  rw [← hL.out] at hp hl h1 ⊢
  have c1' : w.cell? ⟨b, off + p + 1, none⟩ = some (.int .u8 y) := c1
  clear hc hv hx hy hB0 hB1 hT b0 b1
  unfold DigWays at w0 w1
  have W0 := Lib.hid w0
  have W1 := Lib.hid w1
  clear w0 w1
  go_enter Try.func42, Try.ntmps42
  go_wp2
  go_loop [5] (fun i => i = .int .i64 (p : Int) ∨ (i = .int .i64 ((p : Int) + 1) ∧ Hid (B0 = true)) ∨ (i = .int .i64 ((p : Int) + 2) ∧ Hid (B0 = true) ∧ Hid (B1 = true))) (fun i => p + 2 - (intOf i).toNat)
  case atStart => exact .inl rfl
  case round =>
    rcases hrel with rfl | ⟨rfl, hd0⟩ | ⟨rfl, hd0, hd1⟩
    · rcases W0.out with ⟨q1, e0⟩ | ⟨q1, q2, e0⟩ | ⟨q1, q2, e0⟩
      · have HR := Lib.hid (T1.out (.inl e0))
        clear e0
        go_wp2
        go_ret
        exact ⟨ret_int HR.out.symm, Below.refl _ _⟩
      · have HR := Lib.hid (T1.out (.inl e0))
        clear e0
        go_wp2
        go_ret
        exact ⟨ret_int HR.out.symm, Below.refl _ _⟩
      · have HE := Lib.hid e0
        clear e0
        go_wp2
        go_round
        case rel => exact .inr (.inl ⟨rfl, HE⟩)
        case measure => (simp [intOf]; try omega)
    · rcases W1.out with ⟨q1, e0⟩ | ⟨q1, q2, e0⟩ | ⟨q1, q2, e0⟩
      · have HR := Lib.hid (T1.out (.inr e0))
        clear e0
        go_wp2
        go_ret
        exact ⟨ret_int HR.out.symm, Below.refl _ _⟩
      · have HR := Lib.hid (T1.out (.inr e0))
        clear e0
        go_wp2
        go_ret
        exact ⟨ret_int HR.out.symm, Below.refl _ _⟩
      · have HE := Lib.hid e0
        clear e0
        go_wp2
        go_round
        case rel => exact .inr (.inr ⟨by rw [show (p : Int) + 2 = (p : Int) + 1 + 1 by omega], hd0, HE⟩)
        case measure => (simp [intOf]; try omega)
    · have HN := (T0.out hd0.out hd1.out)
      have hb0 : 48 ≤ x ∧ x ≤ 57 := by
        rcases W0.out with ⟨_, e0⟩ | ⟨_, _, e0⟩ | ⟨q1, q2, _⟩
        · rw [hd0.out] at e0; cases e0
        · rw [hd0.out] at e0; cases e0
        · simp only [decide_eq_false_iff_not] at q1 q2; omega
      have hb1 : 48 ≤ y ∧ y ≤ 57 := by
        rcases W1.out with ⟨_, e0⟩ | ⟨_, _, e0⟩ | ⟨q1, q2, _⟩
        · rw [hd1.out] at e0; cases e0
        · rw [hd1.out] at e0; cases e0
        · simp only [decide_eq_false_iff_not] at q1 q2; omega
      have HR : Hid (T = 10 * (x - 48) + (y - 48)) := Lib.hid (by rw [HN.1, TN.out])
      have u1 : IntKind.u8.wrap (x - 48) = x - 48 := by rw [IntKind.wrap_u8]; omega
      have u2 : IntKind.u8.wrap (y - 48) = y - 48 := by rw [IntKind.wrap_u8]; omega
      have u3 : IntKind.i64.wrap (10 * (x - 48)) = 10 * (x - 48) := IntWalk.i64_in _ (by omega)
      have u4 : IntKind.i64.wrap (10 * (x - 48) + (y - 48)) = 10 * (x - 48) + (y - 48) := IntWalk.i64_in _ (by omega)
      have u5 : IntKind.i64.wrap ((p : Int) + 1) = (p : Int) + 1 := IntWalk.i64_in _ (by omega)
      have u6 : (0 : Int) ≤ (p : Int) + 1 := by omega
      have u7 : ((p : Int) + 1).toNat = p + 1 := by omega
      have u8 : (p : Int) < (L : Int) := by omega
      have u9 : (p : Int) + 1 < (L : Int) := by omega
      clear HN
      go_wp2
      go_quiet (fail)
      go_wp2
      go_ret
      exact ⟨ret_int HR.out.symm, below_drewN (Below.refl _ _) _⟩

/-! ### moment, Utc, General -/

theorem below_six {B : Nat} {w w' : World} (h : Below B w w') {b : Nat} (hb : B ≤ b) (d0 d1 d2 d3 d4 d5 : Value) :
    Below B w ((((((w'.setCell ⟨b, 0, none⟩ d0).setCell ⟨b, 1, none⟩ d1).setCell ⟨b, 2, none⟩ d2).setCell ⟨b, 3, none⟩ d3).setCell ⟨b, 4, none⟩ d4).setCell ⟨b, 5, none⟩ d5) :=
  (((((h.setCell (p := ⟨b, 0, none⟩) hb d0).setCell (p := ⟨b, 1, none⟩) hb d1).setCell (p := ⟨b, 2, none⟩) hb d2).setCell (p := ⟨b, 3, none⟩) hb d3).setCell (p := ⟨b, 4, none⟩) hb d4).setCell (p := ⟨b, 5, none⟩) hb d5

/-- What ten digits and a Z tell, in a year. -/
def momT (Y : Int) (l : List UInt8) : Tm := ⟨Y, two l 0, two l 2, two l 4, two l 6, two l 8⟩
def momB (Y : Int) (l : List UInt8) : Bool := decide ((l.getD 10 0).toNat = 90) && rightB (momT Y l)
theorem momT_fit (Y : Int) (l : List UInt8) (h : 0 ≤ Y ∧ Y ≤ 9999) : (momT Y l).Fit := by
  have a0 := two_bd l 0
  have a2 := two_bd l 2
  have a4 := two_bd l 4
  have a6 := two_bd l 6
  have a8 := two_bd l 8
  exact ⟨by show 0 ≤ Y ∧ Y ≤ 65535; omega, by show 0 ≤ two l 0 ∧ two l 0 ≤ 255; omega, by show 0 ≤ two l 2 ∧ two l 2 ≤ 255; omega, by show 0 ≤ two l 4 ∧ two l 4 ≤ 255; omega, by show 0 ≤ two l 6 ∧ two l 6 ≤ 255; omega, by show 0 ≤ two l 8 ∧ two l 8 ≤ 255; omega⟩
def momR (Y : Int) (l : List UInt8) : Tm := if momB Y l then momT Y l else tm0

set_option maxRecDepth 100000 in
set_option maxHeartbeats 4000000 in
theorem moment_calls (Y : Int) (v : Value) (l : List UInt8) (w : World) (hY : 0 ≤ Y ∧ Y ≤ 9999) (hv : Byt w v l) (hl1 : 11 ≤ l.length) (hl : l.length ≤ 100) :
    Calls Try.prog 43 #[.int .i64 Y, v] w fun e w' => e = .returned (.tuple #[tmV (momR Y l), .bool (momB Y l)]) ∧ Below w.heap.size w w' := by
  have T0 : Hid (∀ W, Below w.heap.size w W → Calls Try.prog 42 #[v, .int .i64 0] W fun e w' => e = .returned (.int .i64 (two l 0)) ∧ Below W.heap.size W w') := Lib.hid (fun W hb => refTwo_calls v l 0 W (hv.below hb) (by omega) hl)
  have b0 := two_bd l 0
  have T2 : Hid (∀ W, Below w.heap.size w W → Calls Try.prog 42 #[v, .int .i64 2] W fun e w' => e = .returned (.int .i64 (two l 2)) ∧ Below W.heap.size W w') := Lib.hid (fun W hb => refTwo_calls v l 2 W (hv.below hb) (by omega) hl)
  have b2 := two_bd l 2
  have T4 : Hid (∀ W, Below w.heap.size w W → Calls Try.prog 42 #[v, .int .i64 4] W fun e w' => e = .returned (.int .i64 (two l 4)) ∧ Below W.heap.size W w') := Lib.hid (fun W hb => refTwo_calls v l 4 W (hv.below hb) (by omega) hl)
  have b4 := two_bd l 4
  have T6 : Hid (∀ W, Below w.heap.size w W → Calls Try.prog 42 #[v, .int .i64 6] W fun e w' => e = .returned (.int .i64 (two l 6)) ∧ Below W.heap.size W w') := Lib.hid (fun W hb => refTwo_calls v l 6 W (hv.below hb) (by omega) hl)
  have b6 := two_bd l 6
  have T8 : Hid (∀ W, Below w.heap.size w W → Calls Try.prog 42 #[v, .int .i64 8] W fun e w' => e = .returned (.int .i64 (two l 8)) ∧ Below W.heap.size W w') := Lib.hid (fun W hb => refTwo_calls v l 8 W (hv.below hb) (by omega) hl)
  have b8 := two_bd l 8
  have HR := Lib.hid (fun W => refRight_calls (momT Y l) W (momT_fit Y l hY))
  obtain ⟨a, cap, rfl, h1, h2, hc⟩ := hv.open
  unfold maxLen at h2
  obtain ⟨b, off, rfl, c10⟩ := hc 10 (by omega)
  have bz := (l.getD 10 0).toNat_lt
  obtain ⟨z, hz⟩ : ∃ z : Int, Hid (z = ((l.getD 10 0).toNat : Int)) := ⟨_, Lib.hid rfl⟩
  have hzb : 0 ≤ z ∧ z ≤ 255 := by rw [hz.out]; omega
  rw [← hz.out] at c10
  obtain ⟨R, hR⟩ : ∃ R, Hid (R = rightB (momT Y l)) := ⟨_, Lib.hid rfl⟩
  rw [← hR.out] at HR
  have hways : ((z != 90) = true ∧ Hid (momB Y l = false)) ∨ ((z != 90) = false ∧ ((R = false ∧ Hid (momB Y l = false)) ∨ (R = true ∧ Hid (momB Y l = true)))) := by
    have e : momB Y l = (decide ((l.getD 10 0).toNat = 90) && R) := by rw [hR.out]; rfl
    by_cases h90 : (l.getD 10 0).toNat = 90
    · right
      rw [decide_eq_true h90, Bool.true_and] at e
      refine ⟨by rw [hz.out, h90]; rfl, ?_⟩
      cases R with
      | false => exact .inl ⟨rfl, Lib.hid e⟩
      | true => exact .inr ⟨rfl, Lib.hid e⟩
    · left
      rw [decide_eq_false h90, Bool.false_and] at e
      exact ⟨bne_iff_ne.2 (fun h => h90 (by rw [hz.out] at h; omega)), Lib.hid e⟩
  have hm : momT Y l = ⟨Y, two l 0, two l 2, two l 4, two l 6, two l 8⟩ := rfl
  obtain ⟨MB, hMB⟩ : ∃ B, Hid (B = momB Y l) := ⟨_, Lib.hid rfl⟩
  have hRES : Hid (tmV (momR Y l) = if MB then .agg #[.int .u16 Y, .int .u8 (two l 0), .int .u8 (two l 2), .int .u8 (two l 4), .int .u8 (two l 6), .int .u8 (two l 8)] else .agg #[.int .u16 0, .int .u8 0, .int .u8 0, .int .u8 0, .int .u8 0, .int .u8 0]) := Lib.hid (by
    unfold momR
    rw [hMB.out]
    split <;> rfl)
  rw [← hMB.out] at hways ⊢
  unfold tmV at HR
  rw [hm] at HR
  simp only at HR
  obtain ⟨x0, hx0⟩ : ∃ x, Hid (x = two l 0) := ⟨_, Lib.hid rfl⟩
  rw [← hx0.out] at T0 b0 HR hRES
  have u0 : IntKind.u8.wrap x0 = x0 := by rw [IntKind.wrap_u8]; omega
  obtain ⟨x2, hx2⟩ : ∃ x, Hid (x = two l 2) := ⟨_, Lib.hid rfl⟩
  rw [← hx2.out] at T2 b2 HR hRES
  have u2 : IntKind.u8.wrap x2 = x2 := by rw [IntKind.wrap_u8]; omega
  obtain ⟨x4, hx4⟩ : ∃ x, Hid (x = two l 4) := ⟨_, Lib.hid rfl⟩
  rw [← hx4.out] at T4 b4 HR hRES
  have u4 : IntKind.u8.wrap x4 = x4 := by rw [IntKind.wrap_u8]; omega
  obtain ⟨x6, hx6⟩ : ∃ x, Hid (x = two l 6) := ⟨_, Lib.hid rfl⟩
  rw [← hx6.out] at T6 b6 HR hRES
  have u6 : IntKind.u8.wrap x6 = x6 := by rw [IntKind.wrap_u8]; omega
  obtain ⟨x8, hx8⟩ : ∃ x, Hid (x = two l 8) := ⟨_, Lib.hid rfl⟩
  rw [← hx8.out] at T8 b8 HR hRES
  have u8 : IntKind.u8.wrap x8 = x8 := by rw [IntKind.wrap_u8]; omega
  have uY : IntKind.u16.wrap Y = Y := by rw [IntKind.wrap_u16]; omega
  obtain ⟨RES, hRS⟩ : ∃ V, Hid (V = tmV (momR Y l)) := ⟨_, Lib.hid rfl⟩
  rw [← hRS.out] at hRES ⊢
  obtain ⟨L, hL⟩ : ∃ L, Hid (L = l.length) := ⟨_, Lib.hid rfl⟩
  rw [← hL.out] at hl hl1 h1 T0 T2 T4 T6 T8 ⊢
  have HC := Lib.hid c10
  clear hc hv hz bz hR hm hMB hRS hx0 hx2 hx4 hx6 hx8 c10
  have HB0 : Hid (Below w.heap.size w (w.alloc (.cells #[.int .u16 0, .int .u8 0, .int .u8 0, .int .u8 0, .int .u8 0, .int .u8 0] 25))) := Lib.hid ((Below.refl _ _).alloc (Nat.le_refl _) _)
  have CZ0 := Lib.hid (RowAt.new w #[.int .u16 0, .int .u8 0, .int .u8 0, .int .u8 0, .int .u8 0, .int .u8 0] 25 w.heap.size rfl)
  go_enter Try.func43, Try.ntmps43
  go_wp2_with fail
  refine (T0.out _ HB0.out).mono ?_
  rintro e w1 ⟨rfl, hb⟩
  have HB1 := Lib.hid (HB0.out.trans (hb.mono HB0.out.size))
  have CZ1 := Lib.hid (CZ0.out.below hb)
  clear hb
  go_wp2_with fail
  refine (T2.out _ HB1.out).mono ?_
  rintro e w2 ⟨rfl, hb⟩
  have HB2 := Lib.hid (HB1.out.trans (hb.mono HB1.out.size))
  have CZ2 := Lib.hid (CZ1.out.below hb)
  clear hb
  go_wp2_with fail
  refine (T4.out _ HB2.out).mono ?_
  rintro e w3 ⟨rfl, hb⟩
  have HB3 := Lib.hid (HB2.out.trans (hb.mono HB2.out.size))
  have CZ3 := Lib.hid (CZ2.out.below hb)
  clear hb
  go_wp2_with fail
  refine (T6.out _ HB3.out).mono ?_
  rintro e w4 ⟨rfl, hb⟩
  have HB4 := Lib.hid (HB3.out.trans (hb.mono HB3.out.size))
  have CZ4 := Lib.hid (CZ3.out.below hb)
  clear hb
  go_wp2_with fail
  refine (T8.out _ HB4.out).mono ?_
  rintro e w5 ⟨rfl, hb⟩
  have HB5 := Lib.hid (HB4.out.trans (hb.mono HB4.out.size))
  have CZ5 := Lib.hid (CZ4.out.below hb)
  clear hb
  have c10 := (HB5.out.cell (p := ⟨b, off + 10, none⟩) (lt_of_cell HC.out)).trans HC.out
  have cl : b < w5.heap.size := lt_of_cell c10
  have HBa := Lib.hid (HB5.out.alloc HB5.out.size (.cells #[.int .u16 Y, .int .u8 x0, .int .u8 x2, .int .u8 x4, .int .u8 x6, .int .u8 x8] 25))
  have CZa := Lib.hid (CZ5.out.alloc (.cells #[.int .u16 Y, .int .u8 x0, .int .u8 x2, .int .u8 x4, .int .u8 x6, .int .u8 x8] 25))
  have CXa := Lib.hid (RowAt.new w5 #[.int .u16 Y, .int .u8 x0, .int .u8 x2, .int .u8 x4, .int .u8 x6, .int .u8 x8] 25 w5.heap.size rfl)
  have zl := CZ5.out.lt
  have zc := CZ5.out.cell
  have z0 := zc 0 (.int .u16 0) rfl
  have z1 := zc 1 (.int .u8 0) rfl
  have z2 := zc 2 (.int .u8 0) rfl
  have z3 := zc 3 (.int .u8 0) rfl
  have z4 := zc 4 (.int .u8 0) rfl
  have z5 := zc 5 (.int .u8 0) rfl
  have zf := CZ5.out.free
  clear zc
  rcases hways with ⟨q1, hB⟩ | ⟨q1, ⟨rfl, hB⟩ | ⟨rfl, hB⟩⟩
  · have hres : Hid (Ending.returned (.tuple #[.agg #[.int .u16 0, .int .u8 0, .int .u8 0, .int .u8 0, .int .u8 0, .int .u8 0], .bool false]) = .returned (.tuple #[RES, .bool MB])) := Lib.hid (by rw [hRES.out, hB.out]; rfl)
    go_wp2
    refine bodyPost_ret (v := .tuple #[.agg #[.int .u16 0, .int .u8 0, .int .u8 0, .int .u8 0, .int .u8 0, .int .u8 0], .bool false]) ?_ rfl ?_
    · simp [results, Try.results43, go_sem, *]
    · refine ⟨hres.out, ?_⟩
      exact (below_six HB5.out (Nat.le_refl _) _ _ _ _ _ _).alloc (below_six HB5.out (Nat.le_refl _) _ _ _ _ _ _).size _
  · have hres : Hid (Ending.returned (.tuple #[.agg #[.int .u16 0, .int .u8 0, .int .u8 0, .int .u8 0, .int .u8 0, .int .u8 0], .bool false]) = .returned (.tuple #[RES, .bool MB])) := Lib.hid (by rw [hRES.out, hB.out]; rfl)
    go_wp2_with fail
    refine (HR.out _).mono ?_
    rintro e w6 ⟨rfl, hb⟩
    have HB6 := Lib.hid (HBa.out.trans (hb.mono HBa.out.size))
    have CZ6 := Lib.hid (CZa.out.below hb)
    clear hb zl z0 z1 z2 z3 z4 z5 zf c10 cl
    have zl := CZ6.out.lt
    have zc := CZ6.out.cell
    have z0 := zc 0 (.int .u16 0) rfl
    have z1 := zc 1 (.int .u8 0) rfl
    have z2 := zc 2 (.int .u8 0) rfl
    have z3 := zc 3 (.int .u8 0) rfl
    have z4 := zc 4 (.int .u8 0) rfl
    have z5 := zc 5 (.int .u8 0) rfl
    have zf := CZ6.out.free
    clear zc
    go_wp2
    refine bodyPost_ret (v := .tuple #[.agg #[.int .u16 0, .int .u8 0, .int .u8 0, .int .u8 0, .int .u8 0, .int .u8 0], .bool false]) ?_ rfl ?_
    · simp [results, Try.results43, go_sem, *]
    · refine ⟨hres.out, ?_⟩
      exact below_six HB6.out (Nat.le_refl _) _ _ _ _ _ _
  · have hres : Hid (Ending.returned (.tuple #[.agg #[.int .u16 Y, .int .u8 x0, .int .u8 x2, .int .u8 x4, .int .u8 x6, .int .u8 x8], .bool true]) = .returned (.tuple #[RES, .bool MB])) := Lib.hid (by rw [hRES.out, hB.out]; rfl)
    go_wp2_with fail
    refine (HR.out _).mono ?_
    rintro e w6 ⟨rfl, hb⟩
    have HB6 := Lib.hid (HBa.out.trans (hb.mono HBa.out.size))
    have CZ6 := Lib.hid (CZa.out.below hb)
    have CX6 := Lib.hid (CXa.out.below hb)
    clear hb zl z0 z1 z2 z3 z4 z5 zf c10 cl
    have zl := CZ6.out.lt
    have zc := CZ6.out.cell
    have xc := CX6.out.cell
    have z0 := zc 0 (.int .u16 0) rfl
    have y0 := xc 0 (.int .u16 Y) rfl
    have z1 := zc 1 (.int .u8 0) rfl
    have y1 := xc 1 (.int .u8 x0) rfl
    have z2 := zc 2 (.int .u8 0) rfl
    have y2 := xc 2 (.int .u8 x2) rfl
    have z3 := zc 3 (.int .u8 0) rfl
    have y3 := xc 3 (.int .u8 x4) rfl
    have z4 := zc 4 (.int .u8 0) rfl
    have y4 := xc 4 (.int .u8 x6) rfl
    have z5 := zc 5 (.int .u8 0) rfl
    have y5 := xc 5 (.int .u8 x8) rfl
    have zf := CZ6.out.free
    clear zc xc
    go_wp2
    refine bodyPost_ret (v := .tuple #[.agg #[.int .u16 Y, .int .u8 x0, .int .u8 x2, .int .u8 x4, .int .u8 x6, .int .u8 x8], .bool true]) ?_ rfl ?_
    · simp [results, Try.results43, go_sem, z0, z1, z2, z3, z4, z5]
    · refine ⟨hres.out, ?_⟩
      exact below_six HB6.out (Nat.le_refl _) _ _ _ _ _ _
end Go.Proofs.Ytjjggnipicpjkaa
