/-
  The walk of the law StampYears.
-/
import Derived.Test.YtjjggnipicpjkaaStWorks
import Derived.Test.YtjjggnipicpjkaaTextHead
import Derived.OpenShut
namespace Go.Proofs.Ytjjggnipicpjkaa
open Go Go.RowKit

/-- How many of a month's first d numbers are days. -/
def cntD (y m : Int) : Nat → Int
  | 0 => 0
  | d + 1 => cntD y m d + if rightB ⟨y, m, (d : Int), 0, 0, 0⟩ then 1 else 0
/-- How many days the first m months have. -/
def cntM (y : Int) : Nat → Int
  | 0 => 0
  | m + 1 => cntM y m + cntD y (m : Int) 40

theorem right_day (y m d : Int) : rightB ⟨y, m, d, 0, 0, 0⟩ = decide (1900 ≤ y ∧ y ≤ 9999 ∧ 1 ≤ d ∧ d ≤ daysZ y m) := by
  unfold rightB
  apply decide_eq_decide.2
  simp only
  omega
theorem cntD_eq (y m : Int) (d : Nat) : cntD y m d = if 1900 ≤ y ∧ y ≤ 9999 then (if (d : Int) - 1 ≤ daysZ y m then (if d = 0 then 0 else (d : Int) - 1) else daysZ y m) else 0 := by
  have hD := daysZ_le y m
  induction d with
  | zero =>
    unfold cntD
    split
    · rw [if_pos (by omega), if_pos rfl]
    · rfl
  | succ d ih =>
    have hr := right_day y m d
    unfold cntD
    rw [ih, hr]
    by_cases hP : 1900 ≤ y ∧ y ≤ 9999 ∧ 1 ≤ (d : Int) ∧ (d : Int) ≤ daysZ y m
    · simp only [decide_eq_true hP, if_true]
      generalize daysZ y m = D at *
      repeat' split
      all_goals omega
    · simp only [decide_eq_false hP, Bool.false_eq_true, if_false, Int.add_zero]
      generalize daysZ y m = D at *
      repeat' split
      all_goals omega
theorem cntD_bd (y m : Int) (d : Nat) : 0 ≤ cntD y m d ∧ cntD y m d ≤ d := by
  rw [cntD_eq]
  have hD := daysZ_le y m
  split
  · split
    · split <;> omega
    · omega
  · omega
theorem cntM_bd (y : Int) (m : Nat) : 0 ≤ cntM y m ∧ cntM y m ≤ 40 * m := by
  induction m with
  | zero => simp [cntM]
  | succ m ih => have := cntD_bd y (m : Int) 40; unfold cntM; omega
theorem cntD_40 (y m : Int) : cntD y m 40 = if 1900 ≤ y ∧ y ≤ 9999 then daysZ y m else 0 := by
  have hD := daysZ_le y m
  rw [cntD_eq]
  split
  · split
    · rw [if_neg (by omega)]; omega
    · rfl
  · rfl
theorem days_feb (y : Int) : daysZ y 2 = if y % 4 = 0 ∧ (y % 100 ≠ 0 ∨ y % 400 = 0) then 29 else 28 := rfl
theorem cntM_20 (y : Int) : cntM y 20 = if 1900 ≤ y ∧ y ≤ 9999 then (if y % 4 = 0 ∧ (y % 100 ≠ 0 ∨ y % 400 = 0) then 366 else 365) else 0 := by
  simp only [cntM, cntD_40]
  by_cases hy : 1900 ≤ y ∧ y ≤ 9999
  · simp only [if_pos hy]
    have e : ∀ k : Nat, k ≠ 2 → daysZ y ((k : Nat) : Int) = daysZ 1 (k : Int) := by
      intro k hk
      unfold daysZ
      rw [if_neg (show ¬ ((k : Int) = 2) by omega), if_neg (show ¬ ((k : Int) = 2) by omega)]
    rw [e 0 (by decide), e 1 (by decide), show ((2 : Nat) : Int) = 2 from rfl, days_feb, e 3 (by decide), e 4 (by decide), e 5 (by decide), e 6 (by decide), e 7 (by decide), e 8 (by decide), e 9 (by decide), e 10 (by decide), e 11 (by decide), e 12 (by decide), e 13 (by decide), e 14 (by decide), e 15 (by decide), e 16 (by decide), e 17 (by decide), e 18 (by decide), e 19 (by decide)]
    split <;> decide
  · simp only [if_neg hy]
    rfl

/-- The ways through the tests behind the loops, and what is wanted there. -/
def YearWays (y z : Int) : Prop :=
  (((y % 400 == 0) = true) ∧ ((decide (y < 1900) = true ∧ (z == 0) = true) ∨ (decide (y < 1900) = false ∧ decide (9999 < y) = true ∧ (z == 0) = true) ∨ (decide (y < 1900) = false ∧ decide (9999 < y) = false ∧ (z == 366) = true))) ∨
  (((y % 400 == 0) = false) ∧ ((y % 4 == 0) = false) ∧ ((decide (y < 1900) = true ∧ (z == 0) = true) ∨ (decide (y < 1900) = false ∧ decide (9999 < y) = true ∧ (z == 0) = true) ∨ (decide (y < 1900) = false ∧ decide (9999 < y) = false ∧ (z == 365) = true))) ∨
  (((y % 400 == 0) = false) ∧ ((y % 4 == 0) = true) ∧ ((y % 100 != 0) = true) ∧ ((y % 100 == 0) = false) ∧ ((decide (y < 1900) = true ∧ (z == 0) = true) ∨ (decide (y < 1900) = false ∧ decide (9999 < y) = true ∧ (z == 0) = true) ∨ (decide (y < 1900) = false ∧ decide (9999 < y) = false ∧ (z == 366) = true))) ∨
  (((y % 400 == 0) = false) ∧ ((y % 4 == 0) = true) ∧ ((y % 100 != 0) = false) ∧ ((y % 100 == 0) = true) ∧ ((decide (y < 1900) = true ∧ (z == 0) = true) ∨ (decide (y < 1900) = false ∧ decide (9999 < y) = true ∧ (z == 0) = true) ∨ (decide (y < 1900) = false ∧ decide (9999 < y) = false ∧ (z == 365) = true)))
theorem year_wanted (y : Int) : YearWays y (cntM y 20) := by
  rw [cntM_20]
  unfold YearWays
  simp only [decide_eq_true_iff, decide_eq_false_iff_not, beq_iff_eq, beq_eq_false_iff_ne, bne_iff_ne, bne_eq_false_iff_eq]
  by_cases h1 : 1900 ≤ y ∧ y ≤ 9999
  · rw [if_pos h1]
    split <;> omega
  · rw [if_neg h1]
    omega

theorem rday_any (y m d : Int) (b : Bool) (h : rightB ⟨y, m, d, 0, 0, 0⟩ = b) (hy : 0 ≤ y ∧ y ≤ 65535) (hm : 0 ≤ m ∧ m ≤ 255) (hd : 0 ≤ d ∧ d ≤ 255) (w : World) :
    Calls Try.prog 23 #[.agg #[.int .u16 y, .int .u8 m, .int .u8 d, .int .u8 0, .int .u8 0, .int .u8 0]] w fun e w' => e = .returned (.bool b) ∧ Below w.heap.size w w' :=
  right_any ⟨y, m, d, 0, 0, 0⟩ b h ⟨hy, hm, hd, by show (0 : Int) ≤ 0 ∧ (0 : Int) ≤ 255; omega, by show (0 : Int) ≤ 0 ∧ (0 : Int) ≤ 255; omega, by show (0 : Int) ≤ 0 ∧ (0 : Int) ≤ 255; omega⟩ w

set_option maxRecDepth 100000 in
set_option maxHeartbeats 8000000 in
theorem stampYears_walk (y : Int) (w : World) (hyw : (Lit.int .u16 y).wf = true) :
    Calls Try.prog 5 #[.int .u16 y] w fun e w' => e = .returned (.bool true) ∧ Below w.heap.size w w' := by
  have hy := bounds_u16 hyw
  clear hyw
  have HWY := Lib.hid (year_wanted y)
  have HMB := Lib.hid (cntM_bd y)
  have HDB := Lib.hid (cntD_bd y)
  obtain ⟨cM, hcM⟩ : ∃ f : Nat → Int, Hid (f = cntM y) := ⟨_, Lib.hid rfl⟩
  obtain ⟨cD, hcD⟩ : ∃ f : Int → Nat → Int, Hid (f = cntD y) := ⟨_, Lib.hid rfl⟩
  have HM0 : Hid (cM 0 = 0) := Lib.hid (by rw [hcM.out]; rfl)
  have HMS : Hid (∀ m : Nat, cM (m + 1) = cM m + cD (m : Int) 40) := Lib.hid (fun m => by rw [hcM.out, hcD.out]; rfl)
  have HD0 : Hid (∀ m, cD m 0 = 0) := Lib.hid (fun m => by rw [hcD.out]; rfl)
  have HDS : Hid (∀ m (d : Nat), cD m (d + 1) = cD m d + if rightB ⟨y, m, (d : Int), 0, 0, 0⟩ then 1 else 0) := Lib.hid (fun m d => by rw [hcD.out]; rfl)
  rw [← hcM.out] at HMB HWY
  rw [← hcD.out] at HDB
  go_enter Try.func5, Try.ntmps5
  go_wp2
  go_loopw [3, 4] (fun n m wr => ∃ k : Nat, k ≤ 20 ∧ m = .int .i64 k ∧ (∃ z : Int, n = .int .i64 z ∧ 0 ≤ z ∧ z ≤ 40 * k ∧ Hid (z = cM k)) ∧ Hid (Below w.heap.size w wr)) (fun _ m _ => 20 - (intOf m).toNat)
  case atStart => exact ⟨0, by omega, rfl, ⟨0, rfl, by omega, by omega, Lib.hid HM0.out.symm⟩, Lib.hid (Below.refl _ _)⟩
  case round =>
    obtain ⟨k, hk, rfl, ⟨z, rfl, hz0, hz1, hz⟩, hb⟩ := hrel
    by_cases hlt : k < 20
    · obtain ⟨wo, rfl⟩ : ∃ wo : World, wo = wr := ⟨_, rfl⟩
      have hd20 : decide ((k : Int) < 20) = true := by simp; omega
      have hk8 : IntKind.u8.wrap (k : Int) = (k : Int) := by rw [IntKind.wrap_u8]; omega
      go_wp2
      go_loopw [3, 5] (fun n d wr => ∃ j : Nat, j ≤ 40 ∧ d = .int .i64 j ∧ (∃ x : Int, n = .int .i64 x ∧ 0 ≤ x ∧ x ≤ 40 * k + j ∧ Hid (x = cM k + cD (k : Int) j)) ∧ Hid (Below w.heap.size w wr)) (fun _ d _ => 40 - (intOf d).toNat)
      case atStart => exact ⟨0, by omega, rfl, ⟨z, rfl, by omega, by omega, Lib.hid (by rw [HD0.out, hz.out, Int.add_zero])⟩, hb⟩
      case round =>
        obtain ⟨j, hj, rfl, ⟨x, rfl, hx0, hx1, hx⟩, hbi⟩ := hrel
        by_cases hjt : j < 40
        · have hj8 : IntKind.u8.wrap (j : Int) = (j : Int) := by rw [IntKind.wrap_u8]; omega
          cases hR : rightB ⟨y, (k : Int), (j : Int), 0, 0, 0⟩ with
          | true =>
            have HR := Lib.hid (fun W => rday_any y k j true hR hy (by omega) (by omega) W)
            have HS : Hid (x + 1 = cM k + cD (k : Int) (j + 1)) := Lib.hid (by rw [HDS.out, hR, if_pos rfl, hx.out]; omega)
            clear hR
            go_wp2_with (go_at_call 23; refine (HR.out _).mono ?_; rintro e w1 ⟨rfl, hb1⟩; have HB1 := Lib.hid (hbi.out.trans (hb1.mono hbi.out.size)); clear hb1)
            go_roundw
            case rel => exact ⟨j + 1, by omega, by go_num, ⟨x + 1, rfl, by omega, by omega, HS⟩, HB1⟩
            case measure => simp [intOf]; omega
          | false =>
            have HR := Lib.hid (fun W => rday_any y k j false hR hy (by omega) (by omega) W)
            have HS : Hid (x = cM k + cD (k : Int) (j + 1)) := Lib.hid (by rw [HDS.out, hR, if_neg (by decide), hx.out]; omega)
            clear hR
            go_wp2_with (go_at_call 23; refine (HR.out _).mono ?_; rintro e w1 ⟨rfl, hb1⟩; have HB1 := Lib.hid (hbi.out.trans (hb1.mono hbi.out.size)); clear hb1)
            go_roundw
            case rel => exact ⟨j + 1, by omega, by go_num, ⟨x, rfl, by omega, by omega, HS⟩, HB1⟩
            case measure => simp [intOf]; omega
        · obtain rfl : j = 40 := by omega
          have HS : Hid (x = cM (k + 1)) := Lib.hid (by rw [HMS.out, hx.out])
          go_wp2
          go_roundw
          case rel => exact ⟨k + 1, by omega, by go_num, ⟨x, rfl, by omega, by omega, HS⟩, hbi⟩
          case measure => simp [intOf]; omega
    · obtain rfl : k = 20 := by omega
      have hways := HWY.out
      rw [← hz.out] at hways
      unfold YearWays at hways
      rcases hways with ⟨l1, ⟨q1, hzz⟩ | ⟨q1, q2, hzz⟩ | ⟨q1, q2, hzz⟩⟩ | ⟨l1, l2, ⟨q1, hzz⟩ | ⟨q1, q2, hzz⟩ | ⟨q1, q2, hzz⟩⟩ | ⟨l1, l2, l3, l4, ⟨q1, hzz⟩ | ⟨q1, q2, hzz⟩ | ⟨q1, q2, hzz⟩⟩ | ⟨l1, l2, l3, l4, ⟨q1, hzz⟩ | ⟨q1, q2, hzz⟩ | ⟨q1, q2, hzz⟩⟩
      all_goals
        go_wp2_with (go_at_call 13; refine (works_calls _).mono ?_; rintro e w9 ⟨rfl, hb9⟩; have HB9 := Lib.hid (hb.out.trans (hb9.mono hb.out.size)); clear hb9)
        go_ret
        exact ⟨rfl, HB9.out⟩
end Go.Proofs.Ytjjggnipicpjkaa
