/-
  Moments, in plain Lean: the days of a month, which moments there are, their order, and the moment that digits tell. Nothing of the program in sight.
-/
import Derived.Test.YtilanncobbdlfaaKit
namespace Go.Proofs.Ytilanncobbdlfaa
open Go Go.RowKit

/-- A moment. -/
structure Tm where
  y : Int
  mo : Int
  d : Int
  h : Int
  mi : Int
  s : Int

theorem Tm.ext' {t u : Tm} (h1 : t.y = u.y) (h2 : t.mo = u.mo) (h3 : t.d = u.d) (h4 : t.h = u.h) (h5 : t.mi = u.mi) (h6 : t.s = u.s) : t = u := by
  cases t; cases u; simp_all

/-- Its numbers fit. -/
structure Tm.Fit (t : Tm) : Prop where
  y : 0 ≤ t.y ∧ t.y ≤ 65535
  mo : 0 ≤ t.mo ∧ t.mo ≤ 255
  d : 0 ≤ t.d ∧ t.d ≤ 255
  h : 0 ≤ t.h ∧ t.h ≤ 255
  mi : 0 ≤ t.mi ∧ t.mi ≤ 255
  s : 0 ≤ t.s ∧ t.s ≤ 255

def tm0 : Tm := ⟨0, 0, 0, 0, 0, 0⟩
theorem tm0_fit : tm0.Fit := ⟨by decide, by decide, by decide, by decide, by decide, by decide⟩

/-- How many days a month has; 0: there is no such month. -/
def daysZ (y m : Int) : Int :=
  if m = 1 ∨ m = 3 ∨ m = 5 ∨ m = 7 ∨ m = 8 ∨ m = 10 ∨ m = 12 then 31
  else if m = 4 ∨ m = 6 ∨ m = 9 ∨ m = 11 then 30
  else if m = 2 then (if y % 4 = 0 ∧ (y % 100 ≠ 0 ∨ y % 400 = 0) then 29 else 28)
  else 0
theorem daysZ_le (y m : Int) : 0 ≤ daysZ y m ∧ daysZ y m ≤ 31 := by unfold daysZ; split <;> (try split) <;> (try split) <;> (try split) <;> omega

def rightB (t : Tm) : Bool := decide (1900 ≤ t.y ∧ t.y ≤ 9999 ∧ 1 ≤ t.d ∧ t.d ≤ daysZ t.y t.mo ∧ t.h ≤ 23 ∧ t.mi ≤ 59 ∧ t.s ≤ 59)
theorem rightB_iff (t : Tm) : rightB t = true ↔ 1900 ≤ t.y ∧ t.y ≤ 9999 ∧ 1 ≤ t.d ∧ t.d ≤ daysZ t.y t.mo ∧ t.h ≤ 23 ∧ t.mi ≤ 59 ∧ t.s ≤ 59 := by unfold rightB; exact decide_eq_true_iff
theorem rightB_not (t : Tm) (h : ¬ (1900 ≤ t.y ∧ t.y ≤ 9999 ∧ 1 ≤ t.d ∧ t.d ≤ daysZ t.y t.mo ∧ t.h ≤ 23 ∧ t.mi ≤ 59 ∧ t.s ≤ 59)) : rightB t = false := by unfold rightB; exact decide_eq_false h
theorem rightB_mo (t : Tm) (h : rightB t = true) : 1 ≤ t.mo ∧ t.mo ≤ 12 := by
  have h := (rightB_iff t).1 h
  have h4 := h.2.2.2.1
  unfold daysZ at h4
  by_cases c : 1 ≤ t.mo ∧ t.mo ≤ 12
  · exact c
  · rw [if_neg (by omega), if_neg (by omega), if_neg (by omega)] at h4
    omega
theorem rightB_tm0 : rightB tm0 = false := by decide

/-- A moment's weight: the order is by it. -/
def key (t : Tm) : Int := ((((t.y * 256 + t.mo) * 256 + t.d) * 256 + t.h) * 256 + t.mi) * 256 + t.s
def lessB (t u : Tm) : Bool := decide (key t < key u)
theorem lessB_iff (t u : Tm) : lessB t u = true ↔ key t < key u := by unfold lessB; exact decide_eq_true_iff
theorem key_inj {t u : Tm} (ht : t.Fit) (hu : u.Fit) (h : key t = key u) : t = u := by
  obtain ⟨a1, a2, a3, a4, a5, a6⟩ := ht
  obtain ⟨b1, b2, b3, b4, b5, b6⟩ := hu
  unfold key at h
  apply Tm.ext' <;> omega

/-- Digits. -/
def digB (c : UInt8) : Bool := decide (48 ≤ c.toNat ∧ c.toNat ≤ 57)
theorem digB_iff (c : UInt8) : digB c = true ↔ 48 ≤ c.toNat ∧ c.toNat ≤ 57 := by unfold digB; exact decide_eq_true_iff
theorem digB_not (c : UInt8) (h : ¬ (48 ≤ c.toNat ∧ c.toNat ≤ 57)) : digB c = false := by unfold digB; exact decide_eq_false h
/-- The number of the n digits from a place on. -/
def numD (l : List UInt8) (p : Nat) : Nat → Int
  | 0 => 0
  | n + 1 => 10 * numD l p n + ((l.getD (p + n) 0).toNat - 48 : Int)
/-- All digits from p on, n of them. -/
def allD (l : List UInt8) (n : Nat) : Prop := ∀ i, i < n → 48 ≤ (l.getD i 0).toNat ∧ (l.getD i 0).toNat ≤ 57
theorem numD_le (l : List UInt8) (N : Nat) (h : allD l N) : ∀ (p n : Nat), p + n ≤ N → 0 ≤ numD l p n ∧ numD l p n < 10 ^ n := by
  intro p n
  induction n with
  | zero => intro _; simp [numD]
  | succ n ih =>
    intro hpn
    have := ih (by omega)
    have hd := h (p + n) (by omega)
    unfold numD
    rw [show (10 : Int) ^ (n + 1) = 10 * 10 ^ n by rw [Int.pow_succ]; omega]
    generalize (10 : Int) ^ n = T at *
    omega

/-- The moment that digits tell, k of them the year's, which is turned. -/
def toldT (k : Nat) (f : Int → Int) (l : List UInt8) : Tm := ⟨f (numD l 0 k), numD l k 2, numD l (k + 2) 2, numD l (k + 4) 2, numD l (k + 6) 2, numD l (k + 8) 2⟩
def toldB (k : Nat) (f : Int → Int) (l : List UInt8) : Bool :=
  decide (l.length = k + 11 ∧ (l.getD (k + 10) 0).toNat = 90 ∧ (∀ i, i < k + 10 → 48 ≤ (l.getD i 0).toNat ∧ (l.getD i 0).toNat ≤ 57)) && rightB (toldT k f l)
def told (k : Nat) (f : Int → Int) (l : List UInt8) : Tm := if toldB k f l then toldT k f l else tm0
def utcY (y : Int) : Int := if 50 ≤ y then 1900 + y else 2000 + y
def genY (y : Int) : Int := y
end Go.Proofs.Ytilanncobbdlfaa
