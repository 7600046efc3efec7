/-
  The plain law of a moment's digits: what they tell, what they do not tell, and how they are ordered.
-/
import Derived.Test.YtjjggnipicpjkaaStamp6
import Derived.Test.YtjjggnipicpjkaaStamp12
namespace Go.Proofs.Ytjjggnipicpjkaa
open Go Go.RowKit

/-- Two digits of a number below 100. -/
def dg (n : Int) : List UInt8 := [u8 (48 + n / 10), u8 (48 + n % 10)]
/-- A moment's digits, with a Z. -/
def txL (t : Tm) : List UInt8 := dg (t.y / 100) ++ (dg (t.y % 100) ++ (dg t.mo ++ (dg t.d ++ (dg t.h ++ (dg t.mi ++ (dg t.s ++ [90]))))))
theorem txL_length (t : Tm) : (txL t).length = 15 := rfl

theorem u8_nat (z : Int) (h : 0 ≤ z ∧ z ≤ 255) : ((u8 z).toNat : Int) = z := (u8_eq z h).symm

/-- What a right moment's parts are. -/
theorem right_bd {t : Tm} (h : rightB t = true) : 1900 ≤ t.y ∧ t.y ≤ 9999 ∧ 1 ≤ t.mo ∧ t.mo ≤ 12 ∧ 1 ≤ t.d ∧ t.d ≤ 31 ∧ t.h ≤ 23 ∧ t.mi ≤ 59 ∧ t.s ≤ 59 := by
  have h1 := (rightB_iff t).1 h
  have h2 := rightB_mo t h
  have h3 := daysZ_le t.y t.mo
  omega

/-- Its digits, each as a number. -/
def txD (t : Tm) (i : Nat) : Int :=
  match i with
  | 0 => t.y / 1000 | 1 => t.y / 100 % 10 | 2 => t.y % 100 / 10 | 3 => t.y % 10
  | 4 => t.mo / 10 | 5 => t.mo % 10 | 6 => t.d / 10 | 7 => t.d % 10 | 8 => t.h / 10 | 9 => t.h % 10
  | 10 => t.mi / 10 | 11 => t.mi % 10 | 12 => t.s / 10 | 13 => t.s % 10 | _ => 42

theorem tx_at (t : Tm) (ht : t.Fit) (h : rightB t = true) (i : Nat) (hi : i < 15) : (((txL t).getD i 0).toNat : Int) = 48 + txD t i := by
  have hb := right_bd h
  obtain ⟨f1, f2, f3, f4, f5, f6⟩ := ht
  have : i = 0 ∨ i = 1 ∨ i = 2 ∨ i = 3 ∨ i = 4 ∨ i = 5 ∨ i = 6 ∨ i = 7 ∨ i = 8 ∨ i = 9 ∨ i = 10 ∨ i = 11 ∨ i = 12 ∨ i = 13 ∨ i = 14 := by omega
  rcases this with rfl | rfl | rfl | rfl | rfl | rfl | rfl | rfl | rfl | rfl | rfl | rfl | rfl | rfl | rfl
  · show ((u8 (48 + t.y / 100 / 10)).toNat : Int) = 48 + t.y / 1000
    rw [u8_nat _ (by omega)]; omega
  · show ((u8 (48 + t.y / 100 % 10)).toNat : Int) = 48 + t.y / 100 % 10
    rw [u8_nat _ (by omega)]
  · show ((u8 (48 + t.y % 100 / 10)).toNat : Int) = 48 + t.y % 100 / 10
    rw [u8_nat _ (by omega)]
  · show ((u8 (48 + t.y % 100 % 10)).toNat : Int) = 48 + t.y % 10
    rw [u8_nat _ (by omega)]; omega
  · show ((u8 (48 + t.mo / 10)).toNat : Int) = 48 + t.mo / 10
    rw [u8_nat _ (by omega)]
  · show ((u8 (48 + t.mo % 10)).toNat : Int) = 48 + t.mo % 10
    rw [u8_nat _ (by omega)]
  · show ((u8 (48 + t.d / 10)).toNat : Int) = 48 + t.d / 10
    rw [u8_nat _ (by omega)]
  · show ((u8 (48 + t.d % 10)).toNat : Int) = 48 + t.d % 10
    rw [u8_nat _ (by omega)]
  · show ((u8 (48 + t.h / 10)).toNat : Int) = 48 + t.h / 10
    rw [u8_nat _ (by omega)]
  · show ((u8 (48 + t.h % 10)).toNat : Int) = 48 + t.h % 10
    rw [u8_nat _ (by omega)]
  · show ((u8 (48 + t.mi / 10)).toNat : Int) = 48 + t.mi / 10
    rw [u8_nat _ (by omega)]
  · show ((u8 (48 + t.mi % 10)).toNat : Int) = 48 + t.mi % 10
    rw [u8_nat _ (by omega)]
  · show ((u8 (48 + t.s / 10)).toNat : Int) = 48 + t.s / 10
    rw [u8_nat _ (by omega)]
  · show ((u8 (48 + t.s % 10)).toNat : Int) = 48 + t.s % 10
    rw [u8_nat _ (by omega)]
  · rfl

theorem txD_bd (t : Tm) (ht : t.Fit) (h : rightB t = true) (i : Nat) (hi : i < 14) : 0 ≤ txD t i ∧ txD t i ≤ 9 := by
  have hb := right_bd h
  obtain ⟨f1, f2, f3, f4, f5, f6⟩ := ht
  have : i = 0 ∨ i = 1 ∨ i = 2 ∨ i = 3 ∨ i = 4 ∨ i = 5 ∨ i = 6 ∨ i = 7 ∨ i = 8 ∨ i = 9 ∨ i = 10 ∨ i = 11 ∨ i = 12 ∨ i = 13 := by omega
  rcases this with rfl | rfl | rfl | rfl | rfl | rfl | rfl | rfl | rfl | rfl | rfl | rfl | rfl | rfl <;> simp only [txD] <;> omega

theorem tx_dig (t : Tm) (ht : t.Fit) (h : rightB t = true) (i : Nat) (hi : i < 14) : 48 ≤ ((txL t).getD i 0).toNat ∧ ((txL t).getD i 0).toNat ≤ 57 := by
  have h1 := tx_at t ht h i (by omega)
  have h2 := txD_bd t ht h i hi
  omega

/-- A list whose digits are a moment's, n of the year's digits left out. -/
theorem numD_of (l : List UInt8) (p : Nat) (a b : Int) (h0 : ((l.getD p 0).toNat : Int) = 48 + a) (h1 : ((l.getD (p + 1) 0).toNat : Int) = 48 + b) : numD l p 2 = 10 * a + b := by
  simp only [numD, Nat.add_zero]
  omega

theorem tx_gen (t : Tm) (ht : t.Fit) (h : rightB t = true) : toldB 4 genY (txL t) = true ∧ told 4 genY (txL t) = t := by
  have hT : toldT 4 genY (txL t) = t := by
    have g := fun i hi => tx_at t ht h i hi
    have hb := right_bd h
    obtain ⟨f1, f2, f3, f4, f5, f6⟩ := ht
    have e4 : numD (txL t) 0 4 = t.y := by
      simp only [numD, Nat.zero_add]
      have g0 := g 0 (by omega)
      have g1 := g 1 (by omega)
      have g2 := g 2 (by omega)
      have g3 := g 3 (by omega)
      simp only [txD] at g0 g1 g2 g3
      omega
    unfold toldT genY
    rw [e4, numD_of _ 4 _ _ (g 4 (by omega)) (g 5 (by omega)), numD_of _ 6 _ _ (g 6 (by omega)) (g 7 (by omega)), numD_of _ 8 _ _ (g 8 (by omega)) (g 9 (by omega)), numD_of _ 10 _ _ (g 10 (by omega)) (g 11 (by omega)), numD_of _ 12 _ _ (g 12 (by omega)) (g 13 (by omega))]
    simp only [txD]
    apply Tm.ext' <;> simp only <;> omega
  have hB : toldB 4 genY (txL t) = true := by
    rw [toldB_yes 4 genY (txL t) ⟨txL_length t, by have := tx_at t ht h 14 (by omega); simp only [txD] at this; show ((txL t).getD 14 0).toNat = 90; omega, fun i hi => tx_dig t ht h i hi⟩, hT]
    exact h
  exact ⟨hB, by unfold told; rw [hB, if_pos rfl, hT]⟩

/-- The two digits' year of a moment. -/
def shortT (t : Tm) : Tm := ⟨utcY (t.y % 100), t.mo, t.d, t.h, t.mi, t.s⟩
theorem tx_drop (t : Tm) (i : Nat) : ((txL t).drop 2).getD i 0 = (txL t).getD (2 + i) 0 := by simp [List.getD]

theorem tx_utc (t : Tm) (ht : t.Fit) (h : rightB t = true) : toldB 2 utcY ((txL t).drop 2) = rightB (shortT t) ∧ told 2 utcY ((txL t).drop 2) = if rightB (shortT t) then shortT t else tm0 := by
  have hT : toldT 2 utcY ((txL t).drop 2) = shortT t := by
    have g : ∀ i, i < 13 → ((((txL t).drop 2).getD i 0).toNat : Int) = 48 + txD t (2 + i) := fun i hi => by rw [tx_drop]; exact tx_at t ht h (2 + i) (by omega)
    have hb := right_bd h
    obtain ⟨f1, f2, f3, f4, f5, f6⟩ := ht
    unfold toldT shortT
    rw [numD_of _ 0 _ _ (g 0 (by omega)) (g 1 (by omega)), numD_of _ 2 _ _ (g 2 (by omega)) (g 3 (by omega)), numD_of _ 4 _ _ (g 4 (by omega)) (g 5 (by omega)), numD_of _ 6 _ _ (g 6 (by omega)) (g 7 (by omega)), numD_of _ 8 _ _ (g 8 (by omega)) (g 9 (by omega)), numD_of _ 10 _ _ (g 10 (by omega)) (g 11 (by omega))]
    simp only [txD]
    have e : 10 * (t.y % 100 / 10) + t.y % 10 = t.y % 100 := by omega
    rw [e]
    apply Tm.ext' <;> simp only <;> omega
  have hB : toldB 2 utcY ((txL t).drop 2) = rightB (shortT t) := by
    rw [toldB_yes 2 utcY _ ⟨rfl, by rw [tx_drop]; have := tx_at t ht h 14 (by omega); simp only [txD] at this; show ((txL t).getD 14 0).toNat = 90; omega, fun i hi => by rw [tx_drop]; exact tx_dig t ht h (2 + i) (by omega)⟩, hT]
  refine ⟨hB, ?_⟩
  unfold told
  rw [hB, hT]

/-- The year that two digits tell. -/
theorem short_year (t : Tm) (h : rightB t = true) : (shortT t).y % 100 = t.y % 100 ∧ (1950 ≤ t.y ∧ t.y < 2050 ↔ shortT t = t) := by
  have hb := right_bd h
  have e : (shortT t).y = utcY (t.y % 100) := rfl
  constructor
  · rw [e]; unfold utcY; split <;> omega
  · constructor
    · intro hy
      apply Tm.ext' <;> try rfl
      rw [e]; unfold utcY; split <;> omega
    · intro he
      have : (shortT t).y = t.y := by rw [he]
      rw [e] at this
      unfold utcY at this
      split at this <;> omega

theorem short_none (t : Tm) (h : rightB t = true) (hn : rightB (shortT t) = false) : ¬ (1950 ≤ t.y ∧ t.y < 2050) := fun hy => by
  rw [(short_year t h).2.1 hy, h] at hn
  cases hn

/-! ### What tells nothing -/

theorem told_len (k : Nat) (f : Int → Int) (l : List UInt8) (h : l.length ≠ k + 11) : toldB k f l = false := (toldB_no k f l (fun c => h c.1)).1

theorem tx_set (t : Tm) (k : Nat) (x : UInt8) (hk : k < 15) (hx : if k = 14 then x.toNat ≠ 90 else x.toNat < 48 ∨ 57 < x.toNat) : toldB 4 genY ((txL t).set k x) = false := by
  refine (toldB_no 4 genY _ (fun c => ?_)).1
  obtain ⟨_, h1, h2⟩ := c
  have e : ((txL t).set k x).getD k 0 = x := by
    have : k < (txL t).length := hk
    simp [List.getD, this]
  by_cases h14 : k = 14
  · subst h14
    rw [if_pos rfl] at hx
    rw [e] at h1
    exact hx h1
  · rw [if_neg h14] at hx
    have := h2 k (by omega)
    rw [e] at this
    omega

/-! ### The order -/

theorem less_cons (a b : UInt8) (l m : List UInt8) : Op.bytesLess (a :: l) (b :: m) = true ↔ a.toNat < b.toNat ∨ (a.toNat = b.toNat ∧ Op.bytesLess l m = true) := by
  have e : Op.bytesLess (a :: l) (b :: m) = (decide (a < b) || (a == b && Op.bytesLess l m)) := rfl
  rw [e, Bool.or_eq_true, Bool.and_eq_true, decide_eq_true_iff, UInt8.lt_iff_toNat_lt]
  constructor
  · rintro (h | ⟨h1, h2⟩)
    · exact .inl h
    · exact .inr ⟨by rw [eq_of_beq h1], h2⟩
  · rintro (h | ⟨h1, h2⟩)
    · exact .inl h
    · exact .inr ⟨by rw [UInt8.toNat_inj.1 h1]; simp, h2⟩

theorem less_dg (n m : Int) (l l' : List UInt8) (hn : 0 ≤ n ∧ n ≤ 99) (hm : 0 ≤ m ∧ m ≤ 99) : Op.bytesLess (dg n ++ l) (dg m ++ l') = true ↔ n < m ∨ (n = m ∧ Op.bytesLess l l' = true) := by
  unfold dg
  simp only [List.cons_append, List.nil_append]
  rw [less_cons, less_cons]
  have h1 := u8_nat (48 + n / 10) (by omega)
  have h2 := u8_nat (48 + n % 10) (by omega)
  have h3 := u8_nat (48 + m / 10) (by omega)
  have h4 := u8_nat (48 + m % 10) (by omega)
  generalize (u8 (48 + n / 10)).toNat = a at *
  generalize (u8 (48 + n % 10)).toNat = b at *
  generalize (u8 (48 + m / 10)).toNat = c at *
  generalize (u8 (48 + m % 10)).toNat = d at *
  by_cases hl : Op.bytesLess l l' = true
  · rw [eq_true hl]; simp only [and_true]; omega
  · rw [eq_false hl]; simp only [and_false, or_false]; omega

theorem lex_step (m a c b d : Int) (Z : Prop) (hb : 0 ≤ b ∧ b < m) (hd : 0 ≤ d ∧ d < m) : (a < c ∨ (a = c ∧ (b < d ∨ (b = d ∧ Z)))) ↔ (a * m + b < c * m + d ∨ (a * m + b = c * m + d ∧ Z)) := by
  have h1 : a < c → a * m + b < c * m + d := fun h => by
    have : (a + 1) * m ≤ c * m := Int.mul_le_mul_of_nonneg_right (by omega) (by omega)
    rw [Int.add_mul] at this
    omega
  have h2 : c < a → c * m + d < a * m + b := fun h => by
    have : (c + 1) * m ≤ a * m := Int.mul_le_mul_of_nonneg_right (by omega) (by omega)
    rw [Int.add_mul] at this
    omega
  rcases Int.lt_trichotomy a c with h | h | h
  · exact ⟨fun _ => .inl (h1 h), fun _ => .inl h⟩
  · subst h
    constructor
    · rintro (h | ⟨_, h | ⟨h, z⟩⟩)
      · omega
      · exact .inl (by omega)
      · exact .inr ⟨by omega, z⟩
    · rintro (h | ⟨h, z⟩)
      · exact .inr ⟨rfl, .inl (by omega)⟩
      · exact .inr ⟨rfl, .inr ⟨by omega, z⟩⟩
  · have := h2 h
    constructor
    · rintro (h | ⟨h, _⟩) <;> omega
    · rintro (h | ⟨h, _⟩) <;> omega

theorem less_tx (t u : Tm) (ht : t.Fit) (hu : u.Fit) (hr : rightB t = true) (hs : rightB u = true) : Op.bytesLess (txL t) (txL u) = lessB t u := by
  have hb := right_bd hr
  have hc := right_bd hs
  obtain ⟨f1, f2, f3, f4, f5, f6⟩ := ht
  obtain ⟨g1, g2, g3, g4, g5, g6⟩ := hu
  have h0 : ¬ (Op.bytesLess [90] [90] = true) := by decide
  rw [Bool.eq_iff_iff, lessB_iff]
  unfold txL key
  rw [less_dg _ _ _ _ (by omega) (by omega), less_dg _ _ _ _ (by omega) (by omega), less_dg _ _ _ _ (by omega) (by omega), less_dg _ _ _ _ (by omega) (by omega), less_dg _ _ _ _ (by omega) (by omega), less_dg _ _ _ _ (by omega) (by omega), less_dg _ _ _ _ (by omega) (by omega)]
  rw [lex_step 100 _ _ _ _ _ (by omega) (by omega)]
  rw [show t.y / 100 * 100 + t.y % 100 = t.y by omega, show u.y / 100 * 100 + u.y % 100 = u.y by omega]
  rw [lex_step 256 _ _ _ _ _ (by omega) (by omega), lex_step 256 _ _ _ _ _ (by omega) (by omega), lex_step 256 _ _ _ _ _ (by omega) (by omega), lex_step 256 _ _ _ _ _ (by omega) (by omega), lex_step 256 _ _ _ _ _ (by omega) (by omega)]
  rw [eq_false h0, and_false, or_false]
end Go.Proofs.Ytjjggnipicpjkaa
