/-
  The contracts of stamp's parts, of slices.Compare and of Less; and of the document's own Less.
-/
import Derived.Test.YtjjggnipicpjkaaStamp3
namespace Go.Proofs.Ytjjggnipicpjkaa
open Go Go.RowKit

/-- A moment's parts. -/
def ptV (t : Tm) : Value := .agg #[.int .u16 t.y, .int .u16 t.mo, .int .u16 t.d, .int .u16 t.h, .int .u16 t.mi, .int .u16 t.s]
def ptL (t : Tm) : List Int := [t.y, t.mo, t.d, t.h, t.mi, t.s]

set_option maxHeartbeats 4000000 in
theorem parts_calls (t : Tm) (w : World) (ht : t.Fit) :
    Calls Try.prog 36 #[tmV t] w fun e w' => e = .returned (ptV t) ∧ Below w.heap.size w w' := by
  obtain ⟨y, mo, d, h, mi, s⟩ := t
  obtain ⟨hy, hmo, hd, hh, hmi, hs⟩ := ht
  simp only at hy hmo hd hh hmi hs
  unfold tmV ptV
  simp only
  go_enter Try.func36, Try.ntmps36
  go_wp2
  exact bodyPost_ret (v := .agg #[.int .u16 y, .int .u16 mo, .int .u16 d, .int .u16 h, .int .u16 mi, .int .u16 s]) (by simp [results, Try.results36, go_sem]) rfl ⟨rfl, by
    repeat (first | exact Below.refl _ _ | (refine Below.alloc ?_ (by simp) _) | (refine Below.setCell ?_ (by simp) _))⟩

/-- By the first unlike number. -/
def cmpL : List Int → List Int → Int
  | a :: xs, b :: ys => if a < b then -1 else if b < a then 1 else cmpL xs ys
  | _, _ => 0

def cmp1 (a b : Int) : Int := if a < b then -1 else if b < a then 1 else 0

theorem cmpL_at (xs ys : List Int) (k : Nat) (hl : xs.length = ys.length) (hk : k < xs.length) (he : ∀ j, j < k → xs.getD j 0 = ys.getD j 0) (hn : xs.getD k 0 ≠ ys.getD k 0) : cmpL xs ys = cmp1 (xs.getD k 0) (ys.getD k 0) := by
  induction k generalizing xs ys with
  | zero =>
    cases xs with
    | nil => simp at hk
    | cons a xs =>
      cases ys with
      | nil => simp at hl
      | cons b ys =>
        simp only [List.getD_cons_zero] at hn ⊢
        unfold cmpL cmp1
        by_cases h1 : a < b
        · rw [if_pos h1, if_pos h1]
        · rw [if_neg h1, if_neg h1, if_pos (by omega), if_pos (by omega)]
  | succ k ih =>
    cases xs with
    | nil => simp at hk
    | cons a xs =>
      cases ys with
      | nil => simp at hl
      | cons b ys =>
        have h0 := he 0 (by omega)
        simp only [List.getD_cons_zero] at h0
        subst h0
        simp only [List.getD_cons_succ] at hn ⊢
        unfold cmpL
        rw [if_neg (by omega), if_neg (by omega)]
        exact ih xs ys (by simpa using hl) (by simpa using hk) (fun j hj => by have := he (j + 1) (by omega); simpa using this) hn

theorem cmpL_eq (xs ys : List Int) (hl : xs.length = ys.length) (he : ∀ j, j < xs.length → xs.getD j 0 = ys.getD j 0) : cmpL xs ys = 0 := by
  induction xs generalizing ys with
  | nil => cases ys <;> rfl
  | cons a xs ih =>
    cases ys with
    | nil => rfl
    | cons b ys =>
      have h0 := he 0 (by simp)
      simp only [List.getD_cons_zero] at h0
      subst h0
      unfold cmpL
      rw [if_neg (by omega), if_neg (by omega)]
      exact ih ys (by simpa using hl) (fun j hj => by have := he (j + 1) (by simpa using hj); simpa using this)

theorem cmpL_cons (a b : Int) (xs ys : List Int) : cmpL (a :: xs) (b :: ys) < 0 ↔ a < b ∨ (a = b ∧ cmpL xs ys < 0) := by
  rw [cmpL]
  by_cases h1 : a < b
  · rw [if_pos h1]
    exact ⟨fun _ => .inl h1, fun _ => by omega⟩
  · by_cases h2 : b < a
    · rw [if_neg h1, if_pos h2]
      exact ⟨fun h => by omega, fun h => by omega⟩
    · rw [if_neg h1, if_neg h2]
      exact ⟨fun h => .inr ⟨by omega, h⟩, fun h => by omega⟩

theorem cmpL_ptL (t u : Tm) (ht : t.Fit) (hu : u.Fit) : decide (cmpL (ptL t) (ptL u) < 0) = lessB t u := by
  obtain ⟨a1, a2, a3, a4, a5, a6⟩ := ht
  obtain ⟨b1, b2, b3, b4, b5, b6⟩ := hu
  unfold lessB
  apply decide_eq_decide.2
  unfold key ptL
  rw [cmpL_cons, cmpL_cons, cmpL_cons, cmpL_cons, cmpL_cons, cmpL_cons]
  have : ¬ cmpL [] [] < 0 := by decide
  omega

set_option maxHeartbeats 1000000 in
theorem isNaN_calls (a : Int) (w : World) : Calls Try.prog 58 #[.int .u16 a] w fun e w' => e = .returned (.bool false) ∧ w = w' := by
  go_enter Try.func58, Try.ntmps58
  go_wp2
  go_ret
  exact ⟨by simp, rfl⟩

set_option maxHeartbeats 1000000 in
theorem cmp1_calls (a b : Int) (w : World) : Calls Try.prog 50 #[.int .u16 a, .int .u16 b] w fun e w' => e = .returned (.int .i64 (cmp1 a b)) ∧ w = w' := by
  have hways : (a < b ∧ Hid (cmp1 a b = -1)) ∨ (decide (a < b) = false ∧ b < a ∧ Hid (cmp1 a b = 1)) ∨ (decide (a < b) = false ∧ decide (b < a) = false ∧ Hid (cmp1 a b = 0)) := by
    unfold Hid cmp1
    by_cases h1 : a < b
    · exact .inl ⟨h1, if_pos h1⟩
    · by_cases h2 : b < a
      · exact .inr (.inl ⟨by simpa using h1, h2, by rw [if_neg h1, if_pos h2]⟩)
      · exact .inr (.inr ⟨by simpa using h1, by simpa using h2, by rw [if_neg h1, if_neg h2]⟩)
  rcases hways with ⟨h1, hr⟩ | ⟨h1, h2, hr⟩ | ⟨h1, h2, hr⟩
  all_goals
    go_enter Try.func50, Try.ntmps50
    go_wp2_with (go_at_call 58; refine (isNaN_calls _ _).mono ?_; rintro e w' ⟨rfl, rfl⟩)
    go_ret
    exact ⟨ret_int hr.out.symm, rfl⟩

/-- The slice value reads the numbers of 16 bits. -/
def U16s (w : World) (v : Value) (zs : List Int) : Prop :=
  ∃ b cap, v = .slice (some ⟨b, 0, none⟩) zs.length cap ∧ zs.length ≤ 1000 ∧ ∀ i, i < zs.length → w.cell? ⟨b, i, none⟩ = some (.int .u16 (zs.getD i 0))

set_option maxHeartbeats 4000000 in
theorem compare_calls (v1 v2 : Value) (xs ys : List Int) (w : World) (h1 : U16s w v1 xs) (h2 : U16s w v2 ys) (hl : xs.length = ys.length) :
    Calls Try.prog 37 #[v1, v2] w fun e w' => e = .returned (.int .i64 (cmpL xs ys)) ∧ w' = w := by
  obtain ⟨b1, cap1, rfl, h1l, h1c⟩ := h1
  obtain ⟨b2, cap2, rfl, h2l, h2c⟩ := h2
  rw [← hl]
  have HL := Lib.hid hl
  clear hl
  obtain ⟨L, hL⟩ : ∃ L, Hid (L = xs.length) := ⟨_, Lib.hid rfl⟩
  have HC1 := Lib.hid h1c
  have HC2 := Lib.hid h2c
  clear h1c h2c h2l
  rw [← hL.out] at h1l ⊢
  go_enter Try.func37, Try.ntmps37
  go_wp2
  go_loop [11] (fun i => ∃ k : Nat, k ≤ L ∧ i = .int .i64 k ∧ Hid (∀ j, j < k → xs.getD j 0 = ys.getD j 0)) (fun i => L - (intOf i).toNat)
  case atStart => exact ⟨0, by omega, rfl, Lib.hid (fun j hj => by omega)⟩
  case round =>
    obtain ⟨k, hk, rfl, he⟩ := hrel
    by_cases hlt : k < L
    · have c1 := HC1.out k (by have := hL.out; omega)
      have c2 := HC2.out k (by have := hL.out; have := HL.out; omega)
      obtain ⟨x, hx⟩ : ∃ x, Hid (x = xs.getD k 0) := ⟨_, Lib.hid rfl⟩
      obtain ⟨y, hy⟩ : ∃ x, Hid (x = ys.getD k 0) := ⟨_, Lib.hid rfl⟩
      rw [← hx.out] at c1
      rw [← hy.out] at c2
      by_cases hxy : x = y
      · have hz : Hid (cmp1 x y = 0) := Lib.hid (by unfold cmp1; rw [if_neg (by omega), if_neg (by omega)])
        have HC := Lib.hid (cmp1_calls x y)
        rw [hz.out] at HC
        have HXY := Lib.hid hxy
        clear hxy
        go_wp2_with (go_at_call 50; refine (HC.out _).mono ?_; rintro e w' ⟨rfl, rfl⟩)
        go_round
        case rel =>
          refine ⟨k + 1, by omega, by go_num, Lib.hid (fun j hj => ?_)⟩
          by_cases hjk : j < k
          · exact he.out j hjk
          · obtain rfl : j = k := by omega
            rw [← hx.out, ← hy.out]; exact HXY.out
        case measure => simp [intOf]; omega
      · have hne : (cmp1 x y == 0) = false := by unfold cmp1; simp; split <;> (try split) <;> omega
        have hne2 : (cmp1 x y != 0) = true := by simpa using hne
        have hfin : Hid (cmpL xs ys = cmp1 x y) := Lib.hid (by
          rw [hx.out, hy.out]
          refine cmpL_at xs ys k HL.out (by have := hL.out; omega) he.out ?_
          rw [← hx.out, ← hy.out]; exact hxy)
        have HC := Lib.hid (cmp1_calls x y)
        obtain ⟨r, hr⟩ : ∃ r, Hid (r = cmp1 x y) := ⟨_, Lib.hid rfl⟩
        rw [← hr.out] at HC hne hne2 hfin
        have HXY := Lib.hid hxy
        clear hxy
        go_wp2_with (go_at_call 50; refine (HC.out _).mono ?_; rintro e w' ⟨rfl, rfl⟩)
        go_ret
        exact ⟨ret_int hfin.out.symm, rfl⟩
    · obtain rfl : k = L := by omega
      go_wp2
      go_ret
      exact ⟨ret_int (cmpL_eq xs ys HL.out (by rw [← hL.out]; exact he.out)).symm, rfl⟩
end Go.Proofs.Ytjjggnipicpjkaa
