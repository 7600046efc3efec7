/-
  The walk of the law StampOrder.
-/
import Derived.Test.YtjjggnipicpjkaaStWorks
namespace Go.Proofs.Ytjjggnipicpjkaa
open Go Go.RowKit

theorem less_plain (a b c : Tm) (ha : a.Fit) (hb : b.Fit) :
    (lessB a b = true ∧ lessB b a = false ∧ eqT a b = false ∧ (lessB b c = true → lessB a c = true)) ∨ (lessB a b = false ∧ lessB b a = true ∧ eqT a b = false) ∨ (lessB a b = false ∧ lessB b a = false ∧ eqT a b = true) := by
  have h1 := lessB_iff a b
  have h2 := lessB_iff b a
  have h3 := lessB_iff b c
  have h4 := lessB_iff a c
  have he := eqT_iff a b
  have hk : key a = key b → a = b := key_inj ha hb
  rcases Int.lt_trichotomy (key a) (key b) with h | h | h
  · refine .inl ⟨h1.2 h, ?_, ?_, fun q => h4.2 (by have := h3.1 q; omega)⟩
    · cases q : lessB b a with
      | false => rfl
      | true => have := h2.1 q; omega
    · cases q : eqT a b with
      | false => rfl
      | true => rw [he.1 q] at h; omega
  · refine .inr (.inr ⟨?_, ?_, he.2 (hk h)⟩)
    · cases q : lessB a b with
      | false => rfl
      | true => have := h1.1 q; omega
    · cases q : lessB b a with
      | false => rfl
      | true => have := h2.1 q; omega
  · refine .inr (.inl ⟨?_, h2.2 h, ?_⟩)
    · cases q : lessB a b with
      | false => rfl
      | true => have := h1.1 q; omega
    · cases q : eqT a b with
      | false => rfl
      | true => rw [he.1 q] at h; omega
theorem less_self (a : Tm) : lessB a a = false := by
  cases q : lessB a a with
  | false => rfl
  | true => have := (lessB_iff a a).1 q; omega
theorem less_any (a0 a1 a2 a3 a4 a5 b0 b1 b2 b3 b4 b5 : Int) (w : World) (ha : Tm.Fit ⟨a0, a1, a2, a3, a4, a5⟩) (hb : Tm.Fit ⟨b0, b1, b2, b3, b4, b5⟩) :
    Calls Try.prog 22 #[.agg #[.int .u16 a0, .int .u8 a1, .int .u8 a2, .int .u8 a3, .int .u8 a4, .int .u8 a5], .agg #[.int .u16 b0, .int .u8 b1, .int .u8 b2, .int .u8 b3, .int .u8 b4, .int .u8 b5]] w fun e w' => e = .returned (.bool (lessB ⟨a0, a1, a2, a3, a4, a5⟩ ⟨b0, b1, b2, b3, b4, b5⟩)) ∧ Below w.heap.size w w' := less_calls ⟨a0, a1, a2, a3, a4, a5⟩ ⟨b0, b1, b2, b3, b4, b5⟩ w ha hb

set_option maxRecDepth 100000 in
set_option maxHeartbeats 8000000 in
theorem stampOrder_walk (a b c : Tm) (w : World) (ha : a.Fit) (hbf : b.Fit) (hcf : c.Fit) :
    Calls Try.prog 4 #[tmV a, tmV b, tmV c] w fun e w' => e = .returned (.bool true) ∧ Below w.heap.size w w' := by
  have hp := less_plain a b c ha hbf
  have hs := less_self a
  have hne := fun W => run_tm_neq a b W
  obtain ⟨a0, a1, a2, a3, a4, a5⟩ := a
  obtain ⟨b0, b1, b2, b3, b4, b5⟩ := b
  obtain ⟨c0, c1, c2, c3, c4, c5⟩ := c
  unfold tmV at hne ⊢
  simp only at hne ⊢
  have HB : Hid (Below w.heap.size w (((w.alloc (.cells #[.int .u16 a0, .int .u8 a1, .int .u8 a2, .int .u8 a3, .int .u8 a4, .int .u8 a5] 25)).alloc (.cells #[.int .u16 b0, .int .u8 b1, .int .u8 b2, .int .u8 b3, .int .u8 b4, .int .u8 b5] 25)).alloc (.cells #[.int .u16 c0, .int .u8 c1, .int .u8 c2, .int .u8 c3, .int .u8 c4, .int .u8 c5] 25))) := Lib.hid ((((Below.refl _ _).alloc (Nat.le_refl _) _).alloc (by simp) _).alloc (by simp; omega) _)
  rcases hp with ⟨l1, l2, q, l3⟩ | ⟨l1, l2, q⟩ | ⟨l1, l2, q⟩
  · rw [q] at hne
    cases l4 : lessB ⟨b0, b1, b2, b3, b4, b5⟩ ⟨c0, c1, c2, c3, c4, c5⟩ with
    | true =>
      have l5 := l3 l4
      clear l3
      go_enter Try.func4, Try.ntmps4
      go_wp2_with (go_at_call 22; refine (less_any _ _ _ _ _ _ _ _ _ _ _ _ _ (by first | exact ha | exact hbf | exact hcf) (by first | exact ha | exact hbf | exact hcf)).mono ?_; rintro e w1 ⟨rfl, hb⟩; replace HB := Lib.hid (HB.out.trans (hb.mono HB.out.size)); have hca : ∀ o, w1.cell? ⟨w.heap.size, o, none⟩ = _ := (fun o => hb.cell (p := ⟨w.heap.size, o, none⟩) (by simp <;> omega)); have hcb : ∀ o, w1.cell? ⟨w.heap.size + 1, o, none⟩ = _ := (fun o => hb.cell (p := ⟨w.heap.size + 1, o, none⟩) (by simp <;> omega)); have hcc : ∀ o, w1.cell? ⟨w.heap.size + 1 + 1, o, none⟩ = _ := (fun o => hb.cell (p := ⟨w.heap.size + 1 + 1, o, none⟩) (by simp <;> omega)); have hz : w.heap.size + 3 ≤ w1.heap.size := (by have hq := hb.size; simp at hq; omega); clear hb)
      go_wp2_with (go_at_call 22; refine (less_any _ _ _ _ _ _ _ _ _ _ _ _ _ (by first | exact ha | exact hbf | exact hcf) (by first | exact ha | exact hbf | exact hcf)).mono ?_; rintro e w1 ⟨rfl, hb⟩; replace HB := Lib.hid (HB.out.trans (hb.mono HB.out.size)); replace hca := (fun (o : Nat) => (hb.cell (p := ⟨w.heap.size, o, none⟩) (by show w.heap.size < _; omega)).trans (hca o)); replace hcb := (fun (o : Nat) => (hb.cell (p := ⟨w.heap.size + 1, o, none⟩) (by show w.heap.size + 1 < _; omega)).trans (hcb o)); replace hcc := (fun (o : Nat) => (hb.cell (p := ⟨w.heap.size + 1 + 1, o, none⟩) (by show w.heap.size + 1 + 1 < _; omega)).trans (hcc o)); replace hz : w.heap.size + 3 ≤ w1.heap.size := (Nat.le_trans hz hb.size); clear hb)
      go_wp2_with (go_at_call 22; refine (less_any _ _ _ _ _ _ _ _ _ _ _ _ _ (by first | exact ha | exact hbf | exact hcf) (by first | exact ha | exact hbf | exact hcf)).mono ?_; rintro e w1 ⟨rfl, hb⟩; replace HB := Lib.hid (HB.out.trans (hb.mono HB.out.size)); replace hca := (fun (o : Nat) => (hb.cell (p := ⟨w.heap.size, o, none⟩) (by show w.heap.size < _; omega)).trans (hca o)); replace hcb := (fun (o : Nat) => (hb.cell (p := ⟨w.heap.size + 1, o, none⟩) (by show w.heap.size + 1 < _; omega)).trans (hcb o)); replace hcc := (fun (o : Nat) => (hb.cell (p := ⟨w.heap.size + 1 + 1, o, none⟩) (by show w.heap.size + 1 + 1 < _; omega)).trans (hcc o)); replace hz : w.heap.size + 3 ≤ w1.heap.size := (Nat.le_trans hz hb.size); clear hb)
      go_wp2_with (go_at_call 22; refine (less_any _ _ _ _ _ _ _ _ _ _ _ _ _ (by first | exact ha | exact hbf | exact hcf) (by first | exact ha | exact hbf | exact hcf)).mono ?_; rintro e w1 ⟨rfl, hb⟩; replace HB := Lib.hid (HB.out.trans (hb.mono HB.out.size)); replace hca := (fun (o : Nat) => (hb.cell (p := ⟨w.heap.size, o, none⟩) (by show w.heap.size < _; omega)).trans (hca o)); replace hcb := (fun (o : Nat) => (hb.cell (p := ⟨w.heap.size + 1, o, none⟩) (by show w.heap.size + 1 < _; omega)).trans (hcb o)); replace hcc := (fun (o : Nat) => (hb.cell (p := ⟨w.heap.size + 1 + 1, o, none⟩) (by show w.heap.size + 1 + 1 < _; omega)).trans (hcc o)); replace hz : w.heap.size + 3 ≤ w1.heap.size := (Nat.le_trans hz hb.size); clear hb)
      go_wp2_with (go_at_call 22; refine (less_any _ _ _ _ _ _ _ _ _ _ _ _ _ (by first | exact ha | exact hbf | exact hcf) (by first | exact ha | exact hbf | exact hcf)).mono ?_; rintro e w1 ⟨rfl, hb⟩; replace HB := Lib.hid (HB.out.trans (hb.mono HB.out.size)); replace hca := (fun (o : Nat) => (hb.cell (p := ⟨w.heap.size, o, none⟩) (by show w.heap.size < _; omega)).trans (hca o)); replace hcb := (fun (o : Nat) => (hb.cell (p := ⟨w.heap.size + 1, o, none⟩) (by show w.heap.size + 1 < _; omega)).trans (hcb o)); replace hcc := (fun (o : Nat) => (hb.cell (p := ⟨w.heap.size + 1 + 1, o, none⟩) (by show w.heap.size + 1 + 1 < _; omega)).trans (hcc o)); replace hz : w.heap.size + 3 ≤ w1.heap.size := (Nat.le_trans hz hb.size); clear hb)
      go_wp2_with (go_at_call 13; refine (works_calls _).mono ?_; rintro e w9 ⟨rfl, hb9⟩; have HB9 := Lib.hid (HB.out.trans (hb9.mono HB.out.size)); clear hb9)
      go_ret
      exact ⟨rfl, HB9.out⟩
    | false =>
      clear l3
      go_enter Try.func4, Try.ntmps4
      go_wp2_with (go_at_call 22; refine (less_any _ _ _ _ _ _ _ _ _ _ _ _ _ (by first | exact ha | exact hbf | exact hcf) (by first | exact ha | exact hbf | exact hcf)).mono ?_; rintro e w1 ⟨rfl, hb⟩; replace HB := Lib.hid (HB.out.trans (hb.mono HB.out.size)); have hca : ∀ o, w1.cell? ⟨w.heap.size, o, none⟩ = _ := (fun o => hb.cell (p := ⟨w.heap.size, o, none⟩) (by simp <;> omega)); have hcb : ∀ o, w1.cell? ⟨w.heap.size + 1, o, none⟩ = _ := (fun o => hb.cell (p := ⟨w.heap.size + 1, o, none⟩) (by simp <;> omega)); have hcc : ∀ o, w1.cell? ⟨w.heap.size + 1 + 1, o, none⟩ = _ := (fun o => hb.cell (p := ⟨w.heap.size + 1 + 1, o, none⟩) (by simp <;> omega)); have hz : w.heap.size + 3 ≤ w1.heap.size := (by have hq := hb.size; simp at hq; omega); clear hb)
      go_wp2_with (go_at_call 22; refine (less_any _ _ _ _ _ _ _ _ _ _ _ _ _ (by first | exact ha | exact hbf | exact hcf) (by first | exact ha | exact hbf | exact hcf)).mono ?_; rintro e w1 ⟨rfl, hb⟩; replace HB := Lib.hid (HB.out.trans (hb.mono HB.out.size)); replace hca := (fun (o : Nat) => (hb.cell (p := ⟨w.heap.size, o, none⟩) (by show w.heap.size < _; omega)).trans (hca o)); replace hcb := (fun (o : Nat) => (hb.cell (p := ⟨w.heap.size + 1, o, none⟩) (by show w.heap.size + 1 < _; omega)).trans (hcb o)); replace hcc := (fun (o : Nat) => (hb.cell (p := ⟨w.heap.size + 1 + 1, o, none⟩) (by show w.heap.size + 1 + 1 < _; omega)).trans (hcc o)); replace hz : w.heap.size + 3 ≤ w1.heap.size := (Nat.le_trans hz hb.size); clear hb)
      go_wp2_with (go_at_call 22; refine (less_any _ _ _ _ _ _ _ _ _ _ _ _ _ (by first | exact ha | exact hbf | exact hcf) (by first | exact ha | exact hbf | exact hcf)).mono ?_; rintro e w1 ⟨rfl, hb⟩; replace HB := Lib.hid (HB.out.trans (hb.mono HB.out.size)); replace hca := (fun (o : Nat) => (hb.cell (p := ⟨w.heap.size, o, none⟩) (by show w.heap.size < _; omega)).trans (hca o)); replace hcb := (fun (o : Nat) => (hb.cell (p := ⟨w.heap.size + 1, o, none⟩) (by show w.heap.size + 1 < _; omega)).trans (hcb o)); replace hcc := (fun (o : Nat) => (hb.cell (p := ⟨w.heap.size + 1 + 1, o, none⟩) (by show w.heap.size + 1 + 1 < _; omega)).trans (hcc o)); replace hz : w.heap.size + 3 ≤ w1.heap.size := (Nat.le_trans hz hb.size); clear hb)
      go_wp2_with (go_at_call 22; refine (less_any _ _ _ _ _ _ _ _ _ _ _ _ _ (by first | exact ha | exact hbf | exact hcf) (by first | exact ha | exact hbf | exact hcf)).mono ?_; rintro e w1 ⟨rfl, hb⟩; replace HB := Lib.hid (HB.out.trans (hb.mono HB.out.size)); replace hca := (fun (o : Nat) => (hb.cell (p := ⟨w.heap.size, o, none⟩) (by show w.heap.size < _; omega)).trans (hca o)); replace hcb := (fun (o : Nat) => (hb.cell (p := ⟨w.heap.size + 1, o, none⟩) (by show w.heap.size + 1 < _; omega)).trans (hcb o)); replace hcc := (fun (o : Nat) => (hb.cell (p := ⟨w.heap.size + 1 + 1, o, none⟩) (by show w.heap.size + 1 + 1 < _; omega)).trans (hcc o)); replace hz : w.heap.size + 3 ≤ w1.heap.size := (Nat.le_trans hz hb.size); clear hb)
      go_wp2_with (go_at_call 13; refine (works_calls _).mono ?_; rintro e w9 ⟨rfl, hb9⟩; have HB9 := Lib.hid (HB.out.trans (hb9.mono HB.out.size)); clear hb9)
      go_ret
      exact ⟨rfl, HB9.out⟩
  · rw [q] at hne
    go_enter Try.func4, Try.ntmps4
    go_wp2_with (go_at_call 22; refine (less_any _ _ _ _ _ _ _ _ _ _ _ _ _ (by first | exact ha | exact hbf | exact hcf) (by first | exact ha | exact hbf | exact hcf)).mono ?_; rintro e w1 ⟨rfl, hb⟩; replace HB := Lib.hid (HB.out.trans (hb.mono HB.out.size)); have hca : ∀ o, w1.cell? ⟨w.heap.size, o, none⟩ = _ := (fun o => hb.cell (p := ⟨w.heap.size, o, none⟩) (by simp <;> omega)); have hcb : ∀ o, w1.cell? ⟨w.heap.size + 1, o, none⟩ = _ := (fun o => hb.cell (p := ⟨w.heap.size + 1, o, none⟩) (by simp <;> omega)); have hcc : ∀ o, w1.cell? ⟨w.heap.size + 1 + 1, o, none⟩ = _ := (fun o => hb.cell (p := ⟨w.heap.size + 1 + 1, o, none⟩) (by simp <;> omega)); have hz : w.heap.size + 3 ≤ w1.heap.size := (by have hq := hb.size; simp at hq; omega); clear hb)
    go_wp2_with (go_at_call 22; refine (less_any _ _ _ _ _ _ _ _ _ _ _ _ _ (by first | exact ha | exact hbf | exact hcf) (by first | exact ha | exact hbf | exact hcf)).mono ?_; rintro e w1 ⟨rfl, hb⟩; replace HB := Lib.hid (HB.out.trans (hb.mono HB.out.size)); replace hca := (fun (o : Nat) => (hb.cell (p := ⟨w.heap.size, o, none⟩) (by show w.heap.size < _; omega)).trans (hca o)); replace hcb := (fun (o : Nat) => (hb.cell (p := ⟨w.heap.size + 1, o, none⟩) (by show w.heap.size + 1 < _; omega)).trans (hcb o)); replace hcc := (fun (o : Nat) => (hb.cell (p := ⟨w.heap.size + 1 + 1, o, none⟩) (by show w.heap.size + 1 + 1 < _; omega)).trans (hcc o)); replace hz : w.heap.size + 3 ≤ w1.heap.size := (Nat.le_trans hz hb.size); clear hb)
    go_wp2_with (go_at_call 22; refine (less_any _ _ _ _ _ _ _ _ _ _ _ _ _ (by first | exact ha | exact hbf | exact hcf) (by first | exact ha | exact hbf | exact hcf)).mono ?_; rintro e w1 ⟨rfl, hb⟩; replace HB := Lib.hid (HB.out.trans (hb.mono HB.out.size)); replace hca := (fun (o : Nat) => (hb.cell (p := ⟨w.heap.size, o, none⟩) (by show w.heap.size < _; omega)).trans (hca o)); replace hcb := (fun (o : Nat) => (hb.cell (p := ⟨w.heap.size + 1, o, none⟩) (by show w.heap.size + 1 < _; omega)).trans (hcb o)); replace hcc := (fun (o : Nat) => (hb.cell (p := ⟨w.heap.size + 1 + 1, o, none⟩) (by show w.heap.size + 1 + 1 < _; omega)).trans (hcc o)); replace hz : w.heap.size + 3 ≤ w1.heap.size := (Nat.le_trans hz hb.size); clear hb)
    go_wp2_with (go_at_call 13; refine (works_calls _).mono ?_; rintro e w9 ⟨rfl, hb9⟩; have HB9 := Lib.hid (HB.out.trans (hb9.mono HB.out.size)); clear hb9)
    go_ret
    exact ⟨rfl, HB9.out⟩
  · rw [q] at hne
    go_enter Try.func4, Try.ntmps4
    go_wp2_with (go_at_call 22; refine (less_any _ _ _ _ _ _ _ _ _ _ _ _ _ (by first | exact ha | exact hbf | exact hcf) (by first | exact ha | exact hbf | exact hcf)).mono ?_; rintro e w1 ⟨rfl, hb⟩; replace HB := Lib.hid (HB.out.trans (hb.mono HB.out.size)); have hca : ∀ o, w1.cell? ⟨w.heap.size, o, none⟩ = _ := (fun o => hb.cell (p := ⟨w.heap.size, o, none⟩) (by simp <;> omega)); have hcb : ∀ o, w1.cell? ⟨w.heap.size + 1, o, none⟩ = _ := (fun o => hb.cell (p := ⟨w.heap.size + 1, o, none⟩) (by simp <;> omega)); have hcc : ∀ o, w1.cell? ⟨w.heap.size + 1 + 1, o, none⟩ = _ := (fun o => hb.cell (p := ⟨w.heap.size + 1 + 1, o, none⟩) (by simp <;> omega)); have hz : w.heap.size + 3 ≤ w1.heap.size := (by have hq := hb.size; simp at hq; omega); clear hb)
    go_wp2_with (go_at_call 22; refine (less_any _ _ _ _ _ _ _ _ _ _ _ _ _ (by first | exact ha | exact hbf | exact hcf) (by first | exact ha | exact hbf | exact hcf)).mono ?_; rintro e w1 ⟨rfl, hb⟩; replace HB := Lib.hid (HB.out.trans (hb.mono HB.out.size)); replace hca := (fun (o : Nat) => (hb.cell (p := ⟨w.heap.size, o, none⟩) (by show w.heap.size < _; omega)).trans (hca o)); replace hcb := (fun (o : Nat) => (hb.cell (p := ⟨w.heap.size + 1, o, none⟩) (by show w.heap.size + 1 < _; omega)).trans (hcb o)); replace hcc := (fun (o : Nat) => (hb.cell (p := ⟨w.heap.size + 1 + 1, o, none⟩) (by show w.heap.size + 1 + 1 < _; omega)).trans (hcc o)); replace hz : w.heap.size + 3 ≤ w1.heap.size := (Nat.le_trans hz hb.size); clear hb)
    go_wp2_with (go_at_call 22; refine (less_any _ _ _ _ _ _ _ _ _ _ _ _ _ (by first | exact ha | exact hbf | exact hcf) (by first | exact ha | exact hbf | exact hcf)).mono ?_; rintro e w1 ⟨rfl, hb⟩; replace HB := Lib.hid (HB.out.trans (hb.mono HB.out.size)); replace hca := (fun (o : Nat) => (hb.cell (p := ⟨w.heap.size, o, none⟩) (by show w.heap.size < _; omega)).trans (hca o)); replace hcb := (fun (o : Nat) => (hb.cell (p := ⟨w.heap.size + 1, o, none⟩) (by show w.heap.size + 1 < _; omega)).trans (hcb o)); replace hcc := (fun (o : Nat) => (hb.cell (p := ⟨w.heap.size + 1 + 1, o, none⟩) (by show w.heap.size + 1 + 1 < _; omega)).trans (hcc o)); replace hz : w.heap.size + 3 ≤ w1.heap.size := (Nat.le_trans hz hb.size); clear hb)
    go_wp2_with (go_at_call 13; refine (works_calls _).mono ?_; rintro e w9 ⟨rfl, hb9⟩; have HB9 := Lib.hid (HB.out.trans (hb9.mono HB.out.size)); clear hb9)
    go_ret
    exact ⟨rfl, HB9.out⟩
end Go.Proofs.Ytjjggnipicpjkaa
