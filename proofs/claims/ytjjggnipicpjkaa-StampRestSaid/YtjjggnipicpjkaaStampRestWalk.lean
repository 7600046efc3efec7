/-
  The walk of the law StampRest.
-/
import Derived.Test.YtjjggnipicpjkaaStWorks
import Derived.Test.YtjjggnipicpjkaaStBackPlain
import Derived.Test.YtjjggnipicpjkaaApart1
import Derived.OpenShut
namespace Go.Proofs.Ytjjggnipicpjkaa
open Go Go.RowKit

theorem getD_set8 (b : List UInt8) (k j : Nat) (c : UInt8) (h : k < b.length) : (b.set k c).getD j 0 = if k = j then c else b.getD j 0 := by
  by_cases e : k = j
  · subst e; rw [if_pos rfl]; simp [List.getD, h]
  · rw [if_neg e]; simp [List.getD, List.getElem?_set_ne e]

theorem wr_tail (t : Tm) (j : Nat) (h1 : 7 ≤ j) (h2 : j < 16) : (wrL t).getD j 0 = 0 := by
  rw [wrL_form]
  have : j = 7 ∨ j = 8 ∨ j = 9 ∨ j = 10 ∨ j = 11 ∨ j = 12 ∨ j = 13 ∨ j = 14 ∨ j = 15 := by omega
  rcases this with rfl | rfl | rfl | rfl | rfl | rfl | rfl | rfl | rfl <;> rfl

theorem rest_no (t : Tm) (k : Nat) (c : UInt8) (h1 : 7 ≤ k) (h2 : k < 16) (hc : c ≠ 0) : rd ((wrL t).set k c) = tm0 ∧ rdE ((wrL t).set k c) = 9 := by
  refine rd_no _ ?_
  unfold rdB
  rw [decide_eq_false (fun h => hc ?_)]
  · rfl
  · have := (mx_drop _).1 h.2 k h1 h2
    rw [getD_set8 _ _ _ _ (by rw [wrL_length]; exact h2), if_pos rfl] at this
    exact this

theorem rest_yes (t : Tm) (ht : t.Fit) (hr : rightB t = true) (k : Nat) (h1 : 7 ≤ k) (h2 : k < 16) : rd ((wrL t).set k 0) = t ∧ rdE ((wrL t).set k 0) = 0 := by
  have e : (wrL t).set k 0 = wrL t := ext16 _ _ (by rw [List.length_set, wrL_length]) (wrL_length t) fun i hi => by
    rw [getD_set8 _ _ _ _ (by rw [wrL_length]; exact h2)]
    by_cases hki : k = i
    · subst hki; rw [if_pos rfl, wr_tail t k h1 h2]
    · rw [if_neg hki]
  rw [e]
  have hB : rdB (wrL t) = true := by rw [rdB_wrL t ht, hr, Bool.or_true]
  rw [(rd_yes _ hB).1, (rd_yes _ hB).2, rdT_wrL t ht]
  exact ⟨rfl, rfl⟩

set_option maxRecDepth 100000 in
set_option maxHeartbeats 8000000 in
theorem stampRest_walk (t : Tm) (p x : Int) (w : World) (ht : t.Fit) (hp : (Lit.int .u8 p).wf = true) (hx : (Lit.int .u8 x).wf = true) :
    Calls Try.prog 8 #[tmV t, .int .u8 p, .int .u8 x] w fun e w' => e = .returned (.bool true) ∧ Below w.heap.size w w' := by
  have hp1 := bounds_u8 hp
  have hx1 := bounds_u8 hx
  clear hp hx
  have HR := Lib.hid (fun W => right_calls t W ht)
  obtain ⟨WL, hWL⟩ : ∃ L, Hid (L = wrL t) := ⟨_, Lib.hid rfl⟩
  have HW : Hid (∀ W, Calls Try.prog 17 #[tmV t] W fun e w' => ∃ g c, e = .returned (.slice (some ⟨g, 0, none⟩) 16 c) ∧ W.heap.size ≤ g ∧ 16 ≤ c ∧ c ≤ 9223372036854775807 ∧ OwnB w' W.heap.size (.slice (some ⟨g, 0, none⟩) 16 c) WL ∧ Below W.heap.size W w') := Lib.hid (fun W => (write_calls t W ht).mono (by
    rintro e w' ⟨v', rfl, ho, hb⟩
    obtain ⟨g, c, e1, hg1, _, _, h4, h5⟩ := Own.head ho (by rw [wrL_length]; decide)
    rw [wrL_length] at e1 h4
    subst e1
    unfold maxLen at h5
    exact ⟨g, c, rfl, hg1, h4, by omega, by rw [hWL.out]; exact ho, hb⟩))
  have HT := Lib.hid (show (t = t) from rfl)
  have hty := rest_yes t ht
  have htn := rest_no t
  have HY := Lib.hid hty
  have HN := Lib.hid htn
  clear hty htn HT
  obtain ⟨c, hxc⟩ : ∃ c : UInt8, Hid (x = (c.toNat : Int)) := ⟨UInt8.ofNat x.toNat, Lib.hid (by rw [UInt8.toNat_ofNat']; omega)⟩
  obtain ⟨k, hk⟩ : ∃ k : Nat, Hid ((k : Int) = 7 + p % 9) := ⟨(7 + p % 9).toNat, Lib.hid (by omega)⟩
  have hk7 : 7 ≤ k := by have := hk.out; omega
  have hk16 : k < 16 := by have := hk.out; omega
  have hke : 7 + p % 9 = (k : Int) := hk.out.symm
  have hHB0 : Hid (Below w.heap.size w (w.alloc (.cells #[.int .u16 t.y, .int .u8 t.mo, .int .u8 t.d, .int .u8 t.h, .int .u8 t.mi, .int .u8 t.s] 25))) := Lib.hid ((Below.refl _ _).alloc (Nat.le_refl _) _)
  have hWlen : Hid (WL.length = 16) := Lib.hid (by rw [hWL.out]; exact wrL_length t)
  cases hR : rightB t with
  | false =>
    rw [hR] at HR
    have HRr := Lib.hid hR
    clear hR
    unfold tmV at HR ⊢
    go_enter Try.func8, Try.ntmps8
    go_wp2_with (first
      | (go_at_call 23; refine (HR.out _).mono ?_; rintro e w1 ⟨rfl, hb⟩; have HB1 := Lib.hid (hHB0.out.trans (hb.mono hHB0.out.size)); clear hb)
      | (go_at_call 13; refine (works_calls _).mono ?_; rintro e w2 ⟨rfl, hb⟩; have HB2 := Lib.hid (HB1.out.trans (hb.mono HB1.out.size)); clear hb))
    go_ret
    exact ⟨rfl, HB2.out⟩
  | true =>
    rw [hR] at HR
    have HYk := Lib.hid (HY.out hR k hk7 hk16)
    clear hR
    by_cases hx0 : x = 0
    · have hc0 : Hid (c = 0) := Lib.hid (by apply UInt8.toNat_inj.1; have := hxc.out; show c.toNat = 0; omega)
      subst hx0
      have HRd : Hid (∀ v W, Byt W v (WL.set k c) → Calls Try.prog 15 #[v] W fun e w' => e = .returned (.tuple #[.agg #[.int .u16 t.y, .int .u8 t.mo, .int .u8 t.d, .int .u8 t.h, .int .u8 t.mi, .int .u8 t.s], .int .i64 0]) ∧ Below W.heap.size W w') := Lib.hid (fun v W h => by
        have := read_calls v (WL.set k c) W h (by rw [List.length_set, hWlen.out]; decide)
        rw [hWL.out] at this
        rw [hc0.out, (HYk.out).1, (HYk.out).2] at this
        exact this)
      unfold tmV at HR HW ⊢
      go_enter Try.func8, Try.ntmps8
      go_wp2_with (first
        | (go_at_call 23; refine (HR.out _).mono ?_; rintro e w1 ⟨rfl, hb⟩; have HB1 := Lib.hid (hHB0.out.trans (hb.mono hHB0.out.size)); have ct1 : ∀ o, w1.cell? ⟨w.heap.size, o, none⟩ = _ := (fun o => hb.cell (p := ⟨w.heap.size, o, none⟩) (by simp)); have hz1 : w.heap.size < w1.heap.size := (by have hq := hb.size; simp at hq; omega); clear hb)
        | (go_at_call 17; refine (HW.out _).mono ?_; rintro e w2 ⟨g, cap2, rfl, hg1, hc16, hcm, ho, hb⟩; have HB2 := Lib.hid (HB1.out.trans (hb.mono HB1.out.size)); have ct2 : ∀ o, w2.cell? ⟨w.heap.size, o, none⟩ = _ := (fun o => hb.cell (p := ⟨w.heap.size, o, none⟩) (by show w.heap.size < _; omega)); have hgw : w.heap.size < g := (by omega); have hcell := OwnB.cell_at ho k (by rw [hWlen.out]; exact hk16); have hfz := OwnB.free ho (by decide) k; have HO := Lib.hid (OwnB.set ho k hk16 c 0 hxc.out); have hz2 : w.heap.size < w2.heap.size := (by have hq := hb.size; omega); clear hb ho))
      go_wp2_with fail
      refine (HRd.out _ _ HO.out.byt).mono ?_
      rintro e w3 ⟨rfl, hb⟩
      have HB3 := Lib.hid ((HB2.out.setCell (p := ⟨g, k, none⟩) (by show w.heap.size ≤ g; omega) (.int .u8 0)).trans (hb.mono (by have := HB2.out.size; simp [World.setCell]; omega)))
      have ct3 : ∀ o, w3.cell? ⟨w.heap.size, o, none⟩ = _ := fun o => ((hb.cell (p := ⟨w.heap.size, o, none⟩) (by show w.heap.size < _; simp [World.setCell]; omega)).trans (World.cell?_setCell_far w2 ⟨g, k, none⟩ ⟨w.heap.size, o, none⟩ _ (by show g ≠ w.heap.size; omega))).trans (ct2 o)
      have hz3 : w.heap.size < w3.heap.size := by have hq := hb.size; simp [World.setCell] at hq; omega
      clear hb hcell hfz ct2
      go_wp2_with (go_at_call 13; refine (works_calls _).mono ?_; rintro e w4 ⟨rfl, hb⟩; have HB4 := Lib.hid ((HB3.out.alloc HB3.out.size _).trans (hb.mono (by have := HB3.out.size; simp; omega))); clear hb)
      go_ret
      exact ⟨rfl, HB4.out⟩
    · have hc0 : Hid (c ≠ 0) := Lib.hid (fun e => hx0 (by rw [hxc.out, e]; rfl))
      have hx02 : (x != 0) = true := by simpa using hx0
      have hx03 : (x == 0) = false := by simpa using hx0
      clear hx0
      have HRd : Hid (∀ v W, Byt W v (WL.set k c) → Calls Try.prog 15 #[v] W fun e w' => e = .returned (.tuple #[.agg #[.int .u16 0, .int .u8 0, .int .u8 0, .int .u8 0, .int .u8 0, .int .u8 0], .int .i64 9]) ∧ Below W.heap.size W w') := Lib.hid (fun v W h => by
        have := read_calls v (WL.set k c) W h (by rw [List.length_set, hWlen.out]; decide)
        rw [hWL.out] at this
        rw [(HN.out k c hk7 hk16 hc0.out).1, (HN.out k c hk7 hk16 hc0.out).2] at this
        exact this)
      unfold tmV at HR HW ⊢
      go_enter Try.func8, Try.ntmps8
      go_wp2_with (first
        | (go_at_call 23; refine (HR.out _).mono ?_; rintro e w1 ⟨rfl, hb⟩; have HB1 := Lib.hid (hHB0.out.trans (hb.mono hHB0.out.size)); have ct1 : ∀ o, w1.cell? ⟨w.heap.size, o, none⟩ = _ := (fun o => hb.cell (p := ⟨w.heap.size, o, none⟩) (by simp)); have hz1 : w.heap.size < w1.heap.size := (by have hq := hb.size; simp at hq; omega); clear hb)
        | (go_at_call 17; refine (HW.out _).mono ?_; rintro e w2 ⟨g, cap2, rfl, hg1, hc16, hcm, ho, hb⟩; have HB2 := Lib.hid (HB1.out.trans (hb.mono HB1.out.size)); have ct2 : ∀ o, w2.cell? ⟨w.heap.size, o, none⟩ = _ := (fun o => hb.cell (p := ⟨w.heap.size, o, none⟩) (by show w.heap.size < _; omega)); have hgw : w.heap.size < g := (by omega); have hcell := OwnB.cell_at ho k (by rw [hWlen.out]; exact hk16); have hfz := OwnB.free ho (by decide) k; have HO := Lib.hid (OwnB.set ho k hk16 c x hxc.out); have hz2 : w.heap.size < w2.heap.size := (by have hq := hb.size; omega); clear hb ho))
      go_wp2_with fail
      refine (HRd.out _ _ HO.out.byt).mono ?_
      rintro e w3 ⟨rfl, hb⟩
      have HB3 := Lib.hid ((HB2.out.setCell (p := ⟨g, k, none⟩) (by show w.heap.size ≤ g; omega) (.int .u8 x)).trans (hb.mono (by have := HB2.out.size; simp [World.setCell]; omega)))
      have ct3 : ∀ o, w3.cell? ⟨w.heap.size, o, none⟩ = _ := fun o => ((hb.cell (p := ⟨w.heap.size, o, none⟩) (by show w.heap.size < _; simp [World.setCell]; omega)).trans (World.cell?_setCell_far w2 ⟨g, k, none⟩ ⟨w.heap.size, o, none⟩ _ (by show g ≠ w.heap.size; omega))).trans (ct2 o)
      have hz3 : w.heap.size < w3.heap.size := by have hq := hb.size; simp [World.setCell] at hq; omega
      clear hb hcell hfz ct2
      go_wp2_with (go_at_call 13; refine (works_calls _).mono ?_; rintro e w4 ⟨rfl, hb⟩; have HB4 := Lib.hid ((HB3.out.alloc HB3.out.size _).trans (hb.mono (by have := HB3.out.size; simp; omega))); clear hb)
      go_ret
      exact ⟨rfl, HB4.out⟩
end Go.Proofs.Ytjjggnipicpjkaa
