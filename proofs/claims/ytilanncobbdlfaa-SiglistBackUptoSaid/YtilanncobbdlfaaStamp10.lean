/-
  The contract of the document's own Read of moments.
-/
import Derived.Test.YtilanncobbdlfaaStamp9
namespace Go.Proofs.Ytilanncobbdlfaa
open Go Go.RowKit

theorem mx_drop (l : List UInt8) : mxL (l.drop 7) 9 = 0 ↔ ∀ j, 7 ≤ j → j < 16 → l.getD j 0 = 0 := by
  rw [mxL_zero]
  have e : ∀ i, (l.drop 7).getD i 0 = l.getD (7 + i) 0 := fun i => by simp [List.getD]
  constructor
  · intro h j h1 h2
    have := h (j - 7) (by omega)
    rw [e, show 7 + (j - 7) = j by omega] at this
    exact this
  · intro h i hi
    rw [e]
    exact h _ (by omega) (by omega)

set_option maxRecDepth 100000 in
set_option maxHeartbeats 8000000 in
theorem refRead_calls (v : Value) (l : List UInt8) (w : World) (hv : Byt w v l) :
    Calls Try.prog 46 #[v] w fun e w' => e = .returned (.tuple #[tmV (rd l), .int .i64 (rdE l)]) ∧ Below w.heap.size w w' := by
  obtain ⟨a, cap, rfl, h1, h2, hc⟩ := hv.open
  unfold maxLen at h2
  clear hv
  by_cases hlen : l.length = 16
  · obtain ⟨b, off, rfl, _⟩ := hc 0 (by omega)
    have HLEN := Lib.hid hlen
    have HC0 : Hid (∀ i, i < 16 → w.cell? ⟨b, off + i, none⟩ = some (.int .u8 (bz l i)) ∧ b < w.heap.size) := Lib.hid (fun i hi => by
      obtain ⟨b', off', e, h⟩ := hc i (by omega)
      cases e
      exact ⟨h, lt_of_cell h⟩)
    have hbw := (HC0.out 0 (by omega)).2
    have HC : Hid (∀ i, i < 16 → w.cell? ⟨b, off + i, none⟩ = some (.int .u8 (bz l i))) := Lib.hid (fun i hi => (HC0.out i hi).1)
    rw [hlen] at h1 ⊢
    clear hc hlen HC0
    go_enter Try.func46, Try.ntmps46
    go_wp2
    go_loop [4] (fun i => ∃ k : Nat, 7 ≤ k ∧ k ≤ 16 ∧ i = .int .i64 k ∧ Hid (∀ j, 7 ≤ j → j < k → l.getD j 0 = 0)) (fun i => 16 - (intOf i).toNat)
    case atStart => exact ⟨7, by omega, by omega, by go_num, Lib.hid (fun j h1 h2 => by omega)⟩
    case round =>
      obtain ⟨k, hk7, hk, rfl, hz⟩ := hrel
      by_cases hlt : k < 16
      · have hck := HC.out k hlt
        obtain ⟨x, hx⟩ : ∃ x, Hid (x = bz l k) := ⟨_, Lib.hid rfl⟩
        rw [← hx.out] at hck
        by_cases hx0 : x = 0
        · subst hx0
          go_wp2
          go_round
          case rel =>
            refine ⟨k + 1, by omega, by omega, by go_num, Lib.hid (fun j h1 h2 => ?_)⟩
            by_cases hjk : j < k
            · exact hz.out j h1 hjk
            · obtain rfl : j = k := by omega
              have := hx.out
              unfold bz at this
              apply UInt8.toNat_inj.1
              show (l.getD j 0).toNat = 0
              omega
          case measure => simp [intOf]; omega
        · have hxn : (x == 0) = false := by simpa using hx0
          have hxn2 : (x != 0) = true := by simpa using hx0
          have hres : Hid (Ending.returned (.tuple #[.agg #[.int .u16 0, .int .u8 0, .int .u8 0, .int .u8 0, .int .u8 0, .int .u8 0], .int .i64 9]) = .returned (.tuple #[tmV (rd l), .int .i64 (rdE l)])) := Lib.hid (by
            have hB : rdB l = false := by
              unfold rdB
              rw [decide_eq_false (fun h : l.length = 16 ∧ mxL (l.drop 7) 9 = 0 => hx0 (by rw [hx.out]; unfold bz; rw [(mx_drop l).1 h.2 k hk7 hlt]; rfl))]
              rfl
            rw [(rd_no l hB).1, (rd_no l hB).2]
            rfl)

          clear hx0
          go_wp2
          exact bodyPost_ret (v := .tuple #[.agg #[.int .u16 0, .int .u8 0, .int .u8 0, .int .u8 0, .int .u8 0, .int .u8 0], .int .i64 9]) (by simp [results, Try.results46, go_sem]) rfl ⟨hres.out, by
            repeat' (first
              | with_reducible exact Below.refl _ _
              | with_reducible refine Below.drew ?_
              | with_reducible refine Below.setCell ?_ ?_ _
              | with_reducible refine Below.alloc ?_ ?_ _
              | omega
              | (simp <;> omega))⟩
      · obtain rfl : k = 16 := by omega
        have hM0 : Hid (mxL (l.drop 7) 9 = 0) := Lib.hid ((mx_drop l).2 hz.out)
        obtain ⟨x0, hx0⟩ : ∃ x, Hid (x = bz l 0) := ⟨_, Lib.hid rfl⟩
        obtain ⟨x1, hx1⟩ : ∃ x, Hid (x = bz l 1) := ⟨_, Lib.hid rfl⟩
        obtain ⟨x2, hx2⟩ : ∃ x, Hid (x = bz l 2) := ⟨_, Lib.hid rfl⟩
        obtain ⟨x3, hx3⟩ : ∃ x, Hid (x = bz l 3) := ⟨_, Lib.hid rfl⟩
        obtain ⟨x4, hx4⟩ : ∃ x, Hid (x = bz l 4) := ⟨_, Lib.hid rfl⟩
        obtain ⟨x5, hx5⟩ : ∃ x, Hid (x = bz l 5) := ⟨_, Lib.hid rfl⟩
        obtain ⟨x6, hx6⟩ : ∃ x, Hid (x = bz l 6) := ⟨_, Lib.hid rfl⟩
        obtain ⟨Y, hY⟩ : ∃ Y : Int, Hid (Y = x0 + 256 * x1) := ⟨_, Lib.hid rfl⟩
        have hx0b : 0 ≤ x0 ∧ x0 ≤ 255 := by rw [hx0.out]; exact bz_bd l 0
        have hx1b : 0 ≤ x1 ∧ x1 ≤ 255 := by rw [hx1.out]; exact bz_bd l 1
        have hw1 : IntKind.u16.wrap (256 * x1) = 256 * x1 := by rw [IntKind.wrap_u16]; omega
        have hw2 : IntKind.u16.wrap (x0 + 256 * x1) = Y := by rw [IntKind.wrap_u16, hY.out]; omega
        have hw3 : x0 + 256 * x1 = Y := hY.out.symm
        have hTd : Hid (rdT l = ⟨Y, x2, x3, x4, x5, x6⟩) := Lib.hid (by rw [hY.out, hx0.out, hx1.out, hx2.out, hx3.out, hx4.out, hx5.out, hx6.out]; rfl)
        have hfit : Hid (Tm.Fit ⟨Y, x2, x3, x4, x5, x6⟩) := Lib.hid (by rw [← hTd.out]; exact rdT_fit l)
        obtain ⟨Z, hZ⟩ : ∃ Z, Hid (Z = isZ ⟨Y, x2, x3, x4, x5, x6⟩) := ⟨_, Lib.hid rfl⟩
        have hneq : ∀ W, (binOp .neq 72 (.agg #[.int .u16 Y, .int .u8 x2, .int .u8 x3, .int .u8 x4, .int .u8 x5, .int .u8 x6]) (.agg #[.int .u16 0, .int .u8 0, .int .u8 0, .int .u8 0, .int .u8 0, .int .u8 0])).run Try.prog W = .ok (.bool (!Z)) W := fun W => by
          rw [hZ.out]; exact run_tm_neq ⟨Y, x2, x3, x4, x5, x6⟩ tm0 W
        obtain ⟨R, hR⟩ : ∃ R, Hid (R = rightB ⟨Y, x2, x3, x4, x5, x6⟩) := ⟨_, Lib.hid rfl⟩
        have HR : Hid (∀ W, Calls Try.prog 52 #[.agg #[.int .u16 Y, .int .u8 x2, .int .u8 x3, .int .u8 x4, .int .u8 x5, .int .u8 x6]] W fun e w' => e = .returned (.bool R) ∧ Below W.heap.size W w') := Lib.hid (fun W => by rw [hR.out]; exact refRight_calls _ W hfit.out)
        have c0 := HC.out 0 (by omega)
        have c1 := HC.out 1 (by omega)
        have c2 := HC.out 2 (by omega)
        have c3 := HC.out 3 (by omega)
        have c4 := HC.out 4 (by omega)
        have c5 := HC.out 5 (by omega)
        have c6 := HC.out 6 (by omega)
        rw [← hx0.out] at c0
        rw [← hx1.out] at c1
        rw [← hx2.out] at c2
        rw [← hx3.out] at c3
        rw [← hx4.out] at c4
        rw [← hx5.out] at c5
        rw [← hx6.out] at c6
        rw [Nat.add_zero] at c0
        have hbn : ¬ (b = w.heap.size) := by omega
        go_wp2
        go_region_held3 (fun w' => w'.cell? ⟨b, off, none⟩ = some (.int .u8 x0) ∧ w'.cell? ⟨b, off + 1, none⟩ = some (.int .u8 x1) ∧ w'.cell? ⟨b, off + 2, none⟩ = some (.int .u8 x2) ∧ w'.cell? ⟨b, off + 3, none⟩ = some (.int .u8 x3) ∧ w'.cell? ⟨b, off + 4, none⟩ = some (.int .u8 x4) ∧ w'.cell? ⟨b, off + 5, none⟩ = some (.int .u8 x5) ∧ w'.cell? ⟨b, off + 6, none⟩ = some (.int .u8 x6)) (go_keep) (fail)
        clear c0 c1 c2 c3 c4 c5 c6
        cases Z with
        | true =>
          have hres : Hid (Ending.returned (.tuple #[.agg #[.int .u16 Y, .int .u8 x2, .int .u8 x3, .int .u8 x4, .int .u8 x5, .int .u8 x6], .int .i64 0]) = .returned (.tuple #[tmV (rd l), .int .i64 (rdE l)])) := Lib.hid (by
            have hB : rdB l = true := by
              unfold rdB
              rw [decide_eq_true (⟨HLEN.out, hM0.out⟩ : l.length = 16 ∧ mxL (l.drop 7) 9 = 0), hTd.out, ← hZ.out]
              rfl
            rw [(rd_yes l hB).1, (rd_yes l hB).2, hTd.out]
            rfl)

          go_wp2
          exact bodyPost_ret (v := .tuple #[.agg #[.int .u16 Y, .int .u8 x2, .int .u8 x3, .int .u8 x4, .int .u8 x5, .int .u8 x6], .int .i64 0]) (by simp [results, Try.results46, go_sem, World.cell?_alloc_some, World.cell?_setCell_far]) rfl ⟨hres.out, by
            repeat' (first
              | with_reducible exact Below.refl _ _
              | with_reducible refine Below.drew ?_
              | with_reducible refine Below.setCell ?_ ?_ _
              | with_reducible refine Below.alloc ?_ ?_ _
              | omega
              | (simp <;> omega))⟩
        | false =>
          cases R with
          | true =>
            have hres : Hid (Ending.returned (.tuple #[.agg #[.int .u16 Y, .int .u8 x2, .int .u8 x3, .int .u8 x4, .int .u8 x5, .int .u8 x6], .int .i64 0]) = .returned (.tuple #[tmV (rd l), .int .i64 (rdE l)])) := Lib.hid (by
              have hB : rdB l = true := by
                unfold rdB
                rw [decide_eq_true (⟨HLEN.out, hM0.out⟩ : l.length = 16 ∧ mxL (l.drop 7) 9 = 0), hTd.out, ← hZ.out, ← hR.out]
                rfl
              rw [(rd_yes l hB).1, (rd_yes l hB).2, hTd.out]
              rfl)

            go_wp2_with (go_at_call 52; refine (HR.out _).mono ?_; rintro e w3 ⟨rfl, hb3⟩; have HB3 := Lib.hid hb3; have hcz3 : ∀ o, w3.cell? ⟨w.heap.size, o, none⟩ = _ := (fun o => hb3.cell (p := ⟨w.heap.size, o, none⟩) (by first | omega | (simp; omega) | simp)); have hfz3 : ∀ o, w3.frozen? ⟨w.heap.size, o, none⟩ = _ := (fun o => hb3.frozen (p := ⟨w.heap.size, o, none⟩) (by first | omega | (simp; omega) | simp)); have hcy3 : ∀ o, w3.cell? ⟨w.heap.size + 1, o, none⟩ = _ := (fun o => hb3.cell (p := ⟨w.heap.size + 1, o, none⟩) (by first | omega | simp)); clear hb3)
            exact bodyPost_ret (v := .tuple #[.agg #[.int .u16 Y, .int .u8 x2, .int .u8 x3, .int .u8 x4, .int .u8 x5, .int .u8 x6], .int .i64 0]) (by simp [results, Try.results46, go_sem, hcz3, hcy3, World.cell?_alloc_some, World.cell?_setCell_far]) rfl ⟨hres.out, by
              repeat' (first
                | with_reducible exact Below.refl _ _
                | with_reducible refine Below.drew ?_
                | with_reducible refine Below.setCell ?_ ?_ _
                | with_reducible refine Below.alloc ?_ ?_ _
                | with_reducible refine Below.trans ?_ (Below.mono HB3.out ?_)
                | omega
                | (simp <;> omega))⟩
          | false =>
            have hres : Hid (Ending.returned (.tuple #[.agg #[.int .u16 0, .int .u8 0, .int .u8 0, .int .u8 0, .int .u8 0, .int .u8 0], .int .i64 9]) = .returned (.tuple #[tmV (rd l), .int .i64 (rdE l)])) := Lib.hid (by
              have hB : rdB l = false := by
                unfold rdB
                rw [decide_eq_true (⟨HLEN.out, hM0.out⟩ : l.length = 16 ∧ mxL (l.drop 7) 9 = 0), hTd.out, ← hZ.out, ← hR.out]
                rfl
              rw [(rd_no l hB).1, (rd_no l hB).2]
              rfl)

            go_wp2_with (go_at_call 52; refine (HR.out _).mono ?_; rintro e w3 ⟨rfl, hb3⟩; have HB3 := Lib.hid hb3; have hcz3 : ∀ o, w3.cell? ⟨w.heap.size, o, none⟩ = _ := (fun o => hb3.cell (p := ⟨w.heap.size, o, none⟩) (by first | omega | (simp; omega) | simp)); have hfz3 : ∀ o, w3.frozen? ⟨w.heap.size, o, none⟩ = _ := (fun o => hb3.frozen (p := ⟨w.heap.size, o, none⟩) (by first | omega | (simp; omega) | simp)); have hcy3 : ∀ o, w3.cell? ⟨w.heap.size + 1, o, none⟩ = _ := (fun o => hb3.cell (p := ⟨w.heap.size + 1, o, none⟩) (by first | omega | simp)); clear hb3)
            exact bodyPost_ret (v := .tuple #[.agg #[.int .u16 0, .int .u8 0, .int .u8 0, .int .u8 0, .int .u8 0, .int .u8 0], .int .i64 9]) (by simp [results, Try.results46, go_sem, hcz3, hcy3, World.cell?_alloc_some, World.cell?_setCell_far]) rfl ⟨hres.out, by
              repeat' (first
                | with_reducible exact Below.refl _ _
                | with_reducible refine Below.drew ?_
                | with_reducible refine Below.setCell ?_ ?_ _
                | with_reducible refine Below.alloc ?_ ?_ _
                | with_reducible refine Below.trans ?_ (Below.mono HB3.out ?_)
                | omega
                | (simp <;> omega))⟩
  · have hres : Hid (Ending.returned (.tuple #[.agg #[.int .u16 0, .int .u8 0, .int .u8 0, .int .u8 0, .int .u8 0, .int .u8 0], .int .i64 9]) = .returned (.tuple #[tmV (rd l), .int .i64 (rdE l)])) := Lib.hid (by
      have hB : rdB l = false := by
        unfold rdB
        rw [decide_eq_false (fun h : l.length = 16 ∧ mxL (l.drop 7) 9 = 0 => hlen h.1)]
        rfl
      rw [(rd_no l hB).1, (rd_no l hB).2]
      rfl)

    clear hc
    have hd : ((l.length : Int) == 16) = false := by simp; omega
    have hd2 : ((l.length : Int) != 16) = true := by simp; omega
    clear hlen
    go_enter Try.func46, Try.ntmps46
    go_wp2
    exact bodyPost_ret (v := .tuple #[.agg #[.int .u16 0, .int .u8 0, .int .u8 0, .int .u8 0, .int .u8 0, .int .u8 0], .int .i64 9]) (by simp [results, Try.results46, go_sem]) rfl ⟨hres.out, by
      repeat' (first
        | with_reducible exact Below.refl _ _
        | with_reducible refine Below.drew ?_
        | with_reducible refine Below.setCell ?_ ?_ _
        | with_reducible refine Below.alloc ?_ ?_ _
        | omega
        | (simp <;> omega))⟩
end Go.Proofs.Ytilanncobbdlfaa
