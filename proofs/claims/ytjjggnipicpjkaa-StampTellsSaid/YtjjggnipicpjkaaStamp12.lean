/-
  The contract of stamp's told, with two digits of a year and with four.
-/
import Derived.Test.YtjjggnipicpjkaaStampTI
namespace Go.Proofs.Ytjjggnipicpjkaa
open Go Go.RowKit

set_option maxHeartbeats 400000 in
theorem utcf_calls (y : Int) (w : World) (h : 0 ≤ y ∧ y ≤ 99) : Calls Try.prog 41 #[.int .i64 y] w fun e w' => e = .returned (.int .i64 (utcY y)) ∧ w = w' := by
  by_cases h5 : 50 ≤ y
  · have hr : Hid (utcY y = 1900 + y) := Lib.hid (if_pos h5)
    go_enter Try.func41, Try.ntmps41
    go_wp2
    go_ret
    exact ⟨ret_int hr.out.symm, rfl⟩
  · have hr : Hid (utcY y = 2000 + y) := Lib.hid (if_neg h5)
    have hd : decide (50 ≤ y) = false := by simpa using h5
    go_enter Try.func41, Try.ntmps41
    go_wp2
    go_ret
    exact ⟨ret_int hr.out.symm, rfl⟩

set_option maxHeartbeats 400000 in
theorem genf_calls (y : Int) (w : World) (_h : 0 ≤ y ∧ y ≤ 9999) : Calls Try.prog 44 #[.int .i64 y] w fun e w' => e = .returned (.int .i64 (genY y)) ∧ w = w' := by
  go_enter Try.func44, Try.ntmps44
  go_wp2
  go_ret
  exact ⟨rfl, rfl⟩

theorem toldB_no (k : Nat) (f : Int → Int) (l : List UInt8) (h : ¬ (l.length = k + 11 ∧ (l.getD (k + 10) 0).toNat = 90 ∧ (∀ i, i < k + 10 → 48 ≤ (l.getD i 0).toNat ∧ (l.getD i 0).toNat ≤ 57))) : toldB k f l = false ∧ told k f l = tm0 := by
  have hb : toldB k f l = false := by unfold toldB; rw [decide_eq_false h]; rfl
  exact ⟨hb, by unfold told; rw [hb]; rfl⟩
theorem toldB_yes (k : Nat) (f : Int → Int) (l : List UInt8) (h : (l.length = k + 11 ∧ (l.getD (k + 10) 0).toNat = 90 ∧ (∀ i, i < k + 10 → 48 ≤ (l.getD i 0).toNat ∧ (l.getD i 0).toNat ≤ 57))) : toldB k f l = rightB (toldT k f l) := by
  unfold toldB; rw [decide_eq_true h]; rfl

set_option maxRecDepth 100000 in
set_option maxHeartbeats 8000000 in
theorem told2_calls (v : Value) (l : List UInt8) (w : World) (hv : Byt w v l) (hl : l.length ≤ 1000000000000) :
    Calls Try.prog 40 #[v, .int .i64 2, .func (.func 41) #[] #[]] w fun e w' => e = .returned (.tuple #[tmV (told 2 utcY l), .bool (toldB 2 utcY l)]) ∧ Below w.heap.size w w' := by
  obtain ⟨a, cap, rfl, h1, h2, hc⟩ := hv.open
  unfold maxLen at h2
  by_cases hlen : l.length = 13
  · by_cases hZ : (l.getD 12 0).toNat = 90
    · by_cases hD : ∀ i, i < 12 → 48 ≤ (l.getD i 0).toNat ∧ (l.getD i 0).toNat ≤ 57
      · obtain ⟨b, off, rfl, hc0⟩ := hc 0 (by omega)
        have hbw : b < w.heap.size := lt_of_cell hc0
        have HC : Hid (∀ i, i < 13 → w.cell? ⟨b, off + i, none⟩ = some (.int .u8 ((l.getD i 0).toNat : Int))) := Lib.hid (fun i hi => by
          obtain ⟨b', off', e, h⟩ := hc i (by omega)
          cases e
          exact h)
        have hdc : Byt w (.slice (some ⟨b, off, none⟩) 12 cap) (l.take 12) := (hv.take 12 (by omega))
        have HDC := Lib.hid hdc
        have hnb : Hid (false = true ↔ badD (l.take 12)) := Lib.hid ⟨(fun h => by cases h), fun ⟨i, hi, hb⟩ => by
          rw [List.length_take] at hi
          have h := hD i (by omega)
          have e : (l.take 12).getD i 0 = l.getD i 0 := by simp [List.getD, show i < 12 by omega]
          rw [e, (digB_iff _).2 h] at hb
          cases hb⟩
        have HAD : Hid (allD l 12) := Lib.hid hD
        have hyes := toldB_yes 2 utcY l ⟨by omega, hZ, hD⟩
        have HYES := Lib.hid hyes
        have hcZ := HC.out 12 (by omega)
        rw [hZ] at hcZ
        rw [hlen] at h1 ⊢
        have HLEN := Lib.hid hlen
        clear hc hc0 hdc hD hyes hlen hv hl hZ
        have HCD : Hid (∀ W, Below w.heap.size w W → Calls Try.prog 51 #[.slice (some ⟨b, off, none⟩) 12 cap, .func (.func 52) #[] #[]] W fun e w' => e = .returned (.bool false) ∧ W = w') := Lib.hid (fun W hW => containsD_calls _ (l.take 12) W false hnb.out (HDC.out.below hW) (by rw [List.length_take]; omega))
        have hB0 : Hid (Below w.heap.size w ((w.alloc (.cells #[.slice (some ⟨b, off, none⟩) 13 cap] 22)).alloc (.cells #[.int .u16 0, .int .u8 0, .int .u8 0, .int .u8 0, .int .u8 0, .int .u8 0] 25))) := Lib.hid (((Below.refl _ _).alloc (Nat.le_refl _) _).alloc (by simp) _)
        obtain ⟨yy, hyy⟩ : ∃ y, Hid (y = numD l 0 2) := ⟨_, Lib.hid rfl⟩
        have hyb : 0 ≤ yy ∧ yy ≤ 99 := by have := numD_le l 12 HAD.out 0 2 (by omega); rw [hyy.out]; omega
        obtain ⟨YY, hYY⟩ : ∃ y, Hid (y = utcY yy) := ⟨_, Lib.hid rfl⟩
        have hYb : 0 ≤ YY ∧ YY ≤ 9999 := by rw [hYY.out]; unfold utcY; split <;> omega
        have hYw : IntKind.u16.wrap YY = YY := by rw [IntKind.wrap_u16]; omega
        have HU : Hid (∀ W, Calls Try.prog 41 #[.int .i64 yy] W fun e w' => e = .returned (.int .i64 YY) ∧ W = w') := Lib.hid (fun W => by rw [hYY.out]; exact utcf_calls yy W hyb)
        have hnx : Hid (∀ W, W = (((w.alloc (.cells #[.slice (some ⟨b, off, none⟩) 13 cap] 22)).alloc (.cells #[.int .u16 0, .int .u8 0, .int .u8 0, .int .u8 0, .int .u8 0, .int .u8 0] 25)).alloc (.cells #[.int .i64 0] 3)) → Calls Try.prog 53 #[.int .i64 2, .pointer (some ⟨w.heap.size, 0, none⟩), .pointer (some ⟨w.heap.size + 1 + 1, 0, none⟩)] W fun e w' => e = .returned (.int .i64 yy) ∧ w'.cell? ⟨w.heap.size + 1 + 1, 0, none⟩ = some (.int .i64 2) ∧ w'.frozen? ⟨w.heap.size + 1 + 1, 0, none⟩ = false ∧ W.grownBy w' (some (w.heap.size + 1 + 1)) ∧ w'.heap.size = W.heap.size) := Lib.hid (fun W hW => by
          have hbl : Below w.heap.size w W := by rw [hW]; exact hB0.out.alloc (by simp; omega) _
          rw [hyy.out]
          exact next_calls l 12 13 0 2 b off cap w.heap.size (w.heap.size + 1 + 1) W (fun i hi => (hbl.cell (p := ⟨b, off + i, none⟩) hbw).trans (HC.out i (by omega))) (by rw [hW]; simp [go_sem]) (by rw [hW]; simp [go_sem]) (by rw [hW]; simp [go_sem]) HAD.out (by omega) (by omega) (by omega) (by omega) (by omega) (by omega) (by omega))
        go_enter Try.func40, Try.ntmps40
        go_wp2_with (go_at_call 51; refine (HCD.out _ hB0.out).mono ?_; rintro e w1 ⟨rfl, rfl⟩)
        go_wp2_with fail
        refine (hnx.out _ rfl).mono ?_
        rintro e w1 ⟨rfl, hat, hfr, hg, hsz⟩
        have hs1 : w1.heap.size = w.heap.size + 3 := by rw [hsz]; simp
        have HG := Lib.hid hg
        have HAT := Lib.hid hat
        have HFR := Lib.hid hfr
        clear hsz hg hat hfr
        go_wp2_with (go_at_call 41; refine (HU.out _).mono ?_; rintro e w2 ⟨rfl, rfl⟩)
        go_loopw [50] (fun i wr => ∃ j : Nat, j ≤ 5 ∧ i = .int .i64 j ∧ Hid (TI w wr l 2 b off 13 cap YY w.heap.size (w.heap.size + 1) (w.heap.size + 1 + 1) (w.heap.size + 3) (w.heap.size + 4) j)) (fun i _ => 5 - (intOf i).toNat)
        case atStart => exact ⟨0, by omega, rfl, Lib.hid (TI.start hs1 HG.out (by simpa using HAT.out) HFR.out)⟩
        case round =>
          obtain ⟨j, hj, rfl, I⟩ := hrel
          clear HG HAT HFR hs1
          by_cases hlt : j < 5
          · have hps := I.out.ps j hlt
            have hfl := I.out.fl j hlt
            rw [if_neg (by omega)] at hfl
            have hff := I.out.ff (j + 1) (by omega)
            obtain ⟨z, hz⟩ : ∃ z, Hid (z = numD l (2 + 2 * j) 2) := ⟨_, Lib.hid rfl⟩
            have hzb : 0 ≤ z ∧ z ≤ 99 := by have := numD_le l 12 HAD.out (2 + 2 * j) 2 (by omega); rw [hz.out]; omega
            have hn := next_calls l 12 13 (2 + 2 * j) 2 b off cap w.heap.size (w.heap.size + 1 + 1) wr (fun i hi => (I.out.bel.cell (p := ⟨b, off + i, none⟩) hbw).trans (HC.out i (by omega))) I.out.body I.out.plc I.out.plf HAD.out (by omega) (by omega) (by omega) (by omega) (by omega) (by omega) (by omega)
            rw [← hz.out] at hn
            have HN := Lib.hid hn
            have HST : Hid (∀ w2, wr.grownBy w2 (some (w.heap.size + 1 + 1)) → w2.cell? ⟨w.heap.size + 1 + 1, 0, none⟩ = some (.int .i64 ((2 + 2 * j + 2 : Nat) : Int)) → w2.frozen? ⟨w.heap.size + 1 + 1, 0, none⟩ = false → TI w (w2.setCell ⟨w.heap.size + 3, j + 1, none⟩ (.int .u8 z)) l 2 b off 13 cap YY w.heap.size (w.heap.size + 1) (w.heap.size + 1 + 1) (w.heap.size + 3) (w.heap.size + 4) (j + 1)) := Lib.hid (fun w2 g1 g2 g3 => by
              rw [hz.out]
              exact TI.step I.out hlt ⟨by omega, by omega, by omega, by omega, by omega, by omega, by omega⟩ (by omega) (by omega) g1 g2 g3)
            have HFL := Lib.hid hfl
            have HFF := Lib.hid hff
            clear hn hfl hff
            go_wp2_with (go_at_call 53; refine (HN.out).mono ?_; rintro e w2 ⟨rfl, hat, hfr, hg, hsz⟩; have hcT := World.grownBy.cell hg HFL.out (by intro e; have := Option.some.inj e; simp at this); have hfT := frozen_gb hg HFL.out (by intro e; have := Option.some.inj e; simp at this) HFF.out; have HI := Lib.hid (HST.out _ hg hat hfr); clear hat hfr hg hsz)
            go_roundw
            case rel => exact ⟨j + 1, by omega, by go_num, HI⟩
            case measure => simp [intOf]; omega
          · obtain rfl : j = 5 := by omega
            obtain ⟨x0, hx0⟩ : ∃ x, Hid (x = numD l 2 2) := ⟨_, Lib.hid rfl⟩
            obtain ⟨x1, hx1⟩ : ∃ x, Hid (x = numD l 4 2) := ⟨_, Lib.hid rfl⟩
            obtain ⟨x2, hx2⟩ : ∃ x, Hid (x = numD l 6 2) := ⟨_, Lib.hid rfl⟩
            obtain ⟨x3, hx3⟩ : ∃ x, Hid (x = numD l 8 2) := ⟨_, Lib.hid rfl⟩
            obtain ⟨x4, hx4⟩ : ∃ x, Hid (x = numD l 10 2) := ⟨_, Lib.hid rfl⟩
            have c0 := I.out.yr
            have c1 : wr.cell? ⟨w.heap.size + 3, 1, none⟩ = some (.int .u8 x0) := by rw [hx0.out]; exact I.out.fl 0 (by omega)
            have c2 : wr.cell? ⟨w.heap.size + 3, 2, none⟩ = some (.int .u8 x1) := by rw [hx1.out]; exact I.out.fl 1 (by omega)
            have c3 : wr.cell? ⟨w.heap.size + 3, 3, none⟩ = some (.int .u8 x2) := by rw [hx2.out]; exact I.out.fl 2 (by omega)
            have c4 : wr.cell? ⟨w.heap.size + 3, 4, none⟩ = some (.int .u8 x3) := by rw [hx3.out]; exact I.out.fl 3 (by omega)
            have c5 : wr.cell? ⟨w.heap.size + 3, 5, none⟩ = some (.int .u8 x4) := by rw [hx4.out]; exact I.out.fl 4 (by omega)
            have r0 := I.out.r0
            have r1 := I.out.r1 0 (by omega)
            have r2 := I.out.r1 1 (by omega)
            have r3 := I.out.r1 2 (by omega)
            have r4 := I.out.r1 3 (by omega)
            have r5 := I.out.r1 4 (by omega)
            have s0 := I.out.rf 0 (by omega)
            have s1 := I.out.rf 1 (by omega)
            have s2 := I.out.rf 2 (by omega)
            have s3 := I.out.rf 3 (by omega)
            have s4 := I.out.rf 4 (by omega)
            have s5 := I.out.rf 5 (by omega)
            have hTd : Hid (toldT 2 utcY l = ⟨YY, x0, x1, x2, x3, x4⟩) := Lib.hid (by rw [hYY.out, hyy.out, hx0.out, hx1.out, hx2.out, hx3.out, hx4.out]; rfl)
            have hxb : Hid ((0 ≤ x0 ∧ x0 ≤ 99) ∧ (0 ≤ x1 ∧ x1 ≤ 99) ∧ (0 ≤ x2 ∧ x2 ≤ 99) ∧ (0 ≤ x3 ∧ x3 ≤ 99) ∧ (0 ≤ x4 ∧ x4 ≤ 99)) := Lib.hid (by
              have q0 := numD_le l 12 HAD.out 2 2 (by omega)
              have q1 := numD_le l 12 HAD.out 4 2 (by omega)
              have q2 := numD_le l 12 HAD.out 6 2 (by omega)
              have q3 := numD_le l 12 HAD.out 8 2 (by omega)
              have q4 := numD_le l 12 HAD.out 10 2 (by omega)
              rw [hx0.out, hx1.out, hx2.out, hx3.out, hx4.out]
              omega)
            have hfit : Hid (Tm.Fit ⟨YY, x0, x1, x2, x3, x4⟩) := Lib.hid (by
              obtain ⟨b0, b1, b2, b3, b4⟩ := hxb.out
              exact ⟨⟨hYb.1, by show YY ≤ 65535; omega⟩, ⟨b0.1, by show x0 ≤ 255; omega⟩, ⟨b1.1, by show x1 ≤ 255; omega⟩, ⟨b2.1, by show x2 ≤ 255; omega⟩, ⟨b3.1, by show x3 ≤ 255; omega⟩, ⟨b4.1, by show x4 ≤ 255; omega⟩⟩)
            obtain ⟨R, hR⟩ : ∃ R, Hid (R = rightB ⟨YY, x0, x1, x2, x3, x4⟩) := ⟨_, Lib.hid rfl⟩
            have HR : Hid (∀ W, Calls Try.prog 23 #[.agg #[.int .u16 YY, .int .u8 x0, .int .u8 x1, .int .u8 x2, .int .u8 x3, .int .u8 x4]] W fun e w' => e = .returned (.bool R) ∧ Below W.heap.size W w') := Lib.hid (fun W => by rw [hR.out]; exact right_calls _ W hfit.out)
            cases R with
            | true =>
              have hres : Hid (Ending.returned (.tuple #[.agg #[.int .u16 YY, .int .u8 x0, .int .u8 x1, .int .u8 x2, .int .u8 x3, .int .u8 x4], .bool true]) = .returned (.tuple #[tmV (told 2 utcY l), .bool (toldB 2 utcY l)])) := Lib.hid (by
                have hB : toldB 2 utcY l = true := by rw [HYES.out, hTd.out, ← hR.out]
                unfold told
                rw [hB]
                rw [if_pos rfl, hTd.out]
                rfl)

              go_wp2_with (go_at_call 23; refine (HR.out _).mono ?_; rintro e w3 ⟨rfl, hb3⟩; have HB3 := Lib.hid (I.out.bel.trans (hb3.mono I.out.bel.size)); have hwz : w.heap.size + 5 ≤ wr.heap.size := I.out.sz; have hT3 : ∀ o, w3.cell? ⟨w.heap.size + 3, o, none⟩ = _ := (fun o => hb3.cell (p := ⟨w.heap.size + 3, o, none⟩) (by show w.heap.size + 3 < _; omega)); have hR3 : ∀ o, w3.cell? ⟨w.heap.size + 1, o, none⟩ = _ := (fun o => hb3.cell (p := ⟨w.heap.size + 1, o, none⟩) (by show w.heap.size + 1 < _; omega)); have hRf3 : ∀ o, w3.frozen? ⟨w.heap.size + 1, o, none⟩ = _ := (fun o => hb3.frozen (p := ⟨w.heap.size + 1, o, none⟩) (by show w.heap.size + 1 < _; omega)); have q0 := (hR3 0).trans r0; have q1 := (hR3 1).trans r1; have q2 := (hR3 2).trans r2; have q3 := (hR3 3).trans r3; have q4 := (hR3 4).trans r4; have q5 := (hR3 5).trans r5; clear hb3 hR3)
              exact bodyPost_ret (v := .tuple #[.agg #[.int .u16 YY, .int .u8 x0, .int .u8 x1, .int .u8 x2, .int .u8 x3, .int .u8 x4], .bool true]) (by simp [results, Try.results40, go_sem, q0, q1, q2, q3, q4, q5]) rfl ⟨hres.out, (HB3.out.setCell (p := ⟨w.heap.size + 1, 0, none⟩) (by simp) _ |>.setCell (p := ⟨w.heap.size + 1, 1, none⟩) (by simp) _ |>.setCell (p := ⟨w.heap.size + 1, 2, none⟩) (by simp) _ |>.setCell (p := ⟨w.heap.size + 1, 3, none⟩) (by simp) _ |>.setCell (p := ⟨w.heap.size + 1, 4, none⟩) (by simp) _ |>.setCell (p := ⟨w.heap.size + 1, 5, none⟩) (by simp) _)⟩
            | false =>
              have hres : Hid (Ending.returned (.tuple #[.agg #[.int .u16 0, .int .u8 0, .int .u8 0, .int .u8 0, .int .u8 0, .int .u8 0], .bool false]) = .returned (.tuple #[tmV (told 2 utcY l), .bool (toldB 2 utcY l)])) := Lib.hid (by
                have hB : toldB 2 utcY l = false := by rw [HYES.out, hTd.out, ← hR.out]
                unfold told
                rw [hB]
                rfl)

              go_wp2_with (go_at_call 23; refine (HR.out _).mono ?_; rintro e w3 ⟨rfl, hb3⟩; have HB3 := Lib.hid (I.out.bel.trans (hb3.mono I.out.bel.size)); have hwz : w.heap.size + 5 ≤ wr.heap.size := I.out.sz; have hT3 : ∀ o, w3.cell? ⟨w.heap.size + 3, o, none⟩ = _ := (fun o => hb3.cell (p := ⟨w.heap.size + 3, o, none⟩) (by show w.heap.size + 3 < _; omega)); have hR3 : ∀ o, w3.cell? ⟨w.heap.size + 1, o, none⟩ = _ := (fun o => hb3.cell (p := ⟨w.heap.size + 1, o, none⟩) (by show w.heap.size + 1 < _; omega)); have hRf3 : ∀ o, w3.frozen? ⟨w.heap.size + 1, o, none⟩ = _ := (fun o => hb3.frozen (p := ⟨w.heap.size + 1, o, none⟩) (by show w.heap.size + 1 < _; omega)); have q0 := (hR3 0).trans r0; have q1 := (hR3 1).trans r1; have q2 := (hR3 2).trans r2; have q3 := (hR3 3).trans r3; have q4 := (hR3 4).trans r4; have q5 := (hR3 5).trans r5; clear hb3 hR3)
              exact bodyPost_ret (v := .tuple #[.agg #[.int .u16 0, .int .u8 0, .int .u8 0, .int .u8 0, .int .u8 0, .int .u8 0], .bool false]) (by simp [results, Try.results40, go_sem, q0, q1, q2, q3, q4, q5]) rfl ⟨hres.out, (HB3.out.setCell (p := ⟨w.heap.size + 1, 0, none⟩) (by simp) _ |>.setCell (p := ⟨w.heap.size + 1, 1, none⟩) (by simp) _ |>.setCell (p := ⟨w.heap.size + 1, 2, none⟩) (by simp) _ |>.setCell (p := ⟨w.heap.size + 1, 3, none⟩) (by simp) _ |>.setCell (p := ⟨w.heap.size + 1, 4, none⟩) (by simp) _ |>.setCell (p := ⟨w.heap.size + 1, 5, none⟩) (by simp) _)⟩
      · obtain ⟨b, off, rfl, hc0⟩ := hc 0 (by omega)
        have hbw : b < w.heap.size := lt_of_cell hc0
        have HC : Hid (∀ i, i < 13 → w.cell? ⟨b, off + i, none⟩ = some (.int .u8 ((l.getD i 0).toNat : Int))) := Lib.hid (fun i hi => by
          obtain ⟨b', off', e, h⟩ := hc i (by omega)
          cases e
          exact h)
        have hdc : Byt w (.slice (some ⟨b, off, none⟩) 12 cap) (l.take 12) := (hv.take 12 (by omega))
        have HDC := Lib.hid hdc
        have HBD := Lib.hid hD
        have hnb : Hid (true = true ↔ badD (l.take 12)) := Lib.hid ⟨fun _ => by
          apply Classical.byContradiction
          intro hno
          apply hD
          intro i hi
          apply Classical.byContradiction
          intro hb
          refine hno ⟨i, by rw [List.length_take]; omega, ?_⟩
          have e : (l.take 12).getD i 0 = l.getD i 0 := by simp [List.getD, show i < 12 by omega]
          rw [e]
          exact digB_not _ hb, fun _ => rfl⟩
        have hres : Hid (Ending.returned (.tuple #[.agg #[.int .u16 0, .int .u8 0, .int .u8 0, .int .u8 0, .int .u8 0, .int .u8 0], .bool false]) = .returned (.tuple #[tmV (told 2 utcY l), .bool (toldB 2 utcY l)])) := Lib.hid (by
          have h := toldB_no 2 utcY l (fun h => hD h.2.2)
          rw [h.1, h.2]
          rfl)
        have hcZ := HC.out 12 (by omega)
        rw [hZ] at hcZ
        rw [hlen] at h1 ⊢
        have HLEN := Lib.hid hlen
        clear hc hc0 hdc hD hlen hv hl hZ
        have HCD : Hid (∀ W, Below w.heap.size w W → Calls Try.prog 51 #[.slice (some ⟨b, off, none⟩) 12 cap, .func (.func 52) #[] #[]] W fun e w' => e = .returned (.bool true) ∧ W = w') := Lib.hid (fun W hW => containsD_calls _ (l.take 12) W true hnb.out (HDC.out.below hW) (by rw [List.length_take]; omega))
        have hB0 : Hid (Below w.heap.size w ((w.alloc (.cells #[.slice (some ⟨b, off, none⟩) 13 cap] 22)).alloc (.cells #[.int .u16 0, .int .u8 0, .int .u8 0, .int .u8 0, .int .u8 0, .int .u8 0] 25))) := Lib.hid (((Below.refl _ _).alloc (Nat.le_refl _) _).alloc (by simp) _)
        go_enter Try.func40, Try.ntmps40
        go_wp2_with (go_at_call 51; refine (HCD.out _ hB0.out).mono ?_; rintro e w1 ⟨rfl, rfl⟩)
        exact bodyPost_ret (v := .tuple #[.agg #[.int .u16 0, .int .u8 0, .int .u8 0, .int .u8 0, .int .u8 0, .int .u8 0], .bool false]) (by simp [results, Try.results40, go_sem]) rfl ⟨hres.out, by
          repeat' (first
            | with_reducible exact Below.refl _ _
            | with_reducible refine Below.drew ?_
            | with_reducible refine Below.setCell ?_ ?_ _
            | with_reducible refine Below.alloc ?_ ?_ _
            | omega
            | (simp <;> omega))⟩
    · obtain ⟨b, off, rfl, hcZ⟩ := hc 12 (by omega)
      have hbw : b < w.heap.size := lt_of_cell hcZ
      have hres : Hid (Ending.returned (.tuple #[.agg #[.int .u16 0, .int .u8 0, .int .u8 0, .int .u8 0, .int .u8 0, .int .u8 0], .bool false]) = .returned (.tuple #[tmV (told 2 utcY l), .bool (toldB 2 utcY l)])) := Lib.hid (by
        have h := toldB_no 2 utcY l (fun h => hZ h.2.1)
        rw [h.1, h.2]
        rfl)
      obtain ⟨zc, hzc⟩ : ∃ z : Int, Hid (z = ((l.getD 12 0).toNat : Int)) := ⟨_, Lib.hid rfl⟩
      have hz1 : (zc == 90) = false := by rw [hzc.out]; simp only [beq_eq_false_iff_ne]; omega
      have hz2 : (zc != 90) = true := by simp [bne, hz1]
      rw [← hzc.out] at hcZ
      rw [hlen] at h1 ⊢
      clear hc hlen hv hl hZ
      go_enter Try.func40, Try.ntmps40
      go_wp2
      exact bodyPost_ret (v := .tuple #[.agg #[.int .u16 0, .int .u8 0, .int .u8 0, .int .u8 0, .int .u8 0, .int .u8 0], .bool false]) (by simp [results, Try.results40, go_sem]) rfl ⟨hres.out, by
        repeat' (first
          | with_reducible exact Below.refl _ _
          | with_reducible refine Below.drew ?_
          | with_reducible refine Below.setCell ?_ ?_ _
          | with_reducible refine Below.alloc ?_ ?_ _
          | omega
          | (simp <;> omega))⟩
  · have hres : Hid (Ending.returned (.tuple #[.agg #[.int .u16 0, .int .u8 0, .int .u8 0, .int .u8 0, .int .u8 0, .int .u8 0], .bool false]) = .returned (.tuple #[tmV (told 2 utcY l), .bool (toldB 2 utcY l)])) := Lib.hid (by
      have h := toldB_no 2 utcY l (fun h => hlen h.1)
      rw [h.1, h.2]
      rfl)
    have hd1 : ((l.length : Int) == 13) = false := by simp; omega
    have hd2 : ((l.length : Int) != 13) = true := by simp; omega
    clear hc hv hlen
    go_enter Try.func40, Try.ntmps40
    go_wp2
    exact bodyPost_ret (v := .tuple #[.agg #[.int .u16 0, .int .u8 0, .int .u8 0, .int .u8 0, .int .u8 0, .int .u8 0], .bool false]) (by simp [results, Try.results40, go_sem]) rfl ⟨hres.out, by
      repeat' (first
        | with_reducible exact Below.refl _ _
        | with_reducible refine Below.drew ?_
        | with_reducible refine Below.setCell ?_ ?_ _
        | with_reducible refine Below.alloc ?_ ?_ _
        | omega
        | (simp <;> omega))⟩

set_option maxRecDepth 100000 in
set_option maxHeartbeats 8000000 in
theorem told4_calls (v : Value) (l : List UInt8) (w : World) (hv : Byt w v l) (hl : l.length ≤ 1000000000000) :
    Calls Try.prog 40 #[v, .int .i64 4, .func (.func 44) #[] #[]] w fun e w' => e = .returned (.tuple #[tmV (told 4 genY l), .bool (toldB 4 genY l)]) ∧ Below w.heap.size w w' := by
  obtain ⟨a, cap, rfl, h1, h2, hc⟩ := hv.open
  unfold maxLen at h2
  by_cases hlen : l.length = 15
  · by_cases hZ : (l.getD 14 0).toNat = 90
    · by_cases hD : ∀ i, i < 14 → 48 ≤ (l.getD i 0).toNat ∧ (l.getD i 0).toNat ≤ 57
      · obtain ⟨b, off, rfl, hc0⟩ := hc 0 (by omega)
        have hbw : b < w.heap.size := lt_of_cell hc0
        have HC : Hid (∀ i, i < 15 → w.cell? ⟨b, off + i, none⟩ = some (.int .u8 ((l.getD i 0).toNat : Int))) := Lib.hid (fun i hi => by
          obtain ⟨b', off', e, h⟩ := hc i (by omega)
          cases e
          exact h)
        have hdc : Byt w (.slice (some ⟨b, off, none⟩) 14 cap) (l.take 14) := (hv.take 14 (by omega))
        have HDC := Lib.hid hdc
        have hnb : Hid (false = true ↔ badD (l.take 14)) := Lib.hid ⟨(fun h => by cases h), fun ⟨i, hi, hb⟩ => by
          rw [List.length_take] at hi
          have h := hD i (by omega)
          have e : (l.take 14).getD i 0 = l.getD i 0 := by simp [List.getD, show i < 14 by omega]
          rw [e, (digB_iff _).2 h] at hb
          cases hb⟩
        have HAD : Hid (allD l 14) := Lib.hid hD
        have hyes := toldB_yes 4 genY l ⟨by omega, hZ, hD⟩
        have HYES := Lib.hid hyes
        have hcZ := HC.out 14 (by omega)
        rw [hZ] at hcZ
        rw [hlen] at h1 ⊢
        have HLEN := Lib.hid hlen
        clear hc hc0 hdc hD hyes hlen hv hl hZ
        have HCD : Hid (∀ W, Below w.heap.size w W → Calls Try.prog 51 #[.slice (some ⟨b, off, none⟩) 14 cap, .func (.func 52) #[] #[]] W fun e w' => e = .returned (.bool false) ∧ W = w') := Lib.hid (fun W hW => containsD_calls _ (l.take 14) W false hnb.out (HDC.out.below hW) (by rw [List.length_take]; omega))
        have hB0 : Hid (Below w.heap.size w ((w.alloc (.cells #[.slice (some ⟨b, off, none⟩) 15 cap] 22)).alloc (.cells #[.int .u16 0, .int .u8 0, .int .u8 0, .int .u8 0, .int .u8 0, .int .u8 0] 25))) := Lib.hid (((Below.refl _ _).alloc (Nat.le_refl _) _).alloc (by simp) _)
        obtain ⟨yy, hyy⟩ : ∃ y, Hid (y = numD l 0 4) := ⟨_, Lib.hid rfl⟩
        have hyb : 0 ≤ yy ∧ yy ≤ 9999 := by have := numD_le l 14 HAD.out 0 4 (by omega); rw [hyy.out]; omega
        obtain ⟨YY, hYY⟩ : ∃ y, Hid (y = genY yy) := ⟨_, Lib.hid rfl⟩
        have hYb : 0 ≤ YY ∧ YY ≤ 9999 := by rw [hYY.out]; unfold genY; omega
        have hYw : IntKind.u16.wrap YY = YY := by rw [IntKind.wrap_u16]; omega
        have HU : Hid (∀ W, Calls Try.prog 44 #[.int .i64 yy] W fun e w' => e = .returned (.int .i64 YY) ∧ W = w') := Lib.hid (fun W => by rw [hYY.out]; exact genf_calls yy W hyb)
        have hnx : Hid (∀ W, W = (((w.alloc (.cells #[.slice (some ⟨b, off, none⟩) 15 cap] 22)).alloc (.cells #[.int .u16 0, .int .u8 0, .int .u8 0, .int .u8 0, .int .u8 0, .int .u8 0] 25)).alloc (.cells #[.int .i64 0] 3)) → Calls Try.prog 53 #[.int .i64 4, .pointer (some ⟨w.heap.size, 0, none⟩), .pointer (some ⟨w.heap.size + 1 + 1, 0, none⟩)] W fun e w' => e = .returned (.int .i64 yy) ∧ w'.cell? ⟨w.heap.size + 1 + 1, 0, none⟩ = some (.int .i64 4) ∧ w'.frozen? ⟨w.heap.size + 1 + 1, 0, none⟩ = false ∧ W.grownBy w' (some (w.heap.size + 1 + 1)) ∧ w'.heap.size = W.heap.size) := Lib.hid (fun W hW => by
          have hbl : Below w.heap.size w W := by rw [hW]; exact hB0.out.alloc (by simp; omega) _
          rw [hyy.out]
          exact next_calls l 14 15 0 4 b off cap w.heap.size (w.heap.size + 1 + 1) W (fun i hi => (hbl.cell (p := ⟨b, off + i, none⟩) hbw).trans (HC.out i (by omega))) (by rw [hW]; simp [go_sem]) (by rw [hW]; simp [go_sem]) (by rw [hW]; simp [go_sem]) HAD.out (by omega) (by omega) (by omega) (by omega) (by omega) (by omega) (by omega))
        go_enter Try.func40, Try.ntmps40
        go_wp2_with (go_at_call 51; refine (HCD.out _ hB0.out).mono ?_; rintro e w1 ⟨rfl, rfl⟩)
        go_wp2_with fail
        refine (hnx.out _ rfl).mono ?_
        rintro e w1 ⟨rfl, hat, hfr, hg, hsz⟩
        have hs1 : w1.heap.size = w.heap.size + 3 := by rw [hsz]; simp
        have HG := Lib.hid hg
        have HAT := Lib.hid hat
        have HFR := Lib.hid hfr
        clear hsz hg hat hfr
        go_wp2_with (go_at_call 44; refine (HU.out _).mono ?_; rintro e w2 ⟨rfl, rfl⟩)
        go_loopw [50] (fun i wr => ∃ j : Nat, j ≤ 5 ∧ i = .int .i64 j ∧ Hid (TI w wr l 4 b off 15 cap YY w.heap.size (w.heap.size + 1) (w.heap.size + 1 + 1) (w.heap.size + 3) (w.heap.size + 4) j)) (fun i _ => 5 - (intOf i).toNat)
        case atStart => exact ⟨0, by omega, rfl, Lib.hid (TI.start hs1 HG.out (by simpa using HAT.out) HFR.out)⟩
        case round =>
          obtain ⟨j, hj, rfl, I⟩ := hrel
          clear HG HAT HFR hs1
          by_cases hlt : j < 5
          · have hps := I.out.ps j hlt
            have hfl := I.out.fl j hlt
            rw [if_neg (by omega)] at hfl
            have hff := I.out.ff (j + 1) (by omega)
            obtain ⟨z, hz⟩ : ∃ z, Hid (z = numD l (4 + 2 * j) 2) := ⟨_, Lib.hid rfl⟩
            have hzb : 0 ≤ z ∧ z ≤ 99 := by have := numD_le l 14 HAD.out (4 + 2 * j) 2 (by omega); rw [hz.out]; omega
            have hn := next_calls l 14 15 (4 + 2 * j) 2 b off cap w.heap.size (w.heap.size + 1 + 1) wr (fun i hi => (I.out.bel.cell (p := ⟨b, off + i, none⟩) hbw).trans (HC.out i (by omega))) I.out.body I.out.plc I.out.plf HAD.out (by omega) (by omega) (by omega) (by omega) (by omega) (by omega) (by omega)
            rw [← hz.out] at hn
            have HN := Lib.hid hn
            have HST : Hid (∀ w2, wr.grownBy w2 (some (w.heap.size + 1 + 1)) → w2.cell? ⟨w.heap.size + 1 + 1, 0, none⟩ = some (.int .i64 ((4 + 2 * j + 2 : Nat) : Int)) → w2.frozen? ⟨w.heap.size + 1 + 1, 0, none⟩ = false → TI w (w2.setCell ⟨w.heap.size + 3, j + 1, none⟩ (.int .u8 z)) l 4 b off 15 cap YY w.heap.size (w.heap.size + 1) (w.heap.size + 1 + 1) (w.heap.size + 3) (w.heap.size + 4) (j + 1)) := Lib.hid (fun w2 g1 g2 g3 => by
              rw [hz.out]
              exact TI.step I.out hlt ⟨by omega, by omega, by omega, by omega, by omega, by omega, by omega⟩ (by omega) (by omega) g1 g2 g3)
            have HFL := Lib.hid hfl
            have HFF := Lib.hid hff
            clear hn hfl hff
            go_wp2_with (go_at_call 53; refine (HN.out).mono ?_; rintro e w2 ⟨rfl, hat, hfr, hg, hsz⟩; have hcT := World.grownBy.cell hg HFL.out (by intro e; have := Option.some.inj e; simp at this); have hfT := frozen_gb hg HFL.out (by intro e; have := Option.some.inj e; simp at this) HFF.out; have HI := Lib.hid (HST.out _ hg hat hfr); clear hat hfr hg hsz)
            go_roundw
            case rel => exact ⟨j + 1, by omega, by go_num, HI⟩
            case measure => simp [intOf]; omega
          · obtain rfl : j = 5 := by omega
            obtain ⟨x0, hx0⟩ : ∃ x, Hid (x = numD l 4 2) := ⟨_, Lib.hid rfl⟩
            obtain ⟨x1, hx1⟩ : ∃ x, Hid (x = numD l 6 2) := ⟨_, Lib.hid rfl⟩
            obtain ⟨x2, hx2⟩ : ∃ x, Hid (x = numD l 8 2) := ⟨_, Lib.hid rfl⟩
            obtain ⟨x3, hx3⟩ : ∃ x, Hid (x = numD l 10 2) := ⟨_, Lib.hid rfl⟩
            obtain ⟨x4, hx4⟩ : ∃ x, Hid (x = numD l 12 2) := ⟨_, Lib.hid rfl⟩
            have c0 := I.out.yr
            have c1 : wr.cell? ⟨w.heap.size + 3, 1, none⟩ = some (.int .u8 x0) := by rw [hx0.out]; exact I.out.fl 0 (by omega)
            have c2 : wr.cell? ⟨w.heap.size + 3, 2, none⟩ = some (.int .u8 x1) := by rw [hx1.out]; exact I.out.fl 1 (by omega)
            have c3 : wr.cell? ⟨w.heap.size + 3, 3, none⟩ = some (.int .u8 x2) := by rw [hx2.out]; exact I.out.fl 2 (by omega)
            have c4 : wr.cell? ⟨w.heap.size + 3, 4, none⟩ = some (.int .u8 x3) := by rw [hx3.out]; exact I.out.fl 3 (by omega)
            have c5 : wr.cell? ⟨w.heap.size + 3, 5, none⟩ = some (.int .u8 x4) := by rw [hx4.out]; exact I.out.fl 4 (by omega)
            have r0 := I.out.r0
            have r1 := I.out.r1 0 (by omega)
            have r2 := I.out.r1 1 (by omega)
            have r3 := I.out.r1 2 (by omega)
            have r4 := I.out.r1 3 (by omega)
            have r5 := I.out.r1 4 (by omega)
            have s0 := I.out.rf 0 (by omega)
            have s1 := I.out.rf 1 (by omega)
            have s2 := I.out.rf 2 (by omega)
            have s3 := I.out.rf 3 (by omega)
            have s4 := I.out.rf 4 (by omega)
            have s5 := I.out.rf 5 (by omega)
            have hTd : Hid (toldT 4 genY l = ⟨YY, x0, x1, x2, x3, x4⟩) := Lib.hid (by rw [hYY.out, hyy.out, hx0.out, hx1.out, hx2.out, hx3.out, hx4.out]; rfl)
            have hxb : Hid ((0 ≤ x0 ∧ x0 ≤ 99) ∧ (0 ≤ x1 ∧ x1 ≤ 99) ∧ (0 ≤ x2 ∧ x2 ≤ 99) ∧ (0 ≤ x3 ∧ x3 ≤ 99) ∧ (0 ≤ x4 ∧ x4 ≤ 99)) := Lib.hid (by
              have q0 := numD_le l 14 HAD.out 4 2 (by omega)
              have q1 := numD_le l 14 HAD.out 6 2 (by omega)
              have q2 := numD_le l 14 HAD.out 8 2 (by omega)
              have q3 := numD_le l 14 HAD.out 10 2 (by omega)
              have q4 := numD_le l 14 HAD.out 12 2 (by omega)
              rw [hx0.out, hx1.out, hx2.out, hx3.out, hx4.out]
              omega)
            have hfit : Hid (Tm.Fit ⟨YY, x0, x1, x2, x3, x4⟩) := Lib.hid (by
              obtain ⟨b0, b1, b2, b3, b4⟩ := hxb.out
              exact ⟨⟨hYb.1, by show YY ≤ 65535; omega⟩, ⟨b0.1, by show x0 ≤ 255; omega⟩, ⟨b1.1, by show x1 ≤ 255; omega⟩, ⟨b2.1, by show x2 ≤ 255; omega⟩, ⟨b3.1, by show x3 ≤ 255; omega⟩, ⟨b4.1, by show x4 ≤ 255; omega⟩⟩)
            obtain ⟨R, hR⟩ : ∃ R, Hid (R = rightB ⟨YY, x0, x1, x2, x3, x4⟩) := ⟨_, Lib.hid rfl⟩
            have HR : Hid (∀ W, Calls Try.prog 23 #[.agg #[.int .u16 YY, .int .u8 x0, .int .u8 x1, .int .u8 x2, .int .u8 x3, .int .u8 x4]] W fun e w' => e = .returned (.bool R) ∧ Below W.heap.size W w') := Lib.hid (fun W => by rw [hR.out]; exact right_calls _ W hfit.out)
            cases R with
            | true =>
              have hres : Hid (Ending.returned (.tuple #[.agg #[.int .u16 YY, .int .u8 x0, .int .u8 x1, .int .u8 x2, .int .u8 x3, .int .u8 x4], .bool true]) = .returned (.tuple #[tmV (told 4 genY l), .bool (toldB 4 genY l)])) := Lib.hid (by
                have hB : toldB 4 genY l = true := by rw [HYES.out, hTd.out, ← hR.out]
                unfold told
                rw [hB]
                rw [if_pos rfl, hTd.out]
                rfl)

              go_wp2_with (go_at_call 23; refine (HR.out _).mono ?_; rintro e w3 ⟨rfl, hb3⟩; have HB3 := Lib.hid (I.out.bel.trans (hb3.mono I.out.bel.size)); have hwz : w.heap.size + 5 ≤ wr.heap.size := I.out.sz; have hT3 : ∀ o, w3.cell? ⟨w.heap.size + 3, o, none⟩ = _ := (fun o => hb3.cell (p := ⟨w.heap.size + 3, o, none⟩) (by show w.heap.size + 3 < _; omega)); have hR3 : ∀ o, w3.cell? ⟨w.heap.size + 1, o, none⟩ = _ := (fun o => hb3.cell (p := ⟨w.heap.size + 1, o, none⟩) (by show w.heap.size + 1 < _; omega)); have hRf3 : ∀ o, w3.frozen? ⟨w.heap.size + 1, o, none⟩ = _ := (fun o => hb3.frozen (p := ⟨w.heap.size + 1, o, none⟩) (by show w.heap.size + 1 < _; omega)); have q0 := (hR3 0).trans r0; have q1 := (hR3 1).trans r1; have q2 := (hR3 2).trans r2; have q3 := (hR3 3).trans r3; have q4 := (hR3 4).trans r4; have q5 := (hR3 5).trans r5; clear hb3 hR3)
              exact bodyPost_ret (v := .tuple #[.agg #[.int .u16 YY, .int .u8 x0, .int .u8 x1, .int .u8 x2, .int .u8 x3, .int .u8 x4], .bool true]) (by simp [results, Try.results40, go_sem, q0, q1, q2, q3, q4, q5]) rfl ⟨hres.out, (HB3.out.setCell (p := ⟨w.heap.size + 1, 0, none⟩) (by simp) _ |>.setCell (p := ⟨w.heap.size + 1, 1, none⟩) (by simp) _ |>.setCell (p := ⟨w.heap.size + 1, 2, none⟩) (by simp) _ |>.setCell (p := ⟨w.heap.size + 1, 3, none⟩) (by simp) _ |>.setCell (p := ⟨w.heap.size + 1, 4, none⟩) (by simp) _ |>.setCell (p := ⟨w.heap.size + 1, 5, none⟩) (by simp) _)⟩
            | false =>
              have hres : Hid (Ending.returned (.tuple #[.agg #[.int .u16 0, .int .u8 0, .int .u8 0, .int .u8 0, .int .u8 0, .int .u8 0], .bool false]) = .returned (.tuple #[tmV (told 4 genY l), .bool (toldB 4 genY l)])) := Lib.hid (by
                have hB : toldB 4 genY l = false := by rw [HYES.out, hTd.out, ← hR.out]
                unfold told
                rw [hB]
                rfl)

              go_wp2_with (go_at_call 23; refine (HR.out _).mono ?_; rintro e w3 ⟨rfl, hb3⟩; have HB3 := Lib.hid (I.out.bel.trans (hb3.mono I.out.bel.size)); have hwz : w.heap.size + 5 ≤ wr.heap.size := I.out.sz; have hT3 : ∀ o, w3.cell? ⟨w.heap.size + 3, o, none⟩ = _ := (fun o => hb3.cell (p := ⟨w.heap.size + 3, o, none⟩) (by show w.heap.size + 3 < _; omega)); have hR3 : ∀ o, w3.cell? ⟨w.heap.size + 1, o, none⟩ = _ := (fun o => hb3.cell (p := ⟨w.heap.size + 1, o, none⟩) (by show w.heap.size + 1 < _; omega)); have hRf3 : ∀ o, w3.frozen? ⟨w.heap.size + 1, o, none⟩ = _ := (fun o => hb3.frozen (p := ⟨w.heap.size + 1, o, none⟩) (by show w.heap.size + 1 < _; omega)); have q0 := (hR3 0).trans r0; have q1 := (hR3 1).trans r1; have q2 := (hR3 2).trans r2; have q3 := (hR3 3).trans r3; have q4 := (hR3 4).trans r4; have q5 := (hR3 5).trans r5; clear hb3 hR3)
              exact bodyPost_ret (v := .tuple #[.agg #[.int .u16 0, .int .u8 0, .int .u8 0, .int .u8 0, .int .u8 0, .int .u8 0], .bool false]) (by simp [results, Try.results40, go_sem, q0, q1, q2, q3, q4, q5]) rfl ⟨hres.out, (HB3.out.setCell (p := ⟨w.heap.size + 1, 0, none⟩) (by simp) _ |>.setCell (p := ⟨w.heap.size + 1, 1, none⟩) (by simp) _ |>.setCell (p := ⟨w.heap.size + 1, 2, none⟩) (by simp) _ |>.setCell (p := ⟨w.heap.size + 1, 3, none⟩) (by simp) _ |>.setCell (p := ⟨w.heap.size + 1, 4, none⟩) (by simp) _ |>.setCell (p := ⟨w.heap.size + 1, 5, none⟩) (by simp) _)⟩
      · obtain ⟨b, off, rfl, hc0⟩ := hc 0 (by omega)
        have hbw : b < w.heap.size := lt_of_cell hc0
        have HC : Hid (∀ i, i < 15 → w.cell? ⟨b, off + i, none⟩ = some (.int .u8 ((l.getD i 0).toNat : Int))) := Lib.hid (fun i hi => by
          obtain ⟨b', off', e, h⟩ := hc i (by omega)
          cases e
          exact h)
        have hdc : Byt w (.slice (some ⟨b, off, none⟩) 14 cap) (l.take 14) := (hv.take 14 (by omega))
        have HDC := Lib.hid hdc
        have HBD := Lib.hid hD
        have hnb : Hid (true = true ↔ badD (l.take 14)) := Lib.hid ⟨fun _ => by
          apply Classical.byContradiction
          intro hno
          apply hD
          intro i hi
          apply Classical.byContradiction
          intro hb
          refine hno ⟨i, by rw [List.length_take]; omega, ?_⟩
          have e : (l.take 14).getD i 0 = l.getD i 0 := by simp [List.getD, show i < 14 by omega]
          rw [e]
          exact digB_not _ hb, fun _ => rfl⟩
        have hres : Hid (Ending.returned (.tuple #[.agg #[.int .u16 0, .int .u8 0, .int .u8 0, .int .u8 0, .int .u8 0, .int .u8 0], .bool false]) = .returned (.tuple #[tmV (told 4 genY l), .bool (toldB 4 genY l)])) := Lib.hid (by
          have h := toldB_no 4 genY l (fun h => hD h.2.2)
          rw [h.1, h.2]
          rfl)
        have hcZ := HC.out 14 (by omega)
        rw [hZ] at hcZ
        rw [hlen] at h1 ⊢
        have HLEN := Lib.hid hlen
        clear hc hc0 hdc hD hlen hv hl hZ
        have HCD : Hid (∀ W, Below w.heap.size w W → Calls Try.prog 51 #[.slice (some ⟨b, off, none⟩) 14 cap, .func (.func 52) #[] #[]] W fun e w' => e = .returned (.bool true) ∧ W = w') := Lib.hid (fun W hW => containsD_calls _ (l.take 14) W true hnb.out (HDC.out.below hW) (by rw [List.length_take]; omega))
        have hB0 : Hid (Below w.heap.size w ((w.alloc (.cells #[.slice (some ⟨b, off, none⟩) 15 cap] 22)).alloc (.cells #[.int .u16 0, .int .u8 0, .int .u8 0, .int .u8 0, .int .u8 0, .int .u8 0] 25))) := Lib.hid (((Below.refl _ _).alloc (Nat.le_refl _) _).alloc (by simp) _)
        go_enter Try.func40, Try.ntmps40
        go_wp2_with (go_at_call 51; refine (HCD.out _ hB0.out).mono ?_; rintro e w1 ⟨rfl, rfl⟩)
        exact bodyPost_ret (v := .tuple #[.agg #[.int .u16 0, .int .u8 0, .int .u8 0, .int .u8 0, .int .u8 0, .int .u8 0], .bool false]) (by simp [results, Try.results40, go_sem]) rfl ⟨hres.out, by
          repeat' (first
            | with_reducible exact Below.refl _ _
            | with_reducible refine Below.drew ?_
            | with_reducible refine Below.setCell ?_ ?_ _
            | with_reducible refine Below.alloc ?_ ?_ _
            | omega
            | (simp <;> omega))⟩
    · obtain ⟨b, off, rfl, hcZ⟩ := hc 14 (by omega)
      have hbw : b < w.heap.size := lt_of_cell hcZ
      have hres : Hid (Ending.returned (.tuple #[.agg #[.int .u16 0, .int .u8 0, .int .u8 0, .int .u8 0, .int .u8 0, .int .u8 0], .bool false]) = .returned (.tuple #[tmV (told 4 genY l), .bool (toldB 4 genY l)])) := Lib.hid (by
        have h := toldB_no 4 genY l (fun h => hZ h.2.1)
        rw [h.1, h.2]
        rfl)
      obtain ⟨zc, hzc⟩ : ∃ z : Int, Hid (z = ((l.getD 14 0).toNat : Int)) := ⟨_, Lib.hid rfl⟩
      have hz1 : (zc == 90) = false := by rw [hzc.out]; simp only [beq_eq_false_iff_ne]; omega
      have hz2 : (zc != 90) = true := by simp [bne, hz1]
      rw [← hzc.out] at hcZ
      rw [hlen] at h1 ⊢
      clear hc hlen hv hl hZ
      go_enter Try.func40, Try.ntmps40
      go_wp2
      exact bodyPost_ret (v := .tuple #[.agg #[.int .u16 0, .int .u8 0, .int .u8 0, .int .u8 0, .int .u8 0, .int .u8 0], .bool false]) (by simp [results, Try.results40, go_sem]) rfl ⟨hres.out, by
        repeat' (first
          | with_reducible exact Below.refl _ _
          | with_reducible refine Below.drew ?_
          | with_reducible refine Below.setCell ?_ ?_ _
          | with_reducible refine Below.alloc ?_ ?_ _
          | omega
          | (simp <;> omega))⟩
  · have hres : Hid (Ending.returned (.tuple #[.agg #[.int .u16 0, .int .u8 0, .int .u8 0, .int .u8 0, .int .u8 0, .int .u8 0], .bool false]) = .returned (.tuple #[tmV (told 4 genY l), .bool (toldB 4 genY l)])) := Lib.hid (by
      have h := toldB_no 4 genY l (fun h => hlen h.1)
      rw [h.1, h.2]
      rfl)
    have hd1 : ((l.length : Int) == 15) = false := by simp; omega
    have hd2 : ((l.length : Int) != 15) = true := by simp; omega
    clear hc hv hlen
    go_enter Try.func40, Try.ntmps40
    go_wp2
    exact bodyPost_ret (v := .tuple #[.agg #[.int .u16 0, .int .u8 0, .int .u8 0, .int .u8 0, .int .u8 0, .int .u8 0], .bool false]) (by simp [results, Try.results40, go_sem]) rfl ⟨hres.out, by
      repeat' (first
        | with_reducible exact Below.refl _ _
        | with_reducible refine Below.drew ?_
        | with_reducible refine Below.setCell ?_ ?_ _
        | with_reducible refine Below.alloc ?_ ?_ _
        | omega
        | (simp <;> omega))⟩

end Go.Proofs.Ytjjggnipicpjkaa
