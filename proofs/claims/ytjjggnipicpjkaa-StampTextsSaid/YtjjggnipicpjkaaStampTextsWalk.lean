/-
  The walk of the law StampTexts.
-/
import Derived.Test.YtjjggnipicpjkaaStWorks
import Derived.Test.YtjjggnipicpjkaaRow
import Derived.Test.YtjjggnipicpjkaaTextHead
namespace Go.Proofs.Ytjjggnipicpjkaa
open Go Go.RowKit

theorem gen_any (v : Value) (X : List UInt8) (W : World) {t : Tm} (hX : X = txL t) (ht : t.Fit) (hr : rightB t = true) (h : Byt W v X) :
    Calls Try.prog 27 #[v] W fun e w' => e = .returned (.tuple #[.agg #[.int .u16 t.y, .int .u8 t.mo, .int .u8 t.d, .int .u8 t.h, .int .u8 t.mi, .int .u8 t.s], .bool true]) ∧ Below W.heap.size W w' := by
  subst hX
  have := general_calls v (txL t) W h (by rw [txL_length]; decide)
  rw [(tx_gen t ht hr).1, (tx_gen t ht hr).2] at this
  exact this
theorem utc_yes (v : Value) (X : List UInt8) (W : World) {t : Tm} (hX : X = txL t) (ht : t.Fit) (hr : rightB t = true) (r2 : rightB (shortT t) = true) (h : Byt W v (X.drop 2)) :
    Calls Try.prog 25 #[v] W fun e w' => e = .returned (.tuple #[.agg #[.int .u16 (utcY (t.y % 100)), .int .u8 t.mo, .int .u8 t.d, .int .u8 t.h, .int .u8 t.mi, .int .u8 t.s], .bool true]) ∧ Below W.heap.size W w' := by
  subst hX
  have := utc_calls v ((txL t).drop 2) W h (by rw [List.length_drop, txL_length]; decide)
  rw [(tx_utc t ht hr).1, (tx_utc t ht hr).2, r2, if_pos rfl] at this
  exact this
theorem utc_no (v : Value) (X : List UInt8) (W : World) {t : Tm} (hX : X = txL t) (ht : t.Fit) (hr : rightB t = true) (r2 : rightB (shortT t) = false) (h : Byt W v (X.drop 2)) :
    Calls Try.prog 25 #[v] W fun e w' => e = .returned (.tuple #[.agg #[.int .u16 0, .int .u8 0, .int .u8 0, .int .u8 0, .int .u8 0, .int .u8 0], .bool false]) ∧ Below W.heap.size W w' := by
  subst hX
  have := utc_calls v ((txL t).drop 2) W h (by rw [List.length_drop, txL_length]; decide)
  rw [(tx_utc t ht hr).1, (tx_utc t ht hr).2, r2, if_neg (by decide)] at this
  exact this

set_option maxRecDepth 100000 in
set_option maxHeartbeats 4000000 in
theorem stampTexts_none (t : Tm) (w : World) (ht : t.Fit) (hr : rightB t = false) :
    Calls Try.prog 11 #[tmV t] w fun e w' => e = .returned (.bool true) ∧ Below w.heap.size w w' := by
  have hB0 : Hid (Below w.heap.size w (w.alloc (.cells #[.int .u16 t.y, .int .u8 t.mo, .int .u8 t.d, .int .u8 t.h, .int .u8 t.mi, .int .u8 t.s] 25))) := Lib.hid ((Below.refl _ _).alloc (Nat.le_refl _) _)
  have HR := Lib.hid (fun W => right_any t _ hr ht W)
  clear hr ht
  unfold tmV
  go_enter Try.func11, Try.ntmps11
  go_wp2_with (first
    | (go_at_call 23; refine (HR.out _).mono ?_; rintro e w1 ⟨rfl, hb⟩; have HB1 := Lib.hid (hB0.out.trans (hb.mono hB0.out.size)); clear hb)
    | (go_at_call 13; refine (works_calls _).mono ?_; rintro e w9 ⟨rfl, hb⟩; have HB9 := Lib.hid ((HB1.out).trans (hb.mono (HB1.out).size)); clear hb))
  go_ret
  exact ⟨rfl, HB9.out⟩

set_option maxRecDepth 100000 in
set_option maxHeartbeats 4000000 in
theorem stampTexts_no (t : Tm) (w : World) (ht : t.Fit) (hr : rightB t = true) (r2 : rightB (shortT t) = false) :
    Calls Try.prog 11 #[tmV t] w fun e w' => e = .returned (.bool true) ∧ Below w.heap.size w w' := by
  obtain ⟨X, hX⟩ : ∃ X, Hid (X = txL t) := ⟨_, Lib.hid rfl⟩
  have HR := Lib.hid (fun W => right_any t _ hr ht W)
  have HX := Lib.hid (fun W => text_head t X hX.out ht hr W)
  have HG := Lib.hid (fun v W h => gen_any v X W (t := t) hX.out ht hr h)
  have HU := Lib.hid (fun v W h => utc_no v X W (t := t) hX.out ht hr r2 h)
  have HXL : Hid (X.length = 15) := Lib.hid (by rw [hX.out]; rfl)
  have hy := short_none t hr r2
  have hneq : ∀ W, (binOp .neq 25 (.agg #[.int .u16 t.y, .int .u8 t.mo, .int .u8 t.d, .int .u8 t.h, .int .u8 t.mi, .int .u8 t.s]) (.agg #[.int .u16 t.y, .int .u8 t.mo, .int .u8 t.d, .int .u8 t.h, .int .u8 t.mi, .int .u8 t.s])).run Try.prog W = .ok (.bool false) W := fun W => by
    have := run_tm_neq t t W
    rw [(eqT_iff t t).2 rfl] at this
    exact this
  have hyb := (ht.y : 0 ≤ t.y ∧ t.y ≤ 65535)
  have hlt : (decide (t.y < 1950) = true) ∨ (decide (t.y < 1950) = false ∧ decide (2050 ≤ t.y) = true) := by simp only [decide_eq_true_iff, decide_eq_false_iff_not]; omega
  clear hr ht r2 hy hyb hX
  obtain ⟨y, mo, d, h, mi, s⟩ := t
  unfold tmV
  simp only at HR HX HG HU hneq hlt ⊢
  have hB0 : Hid (Below w.heap.size w (w.alloc (.cells #[.int .u16 y, .int .u8 mo, .int .u8 d, .int .u8 h, .int .u8 mi, .int .u8 s] 25))) := Lib.hid ((Below.refl _ _).alloc (Nat.le_refl _) _)
  have ct0 := Lib.hid (RowAt.new w #[.int .u16 y, .int .u8 mo, .int .u8 d, .int .u8 h, .int .u8 mi, .int .u8 s] 25 w.heap.size rfl)
  rcases hlt with q1 | ⟨q1, q2⟩
  all_goals
    go_enter Try.func11, Try.ntmps11
    go_wp2_with (first
      | (go_at_call 23; refine (HR.out _).mono ?_; rintro e w1 ⟨rfl, hb⟩; have HB1 := Lib.hid (hB0.out.trans (hb.mono hB0.out.size)); have ct1 := Lib.hid (ct0.out.below hb); have k1 := ct1.out.cell; have k10 := k1 0 (.int .u16 y) rfl; have k11 := k1 1 (.int .u8 mo) rfl; have k12 := k1 2 (.int .u8 d) rfl; have k13 := k1 3 (.int .u8 h) rfl; have k14 := k1 4 (.int .u8 mi) rfl; have k15 := k1 5 (.int .u8 s) rfl; clear hb ct0 k1)
      | (go_at_call 24; refine (HX.out _).mono ?_; rintro e w2 ⟨g, cap, rfl, hg1, hcp, hcm, ho, hb⟩; have HB2 := Lib.hid (HB1.out.trans (hb.mono HB1.out.size)); have ct2 := Lib.hid (ct1.out.below hb); have HO2 := Lib.hid ho; clear hb ct1 k10 k11 k12 k13 k14 k15 ho)
      | (go_at_call 27; refine (HG.out _ _ HO2.out.byt).mono ?_; rintro e w3 ⟨rfl, hb⟩; have HB3 := Lib.hid (HB2.out.trans (hb.mono HB2.out.size)); have ct3 := Lib.hid ((ct2.out.below hb).alloc (.cells #[.int .u16 y, .int .u8 mo, .int .u8 d, .int .u8 h, .int .u8 mi, .int .u8 s] 25)); have cu3 := Lib.hid (RowAt.new w3 #[.int .u16 y, .int .u8 mo, .int .u8 d, .int .u8 h, .int .u8 mi, .int .u8 s] 25 w3.heap.size rfl); have HO3 := Lib.hid ((HO2.out.below hb).alloc (.cells #[.int .u16 y, .int .u8 mo, .int .u8 d, .int .u8 h, .int .u8 mi, .int .u8 s] 25)); have HBa := Lib.hid (HB3.out.alloc HB3.out.size (.cells #[.int .u16 y, .int .u8 mo, .int .u8 d, .int .u8 h, .int .u8 mi, .int .u8 s] 25)); clear hb ct2)
      | (go_at_call 25; refine (HU.out _ _ (byt_from HO3.out.byt (k := 2) (by rw [HXL.out]; decide))).mono ?_; rintro e w4 ⟨rfl, hb⟩; have HB4 := Lib.hid (HBa.out.trans (hb.mono HBa.out.size)); have ct4 := Lib.hid (ct3.out.below hb); have cu4 := Lib.hid (cu3.out.below hb); have r1 := ct4.out.cell; have r2 := cu4.out.cell; have a0 := r1 0 (.int .u16 y) rfl; have a1 := r1 1 (.int .u8 mo) rfl; have a2 := r1 2 (.int .u8 d) rfl; have a3 := r1 3 (.int .u8 h) rfl; have a4 := r1 4 (.int .u8 mi) rfl; have a5 := r1 5 (.int .u8 s) rfl; have b0 := r2 0 (.int .u16 y) rfl; have b1 := r2 1 (.int .u8 mo) rfl; have b2 := r2 2 (.int .u8 d) rfl; have b3 := r2 3 (.int .u8 h) rfl; have b4 := r2 4 (.int .u8 mi) rfl; have b5 := r2 5 (.int .u8 s) rfl; have z4 := ct4.out.lt; have z5 := cu4.out.lt; clear hb ct3 cu3 r1 r2)
      | (go_at_call 13; refine (works_calls _).mono ?_; rintro e w9 ⟨rfl, hb⟩; have HB9 := Lib.hid ((HB4.out.alloc HB4.out.size _).trans (hb.mono (HB4.out.alloc HB4.out.size _).size)); clear hb))
    go_ret
    exact ⟨rfl, HB9.out⟩

set_option maxRecDepth 100000 in
set_option maxHeartbeats 4000000 in
theorem stampTexts_yes (t : Tm) (w : World) (ht : t.Fit) (hr : rightB t = true) (r2 : rightB (shortT t) = true) :
    Calls Try.prog 11 #[tmV t] w fun e w' => e = .returned (.bool true) ∧ Below w.heap.size w w' := by
  obtain ⟨X, hX⟩ : ∃ X, Hid (X = txL t) := ⟨_, Lib.hid rfl⟩
  have HR := Lib.hid (fun W => right_any t _ hr ht W)
  have HX := Lib.hid (fun W => text_head t X hX.out ht hr W)
  have HG := Lib.hid (fun v W h => gen_any v X W (t := t) hX.out ht hr h)
  have HU := Lib.hid (fun v W h => utc_yes v X W (t := t) hX.out ht hr r2 h)
  have HXL : Hid (X.length = 15) := Lib.hid (by rw [hX.out]; rfl)
  have hneq : ∀ W, (binOp .neq 25 (.agg #[.int .u16 t.y, .int .u8 t.mo, .int .u8 t.d, .int .u8 t.h, .int .u8 t.mi, .int .u8 t.s]) (.agg #[.int .u16 t.y, .int .u8 t.mo, .int .u8 t.d, .int .u8 t.h, .int .u8 t.mi, .int .u8 t.s])).run Try.prog W = .ok (.bool false) W := fun W => by
    have := run_tm_neq t t W
    rw [(eqT_iff t t).2 rfl] at this
    exact this
  have hy := short_year t hr
  have hyb : 0 ≤ t.y ∧ t.y ≤ 65535 := ht.y
  have hyc := right_bd r2
  have heq := fun W => run_tm_eq (shortT t) t W
  have hways : (decide (1950 ≤ t.y) = true ∧ decide (t.y < 2050) = true ∧ eqT (shortT t) t = true) ∨ (decide (1950 ≤ t.y) = true ∧ decide (t.y < 2050) = false ∧ eqT (shortT t) t = false) ∨ (decide (1950 ≤ t.y) = false ∧ eqT (shortT t) t = false) := by
    by_cases hc : 1950 ≤ t.y ∧ t.y < 2050
    · exact .inl ⟨decide_eq_true hc.1, decide_eq_true hc.2, (eqT_iff _ _).2 (hy.2.1 hc)⟩
    · have hn : eqT (shortT t) t = false := by
        cases he : eqT (shortT t) t with
        | false => rfl
        | true => exact absurd (hy.2.2 ((eqT_iff _ _).1 he)) hc
      by_cases h1 : 1950 ≤ t.y
      · exact .inr (.inl ⟨decide_eq_true h1, decide_eq_false (fun h2 => hc ⟨h1, h2⟩), hn⟩)
      · exact .inr (.inr ⟨decide_eq_false h1, hn⟩)
  have hmod : Hid (utcY (t.y % 100) % 100 = t.y % 100) := Lib.hid hy.1
  have hsy : 0 ≤ utcY (t.y % 100) ∧ utcY (t.y % 100) ≤ 9999 := by have h1 := hyc.1; have h2 := hyc.2.1; exact ⟨by unfold shortT at h1; simp only at h1; omega, by unfold shortT at h2; exact h2⟩
  obtain ⟨E, hE⟩ : ∃ E, Hid (E = eqT (shortT t) t) := ⟨_, Lib.hid rfl⟩
  rw [← hE.out] at hways
  have heq2 : ∀ W, (binOp .eql 25 (.agg #[.int .u16 (utcY (t.y % 100)), .int .u8 t.mo, .int .u8 t.d, .int .u8 t.h, .int .u8 t.mi, .int .u8 t.s]) (.agg #[.int .u16 t.y, .int .u8 t.mo, .int .u8 t.d, .int .u8 t.h, .int .u8 t.mi, .int .u8 t.s])).run Try.prog W = .ok (.bool E) W := fun W => by rw [hE.out]; exact heq W
  obtain ⟨sy, hs⟩ : ∃ sy, Hid (sy = utcY (t.y % 100)) := ⟨_, Lib.hid rfl⟩
  rw [← hs.out] at hmod hsy heq2 HU
  clear hr ht r2 hy hyc heq hX
  obtain ⟨y, mo, d, h, mi, s⟩ := t
  unfold tmV
  simp only at HR HX HG HU hneq heq2 hways hmod hyb ⊢
  clear hE hs
  have hB0 : Hid (Below w.heap.size w (w.alloc (.cells #[.int .u16 y, .int .u8 mo, .int .u8 d, .int .u8 h, .int .u8 mi, .int .u8 s] 25))) := Lib.hid ((Below.refl _ _).alloc (Nat.le_refl _) _)
  have ct0 := Lib.hid (RowAt.new w #[.int .u16 y, .int .u8 mo, .int .u8 d, .int .u8 h, .int .u8 mi, .int .u8 s] 25 w.heap.size rfl)
  rcases hways with ⟨q1, q2, rfl⟩ | ⟨q1, q2, rfl⟩ | ⟨q1, rfl⟩
  all_goals
    go_enter Try.func11, Try.ntmps11
    go_wp2_with (first
      | (go_at_call 23; refine (HR.out _).mono ?_; rintro e w1 ⟨rfl, hb⟩; have HB1 := Lib.hid (hB0.out.trans (hb.mono hB0.out.size)); have ct1 := Lib.hid (ct0.out.below hb); have k1 := ct1.out.cell; have k10 := k1 0 (.int .u16 y) rfl; have k11 := k1 1 (.int .u8 mo) rfl; have k12 := k1 2 (.int .u8 d) rfl; have k13 := k1 3 (.int .u8 h) rfl; have k14 := k1 4 (.int .u8 mi) rfl; have k15 := k1 5 (.int .u8 s) rfl; clear hb ct0 k1)
      | (go_at_call 24; refine (HX.out _).mono ?_; rintro e w2 ⟨g, cap, rfl, hg1, hcp, hcm, ho, hb⟩; have HB2 := Lib.hid (HB1.out.trans (hb.mono HB1.out.size)); have ct2 := Lib.hid (ct1.out.below hb); have HO2 := Lib.hid ho; clear hb ct1 k10 k11 k12 k13 k14 k15 ho)
      | (go_at_call 27; refine (HG.out _ _ HO2.out.byt).mono ?_; rintro e w3 ⟨rfl, hb⟩; have HB3 := Lib.hid (HB2.out.trans (hb.mono HB2.out.size)); have ct3 := Lib.hid ((ct2.out.below hb).alloc (.cells #[.int .u16 y, .int .u8 mo, .int .u8 d, .int .u8 h, .int .u8 mi, .int .u8 s] 25)); have cu3 := Lib.hid (RowAt.new w3 #[.int .u16 y, .int .u8 mo, .int .u8 d, .int .u8 h, .int .u8 mi, .int .u8 s] 25 w3.heap.size rfl); have HO3 := Lib.hid ((HO2.out.below hb).alloc (.cells #[.int .u16 y, .int .u8 mo, .int .u8 d, .int .u8 h, .int .u8 mi, .int .u8 s] 25)); have HBa := Lib.hid (HB3.out.alloc HB3.out.size (.cells #[.int .u16 y, .int .u8 mo, .int .u8 d, .int .u8 h, .int .u8 mi, .int .u8 s] 25)); clear hb ct2)
      | (go_at_call 25; refine (HU.out _ _ (byt_from HO3.out.byt (k := 2) (by rw [HXL.out]; decide))).mono ?_; rintro e w4 ⟨rfl, hb⟩; have HB4 := Lib.hid (HBa.out.trans (hb.mono HBa.out.size)); have ct4 := Lib.hid (ct3.out.below hb); have cu4 := Lib.hid (cu3.out.below hb); have r1 := ct4.out.cell; have r2 := cu4.out.cell; have a0 := r1 0 (.int .u16 y) rfl; have a1 := r1 1 (.int .u8 mo) rfl; have a2 := r1 2 (.int .u8 d) rfl; have a3 := r1 3 (.int .u8 h) rfl; have a4 := r1 4 (.int .u8 mi) rfl; have a5 := r1 5 (.int .u8 s) rfl; have b0 := r2 0 (.int .u16 y) rfl; have b1 := r2 1 (.int .u8 mo) rfl; have b2 := r2 2 (.int .u8 d) rfl; have b3 := r2 3 (.int .u8 h) rfl; have b4 := r2 4 (.int .u8 mi) rfl; have b5 := r2 5 (.int .u8 s) rfl; have z4 := ct4.out.lt; have z5 := cu4.out.lt; clear hb ct3 cu3 r1 r2))
    clear a0 a1 a2 a3 a4 a5 b0 b1 b2 b3 b4 b5
    have hm : (sy.tmod 100 == y.tmod 100) = true := by
      rw [Int.tmod_eq_emod_of_nonneg hsy.1, Int.tmod_eq_emod_of_nonneg hyb.1, hmod.out]
      exact beq_self_eq_true _
    refine' wp_region_grows (by kernel_rfl) (fun w' => w'.cell? ⟨w.heap.size, 0, none⟩ = some (.int .u16 y) ∧ w'.cell? ⟨w.heap.size, 1, none⟩ = some (.int .u8 mo) ∧ w'.cell? ⟨w.heap.size, 2, none⟩ = some (.int .u8 d) ∧ w'.cell? ⟨w.heap.size, 3, none⟩ = some (.int .u8 h) ∧ w'.cell? ⟨w.heap.size, 4, none⟩ = some (.int .u8 mi) ∧ w'.cell? ⟨w.heap.size, 5, none⟩ = some (.int .u8 s) ∧ w'.cell? ⟨w4.heap.size, 0, none⟩ = some (.int .u16 sy) ∧ w'.cell? ⟨w4.heap.size, 1, none⟩ = some (.int .u8 mo) ∧ w'.cell? ⟨w4.heap.size, 2, none⟩ = some (.int .u8 d) ∧ w'.cell? ⟨w4.heap.size, 3, none⟩ = some (.int .u8 h) ∧ w'.cell? ⟨w4.heap.size, 4, none⟩ = some (.int .u8 mi) ∧ w'.cell? ⟨w4.heap.size, 5, none⟩ = some (.int .u8 s) ∧ Hid (Below w.heap.size w w')) [isV _, isV _, isV _, isV _, isV _, isV _, isV _, isV _, isV _, isV _, isV _, isV _, isV _, isV _, isV _, isV _, isV _, isV _, isV _, isV _, isV _, isV _, isV _, isV _, isV _] 69 [[], [], [(0, some 45), (1, some 46)], [], [(3, some 48)], [(4, some 49)], [(5, some 50)], [(6, some 51)], [(7, some 52), (6, some 51)], [(8, some 53), (6, some 51)], [(6, some 51), (9, some 54)], [(2, some 47), (10, some 55)], [(11, some 56)], [(12, some 57)], [(13, some 58), (12, some 57)], [(14, some 59), (12, some 57)], [(12, some 57)], [(16, some 61), (12, some 57)], [(17, some 62), (12, some 57)], [(15, some 60), (18, some 63), (12, some 57)], [(12, some 57), (19, some 64)], [(20, some 65)], [(21, some 66)], [(21, some 66), (22, some 67)], [(23, some 68)]] [(0, some 45), (1, some 46), (2, some 47), (3, some 48), (4, some 49), (5, some 50), (6, some 51), (7, some 52), (8, some 53), (9, some 54), (10, some 55), (11, some 56), (12, some 57), (13, some 58), (14, some 59), (15, some 60), (16, some 61), (17, some 62), (18, some 63), (19, some 64), (20, some 65), (21, some 66), (22, some 67), (23, some 68), (24, some 2)] rfl (by kernel_rfl) ⟨fun _ _ _ _ h => h, fun _ _ _ _ h => h, fun _ _ _ _ h => h, fun _ _ _ _ h => h, fun _ _ _ _ h => h, fun _ _ _ _ h => h, fun _ _ _ _ h => h, fun _ _ _ _ h => h, fun _ _ _ _ h => h, fun _ _ _ _ h => h, fun _ _ _ _ h => h, fun _ _ _ _ h => h, fun _ _ _ _ h => h, fun _ _ _ _ h => h, fun _ _ _ _ h => h, fun _ _ _ _ h => h, fun _ _ _ _ h => h, fun _ _ _ _ h => h, fun _ _ _ _ h => h, fun _ _ _ _ h => h, fun _ _ _ _ h => h, fun _ _ _ _ h => h, fun _ _ _ _ h => h, fun _ _ _ _ h => h, fun _ _ _ _ h => h, trivial⟩ (fun _ a a' _ e h => by cases a; cases a'; cases e; exact h) ?hS ?hsteps ?hend
    case hS =>
      intro w' hg
      have r6 := Lib.hid ((RowAt.new w4 #[.int .u16 sy, .int .u8 mo, .int .u8 d, .int .u8 h, .int .u8 mi, .int .u8 s] 25 w4.heap.size rfl).drew)
      have r1 := (ct4.out.alloc (.cells #[.int .u16 sy, .int .u8 mo, .int .u8 d, .int .u8 h, .int .u8 mi, .int .u8 s] 25)).drew
      refine ⟨Grows.cell hg (r1.cell 0 _ rfl), Grows.cell hg (r1.cell 1 _ rfl), Grows.cell hg (r1.cell 2 _ rfl), Grows.cell hg (r1.cell 3 _ rfl), Grows.cell hg (r1.cell 4 _ rfl), Grows.cell hg (r1.cell 5 _ rfl), Grows.cell hg (r6.out.cell 0 _ rfl), Grows.cell hg (r6.out.cell 1 _ rfl), Grows.cell hg (r6.out.cell 2 _ rfl), Grows.cell hg (r6.out.cell 3 _ rfl), Grows.cell hg (r6.out.cell 4 _ rfl), Grows.cell hg (r6.out.cell 5 _ rfl), Lib.hid ((HB4.out.alloc HB4.out.size _).drew.trans (hg.mono (by have := HB4.out.size; simp; omega)))⟩
    case hsteps =>
      refine ⟨?_, ?_, ?_, ?_, ?_, ?_, ?_, ?_, ?_, ?_, ?_, ?_, ?_, ?_, ?_, ?_, ?_, ?_, ?_, ?_, ?_, ?_, ?_, ?_, ?_, trivial⟩
      · intro w' hs
        simp only [AllV, rgPut]
        obtain ⟨c0, c1, c2, c3, c4, c5, c6, c7, c8, c9, c10, c11, hbb⟩ := hs
        first
          | (refine OpOk.off ?_ ?_ <;> rfl)
          | (refine OpOk.run ?_ (fun K hK => ?_)
             · rfl
             go_simp
             refine hK.out _ _ (Grows.refl _) ?_
             exact rfl)
      · intro w' hs
        simp only [AllV, rgPut]
        obtain ⟨c0, c1, c2, c3, c4, c5, c6, c7, c8, c9, c10, c11, hbb⟩ := hs
        first
          | (refine OpOk.off ?_ ?_ <;> rfl)
          | (refine OpOk.run ?_ (fun K hK => ?_)
             · rfl
             go_simp
             refine hK.out _ _ (Grows.refl _) ?_
             exact rfl)
      · intro w' hs
        simp only [AllV, rdP, isV, forall_eq, rgPut, Act.put, List.setIfInBounds_toArray, List.set_cons_zero, List.set_cons_succ]
        clear hs
        first
          | (refine OpOk.off ?_ ?_ <;> rfl)
          | (refine OpOk.run ?_ (fun K hK => ?_)
             · rfl
             go_simp
             refine hK.out _ _ (Grows.refl _) ?_
             exact rfl)
      · intro w' hs
        simp only [AllV, rgPut]
        clear hs
        first
          | (refine OpOk.off ?_ ?_ <;> rfl)
          | (refine OpOk.run ?_ (fun K hK => ?_)
             · rfl
             go_simp
             refine hK.out _ _ (Grows.refl _) ?_
             exact rfl)
      · intro w' hs
        simp only [AllV, rdP, isV, forall_eq, rgPut, Act.put, List.setIfInBounds_toArray, List.set_cons_zero, List.set_cons_succ]
        obtain ⟨c0, c1, c2, c3, c4, c5, c6, c7, c8, c9, c10, c11, hbb⟩ := hs
        first
          | (refine OpOk.off ?_ ?_ <;> rfl)
          | (refine OpOk.run ?_ (fun K hK => ?_)
             · rfl
             go_simp
             refine hK.out _ _ (Grows.refl _) ?_
             exact rfl)
      · intro w' hs
        simp only [AllV, rdP, isV, forall_eq, rgPut, Act.put, List.setIfInBounds_toArray, List.set_cons_zero, List.set_cons_succ]
        clear hs
        first
          | (refine OpOk.off ?_ ?_ <;> rfl)
          | (refine OpOk.run ?_ (fun K hK => ?_)
             · rfl
             go_simp
             refine hK.out _ _ (Grows.refl _) ?_
             exact rfl)
      · intro w' hs
        simp only [AllV, rdP, isV, forall_eq, rgPut, Act.put, List.setIfInBounds_toArray, List.set_cons_zero, List.set_cons_succ]
        clear hs
        first
          | (refine OpOk.off ?_ ?_ <;> rfl)
          | (refine OpOk.run ?_ (fun K hK => ?_)
             · rfl
             go_simp
             refine hK.out _ _ (Grows.refl _) ?_
             exact rfl)
      · intro w' hs
        simp only [AllV, rdP, isV, forall_eq, rgPut, Act.put, List.setIfInBounds_toArray, List.set_cons_zero, List.set_cons_succ]
        clear hs
        first
          | (refine OpOk.off ?_ ?_ <;> rfl)
          | (refine OpOk.run ?_ (fun K hK => ?_)
             · rfl
             go_simp
             refine hK.out _ _ (Grows.refl _) ?_
             exact rfl)
      · intro w' hs
        simp only [AllV, rdP, isV, forall_eq, rgPut, Act.put, List.setIfInBounds_toArray, List.set_cons_zero, List.set_cons_succ]
        obtain ⟨c0, c1, c2, c3, c4, c5, c6, c7, c8, c9, c10, c11, hbb⟩ := hs
        first
          | (refine OpOk.off ?_ ?_ <;> rfl)
          | (refine OpOk.run ?_ (fun K hK => ?_)
             · rfl
             go_simp
             refine hK.out _ _ (Grows.refl _) ?_
             exact rfl)
      · intro w' hs
        simp only [AllV, rdP, isV, forall_eq, rgPut, Act.put, List.setIfInBounds_toArray, List.set_cons_zero, List.set_cons_succ]
        clear hs
        first
          | (refine OpOk.off ?_ ?_ <;> rfl)
          | (refine OpOk.run ?_ (fun K hK => ?_)
             · rfl
             go_simp
             refine hK.out _ _ (Grows.refl _) ?_
             exact rfl)
      · intro w' hs
        simp only [AllV, rdP, isV, forall_eq, rgPut, Act.put, List.setIfInBounds_toArray, List.set_cons_zero, List.set_cons_succ]
        clear hs
        first
          | (refine OpOk.off ?_ ?_ <;> rfl)
          | (refine OpOk.run ?_ (fun K hK => ?_)
             · rfl
             go_simp
             refine hK.out _ _ (Grows.refl _) ?_
             exact rfl)
      · intro w' hs
        simp only [AllV, rdP, isV, forall_eq, rgPut, Act.put, List.setIfInBounds_toArray, List.set_cons_zero, List.set_cons_succ]
        clear hs
        first
          | (refine OpOk.off ?_ ?_ <;> rfl)
          | (refine OpOk.run ?_ (fun K hK => ?_)
             · rfl
             go_simp
             refine hK.out _ _ (Grows.refl _) ?_
             exact rfl)
      · intro w' hs
        simp only [AllV, rdP, isV, forall_eq, rgPut, Act.put, List.setIfInBounds_toArray, List.set_cons_zero, List.set_cons_succ]
        clear hs
        first
          | (refine OpOk.off ?_ ?_ <;> rfl)
          | (refine OpOk.run ?_ (fun K hK => ?_)
             · rfl
             go_simp
             refine hK.out _ _ (Grows.refl _) ?_
             exact rfl)
      · intro w' hs
        simp only [AllV, rdP, isV, forall_eq, rgPut, Act.put, List.setIfInBounds_toArray, List.set_cons_zero, List.set_cons_succ]
        clear hs
        first
          | (refine OpOk.off ?_ ?_ <;> rfl)
          | (refine OpOk.run ?_ (fun K hK => ?_)
             · rfl
             go_simp
             refine hK.out _ _ (Grows.refl _) ?_
             exact rfl)
      · intro w' hs
        simp only [AllV, rdP, isV, forall_eq, rgPut, Act.put, List.setIfInBounds_toArray, List.set_cons_zero, List.set_cons_succ]
        obtain ⟨c0, c1, c2, c3, c4, c5, c6, c7, c8, c9, c10, c11, hbb⟩ := hs
        first
          | (refine OpOk.off ?_ ?_ <;> rfl)
          | (refine OpOk.run ?_ (fun K hK => ?_)
             · rfl
             go_simp
             refine hK.out _ _ (Grows.refl _) ?_
             exact rfl)
      · intro w' hs
        simp only [AllV, rdP, isV, forall_eq, rgPut, Act.put, List.setIfInBounds_toArray, List.set_cons_zero, List.set_cons_succ]
        clear hs
        first
          | (refine OpOk.off ?_ ?_ <;> rfl)
          | (refine OpOk.run ?_ (fun K hK => ?_)
             · rfl
             go_simp
             refine hK.out _ _ (Grows.refl _) ?_
             exact rfl)
      · intro w' hs
        simp only [AllV, rdP, isV, forall_eq, rgPut, Act.put, List.setIfInBounds_toArray, List.set_cons_zero, List.set_cons_succ]
        clear hs
        first
          | (refine OpOk.off ?_ ?_ <;> rfl)
          | (refine OpOk.run ?_ (fun K hK => ?_)
             · rfl
             go_simp
             refine hK.out _ _ (Grows.refl _) ?_
             exact rfl)
      · intro w' hs
        simp only [AllV, rdP, isV, forall_eq, rgPut, Act.put, List.setIfInBounds_toArray, List.set_cons_zero, List.set_cons_succ]
        obtain ⟨c0, c1, c2, c3, c4, c5, c6, c7, c8, c9, c10, c11, hbb⟩ := hs
        first
          | (refine OpOk.off ?_ ?_ <;> rfl)
          | (refine OpOk.run ?_ (fun K hK => ?_)
             · rfl
             go_simp
             refine hK.out _ _ (Grows.refl _) ?_
             exact rfl)
      · intro w' hs
        simp only [AllV, rdP, isV, forall_eq, rgPut, Act.put, List.setIfInBounds_toArray, List.set_cons_zero, List.set_cons_succ]
        clear hs
        first
          | (refine OpOk.off ?_ ?_ <;> rfl)
          | (refine OpOk.run ?_ (fun K hK => ?_)
             · rfl
             go_simp
             refine hK.out _ _ (Grows.refl _) ?_
             exact rfl)
      · intro w' hs
        simp only [AllV, rdP, isV, forall_eq, rgPut, Act.put, List.setIfInBounds_toArray, List.set_cons_zero, List.set_cons_succ]
        clear hs
        first
          | (refine OpOk.off ?_ ?_ <;> rfl)
          | (refine OpOk.run ?_ (fun K hK => ?_)
             · rfl
             go_simp
             refine hK.out _ _ (Grows.refl _) ?_
             exact rfl)
      · intro w' hs
        simp only [AllV, rdP, isV, forall_eq, rgPut, Act.put, List.setIfInBounds_toArray, List.set_cons_zero, List.set_cons_succ]
        clear hs
        first
          | (refine OpOk.off ?_ ?_ <;> rfl)
          | (refine OpOk.run ?_ (fun K hK => ?_)
             · rfl
             go_simp
             refine hK.out _ _ (Grows.refl _) ?_
             exact rfl)
      · intro w' hs
        simp only [AllV, rdP, isV, forall_eq, rgPut, Act.put, List.setIfInBounds_toArray, List.set_cons_zero, List.set_cons_succ]
        clear hs
        first
          | (refine OpOk.off ?_ ?_ <;> rfl)
          | (refine OpOk.run ?_ (fun K hK => ?_)
             · rfl
             go_simp
             refine hK.out _ _ (Grows.refl _) ?_
             exact rfl)
      · intro w' hs
        simp only [AllV, rdP, isV, forall_eq, rgPut, Act.put, List.setIfInBounds_toArray, List.set_cons_zero, List.set_cons_succ]
        obtain ⟨c0, c1, c2, c3, c4, c5, c6, c7, c8, c9, c10, c11, hbb⟩ := hs
        first
          | (refine OpOk.off ?_ ?_ <;> rfl)
          | (refine OpOk.run ?_ (fun K hK => ?_)
             · rfl
             go_simp
             go_at_call 13
             refine (works_calls _).mono ?_
             rintro e w1 ⟨rfl, hb⟩
             refine hK.out _ _ hb ?_
             exact rfl
            )
      · intro w' hs
        simp only [AllV, rdP, isV, forall_eq, rgPut, Act.put, List.setIfInBounds_toArray, List.set_cons_zero, List.set_cons_succ]
        clear hs
        first
          | (refine OpOk.off ?_ ?_ <;> rfl)
          | (refine OpOk.run ?_ (fun K hK => ?_)
             · rfl
             go_simp
             refine hK.out _ _ (Grows.refl _) ?_
             exact rfl)
      · intro w' hs
        simp only [AllV, rdP, isV, forall_eq, rgPut, Act.put, List.setIfInBounds_toArray, List.set_cons_zero, List.set_cons_succ]
        clear hs
        first
          | (refine OpOk.off ?_ ?_ <;> rfl)
          | (refine OpOk.run ?_ (fun K hK => ?_)
             · rfl
             go_simp
             refine hK.out _ _ (Grows.refl _) ?_
             exact rfl)
    case hend =>
      intro w' hs
      simp only [AllV, rdP, isV, forall_eq, rgPut, Act.put, List.setIfInBounds_toArray, List.set_cons_zero, List.set_cons_succ]
      go_wp2
      go_ret
      exact ⟨rfl, hs.2.2.2.2.2.2.2.2.2.2.2.2.out⟩

theorem stampTexts_walk (t : Tm) (w : World) (ht : t.Fit) :
    Calls Try.prog 11 #[tmV t] w fun e w' => e = .returned (.bool true) ∧ Below w.heap.size w w' := by
  cases hr : rightB t with
  | false => exact stampTexts_none t w ht hr
  | true =>
    cases r2 : rightB (shortT t) with
    | false => exact stampTexts_no t w ht hr r2
    | true => exact stampTexts_yes t w ht hr r2
end Go.Proofs.Ytjjggnipicpjkaa
