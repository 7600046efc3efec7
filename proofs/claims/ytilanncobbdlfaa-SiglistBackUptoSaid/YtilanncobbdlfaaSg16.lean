/-
  The contract of the document's Has.
-/
import Derived.Test.YtilanncobbdlfaaSg15
namespace Go.Proofs.Ytilanncobbdlfaa
open Go Go.RowKit
set_option linter.unusedVariables false

set_option maxRecDepth 100000 in
set_option maxHeartbeats 4000000 in
theorem refHas3_calls (v : Value) (xs : List LiV)  (q : Value) (data : List UInt8) (w : World) (hv : Lis w v xs) (hq : Byt w q data) (hn : xs.length ≤ 1000000000) (hi : ∀ x ∈ xs, x.i.length ≤ 1000000000) :
    Calls Try.prog 23 #[v, .int .u8 3, q] w fun e w' => e = .returned (.bool (hasB (xs.map LiV.li) 3 data)) ∧ w = w' := by
  have HV := Lib.hid hv
  have HI := Lib.hid hi
  have c2 := run_tostring (P := Try.prog) hq 22 9 5 Try.underlying22 Try.underlying5 Try.underlying9
  obtain ⟨S2, hS2⟩ : ∃ S, Hid (S = sOf data) := ⟨_, Lib.hid rfl⟩
  rw [← hS2.out] at c2
  obtain ⟨a, cap, rfl, h1, h2⟩ := hv.open
  obtain ⟨aq, cq, rfl, hq1, hq2, _⟩ := hq.open
  clear hv hi hq
  obtain ⟨nq, hnq⟩ : ∃ n, Hid (n = data.length) := ⟨_, Lib.hid rfl⟩
  rw [← hnq.out] at hq1 c2 ⊢
  obtain ⟨N, hN⟩ : ∃ n, Hid (n = xs.length) := ⟨_, Lib.hid rfl⟩
  rw [← hN.out] at HV h1 hn ⊢
  go_enter Try.func23, Try.ntmps23
  go_wp2
  go_loopw [7] (fun j_ wr => ∃ j : Nat, j ≤ N ∧ j_ = .int .i64 j ∧ Hid (∀ r x, r < j → xs[r]? = some x → (decide (x.k = 3) && hasI 3 data x.li.i) = false) ∧ w = wr) (fun j_ _ => N - (intOf j_).toNat)
  case atStart => exact ⟨0, Nat.zero_le _, rfl, Lib.hid (fun r x hr => absurd hr (Nat.not_lt_zero _)), rfl⟩
  case round =>
    obtain ⟨j, hj, rfl, hgood, hww⟩ := hrel
    subst hww
    by_cases hlt : j < N
    · obtain ⟨b, off, x, ia, n, ic, hx, ha, hrow, hxv, hm, hmc, hc, hits⟩ := HV.out.item j (by rw [← hN.out]; exact hlt)
      subst ha
      have hdl : decide ((j : Int) < (N : Int)) = true := by simp; omega
      have HX := Lib.hid hx
      have HNX : Hid ((decide (x.k = 3) && hasI 3 data x.li.i) = false → ∀ r y, r < j + 1 → xs[r]? = some y → (decide (y.k = 3) && hasI 3 data y.li.i) = false) := Lib.hid (fun h r y hr hy => by
        by_cases e : r = j
        · subst e
          rw [HX.out] at hy
          cases hy
          exact h
        · exact hgood.out r y (by omega) hy)
      have HC2 : Hid (w.cell? ⟨b, off + j * 2 + 1, none⟩ = some (.slice ia n ic)) := Lib.hid (hrow 1 _ rfl)
      have HITS := Lib.hid hits
      have HNI := Lib.hid hm
      have hnb : n ≤ 1000000000 := by rw [hm]; exact HI.out x (List.mem_of_getElem? hx)
      have HC0 : Hid (w.cell? ⟨b, off + j * 2, none⟩ = some (.int .u8 x.k)) := Lib.hid (hrow 0 _ rfl)
      have q1 := HC2.out
      clear hrow hx hxv hm hits
      by_cases hkk : x.k = 3
      · have HKK := Lib.hid hkk
        have HC1 : Hid (w.cell? ⟨b, off + j * 2, none⟩ = some (.int .u8 3)) := Lib.hid (by rw [← HKK.out]; exact HC0.out)
        clear hkk
        go_wp2
        clear q1
        go_loopw [8] (fun i_ wr => ∃ i : Nat, i ≤ n ∧ i_ = .int .i64 i ∧ Hid (∀ r y, r < i → x.i[r]? = some y → (decide (x.k = 3) && decide (cutD 3 y.d = data)) = false) ∧ w = wr) (fun i_ _ => n - (intOf i_).toNat)
        case atStart => exact ⟨0, Nat.zero_le _, rfl, Lib.hid (fun r y hr => absurd hr (Nat.not_lt_zero _)), rfl⟩
        case round =>
          obtain ⟨i, hi, rfl, hgi, hww⟩ := hrel
          subst hww
          have q1 := HC2.out
          by_cases hlt3 : i < n
          · obtain ⟨ib, io, y, s, m, c, hy, hia, hry, hyv, hym, hymc, hyc, hyb, hyl, hyC, hy1⟩ := HITS.out.item i (by rw [← HNI.out]; exact hlt3)
            cases hia
            have hdl3 : decide ((i : Int) < (n : Int)) = true := by simp; omega
            have HYE := Lib.hid hy
            have HYB : Hid (Byt w (.slice s m c) y.d) := Lib.hid (by rw [← hyv]; exact hyb)
            have HYM := Lib.hid hym
            have q3 : w.cell? ⟨ib, io + i * 17 + 16, none⟩ = some (.slice s m c) := by
              have := hry 16 _ (itC_at16 y hyl)
              rw [hyv] at this
              exact this
            have q0 := HC1.out
            clear hry hy hyv hyb hyl hyC hy1 hym
            obtain ⟨D, hD⟩ : ∃ D, Hid (D = cutD 3 y.d) := ⟨_, Lib.hid rfl⟩
            by_cases h32 : m < 32
            · have HDB : Hid (Byt w (.slice s m c) D) := Lib.hid (by
                rw [hD.out]
                unfold cutD
                rw [if_pos rfl, List.take_of_length_le (by rw [← HYM.out]; omega)]
                exact HYB.out)
              have c1 := run_tostring (P := Try.prog) HDB.out 22 9 5 Try.underlying22 Try.underlying5 Try.underlying9
              obtain ⟨S1, hS1⟩ : ∃ S, Hid (S = sOf D) := ⟨_, Lib.hid rfl⟩
              rw [← hS1.out] at c1
              obtain ⟨DB, hDB⟩ : ∃ B, Hid (B = decide (D = data)) := ⟨_, Lib.hid rfl⟩
              have hcmp : (S1.toList == S2.toList) = DB := by rw [hS1.out, hS2.out, hDB.out]; exact sOf_beq D data
              cases DB with
              | true =>
                have HY := Lib.hid (has_yes (k := 3) (data := data) HX.out HKK.out HYE.out (by rw [← hD.out]; exact of_decide_eq_true hDB.out.symm))
                go_wp2
                go_ret
                rw [HY.out]
                exact ⟨rfl, rfl⟩
              | false =>
                go_wp2
                go_roundw
                case rel => exact ⟨i + 1, hlt3, by go_num, Lib.hid (fun r z hr hz => by
                    by_cases e : r = i
                    · subst e
                      rw [HYE.out] at hz
                      cases hz
                      rw [← hD.out, ← hDB.out, Bool.and_false]
                    · exact hgi.out r z (by omega) hz), by trivial⟩
                case measure => simp [intOf]; omega
            · obtain ⟨ya, hrun, hyd⟩ := byt_cut HYB.out HYM.out 32 (by omega)
              have hrun' : ∀ W : World, (Instr.sliceAt 22 (.slice s m c) none (some (.int .i64 32)) none).run Try.prog W = .ok (.slice ya 32 c) W := hrun
              clear hrun
              have HDB : Hid (Byt w (.slice ya 32 c) D) := Lib.hid (by
                rw [hD.out]
                unfold cutD
                rw [if_pos rfl]
                exact hyd)
              clear hyd
              have c1 := run_tostring (P := Try.prog) HDB.out 22 9 5 Try.underlying22 Try.underlying5 Try.underlying9
              obtain ⟨S1, hS1⟩ : ∃ S, Hid (S = sOf D) := ⟨_, Lib.hid rfl⟩
              rw [← hS1.out] at c1
              obtain ⟨DB, hDB⟩ : ∃ B, Hid (B = decide (D = data)) := ⟨_, Lib.hid rfl⟩
              have hcmp : (S1.toList == S2.toList) = DB := by rw [hS1.out, hS2.out, hDB.out]; exact sOf_beq D data
              cases DB with
              | true =>
                have HY := Lib.hid (has_yes (k := 3) (data := data) HX.out HKK.out HYE.out (by rw [← hD.out]; exact of_decide_eq_true hDB.out.symm))
                go_wp2
                go_ret
                rw [HY.out]
                exact ⟨rfl, rfl⟩
              | false =>
                go_wp2
                go_roundw
                case rel => exact ⟨i + 1, hlt3, by go_num, Lib.hid (fun r z hr hz => by
                    by_cases e : r = i
                    · subst e
                      rw [HYE.out] at hz
                      cases hz
                      rw [← hD.out, ← hDB.out, Bool.and_false]
                    · exact hgi.out r z (by omega) hz), by trivial⟩
                case measure => simp [intOf]; omega
          · obtain rfl : i = n := by omega
            have hdl3 : decide ((i : Int) < (i : Int)) = false := by simp
            have HE : Hid ((decide (x.k = 3) && hasI 3 data x.li.i) = false) := Lib.hid (by
              cases e : decide (x.k = 3) with
              | false => rfl
              | true =>
                rw [Bool.true_and]
                refine hasI_no (k := 3) (data := data) (x := x) (fun r y hr hy => ?_)
                have := hgi.out r y (by rw [HNI.out]; exact hr) hy
                rw [e, Bool.true_and] at this
                exact this)
            go_wp2
            go_roundw
            case rel => exact ⟨j + 1, hlt, by go_num, Lib.hid (HNX.out HE.out), by trivial⟩
            case measure => simp [intOf]; omega
      · obtain ⟨k, hk⟩ : ∃ k, Hid (k = x.k) := ⟨_, Lib.hid rfl⟩
        have HC1 : Hid (w.cell? ⟨b, off + j * 2, none⟩ = some (.int .u8 k)) := Lib.hid (by rw [hk.out]; exact HC0.out)
        have HKN : Hid (decide (x.k = 3) = false) := Lib.hid (decide_eq_false hkk)
        rw [← hk.out] at hkk
        go_wp2
        clear q1
        go_loopw [8] (fun i_ wr => ∃ i : Nat, i ≤ n ∧ i_ = .int .i64 i ∧ Hid (∀ r y, r < i → x.i[r]? = some y → (decide (x.k = 3) && decide (cutD 3 y.d = data)) = false) ∧ w = wr) (fun i_ _ => n - (intOf i_).toNat)
        case atStart => exact ⟨0, Nat.zero_le _, rfl, Lib.hid (fun r y hr => absurd hr (Nat.not_lt_zero _)), rfl⟩
        case round =>
          obtain ⟨i, hi, rfl, hgi, hww⟩ := hrel
          subst hww
          have q1 := HC2.out
          by_cases hlt3 : i < n
          · obtain ⟨ib, io, y, s, m, c, hy, hia, hry, hyv, hym, hymc, hyc, hyb, hyl, hyC, hy1⟩ := HITS.out.item i (by rw [← HNI.out]; exact hlt3)
            cases hia
            have hdl3 : decide ((i : Int) < (n : Int)) = true := by simp; omega
            have HYE := Lib.hid hy
            have HYB : Hid (Byt w (.slice s m c) y.d) := Lib.hid (by rw [← hyv]; exact hyb)
            have HYM := Lib.hid hym
            have q3 : w.cell? ⟨ib, io + i * 17 + 16, none⟩ = some (.slice s m c) := by
              have := hry 16 _ (itC_at16 y hyl)
              rw [hyv] at this
              exact this
            have q0 := HC1.out
            clear hry hy hyv hyb hyl hyC hy1 hym
            obtain ⟨D, hD⟩ : ∃ D, Hid (D = cutD 3 y.d) := ⟨_, Lib.hid rfl⟩
            by_cases h32 : m < 32
            · have HDB : Hid (Byt w (.slice s m c) D) := Lib.hid (by
                rw [hD.out]
                unfold cutD
                rw [if_pos rfl, List.take_of_length_le (by rw [← HYM.out]; omega)]
                exact HYB.out)
              go_wp2
              go_roundw
              case rel => exact ⟨i + 1, hlt3, by go_num, Lib.hid (fun r z hr hz => by
                  by_cases e : r = i
                  · subst e
                    rw [HYE.out] at hz
                    cases hz
                    rw [HKN.out, Bool.false_and]
                  · exact hgi.out r z (by omega) hz), by trivial⟩
              case measure => simp [intOf]; omega
            · obtain ⟨ya, hrun, hyd⟩ := byt_cut HYB.out HYM.out 32 (by omega)
              have hrun' : ∀ W : World, (Instr.sliceAt 22 (.slice s m c) none (some (.int .i64 32)) none).run Try.prog W = .ok (.slice ya 32 c) W := hrun
              clear hrun
              have HDB : Hid (Byt w (.slice ya 32 c) D) := Lib.hid (by
                rw [hD.out]
                unfold cutD
                rw [if_pos rfl]
                exact hyd)
              clear hyd
              go_wp2
              go_roundw
              case rel => exact ⟨i + 1, hlt3, by go_num, Lib.hid (fun r z hr hz => by
                  by_cases e : r = i
                  · subst e
                    rw [HYE.out] at hz
                    cases hz
                    rw [HKN.out, Bool.false_and]
                  · exact hgi.out r z (by omega) hz), by trivial⟩
              case measure => simp [intOf]; omega
          · obtain rfl : i = n := by omega
            have hdl3 : decide ((i : Int) < (i : Int)) = false := by simp
            have HE : Hid ((decide (x.k = 3) && hasI 3 data x.li.i) = false) := Lib.hid (by
              cases e : decide (x.k = 3) with
              | false => rfl
              | true =>
                rw [Bool.true_and]
                refine hasI_no (k := 3) (data := data) (x := x) (fun r y hr hy => ?_)
                have := hgi.out r y (by rw [HNI.out]; exact hr) hy
                rw [e, Bool.true_and] at this
                exact this)
            go_wp2
            go_roundw
            case rel => exact ⟨j + 1, hlt, by go_num, Lib.hid (HNX.out HE.out), by trivial⟩
            case measure => simp [intOf]; omega
    · obtain rfl : j = N := by omega
      have hdl : decide ((j : Int) < (j : Int)) = false := by simp
      have HE := Lib.hid (has_no (k := 3) (data := data) (xs := xs) (fun r x hr hx => hgood.out r x (by rw [hN.out]; exact hr) hx))
      go_wp2
      go_ret
      rw [HE.out]
      exact ⟨rfl, rfl⟩

set_option maxRecDepth 100000 in
set_option maxHeartbeats 4000000 in
theorem refHasN_calls (v : Value) (xs : List LiV) (K : Int) (h3 : ¬ K = 3) (q : Value) (data : List UInt8) (w : World) (hv : Lis w v xs) (hq : Byt w q data) (hn : xs.length ≤ 1000000000) (hi : ∀ x ∈ xs, x.i.length ≤ 1000000000) :
    Calls Try.prog 23 #[v, .int .u8 K, q] w fun e w' => e = .returned (.bool (hasB (xs.map LiV.li) K data)) ∧ w = w' := by
  have HV := Lib.hid hv
  have HI := Lib.hid hi
  have c2 := run_tostring (P := Try.prog) hq 22 9 5 Try.underlying22 Try.underlying5 Try.underlying9
  obtain ⟨S2, hS2⟩ : ∃ S, Hid (S = sOf data) := ⟨_, Lib.hid rfl⟩
  rw [← hS2.out] at c2
  obtain ⟨a, cap, rfl, h1, h2⟩ := hv.open
  obtain ⟨aq, cq, rfl, hq1, hq2, _⟩ := hq.open
  clear hv hi hq
  obtain ⟨nq, hnq⟩ : ∃ n, Hid (n = data.length) := ⟨_, Lib.hid rfl⟩
  rw [← hnq.out] at hq1 c2 ⊢
  obtain ⟨N, hN⟩ : ∃ n, Hid (n = xs.length) := ⟨_, Lib.hid rfl⟩
  rw [← hN.out] at HV h1 hn ⊢
  go_enter Try.func23, Try.ntmps23
  go_wp2
  go_loopw [7] (fun j_ wr => ∃ j : Nat, j ≤ N ∧ j_ = .int .i64 j ∧ Hid (∀ r x, r < j → xs[r]? = some x → (decide (x.k = K) && hasI K data x.li.i) = false) ∧ w = wr) (fun j_ _ => N - (intOf j_).toNat)
  case atStart => exact ⟨0, Nat.zero_le _, rfl, Lib.hid (fun r x hr => absurd hr (Nat.not_lt_zero _)), rfl⟩
  case round =>
    obtain ⟨j, hj, rfl, hgood, hww⟩ := hrel
    subst hww
    by_cases hlt : j < N
    · obtain ⟨b, off, x, ia, n, ic, hx, ha, hrow, hxv, hm, hmc, hc, hits⟩ := HV.out.item j (by rw [← hN.out]; exact hlt)
      subst ha
      have hdl : decide ((j : Int) < (N : Int)) = true := by simp; omega
      have HX := Lib.hid hx
      have HNX : Hid ((decide (x.k = K) && hasI K data x.li.i) = false → ∀ r y, r < j + 1 → xs[r]? = some y → (decide (y.k = K) && hasI K data y.li.i) = false) := Lib.hid (fun h r y hr hy => by
        by_cases e : r = j
        · subst e
          rw [HX.out] at hy
          cases hy
          exact h
        · exact hgood.out r y (by omega) hy)
      have HC2 : Hid (w.cell? ⟨b, off + j * 2 + 1, none⟩ = some (.slice ia n ic)) := Lib.hid (hrow 1 _ rfl)
      have HITS := Lib.hid hits
      have HNI := Lib.hid hm
      have hnb : n ≤ 1000000000 := by rw [hm]; exact HI.out x (List.mem_of_getElem? hx)
      have HC0 : Hid (w.cell? ⟨b, off + j * 2, none⟩ = some (.int .u8 x.k)) := Lib.hid (hrow 0 _ rfl)
      have q1 := HC2.out
      clear hrow hx hxv hm hits
      by_cases hkk : x.k = K
      · have HKK := Lib.hid hkk
        have HC1 : Hid (w.cell? ⟨b, off + j * 2, none⟩ = some (.int .u8 K)) := Lib.hid (by rw [← HKK.out]; exact HC0.out)
        clear hkk
        go_wp2
        clear q1
        go_loopw [8] (fun i_ wr => ∃ i : Nat, i ≤ n ∧ i_ = .int .i64 i ∧ Hid (∀ r y, r < i → x.i[r]? = some y → (decide (x.k = K) && decide (cutD K y.d = data)) = false) ∧ w = wr) (fun i_ _ => n - (intOf i_).toNat)
        case atStart => exact ⟨0, Nat.zero_le _, rfl, Lib.hid (fun r y hr => absurd hr (Nat.not_lt_zero _)), rfl⟩
        case round =>
          obtain ⟨i, hi, rfl, hgi, hww⟩ := hrel
          subst hww
          have q1 := HC2.out
          by_cases hlt3 : i < n
          · obtain ⟨ib, io, y, s, m, c, hy, hia, hry, hyv, hym, hymc, hyc, hyb, hyl, hyC, hy1⟩ := HITS.out.item i (by rw [← HNI.out]; exact hlt3)
            cases hia
            have hdl3 : decide ((i : Int) < (n : Int)) = true := by simp; omega
            have HYE := Lib.hid hy
            have HYB : Hid (Byt w (.slice s m c) y.d) := Lib.hid (by rw [← hyv]; exact hyb)
            have HYM := Lib.hid hym
            have q3 : w.cell? ⟨ib, io + i * 17 + 16, none⟩ = some (.slice s m c) := by
              have := hry 16 _ (itC_at16 y hyl)
              rw [hyv] at this
              exact this
            have q0 := HC1.out
            clear hry hy hyv hyb hyl hyC hy1 hym
            obtain ⟨D, hD⟩ : ∃ D, Hid (D = cutD K y.d) := ⟨_, Lib.hid rfl⟩
            have HDB : Hid (Byt w (.slice s m c) D) := Lib.hid (by
              rw [hD.out]
              unfold cutD
              rw [if_neg h3]
              exact HYB.out)
            have c1 := run_tostring (P := Try.prog) HDB.out 22 9 5 Try.underlying22 Try.underlying5 Try.underlying9
            obtain ⟨S1, hS1⟩ : ∃ S, Hid (S = sOf D) := ⟨_, Lib.hid rfl⟩
            rw [← hS1.out] at c1
            obtain ⟨DB, hDB⟩ : ∃ B, Hid (B = decide (D = data)) := ⟨_, Lib.hid rfl⟩
            have hcmp : (S1.toList == S2.toList) = DB := by rw [hS1.out, hS2.out, hDB.out]; exact sOf_beq D data
            cases DB with
            | true =>
              have HY := Lib.hid (has_yes (k := K) (data := data) HX.out HKK.out HYE.out (by rw [← hD.out]; exact of_decide_eq_true hDB.out.symm))
              go_wp2
              go_ret
              rw [HY.out]
              exact ⟨rfl, rfl⟩
            | false =>
              go_wp2
              go_roundw
              case rel => exact ⟨i + 1, hlt3, by go_num, Lib.hid (fun r z hr hz => by
                  by_cases e : r = i
                  · subst e
                    rw [HYE.out] at hz
                    cases hz
                    rw [← hD.out, ← hDB.out, Bool.and_false]
                  · exact hgi.out r z (by omega) hz), by trivial⟩
              case measure => simp [intOf]; omega
          · obtain rfl : i = n := by omega
            have hdl3 : decide ((i : Int) < (i : Int)) = false := by simp
            have HE : Hid ((decide (x.k = K) && hasI K data x.li.i) = false) := Lib.hid (by
              cases e : decide (x.k = K) with
              | false => rfl
              | true =>
                rw [Bool.true_and]
                refine hasI_no (k := K) (data := data) (x := x) (fun r y hr hy => ?_)
                have := hgi.out r y (by rw [HNI.out]; exact hr) hy
                rw [e, Bool.true_and] at this
                exact this)
            go_wp2
            go_roundw
            case rel => exact ⟨j + 1, hlt, by go_num, Lib.hid (HNX.out HE.out), by trivial⟩
            case measure => simp [intOf]; omega
      · obtain ⟨k, hk⟩ : ∃ k, Hid (k = x.k) := ⟨_, Lib.hid rfl⟩
        have HC1 : Hid (w.cell? ⟨b, off + j * 2, none⟩ = some (.int .u8 k)) := Lib.hid (by rw [hk.out]; exact HC0.out)
        have HKN : Hid (decide (x.k = K) = false) := Lib.hid (decide_eq_false hkk)
        rw [← hk.out] at hkk
        go_wp2
        clear q1
        go_loopw [8] (fun i_ wr => ∃ i : Nat, i ≤ n ∧ i_ = .int .i64 i ∧ Hid (∀ r y, r < i → x.i[r]? = some y → (decide (x.k = K) && decide (cutD K y.d = data)) = false) ∧ w = wr) (fun i_ _ => n - (intOf i_).toNat)
        case atStart => exact ⟨0, Nat.zero_le _, rfl, Lib.hid (fun r y hr => absurd hr (Nat.not_lt_zero _)), rfl⟩
        case round =>
          obtain ⟨i, hi, rfl, hgi, hww⟩ := hrel
          subst hww
          have q1 := HC2.out
          by_cases hlt3 : i < n
          · obtain ⟨ib, io, y, s, m, c, hy, hia, hry, hyv, hym, hymc, hyc, hyb, hyl, hyC, hy1⟩ := HITS.out.item i (by rw [← HNI.out]; exact hlt3)
            cases hia
            have hdl3 : decide ((i : Int) < (n : Int)) = true := by simp; omega
            have HYE := Lib.hid hy
            have HYB : Hid (Byt w (.slice s m c) y.d) := Lib.hid (by rw [← hyv]; exact hyb)
            have HYM := Lib.hid hym
            have q3 : w.cell? ⟨ib, io + i * 17 + 16, none⟩ = some (.slice s m c) := by
              have := hry 16 _ (itC_at16 y hyl)
              rw [hyv] at this
              exact this
            have q0 := HC1.out
            clear hry hy hyv hyb hyl hyC hy1 hym
            obtain ⟨D, hD⟩ : ∃ D, Hid (D = cutD K y.d) := ⟨_, Lib.hid rfl⟩
            have HDB : Hid (Byt w (.slice s m c) D) := Lib.hid (by
              rw [hD.out]
              unfold cutD
              rw [if_neg h3]
              exact HYB.out)
            go_wp2
            go_roundw
            case rel => exact ⟨i + 1, hlt3, by go_num, Lib.hid (fun r z hr hz => by
                by_cases e : r = i
                · subst e
                  rw [HYE.out] at hz
                  cases hz
                  rw [HKN.out, Bool.false_and]
                · exact hgi.out r z (by omega) hz), by trivial⟩
            case measure => simp [intOf]; omega
          · obtain rfl : i = n := by omega
            have hdl3 : decide ((i : Int) < (i : Int)) = false := by simp
            have HE : Hid ((decide (x.k = K) && hasI K data x.li.i) = false) := Lib.hid (by
              cases e : decide (x.k = K) with
              | false => rfl
              | true =>
                rw [Bool.true_and]
                refine hasI_no (k := K) (data := data) (x := x) (fun r y hr hy => ?_)
                have := hgi.out r y (by rw [HNI.out]; exact hr) hy
                rw [e, Bool.true_and] at this
                exact this)
            go_wp2
            go_roundw
            case rel => exact ⟨j + 1, hlt, by go_num, Lib.hid (HNX.out HE.out), by trivial⟩
            case measure => simp [intOf]; omega
    · obtain rfl : j = N := by omega
      have hdl : decide ((j : Int) < (j : Int)) = false := by simp
      have HE := Lib.hid (has_no (k := K) (data := data) (xs := xs) (fun r x hr hx => hgood.out r x (by rw [hN.out]; exact hr) hx))
      go_wp2
      go_ret
      rw [HE.out]
      exact ⟨rfl, rfl⟩

theorem refHasL_calls (v : Value) (xs : List LiV) (K : Int) (q : Value) (data : List UInt8) (w : World) (hv : Lis w v xs) (hq : Byt w q data) (hn : xs.length ≤ 1000000000) (hi : ∀ x ∈ xs, x.i.length ≤ 1000000000) :
    Calls Try.prog 23 #[v, .int .u8 K, q] w fun e w' => e = .returned (.bool (hasB (xs.map LiV.li) K data)) ∧ w = w' := by
  by_cases h : K = 3
  · subst h; exact refHas3_calls v xs q data w hv hq hn hi
  · exact refHasN_calls v xs K h q data w hv hq hn hi
end Go.Proofs.Ytilanncobbdlfaa
