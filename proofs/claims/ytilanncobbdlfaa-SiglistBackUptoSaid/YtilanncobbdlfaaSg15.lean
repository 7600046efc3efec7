/-
  The contract of siglist's Has.
-/
import Derived.Test.YtilanncobbdlfaaSg14
namespace Go.Proofs.Ytilanncobbdlfaa
open Go Go.RowKit
set_option linter.unusedVariables false

set_option maxRecDepth 100000 in
set_option maxHeartbeats 4000000 in
theorem sgHas3_calls (v : Value) (xs : List LiV)  (q : Value) (data : List UInt8) (w : World) (hv : Lis w v xs) (hq : Byt w q data) (hn : xs.length ≤ 4000000000000000000) (hi : ∀ x ∈ xs, x.i.length ≤ 4000000000000000000) :
    Calls Try.prog 22 #[v, .int .u8 3, q] w fun e w' => e = .returned (.bool (hasB (xs.map LiV.li) 3 data)) ∧ Below w.heap.size w w' := by
  have HV := Lib.hid hv
  have HI := Lib.hid hi
  have HDT := Lib.hid hq
  obtain ⟨a, cap, rfl, h1, h2⟩ := hv.open
  obtain ⟨aq, cq, rfl, hq1, hq2, _⟩ := hq.open
  clear hv hi hq
  obtain ⟨nq, hnq⟩ : ∃ n, Hid (n = data.length) := ⟨_, Lib.hid rfl⟩
  rw [← hnq.out] at HDT hq1 ⊢
  obtain ⟨N, hN⟩ : ∃ n, Hid (n = xs.length) := ⟨_, Lib.hid rfl⟩
  rw [← hN.out] at HV h1 hn ⊢
  go_enter Try.func22, Try.ntmps22
  go_wp2
  go_loopw [14] (fun j_ wr => ∃ j : Nat, j ≤ N ∧ j_ = .int .i64 j ∧ Hid (∀ r x, r < j → xs[r]? = some x → (decide (x.k = 3) && hasI 3 data x.li.i) = false) ∧ Hid (Below w.heap.size w wr)) (fun j_ _ => N - (intOf j_).toNat)
  case atStart => exact ⟨0, Nat.zero_le _, rfl, Lib.hid (fun r x hr => absurd hr (Nat.not_lt_zero _)), Lib.hid (Below.refl _ _)⟩
  case round =>
    obtain ⟨j, hj, rfl, hgood, HB⟩ := hrel
    obtain ⟨wo, hwo⟩ : ∃ wo : World, wo = wr := ⟨_, rfl⟩
    subst hwo
    by_cases hlt : j < N
    · obtain ⟨b, off, x, ia, n, ic, hx, ha, hrow, hxv, hm, hmc, hc, hits⟩ := HV.out.item j (by rw [← hN.out]; exact hlt)
      subst ha
      have hdl : decide ((j : Int) < (N : Int)) = true := by simp; omega
      have HX := Lib.hid hx
      have HNX : Hid ((decide (x.k = 3) && hasI 3 data x.li.i) = false → ∀ r y, r < j + 1 → xs[r]? = some y → (decide (y.k = 3) && hasI 3 data y.li.i) = false) := Lib.hid (fun h r y hr hy => by
        by_cases e : r = j
        · subst e
          rw [HX.out] at hy
          cases hy
          exact h
        · exact hgood.out r y (by omega) hy)
      have HRNG := Lib.hid (range_below hrow HB.out)
      have HITS := Lib.hid hits
      have HNI := Lib.hid hm
      have hnb : n ≤ 4000000000000000000 := by rw [hm]; exact HI.out x (List.mem_of_getElem? hx)
      obtain ⟨k, hk⟩ : ∃ k, Hid (k = x.k) := ⟨_, Lib.hid rfl⟩
      rw [← hk.out] at HRNG
      clear hrow hx hxv hm hits
      obtain ⟨n5, hn5⟩ : ∃ m, Hid (m = wo.heap.size) := ⟨_, Lib.hid rfl⟩
      have HR1 := Lib.hid (RowAt.new wo #[.int .u8 k, .slice ia n ic] 39 n5 hn5.out)
      have HB1 := Lib.hid (HB.out.alloc HB.out.size (.cells #[.int .u8 k, .slice ia n ic] 39))
      have q0 := HR1.out.cell 0 (.int .u8 k) rfl
      have q1 := HR1.out.cell 1 (.slice ia n ic) rfl
      by_cases hkk : k = 3
      · have hke : (k != 3) = false := by simp [hkk]
        have HKK := Lib.hid hkk
        clear hkk
        go_wp2_with (first
          | (refine wpList_load_mid rfl 39 _ rfl b (off + j * 2) rfl [.int .u8 k, .slice ia n ic] _ HRNG.out Try.underlying39 rfl (by kernel_rfl) ?_)
          | (refine wpList_store_list rfl _ _ rfl wo #[.int .u8 0, .slice none 0 0] #[.int .u8 k, .slice ia n ic] rfl rfl (fun u hu => by simp at hu; rcases hu with rfl | rfl <;> rfl) rfl rfl ?_); rw [← hn5.out])
        clear q0 q1
        go_loopw [25] (fun i_ wr => ∃ i : Nat, i ≤ n ∧ i_ = .int .i64 i ∧ Hid (∀ r y, r < i → x.i[r]? = some y → decide (cutD 3 y.d = data) = false) ∧ Hid (Below w.heap.size w wr)) (fun i_ _ => n - (intOf i_).toNat)
        case atStart => exact ⟨0, Nat.zero_le _, rfl, Lib.hid (fun r y hr => absurd hr (Nat.not_lt_zero _)), HB1⟩
        case round =>
          obtain ⟨i, hi, rfl, hgi, HBi⟩ := hrel
          obtain ⟨wi, hwi⟩ : ∃ wi : World, wi = wr := ⟨_, rfl⟩
          subst hwi
          by_cases hlt3 : i < n
          · obtain ⟨ib, io, y, s, m, c, hy, hia, hry, hyv, hym, hymc, hyc, hyb, hyl, hyC, hy1⟩ := HITS.out.item i (by rw [← HNI.out]; exact hlt3)
            cases hia
            have hdl3 : decide ((i : Int) < (n : Int)) = true := by simp; omega
            have HYE := Lib.hid hy
            have HRY := Lib.hid (range_below hry HBi.out)
            have HYB : Hid (Byt w (.slice s m c) y.d) := Lib.hid (by rw [← hyv]; exact hyb)
            have HYL := Lib.hid hyl
            have HYC := Lib.hid hyC
            have HY1 := Lib.hid hy1
            have HYV := Lib.hid hyv
            have HYM := Lib.hid hym
            obtain ⟨X, hX⟩ : ∃ X, Hid (X = itC y) := ⟨_, Lib.hid rfl⟩
            rw [← hX.out] at HRY HYC HY1
            clear hry hy hyv hyb hyl hyC hy1 hym
            obtain ⟨n6, hn6⟩ : ∃ m, Hid (m = wi.heap.size) := ⟨_, Lib.hid rfl⟩
            have HRI := Lib.hid (RowAt.new wi X.toArray 49 n6 hn6.out)
            have HB6 := Lib.hid (HBi.out.alloc HBi.out.size (.cells X.toArray 49))
            have HX16 : Hid (X.toArray[16]? = some (.slice s m c)) := Lib.hid (by rw [hX.out, ← HYV.out]; simpa using itC_at16 y HYL.out)
            have k6 := HRI.out.cell 16 _ HX16.out
            obtain ⟨D, hD⟩ : ∃ D, Hid (D = cutD 3 y.d) := ⟨_, Lib.hid rfl⟩
            by_cases h32 : m < 32
            · have HDB : Hid (Byt w (.slice s m c) D) := Lib.hid (by
                rw [hD.out]
                unfold cutD
                rw [if_pos rfl, List.take_of_length_le (by rw [← HYM.out]; omega)]
                exact HYB.out)
              go_wp2_with (first
                | (refine wpList_load_mid rfl 49 _ rfl ib (io + i * 17) rfl X _ HRY.out Try.underlying49 rfl (by rw [HYC.out]; kernel_rfl) ?_)
                | (refine wpList_store_item rfl _ _ rfl wi _ X rfl HYC.out HY1.out rfl rfl ?_; rw [← hn6.out]))
              refine (bytesEqual_calls _ _ D data _ (HDB.out.below HB6.out) (HDT.out.below HB6.out)).mono ?_
              obtain ⟨DB, hDB⟩ : ∃ B, Hid (B = decide (D = data)) := ⟨_, Lib.hid rfl⟩
              rw [← hDB.out]
              rintro e w' ⟨rfl, rfl⟩
              cases DB with
              | true =>
                have HY := Lib.hid (has_yes (k := 3) (data := data) HX.out (by rw [← hk.out]; exact HKK.out) HYE.out (by rw [← hD.out]; exact of_decide_eq_true hDB.out.symm))
                go_wp2
                go_ret
                rw [HY.out]
                exact ⟨rfl, HB6.out⟩
              | false =>
                go_wp2
                go_roundw
                case rel => exact ⟨i + 1, hlt3, by go_num, Lib.hid (fun r z hr hz => by
                    by_cases e : r = i
                    · subst e
                      rw [HYE.out] at hz
                      cases hz
                      rw [← hD.out]
                      exact hDB.out.symm
                    · exact hgi.out r z (by omega) hz), HB6⟩
                case measure => simp [intOf]; omega
            · obtain ⟨ya, hrun, hyd⟩ := byt_cut HYB.out HYM.out 32 (by omega)
              have hrun' : ∀ W : World, (Instr.sliceAt 22 (.slice s m c) none (some (.int .i64 32)) none).run Try.prog W = .ok (.slice ya 32 c) W := hrun
              clear hrun
              have HDB : Hid (Byt w (.slice ya 32 c) D) := Lib.hid (by
                rw [hD.out]
                unfold cutD
                rw [if_pos rfl]
                exact hyd)
              clear hyd
              go_wp2_with (first
                | (refine wpList_load_mid rfl 49 _ rfl ib (io + i * 17) rfl X _ HRY.out Try.underlying49 rfl (by rw [HYC.out]; kernel_rfl) ?_)
                | (refine wpList_store_item rfl _ _ rfl wi _ X rfl HYC.out HY1.out rfl rfl ?_; rw [← hn6.out]))
              refine (bytesEqual_calls _ _ D data _ (HDB.out.below HB6.out) (HDT.out.below HB6.out)).mono ?_
              obtain ⟨DB, hDB⟩ : ∃ B, Hid (B = decide (D = data)) := ⟨_, Lib.hid rfl⟩
              rw [← hDB.out]
              rintro e w' ⟨rfl, rfl⟩
              cases DB with
              | true =>
                have HY := Lib.hid (has_yes (k := 3) (data := data) HX.out (by rw [← hk.out]; exact HKK.out) HYE.out (by rw [← hD.out]; exact of_decide_eq_true hDB.out.symm))
                go_wp2
                go_ret
                rw [HY.out]
                exact ⟨rfl, HB6.out⟩
              | false =>
                go_wp2
                go_roundw
                case rel => exact ⟨i + 1, hlt3, by go_num, Lib.hid (fun r z hr hz => by
                    by_cases e : r = i
                    · subst e
                      rw [HYE.out] at hz
                      cases hz
                      rw [← hD.out]
                      exact hDB.out.symm
                    · exact hgi.out r z (by omega) hz), HB6⟩
                case measure => simp [intOf]; omega
          · obtain rfl : i = n := by omega
            have hdl3 : decide ((i : Int) < (i : Int)) = false := by simp
            have HE := Lib.hid (hasI_no (k := 3) (data := data) (x := x) (fun r y hr hy => hgi.out r y (by rw [HNI.out]; exact hr) hy))
            go_wp2
            go_roundw
            case rel => exact ⟨j + 1, hlt, by go_num, Lib.hid (HNX.out (by rw [HE.out, Bool.and_false])), HBi⟩
            case measure => simp [intOf]; omega
      · have hke : (k != 3) = true := by simp [hkk]
        have HKK := Lib.hid hkk
        clear hkk
        go_wp2_with (first
          | (refine wpList_load_mid rfl 39 _ rfl b (off + j * 2) rfl [.int .u8 k, .slice ia n ic] _ HRNG.out Try.underlying39 rfl (by kernel_rfl) ?_)
          | (refine wpList_store_list rfl _ _ rfl wo #[.int .u8 0, .slice none 0 0] #[.int .u8 k, .slice ia n ic] rfl rfl (fun u hu => by simp at hu; rcases hu with rfl | rfl <;> rfl) rfl rfl ?_); rw [← hn5.out])
        go_roundw
        case rel => exact ⟨j + 1, hlt, by go_num, Lib.hid (HNX.out (by rw [← hk.out, decide_eq_false HKK.out, Bool.false_and])), HB1⟩
        case measure => simp [intOf]; omega
    · obtain rfl : j = N := by omega
      have hdl : decide ((j : Int) < (j : Int)) = false := by simp
      have HE := Lib.hid (has_no (k := 3) (data := data) (xs := xs) (fun r x hr hx => hgood.out r x (by rw [hN.out]; exact hr) hx))
      go_wp2
      go_ret
      rw [HE.out]
      exact ⟨rfl, HB.out⟩

set_option maxRecDepth 100000 in
set_option maxHeartbeats 4000000 in
theorem sgHasN_calls (v : Value) (xs : List LiV) (K : Int) (h3 : ¬ K = 3) (q : Value) (data : List UInt8) (w : World) (hv : Lis w v xs) (hq : Byt w q data) (hn : xs.length ≤ 4000000000000000000) (hi : ∀ x ∈ xs, x.i.length ≤ 4000000000000000000) :
    Calls Try.prog 22 #[v, .int .u8 K, q] w fun e w' => e = .returned (.bool (hasB (xs.map LiV.li) K data)) ∧ Below w.heap.size w w' := by
  have HV := Lib.hid hv
  have HI := Lib.hid hi
  have HDT := Lib.hid hq
  obtain ⟨a, cap, rfl, h1, h2⟩ := hv.open
  obtain ⟨aq, cq, rfl, hq1, hq2, _⟩ := hq.open
  clear hv hi hq
  obtain ⟨nq, hnq⟩ : ∃ n, Hid (n = data.length) := ⟨_, Lib.hid rfl⟩
  rw [← hnq.out] at HDT hq1 ⊢
  obtain ⟨N, hN⟩ : ∃ n, Hid (n = xs.length) := ⟨_, Lib.hid rfl⟩
  rw [← hN.out] at HV h1 hn ⊢
  go_enter Try.func22, Try.ntmps22
  go_wp2
  go_loopw [14] (fun j_ wr => ∃ j : Nat, j ≤ N ∧ j_ = .int .i64 j ∧ Hid (∀ r x, r < j → xs[r]? = some x → (decide (x.k = K) && hasI K data x.li.i) = false) ∧ Hid (Below w.heap.size w wr)) (fun j_ _ => N - (intOf j_).toNat)
  case atStart => exact ⟨0, Nat.zero_le _, rfl, Lib.hid (fun r x hr => absurd hr (Nat.not_lt_zero _)), Lib.hid (Below.refl _ _)⟩
  case round =>
    obtain ⟨j, hj, rfl, hgood, HB⟩ := hrel
    obtain ⟨wo, hwo⟩ : ∃ wo : World, wo = wr := ⟨_, rfl⟩
    subst hwo
    by_cases hlt : j < N
    · obtain ⟨b, off, x, ia, n, ic, hx, ha, hrow, hxv, hm, hmc, hc, hits⟩ := HV.out.item j (by rw [← hN.out]; exact hlt)
      subst ha
      have hdl : decide ((j : Int) < (N : Int)) = true := by simp; omega
      have HX := Lib.hid hx
      have HNX : Hid ((decide (x.k = K) && hasI K data x.li.i) = false → ∀ r y, r < j + 1 → xs[r]? = some y → (decide (y.k = K) && hasI K data y.li.i) = false) := Lib.hid (fun h r y hr hy => by
        by_cases e : r = j
        · subst e
          rw [HX.out] at hy
          cases hy
          exact h
        · exact hgood.out r y (by omega) hy)
      have HRNG := Lib.hid (range_below hrow HB.out)
      have HITS := Lib.hid hits
      have HNI := Lib.hid hm
      have hnb : n ≤ 4000000000000000000 := by rw [hm]; exact HI.out x (List.mem_of_getElem? hx)
      obtain ⟨k, hk⟩ : ∃ k, Hid (k = x.k) := ⟨_, Lib.hid rfl⟩
      rw [← hk.out] at HRNG
      clear hrow hx hxv hm hits
      obtain ⟨n5, hn5⟩ : ∃ m, Hid (m = wo.heap.size) := ⟨_, Lib.hid rfl⟩
      have HR1 := Lib.hid (RowAt.new wo #[.int .u8 k, .slice ia n ic] 39 n5 hn5.out)
      have HB1 := Lib.hid (HB.out.alloc HB.out.size (.cells #[.int .u8 k, .slice ia n ic] 39))
      have q0 := HR1.out.cell 0 (.int .u8 k) rfl
      have q1 := HR1.out.cell 1 (.slice ia n ic) rfl
      by_cases hkk : k = K
      · have hke : (k != K) = false := by simp [hkk]
        have HKK := Lib.hid hkk
        clear hkk
        go_wp2_with (first
          | (refine wpList_load_mid rfl 39 _ rfl b (off + j * 2) rfl [.int .u8 k, .slice ia n ic] _ HRNG.out Try.underlying39 rfl (by kernel_rfl) ?_)
          | (refine wpList_store_list rfl _ _ rfl wo #[.int .u8 0, .slice none 0 0] #[.int .u8 k, .slice ia n ic] rfl rfl (fun u hu => by simp at hu; rcases hu with rfl | rfl <;> rfl) rfl rfl ?_); rw [← hn5.out])
        clear q0 q1
        go_loopw [25] (fun i_ wr => ∃ i : Nat, i ≤ n ∧ i_ = .int .i64 i ∧ Hid (∀ r y, r < i → x.i[r]? = some y → decide (cutD K y.d = data) = false) ∧ Hid (Below w.heap.size w wr)) (fun i_ _ => n - (intOf i_).toNat)
        case atStart => exact ⟨0, Nat.zero_le _, rfl, Lib.hid (fun r y hr => absurd hr (Nat.not_lt_zero _)), HB1⟩
        case round =>
          obtain ⟨i, hi, rfl, hgi, HBi⟩ := hrel
          obtain ⟨wi, hwi⟩ : ∃ wi : World, wi = wr := ⟨_, rfl⟩
          subst hwi
          by_cases hlt3 : i < n
          · obtain ⟨ib, io, y, s, m, c, hy, hia, hry, hyv, hym, hymc, hyc, hyb, hyl, hyC, hy1⟩ := HITS.out.item i (by rw [← HNI.out]; exact hlt3)
            cases hia
            have hdl3 : decide ((i : Int) < (n : Int)) = true := by simp; omega
            have HYE := Lib.hid hy
            have HRY := Lib.hid (range_below hry HBi.out)
            have HYB : Hid (Byt w (.slice s m c) y.d) := Lib.hid (by rw [← hyv]; exact hyb)
            have HYL := Lib.hid hyl
            have HYC := Lib.hid hyC
            have HY1 := Lib.hid hy1
            have HYV := Lib.hid hyv
            have HYM := Lib.hid hym
            obtain ⟨X, hX⟩ : ∃ X, Hid (X = itC y) := ⟨_, Lib.hid rfl⟩
            rw [← hX.out] at HRY HYC HY1
            clear hry hy hyv hyb hyl hyC hy1 hym
            obtain ⟨n6, hn6⟩ : ∃ m, Hid (m = wi.heap.size) := ⟨_, Lib.hid rfl⟩
            have HRI := Lib.hid (RowAt.new wi X.toArray 49 n6 hn6.out)
            have HB6 := Lib.hid (HBi.out.alloc HBi.out.size (.cells X.toArray 49))
            have HX16 : Hid (X.toArray[16]? = some (.slice s m c)) := Lib.hid (by rw [hX.out, ← HYV.out]; simpa using itC_at16 y HYL.out)
            have k6 := HRI.out.cell 16 _ HX16.out
            obtain ⟨D, hD⟩ : ∃ D, Hid (D = cutD K y.d) := ⟨_, Lib.hid rfl⟩
            have HDB : Hid (Byt w (.slice s m c) D) := Lib.hid (by
              rw [hD.out]
              unfold cutD
              rw [if_neg h3]
              exact HYB.out)
            go_wp2_with (first
              | (refine wpList_load_mid rfl 49 _ rfl ib (io + i * 17) rfl X _ HRY.out Try.underlying49 rfl (by rw [HYC.out]; kernel_rfl) ?_)
              | (refine wpList_store_item rfl _ _ rfl wi _ X rfl HYC.out HY1.out rfl rfl ?_; rw [← hn6.out]))
            refine (bytesEqual_calls _ _ D data _ (HDB.out.below HB6.out) (HDT.out.below HB6.out)).mono ?_
            obtain ⟨DB, hDB⟩ : ∃ B, Hid (B = decide (D = data)) := ⟨_, Lib.hid rfl⟩
            rw [← hDB.out]
            rintro e w' ⟨rfl, rfl⟩
            cases DB with
            | true =>
              have HY := Lib.hid (has_yes (k := K) (data := data) HX.out (by rw [← hk.out]; exact HKK.out) HYE.out (by rw [← hD.out]; exact of_decide_eq_true hDB.out.symm))
              go_wp2
              go_ret
              rw [HY.out]
              exact ⟨rfl, HB6.out⟩
            | false =>
              go_wp2
              go_roundw
              case rel => exact ⟨i + 1, hlt3, by go_num, Lib.hid (fun r z hr hz => by
                  by_cases e : r = i
                  · subst e
                    rw [HYE.out] at hz
                    cases hz
                    rw [← hD.out]
                    exact hDB.out.symm
                  · exact hgi.out r z (by omega) hz), HB6⟩
              case measure => simp [intOf]; omega
          · obtain rfl : i = n := by omega
            have hdl3 : decide ((i : Int) < (i : Int)) = false := by simp
            have HE := Lib.hid (hasI_no (k := K) (data := data) (x := x) (fun r y hr hy => hgi.out r y (by rw [HNI.out]; exact hr) hy))
            go_wp2
            go_roundw
            case rel => exact ⟨j + 1, hlt, by go_num, Lib.hid (HNX.out (by rw [HE.out, Bool.and_false])), HBi⟩
            case measure => simp [intOf]; omega
      · have hke : (k != K) = true := by simp [hkk]
        have HKK := Lib.hid hkk
        clear hkk
        go_wp2_with (first
          | (refine wpList_load_mid rfl 39 _ rfl b (off + j * 2) rfl [.int .u8 k, .slice ia n ic] _ HRNG.out Try.underlying39 rfl (by kernel_rfl) ?_)
          | (refine wpList_store_list rfl _ _ rfl wo #[.int .u8 0, .slice none 0 0] #[.int .u8 k, .slice ia n ic] rfl rfl (fun u hu => by simp at hu; rcases hu with rfl | rfl <;> rfl) rfl rfl ?_); rw [← hn5.out])
        go_roundw
        case rel => exact ⟨j + 1, hlt, by go_num, Lib.hid (HNX.out (by rw [← hk.out, decide_eq_false HKK.out, Bool.false_and])), HB1⟩
        case measure => simp [intOf]; omega
    · obtain rfl : j = N := by omega
      have hdl : decide ((j : Int) < (j : Int)) = false := by simp
      have HE := Lib.hid (has_no (k := K) (data := data) (xs := xs) (fun r x hr hx => hgood.out r x (by rw [hN.out]; exact hr) hx))
      go_wp2
      go_ret
      rw [HE.out]
      exact ⟨rfl, HB.out⟩

theorem sgHas_calls (v : Value) (xs : List LiV) (K : Int) (q : Value) (data : List UInt8) (w : World) (hv : Lis w v xs) (hq : Byt w q data) (hn : xs.length ≤ 4000000000000000000) (hi : ∀ x ∈ xs, x.i.length ≤ 4000000000000000000) :
    Calls Try.prog 22 #[v, .int .u8 K, q] w fun e w' => e = .returned (.bool (hasB (xs.map LiV.li) K data)) ∧ Below w.heap.size w w' := by
  by_cases h : K = 3
  · subst h; exact sgHas3_calls v xs q data w hv hq hn hi
  · exact sgHasN_calls v xs K h q data w hv hq hn hi
end Go.Proofs.Ytilanncobbdlfaa
