/-
  The contracts of slices.Grow (of a nil slice) and slices.Concat at bytes.
-/
import Derived.Test.YtemojckmnlgkdaaOct1
import Derived.Test.YtemojckmnlgkdaaOpLaw
namespace Go.Proofs.Ytemojckmnlgkdaa
open Go Go.RowKit

set_option maxHeartbeats 1000000 in
theorem grow_calls (n : Nat) (w : World) (hn : n ≤ 100000000000) :
    Calls Try.prog 44 #[.slice none 0 0, .int .i64 (n : Int)] w fun e w' => ∃ v', e = .returned v' ∧ OwnB w' w.heap.size v' [] ∧ Below w.heap.size w w' := by
  by_cases h0 : n = 0
  · subst h0
    go_enter Try.func44, Try.ntmps44
    go_wp2
    go_ret
    exact ⟨_, rfl, OwnB.empty _ _ _, Below.refl _ _⟩
  · have hd : 0 < n := by omega
    clear h0
    go_enter Try.func44, Try.ntmps44
    go_wp2_with (at_builtin; refine wpList_append_zeros rfl _ _ rfl w.heap.size (.slice none 0 0) [] rfl (OwnB.empty _ _ _) n rfl (by simp; omega) (Nat.le_refl _) ?_; intro v1 w1 ho1 hg1; obtain ⟨a1, c1, e1, hc1, hc2⟩ := Own.shape ho1; subst e1; have hb1 := Lib.hid ((Below.refl w.heap.size w).grown hg1 (Nat.le_refl _) (fun k hk => by simp [ownB] at hk)); have HO := Lib.hid (Own.take ho1 0 (Nat.zero_le _)); clear ho1 hg1; unfold maxLen at hc2; simp at hc1)
    go_ret
    exact ⟨_, rfl, by simpa [OwnB] using HO.out, hb1.out⟩

/-- How many bytes the slices have together. -/
def sumL (ls : List (List UInt8)) : Nat := (ls.map List.length).sum
theorem flat_length (ls : List (List UInt8)) : ls.flatten.length = sumL ls := by simp [sumL, List.length_flatten]
theorem sumL_take (ls : List (List UInt8)) (k : Nat) (hk : k < ls.length) : sumL (ls.take (k + 1)) = sumL (ls.take k) + (ls.getD k []).length := by
  have e : ls.getD k [] = ls[k] := by simp [List.getD, hk]
  unfold sumL
  rw [e, List.take_succ_eq_append_getElem hk, List.map_append, List.sum_append]
  congr 1
theorem flat_take (ls : List (List UInt8)) (k : Nat) (hk : k < ls.length) : (ls.take (k + 1)).flatten = (ls.take k).flatten ++ ls.getD k [] := by
  have e : ls.getD k [] = ls[k] := by simp [List.getD, hk]
  rw [e, List.take_succ_eq_append_getElem hk, List.flatten_append]
  congr 1
  exact List.append_nil _
theorem sumL_le (ls : List (List UInt8)) (k : Nat) : sumL (ls.take k) ≤ sumL ls := by
  unfold sumL
  have h : (ls.map List.length).sum = ((ls.take k).map List.length).sum + ((ls.drop k).map List.length).sum := by
    rw [← List.sum_append, ← List.map_append, List.take_append_drop]
  omega

set_option maxHeartbeats 2000000 in
theorem concat_calls (v : Value) (ls : List (List UInt8)) (w : World) (hv : Byts w v ls) (hn : ls.length ≤ 1000) (hs : sumL ls ≤ 1000000000) :
    Calls Try.prog 27 #[v] w fun e w' => ∃ v', e = .returned v' ∧ OwnB w' w.heap.size v' ls.flatten ∧ Below w.heap.size w w' := by
  have HV := Lib.hid hv
  obtain ⟨a, cap, rfl, h1, h2, _⟩ := hv
  unfold maxLen at h2
  have HS := Lib.hid (fun k hk => sumL_take ls k hk)
  have HF := Lib.hid (fun k hk => flat_take ls k hk)
  have HL := Lib.hid (fun k => sumL_le ls k)
  obtain ⟨N, hN⟩ : ∃ N, Hid (N = ls.length) := ⟨_, Lib.hid rfl⟩
  rw [← hN.out] at h1 hn ⊢
  obtain ⟨T, hT⟩ : ∃ T, Hid (T = sumL ls) := ⟨_, Lib.hid rfl⟩
  rw [← hT.out] at hs
  go_enter Try.func27, Try.ntmps27
  go_wp2
  go_loop [3, 11] (fun s i => ∃ k : Nat, k ≤ N ∧ i = .int .i64 k ∧ ∃ m : Nat, m ≤ 1000000000 ∧ s = .int .i64 m ∧ Hid (m = sumL (ls.take k))) (fun _ i => N - (intOf i).toNat)
  case atStart => exact ⟨0, by omega, rfl, 0, by omega, rfl, Lib.hid rfl⟩
  case round =>
    obtain ⟨k, hk, rfl, m, hm, rfl, hms⟩ := hrel
    by_cases hlt : k < N
    · obtain ⟨b, off, u, e, hc, hu⟩ := (Byts.at (n := N) (by rw [hN.out]; exact HV.out) k (by have := hN.out; omega))
      subst e
      obtain ⟨a', cap', rfl, q1, q2, _⟩ := hu.open
      unfold maxLen at q2
      obtain ⟨q, hq⟩ : ∃ q, Hid (q = (ls.getD k []).length) := ⟨_, Lib.hid rfl⟩
      have hnew : Hid (m + q = sumL (ls.take (k + 1))) := Lib.hid (by rw [HS.out k (by have := hN.out; omega), hms.out, hq.out])
      have hmq : m + q ≤ 1000000000 := by have h3 := HL.out (k + 1); have h4 := hnew.out; have h5 := hT.out; omega
      rw [← hq.out] at hc q1
      clear hu hms hq
      go_wp2
      go_round
      case rel => exact ⟨k + 1, by omega, by go_num, m + q, hmq, by go_num, hnew⟩
      case measure => simp [intOf]; omega
    · obtain rfl : k = N := by omega
      have hmT : Hid (m = T) := Lib.hid (by rw [hms.out, hT.out, hN.out, List.take_length])
      obtain rfl := hmT.out
      go_wp2_with (go_at_call 44; refine (grow_calls m _ (by omega)).mono ?_; rintro e w1 ⟨v1, rfl, ho, hb⟩; have HO1 := Lib.hid ho; have HB1 := Lib.hid hb; clear ho hb)
      go_loopw [6, 27] (fun out i wr => ∃ j : Nat, j ≤ k ∧ i = .int .i64 j ∧ Hid (OwnB wr w.heap.size out (ls.take j).flatten) ∧ Hid (Below w.heap.size w wr)) (fun _ i _ => k - (intOf i).toNat)
      case atStart => exact ⟨0, by omega, rfl, HO1, HB1⟩
      case round =>
        obtain ⟨j, hj, rfl, HO, HB⟩ := hrel
        by_cases hjt : j < k
        · obtain ⟨b, off, u, e, hc, hu⟩ := (Byts.at (n := k) (by rw [hN.out]; exact Byts.below HV.out HB.out) j (by have := hN.out; omega))
          subst e
          have HU := Lib.hid hu
          obtain ⟨M, hM⟩ : ∃ M, Hid (M = (ls.take j).flatten) := ⟨_, Lib.hid rfl⟩
          have hlen : Hid (M.length + (ls.getD j []).length ≤ 140737488355328) := Lib.hid (by
            rw [hM.out, flat_length, ← HS.out j (by have := hN.out; omega)]
            have h3 := HL.out (j + 1)
            have h5 := hT.out
            omega)
          rw [← hM.out] at HO
          have hnew : Hid ((ls.take (j + 1)).flatten = M ++ ls.getD j []) := Lib.hid (by rw [HF.out j (by have := hN.out; omega), hM.out])
          clear hu
          go_wp2_with (at_builtin; refine wpList_append_byt rfl _ _ rfl w.heap.size _ M rfl HO.out _ (ls.getD j []) rfl HU.out hlen.out HB.out.size ?_; intro v2 w2 ho2 hg2 _; have HO2 := Lib.hid ho2; have HB2 := Lib.hid (HB.out.grown hg2 HB.out.size (fun b hb => (Own.lt HO.out b hb).1)); clear ho2 hg2)
          go_roundw
          case rel => exact ⟨j + 1, by omega, by go_num, by rw [hnew.out]; exact HO2, HB2⟩
          case measure => simp [intOf]; omega
        · obtain rfl : j = k := by omega
          have HR : Hid ((ls.take j).flatten = ls.flatten) := Lib.hid (by rw [hN.out, List.take_length])
          go_wp2
          go_ret
          exact ⟨_, rfl, by rw [← HR.out]; exact HO.out, HB.out⟩
end Go.Proofs.Ytemojckmnlgkdaa
