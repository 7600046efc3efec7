/-
  The walk of the law OctetPuts.
-/
import Derived.Test.YtookmdkcpbpofaaOct11
import Derived.Test.YtookmdkcpbpofaaSit
import Derived.OpenShut
namespace Go.Proofs.Ytookmdkcpbpofaa
open Go Go.RowKit

theorem putL_length_le (l : List UInt8) (X : Nat) (n : Int) : (putL l X n).length ≤ l.length + 8 ∧ (putB l X n).length ≤ l.length + 8 := by
  unfold putL putB
  cases h : sizedB n with
  | false => simp
  | true =>
    have := (sizedB_iff n).1 h
    simp only [if_true, List.length_append, List.length_reverse, lowN_length]
    omega

set_option maxHeartbeats 3200000 in
theorem octetPuts_walk (v : Value) (l : List UInt8) (x n : Int) (w : World) (hv : Byt w v l) (hx : (Lit.int .u64 x).wf = true) (hn : (Lit.int .i64 n).wf = true) :
    Calls Try.prog 10 #[v, .int .u64 x, .int .i64 n] w fun e w' => e = .returned (.bool true) ∧ Below w.heap.size w w' := by
  have hx1 := bounds_u64 hx
  have hn1 := bounds_i64 hn
  clear hx hn
  obtain ⟨X, rfl⟩ := Int.eq_ofNat_of_zero_le hx1.1
  have hX : X < 2 ^ 64 := by omega
  obtain ⟨a, cap, rfl, h1, h2, _⟩ := hv.open
  unfold maxLen at h2
  by_cases hb : 131072 < l.length
  · clear hX
    go_enter Try.func10, Try.ntmps10
    go_wp2_with (go_at_call 12; refine (works_calls _).mono ?_; rintro e w1 ⟨rfl, hb1⟩)
    go_ret
    exact ⟨rfl, hb1⟩
  · have hll : l.length ≤ 1000000000000 := by omega
    obtain ⟨P, hP⟩ : ∃ X', Hid (X' = putL l X n) := ⟨_, Lib.hid rfl⟩
    obtain ⟨B, hB⟩ : ∃ X', Hid (X' = putB l X n) := ⟨_, Lib.hid rfl⟩
    obtain ⟨mp, hmp⟩ : ∃ X', Hid (X' = P.length) := ⟨_, Lib.hid rfl⟩
    obtain ⟨mb, hmb⟩ : ∃ X', Hid (X' = B.length) := ⟨_, Lib.hid rfl⟩
    have HL : Hid (P.length ≤ 1000000 ∧ B.length ≤ 1000000) := Lib.hid (by
      rw [hP.out, hB.out]
      have := putL_length_le l X n
      omega)
    have HP : Hid (∀ v w, Byt w v l → Calls Try.prog 28 #[v, .int .u64 X, .int .i64 n] w fun e w' => ∃ a cap, e = .returned (.slice a mp cap) ∧ OwnB w' w.heap.size (.slice a mp cap) P ∧ Below w.heap.size w w') := Lib.hid (fun v w hv => (put_calls v l X n w hv hX hll).mono (by
      rintro e w' ⟨v', rfl, ho, hb⟩
      obtain ⟨a, c, e1, _, _⟩ := Own.shape ho
      rw [← hP.out, ← hmp.out] at e1
      subst e1
      exact ⟨a, c, rfl, by rw [hP.out]; exact ho, hb⟩))
    have HB : Hid (∀ v w, Byt w v l → Calls Try.prog 29 #[v, .int .u64 X, .int .i64 n] w fun e w' => ∃ a cap, e = .returned (.slice a mb cap) ∧ OwnB w' w.heap.size (.slice a mb cap) B ∧ Below w.heap.size w w') := Lib.hid (fun v w hv => (putBig_calls v l X n w hv hX hll).mono (by
      rintro e w' ⟨v', rfl, ho, hb⟩
      obtain ⟨a, c, e1, _, _⟩ := Own.shape ho
      rw [← hB.out, ← hmb.out] at e1
      subst e1
      exact ⟨a, c, rfl, by rw [hB.out]; exact ho, hb⟩))
    have HRP : Hid (∀ v w, Byt w v l → Calls Try.prog 30 #[v, .int .u64 X, .int .i64 n] w fun e w' => ∃ v', e = .returned v' ∧ OwnB w' w.heap.size v' P ∧ Below w.heap.size w w') := Lib.hid (fun v w hv => by
      rw [hP.out]; exact refPut_calls v l X n w hv hX hll)
    have HRB : Hid (∀ v w, Byt w v l → Calls Try.prog 31 #[v, .int .u64 X, .int .i64 n] w fun e w' => ∃ v', e = .returned v' ∧ OwnB w' w.heap.size v' B ∧ Below w.heap.size w w') := Lib.hid (fun v w hv => by
      rw [hB.out]; exact refPutBig_calls v l X n w hv hX hll)
    have S := Lib.hid (Sit.start1 w _ l hv)
    clear hv hx1 hn1 hX
    go_enter Try.func10, Try.ntmps10
    go_wp2_with (go_at_call 13; refine (S.out.roomy _ l _ rfl S.out.r0 (by omega)).mono ?_; rintro e w1 ⟨g, cap1, rfl, hin, S1⟩)
    replace S := Lib.hid S1
    replace hin := Lib.hid hin
    clear S1
    go_wp2_with (go_at_call 28; refine (HP.out _ _ S.out.o0.byt).mono ?_; rintro e w2 ⟨a1, c1, rfl, ho, hb⟩; replace S := Lib.hid (S.out.born hb ho); replace hin := Lib.hid (hin.out.below hb); clear hb ho)
    go_wp2_with (go_at_call 29; refine (HB.out _ _ S.out.o1.byt).mono ?_; rintro e w2 ⟨a2, c2, rfl, ho, hb⟩; replace S := Lib.hid (S.out.born hb ho); replace hin := Lib.hid (hin.out.below hb); clear hb ho)
    go_wp2_with (go_at_call 30; refine (HRP.out _ _ S.out.r0).mono ?_; rintro e w2 ⟨v2, rfl, ho, hb⟩; replace S := Lib.hid (S.out.born hb ho); replace hin := Lib.hid (hin.out.below hb); clear hb ho)
    go_wp2_with (first
      | (go_at_call 20; refine (eqB_true _ _ P _ S.out.o2.byt S.out.o0.byt).mono ?_; rintro e w2 ⟨rfl, rfl⟩)
      | (go_at_call 31; refine (HRB.out _ _ S.out.r0).mono ?_; rintro e w2 ⟨v3, rfl, ho, hb⟩; replace S := Lib.hid (S.out.born hb ho); replace hin := Lib.hid (hin.out.below hb); clear hb ho))
    go_wp2_with (first
      | (go_at_call 20; refine (eqB_true _ _ B _ S.out.o2.byt S.out.o0.byt).mono ?_; rintro e w2 ⟨rfl, rfl⟩)
      | (go_at_call 21; refine (kept_calls _ g _ cap1 _ l l _ rfl hin.out S.out.r0).mono ?_; rintro e w2 ⟨rfl, rfl⟩; rw [decide_eq_true rfl])
      | (go_at_call 28; refine (HP.out _ _ S.out.o4.byt).mono ?_; rintro e w2 ⟨a5, c5, rfl, ho, hb⟩; replace S := Lib.hid (S.out.born hb ho); replace hin := Lib.hid (hin.out.below hb); clear hb ho)
      | (go_at_call 29; refine (HB.out _ _ S.out.o5.byt).mono ?_; rintro e w2 ⟨a6, c6, rfl, ho, hb⟩; replace S := Lib.hid (S.out.born hb ho); replace hin := Lib.hid (hin.out.below hb); clear hb ho))
    have HA := Lib.hid (S.out.apart [5, 4, 1, 0, 6] #[.slice a1 mp c1, .slice a2 mb c2, .slice a5 mp c5, .slice a6 mb c6, .slice (some ⟨g, 0, none⟩) l.length cap1] 5 (by decide) (by simp) rfl rfl (by decide) (by decide) (len_all _ (by
      have := HL.out
      intro x hx
      simp only [List.mem_cons, List.not_mem_nil, or_false] at hx
      rcases hx with rfl | rfl | rfl | rfl | rfl | rfl | rfl <;> omega)))
    go_wp2_with (first
      | (go_at_call 22; refine HA.out.mono ?_; rintro e w3 ⟨rfl, hb3⟩; have HB3 := Lib.hid hb3; clear hb3)
      | (go_at_call 12; refine (works_calls _).mono ?_; rintro e w4 ⟨rfl, hb4⟩; have HB4 := Lib.hid hb4; clear hb4))
    go_ret
    exact ⟨rfl, HB3.out.trans (HB4.out.mono HB3.out.size)⟩
end Go.Proofs.Ytookmdkcpbpofaa
