/-
  The walk of the law OctetJoins.
-/
import Derived.Test.YtookmdkcpbpofaaNarPlain
import Derived.Test.YtookmdkcpbpofaaOctetTextsWalk
namespace Go.Proofs.Ytookmdkcpbpofaa
open Go Go.RowKit

/-- Wide, its answer as a slice that is laid open. -/
theorem wide_open (l : List UInt8) (w : World) (hl : l.length ≤ 1000000000000) (n : Nat) (A : List UInt8) (hA : wideL l = A) (hn : A.length = n) :
    Calls Try.prog 25 #[.string (sOf l)] w fun e w' => ∃ a cap, e = .returned (.slice a n cap) ∧ OwnB w' w.heap.size (.slice a n cap) A ∧ Below w.heap.size w w' := by
  refine (wide_calls l w hl).mono ?_
  rintro e w' ⟨v', rfl, hown, hb⟩
  rw [hA] at hown
  obtain ⟨a, cap, rfl, _⟩ := hown.byt.open
  rw [hn] at hown ⊢
  exact ⟨a, cap, rfl, hown, hb⟩

set_option maxHeartbeats 1600000 in
theorem octetJoins_walk (s t : ByteArray) (w : World) (hs : s.size ≤ maxLen) (ht : t.size ≤ maxLen) :
    Calls Try.prog 8 #[.string s, .string t] w fun e w' => e = .returned (.bool true) ∧ Below w.heap.size w w' := by
  unfold maxLen at hs ht
  obtain ⟨p, hp, hps⟩ := str_l s
  obtain ⟨q, hq, hqs⟩ := str_l t
  by_cases hb : 4096 < s.size
  · go_enter Try.func8, Try.ntmps8
    clear hp hps hq hqs
    go_wp2_with (go_at_call 12; refine (works_calls _).mono ?_; rintro e w1 ⟨rfl, hb1⟩)
    go_ret
    exact ⟨rfl, hb1⟩
  · by_cases hbig : 4096 < t.size
    · go_enter Try.func8, Try.ntmps8
      clear hp hps hq hqs
      go_wp2_with (go_at_call 12; refine (works_calls _).mono ?_; rintro e w1 ⟨rfl, hb1⟩)
      go_ret
      exact ⟨rfl, hb1⟩
    · have hst : s ++ t = sOf (p ++ q) := by rw [hp, hq, sOf_append]
      cases ha : p.all letB with
      | false =>
        have e1 := wideL_none p ha
        have e3 : wideL (p ++ q) = [] := wideL_none _ (by rw [List.all_append, ha]; rfl)
        have HA : Hid (∀ w, Calls Try.prog 25 #[.string s] w fun e w' => ∃ a cap, e = .returned (.slice a 0 cap) ∧ OwnB w' w.heap.size (.slice a 0 cap) [] ∧ Below w.heap.size w w') := Lib.hid (fun w => by rw [hp]; exact wide_open p w (by omega) 0 [] e1 rfl)
        have HC : Hid (∀ w, Calls Try.prog 25 #[.string (s ++ t)] w fun e w' => ∃ a cap, e = .returned (.slice a 0 cap) ∧ OwnB w' w.heap.size (.slice a 0 cap) [] ∧ Below w.heap.size w w') := Lib.hid (fun w => by rw [hst]; exact wide_open (p ++ q) w (by rw [List.length_append]; omega) 0 [] e3 rfl)
        have HB : Hid (∀ w, Calls Try.prog 25 #[.string t] w fun e w' => ∃ v', e = .returned v' ∧ OwnB w' w.heap.size v' (wideL q) ∧ Below w.heap.size w w') := Lib.hid (fun w => by rw [hq]; exact wide_calls q w (by omega))
        have hz : 1 ≤ s.size := by
          rw [hps]
          cases p with
          | nil => simp at ha
          | cons c p => simp
        obtain ⟨z, hzz⟩ : ∃ z, Hid (z = 2 * s.size) := ⟨_, Lib.hid rfl⟩
        have hwr : IntKind.i64.wrap (2 * (s.size : Int)) = (z : Int) := by
          rw [hzz.out]
          rw [IntWalk.i64_in _ (by omega)]
          simp
        have ht1 : ((0 : Int) == (z : Int)) = false := by
          have := hzz.out
          rw [beq_eq_false_iff_ne]; omega
        clear hp hps hq hqs ha e1 e3 hst hz
        go_enter Try.func8, Try.ntmps8
        go_wp2_with fail
        refine (HA.out _).mono ?_
        rintro e w1 ⟨a1, cap1, rfl, hown1, hb1⟩
        go_wp2_with fail
        refine (HB.out _).mono ?_
        rintro e w2 ⟨v2, rfl, hown2, hb2⟩
        obtain ⟨a2, cap2, rfl, _⟩ := hown2.byt.open
        go_wp2_with fail
        refine (HC.out _).mono ?_
        rintro e w3 ⟨a3, cap3, rfl, hown3, hb3⟩
        have HB3 := Lib.hid (hb1.trans ((hb2.trans (hb3.mono hb2.size)).mono hb1.size))
        clear hown1 hown2 hown3 hb1 hb2 hb3
        go_wp2_with (go_at_call 12; refine (works_calls _).mono ?_; rintro e w4 ⟨rfl, hb4⟩)
        go_ret
        exact ⟨rfl, HB3.out.trans (hb4.mono HB3.out.size)⟩
      | true =>
        have e1 := wideL_all p ha
        obtain ⟨A, hA⟩ : ∃ A, Hid (A = dbl p) := ⟨_, Lib.hid rfl⟩
        obtain ⟨n1, hn1⟩ : ∃ n, Hid (n = 2 * s.size) := ⟨_, Lib.hid rfl⟩
        have hAl : A.length = n1 := by rw [hA.out, dbl_length, hn1.out, hps]
        have HA : Hid (∀ w, Calls Try.prog 25 #[.string s] w fun e w' => ∃ a cap, e = .returned (.slice a n1 cap) ∧ OwnB w' w.heap.size (.slice a n1 cap) A ∧ Below w.heap.size w w') := Lib.hid (fun w => by rw [hp]; exact wide_open p w (by omega) n1 A (e1.trans hA.out.symm) hAl)
        have hwr1 : IntKind.i64.wrap (2 * (s.size : Int)) = (n1 : Int) := by
          rw [hn1.out]
          rw [IntWalk.i64_in _ (by omega)]
          simp
        cases hbq : q.all letB with
        | false =>
          have e2 := wideL_none q hbq
          have e3 : wideL (p ++ q) = [] := wideL_none _ (by rw [List.all_append, ha, hbq]; rfl)
          have HB : Hid (∀ w, Calls Try.prog 25 #[.string t] w fun e w' => ∃ a cap, e = .returned (.slice a 0 cap) ∧ OwnB w' w.heap.size (.slice a 0 cap) [] ∧ Below w.heap.size w w') := Lib.hid (fun w => by rw [hq]; exact wide_open q w (by omega) 0 [] e2 rfl)
          have HC : Hid (∀ w, Calls Try.prog 25 #[.string (s ++ t)] w fun e w' => ∃ a cap, e = .returned (.slice a 0 cap) ∧ OwnB w' w.heap.size (.slice a 0 cap) [] ∧ Below w.heap.size w w') := Lib.hid (fun w => by rw [hst]; exact wide_open (p ++ q) w (by rw [List.length_append]; omega) 0 [] e3 rfl)
          have hz : 1 ≤ t.size := by
            rw [hqs]
            cases q with
            | nil => simp at hbq
            | cons c q => simp
          obtain ⟨z, hzz⟩ : ∃ z, Hid (z = 2 * t.size) := ⟨_, Lib.hid rfl⟩
          have hwr : IntKind.i64.wrap (2 * (t.size : Int)) = (z : Int) := by
            rw [hzz.out]
            rw [IntWalk.i64_in _ (by omega)]
            simp
          have ht1 : ((0 : Int) == (z : Int)) = false := by
            have := hzz.out
            rw [beq_eq_false_iff_ne]; omega
          clear hp hps hq hqs ha hbq e1 e2 e3 hst hz hAl
          go_enter Try.func8, Try.ntmps8
          go_wp2_with fail
          refine (HA.out _).mono ?_
          rintro e w1 ⟨a1, cap1, rfl, hown1, hb1⟩
          go_wp2_with fail
          refine (HB.out _).mono ?_
          rintro e w2 ⟨a2, cap2, rfl, hown2, hb2⟩
          go_wp2_with fail
          refine (HC.out _).mono ?_
          rintro e w3 ⟨a3, cap3, rfl, hown3, hb3⟩
          have HB3 := Lib.hid (hb1.trans ((hb2.trans (hb3.mono hb2.size)).mono hb1.size))
          clear hown1 hown2 hown3 hb1 hb2 hb3
          go_wp2_with (go_at_call 12; refine (works_calls _).mono ?_; rintro e w4 ⟨rfl, hb4⟩)
          go_ret
          exact ⟨rfl, HB3.out.trans (hb4.mono HB3.out.size)⟩
        | true =>
          have hall : (p ++ q).all letB = true := by rw [List.all_append, ha, hbq]; rfl
          have e2 := wideL_all q hbq
          obtain ⟨B, hB⟩ : ∃ B, Hid (B = dbl q) := ⟨_, Lib.hid rfl⟩
          obtain ⟨n2, hn2⟩ : ∃ n, Hid (n = 2 * t.size) := ⟨_, Lib.hid rfl⟩
          have hBl : B.length = n2 := by rw [hB.out, dbl_length, hn2.out, hqs]
          have HB : Hid (∀ w, Calls Try.prog 25 #[.string t] w fun e w' => ∃ a cap, e = .returned (.slice a n2 cap) ∧ OwnB w' w.heap.size (.slice a n2 cap) B ∧ Below w.heap.size w w') := Lib.hid (fun w => by rw [hq]; exact wide_open q w (by omega) n2 B (e2.trans hB.out.symm) hBl)
          have hwr2 : IntKind.i64.wrap (2 * (t.size : Int)) = (n2 : Int) := by
            rw [hn2.out]
            rw [IntWalk.i64_in _ (by omega)]
            simp
          have e3 : wideL (p ++ q) = A ++ B := by rw [wideL_all _ hall, dbl_append, hA.out, hB.out]
          have HC : Hid (∀ w, Calls Try.prog 25 #[.string (s ++ t)] w fun e w' => ∃ v', e = .returned v' ∧ OwnB w' w.heap.size v' (A ++ B) ∧ Below w.heap.size w w') := Lib.hid (fun w => by
            rw [hst, ← e3]
            exact wide_calls (p ++ q) w (by rw [List.length_append]; omega))
          have hlAB : A.length + B.length ≤ 1000000 := by
            have h1 := hn1.out
            have h2 := hn2.out
            omega
          have HN : Hid (∀ v w, Byt w v (A ++ B) → Calls Try.prog 23 #[v] w fun e w' => e = .returned (.tuple #[.string (s ++ t), .int .i64 0]) ∧ Below w.heap.size w w') := Lib.hid (fun v w h => by
            have h2 := narrow_calls v (A ++ B) w h (by rw [List.length_append]; omega)
            rw [← e3, wideL_all _ hall, (narS_dbl _ hall).1, (narS_dbl _ hall).2, ← hst] at h2
            exact h2)
          clear hp hps hq hqs ha hbq e1 e2 e3 hst hall
          go_enter Try.func8, Try.ntmps8
          go_wp2_with fail
          refine (HA.out _).mono ?_
          rintro e w1 ⟨a1, cap1, rfl, hown1, hb1⟩
          go_wp2_with fail
          refine (HB.out _).mono ?_
          rintro e w2 ⟨a2, cap2, rfl, hown2, hb2⟩
          go_wp2_with fail
          refine (HC.out _).mono ?_
          rintro e w3 ⟨v3, rfl, hown3, hb3⟩
          have HB3 := Lib.hid (hb1.trans ((hb2.trans (hb3.mono hb2.size)).mono hb1.size))
          have hA3 := (hown1.below hb2).below hb3 |>.byt
          have hB3 := (hown2.below hb3).byt
          have hC3 := hown3.byt
          clear hown1 hown2 hown3 hb1 hb2 hb3
          have hle3 := HB3.out.size
          go_wp2_with (first
            | (go_at_call 23; refine (HN.out _ _ hC3).mono ?_; rintro e w4 ⟨rfl, hb4⟩)
            | (at_builtin; refine wpList_append_byt rfl _ _ rfl w4.heap.size v5 A rfl hown5 _ B rfl ((hB3.below hb4).below hb5) (by omega) hb5.size ?_; intro v6 w6 hown6 hg6 _; have hb6 : Below w4.heap.size w5 w6 := (Below.refl _ _).grown hg6 hb5.size (fun j hj => (hown5.lt j hj).1); have HQ := Lib.hid (eqBytes_calls _ _ _ _ _ ((hC3.below hb4).below (hb5.trans hb6)) hown6.byt))
            | (at_builtin; refine wpList_append_byt rfl _ _ rfl w4.heap.size (.slice none 0 0) [] rfl (OwnB.empty _ _ _) _ A rfl (hA3.below hb4) (by simp; omega) (Nat.le_refl _) ?_; rw [List.nil_append]; intro v5 w5 hown5 hg5 _; have hb5 : Below w4.heap.size w4 w5 := (Below.refl _ _).grown hg5 (Nat.le_refl _) (fun j hj => by simp [ownB] at hj))
            | (go_at_call 20; refine HQ.out.mono ?_; rintro e w7 ⟨rfl, rfl⟩)
            | (go_at_call 12; refine (works_calls _).mono ?_; rintro e w8 ⟨rfl, hb8⟩))
          go_ret
          have B34 := HB3.out.trans (hb4.mono hle3)
          have B6 := (B34.trans (hb5.mono B34.size)).trans (hb6.mono B34.size)
          exact ⟨rfl, B6.trans (hb8.mono B6.size)⟩
end Go.Proofs.Ytookmdkcpbpofaa
