/-
  The contract of siglist's kindOf.
-/
import Derived.Test.YtilanncobbdlfaaSg2
namespace Go.Proofs.Ytilanncobbdlfaa
open Go Go.RowKit
set_option linter.unusedVariables false

theorem kdL_hit (l : List UInt8) (j : Nat) (h1 : 1 ≤ j) (h3 : j ≤ 3) (he : nmL (j : Int) = l) : kdL l = (j : Int) := by
  rw [← he]; exact kdL_nmL _ (by omega)
theorem kdL_none (l : List UInt8) (h : ∀ r : Nat, 1 ≤ r → r < 4 → nmL (r : Int) ≠ l) : kdL l = 0 := by
  have e1 := h 1 (by omega) (by omega)
  have e2 := h 2 (by omega) (by omega)
  have e3 := h 3 (by omega) (by omega)
  unfold kdL
  rw [if_neg (fun e => e1 (by rw [e]; rfl)), if_neg (fun e => e2 (by rw [e]; rfl)), if_neg (fun e => e3 (by rw [e]; rfl))]

set_option maxRecDepth 100000 in
set_option maxHeartbeats 1000000 in
theorem kindOf_calls (v : Value) (l : List UInt8) (w : World) (hv : Byt w v l) : Calls Try.prog 38 #[v] w fun e w' => e = .returned (.int .u8 (kdL l)) ∧ Below w.heap.size w w' := by
  have HV := Lib.hid hv
  obtain ⟨a, cap, rfl, h1, h2, _⟩ := hv.open
  unfold maxLen at h2
  clear hv
  obtain ⟨n, hn⟩ : ∃ n, Hid (n = l.length) := ⟨_, Lib.hid rfl⟩
  rw [← hn.out] at HV h1 ⊢
  have HK := Lib.hid (kdL_hit l)
  have HK0 := Lib.hid (kdL_none l)
  obtain ⟨D, hD⟩ : ∃ D, Hid (D = kdL l) := ⟨_, Lib.hid rfl⟩
  rw [← hD.out] at HK HK0 ⊢
  obtain ⟨SL, hSL⟩ : ∃ S, Hid (S = sOf l) := ⟨_, Lib.hid rfl⟩
  have HEQ := Lib.hid (fun m : List UInt8 => sOf_beq m l)
  rw [← hSL.out] at HEQ
  go_enter Try.func38, Try.ntmps38
  go_wp2
  go_loopw [3] (fun k wr => ∃ j : Nat, 1 ≤ j ∧ j ≤ 4 ∧ k = .int .u8 j ∧ Hid (∀ r : Nat, 1 ≤ r → r < j → nmL (r : Int) ≠ l) ∧ Hid (Below w.heap.size w wr)) (fun k _ => 4 - (intOf k).toNat)
  case atStart => exact ⟨1, by omega, by omega, rfl, Lib.hid (fun r h1 h2 => by omega), Lib.hid (Below.refl _ _)⟩
  case round =>
    obtain ⟨j, hj1, hj4, rfl, hno, HB⟩ := hrel
    by_cases hlt : j ≤ 3
    · have hdl : decide ((j : Int) ≤ 3) = true := by simp; omega
      have hw8 : IntKind.u8.wrap ((j : Int) + 1) = (j : Int) + 1 := by rw [IntKind.wrap_u8]; omega
      have HN := Lib.hid (fun W => name_calls (j : Int) W)
      have HE := Lib.hid (HEQ.out (nmL (j : Int)))
      have HHIT := Lib.hid (HK.out j hj1 hlt)
      have HMORE : Hid (nmL (j : Int) ≠ l → ∀ r : Nat, 1 ≤ r → r < j + 1 → nmL (r : Int) ≠ l) := Lib.hid (fun h r h1 h2 => by
        by_cases e : r = j
        · subst e; exact h
        · exact hno.out r h1 (by omega))
      obtain ⟨M, hM⟩ : ∃ M, Hid (M = nmL (j : Int)) := ⟨_, Lib.hid rfl⟩
      rw [← hM.out] at HN HE HHIT HMORE
      obtain ⟨SN, hSN⟩ : ∃ S, Hid (S = sOf M) := ⟨_, Lib.hid rfl⟩
      rw [← hSN.out] at HN HE
      by_cases hml : M = l
      · have hhit := Lib.hid (HHIT.out hml)
        have heq : (SN.toList == SL.toList) = true := by rw [HE.out]; exact decide_eq_true hml
        clear hml
        go_wp2_with fail
        refine' wp_region_grows (by kernel_rfl) (fun w' => Hid (Below w.heap.size w w')) [isV _, isV _, isV _, isV _, isV _] 14 [[], [(0, some 8)], [], [(2, some 10)], [(1, some 9), (3, some 11)]] [(0, some 8), (1, some 9), (2, some 10), (3, some 11), (4, some 12)] rfl (by kernel_rfl) ⟨fun _ _ _ _ h => h, fun _ _ _ _ h => h, fun _ _ _ _ h => h, fun _ _ _ _ h => h, fun _ _ _ _ h => h, trivial⟩ (fun _ a a' _ e h => by cases a; cases a'; cases e; exact h) ?hS ?hsteps ?hend
        case hS =>
          intro w' hg
          exact Lib.hid (HB.out.drew.trans (hg.mono HB.out.size))
        case hsteps =>
          refine ⟨?_, ?_, ?_, ?_, ?_, trivial⟩
          · intro w' hs
            simp only [AllV, rgPut]
            clear hs
            first
              | (refine OpOk.off ?_ ?_ <;> rfl)
              | (refine OpOk.run ?_ (fun K hK => ?_)
                 · rfl
                 go_simp
                 refine hK.out _ _ (Grows.refl _) ?_
                 exact rfl)
          · intro w' hs
            simp only [AllV, rdP, isV, forall_eq, rgPut, Act.put, List.setIfInBounds_toArray, List.set_cons_zero, List.set_cons_succ]
            first
              | (refine OpOk.off ?_ ?_ <;> rfl)
              | (refine OpOk.run ?_ (fun K hK => ?_)
                 · rfl
                 go_simp
                 go_at_call 31
                 refine (HN.out _).mono ?_
                 rintro e w1 ⟨rfl, rfl⟩
                 refine hK.out _ _ (Grows.refl _) ?_
                 exact rfl
                )
          · intro w' hs
            simp only [AllV, rgPut]
            clear hs
            first
              | (refine OpOk.off ?_ ?_ <;> rfl)
              | (refine OpOk.run ?_ (fun K hK => ?_)
                 · rfl
                 go_simp
                 refine hK.out _ _ (Grows.refl _) ?_
                 exact rfl)
          · -- 3: Op.convert 22 9 t10
            intro w' hs
            simp only [AllV, rdP, isV, forall_eq, rgPut, Act.put, List.setIfInBounds_toArray, List.set_cons_zero, List.set_cons_succ]
            have hcv := run_tostring (P := Try.prog) (HV.out.below hs.out) 22 9 5 Try.underlying22 Try.underlying5 Try.underlying9
            rw [← hSL.out] at hcv
            refine OpOk.run ?_ (fun K hK => ?_)
            · rfl
            go_simp
            refine hK.out _ _ (Grows.refl _) ?_
            exact rfl
          · intro w' hs
            simp only [AllV, rdP, isV, forall_eq, rgPut, Act.put, List.setIfInBounds_toArray, List.set_cons_zero, List.set_cons_succ]
            clear hs
            first
              | (refine OpOk.off ?_ ?_ <;> rfl)
              | (refine OpOk.run ?_ (fun K hK => ?_)
                 · rfl
                 go_simp
                 refine hK.out _ _ (Grows.refl _) ?_
                 exact rfl)
        case hend =>
          intro w' hs
          simp only [AllV, rdP, isV, forall_eq, rgPut, Act.put, List.setIfInBounds_toArray, List.set_cons_zero, List.set_cons_succ]
          have HB2 := Lib.hid hs.out
          clear hs
          go_wp2
          go_ret
          rw [hhit.out]
          exact ⟨rfl, HB2.out⟩
      · have heq : (SN.toList == SL.toList) = false := by rw [HE.out]; exact decide_eq_false hml
        have HM2 := Lib.hid (HMORE.out hml)
        clear hml
        go_wp2_with fail
        refine' wp_region_grows (by kernel_rfl) (fun w' => Hid (Below w.heap.size w w')) [isV _, isV _, isV _, isV _, isV _] 14 [[], [(0, some 8)], [], [(2, some 10)], [(1, some 9), (3, some 11)]] [(0, some 8), (1, some 9), (2, some 10), (3, some 11), (4, some 12)] rfl (by kernel_rfl) ⟨fun _ _ _ _ h => h, fun _ _ _ _ h => h, fun _ _ _ _ h => h, fun _ _ _ _ h => h, fun _ _ _ _ h => h, trivial⟩ (fun _ a a' _ e h => by cases a; cases a'; cases e; exact h) ?hS ?hsteps ?hend
        case hS =>
          intro w' hg
          exact Lib.hid (HB.out.drew.trans (hg.mono HB.out.size))
        case hsteps =>
          refine ⟨?_, ?_, ?_, ?_, ?_, trivial⟩
          · intro w' hs
            simp only [AllV, rgPut]
            clear hs
            first
              | (refine OpOk.off ?_ ?_ <;> rfl)
              | (refine OpOk.run ?_ (fun K hK => ?_)
                 · rfl
                 go_simp
                 refine hK.out _ _ (Grows.refl _) ?_
                 exact rfl)
          · intro w' hs
            simp only [AllV, rdP, isV, forall_eq, rgPut, Act.put, List.setIfInBounds_toArray, List.set_cons_zero, List.set_cons_succ]
            first
              | (refine OpOk.off ?_ ?_ <;> rfl)
              | (refine OpOk.run ?_ (fun K hK => ?_)
                 · rfl
                 go_simp
                 go_at_call 31
                 refine (HN.out _).mono ?_
                 rintro e w1 ⟨rfl, rfl⟩
                 refine hK.out _ _ (Grows.refl _) ?_
                 exact rfl
                )
          · intro w' hs
            simp only [AllV, rgPut]
            clear hs
            first
              | (refine OpOk.off ?_ ?_ <;> rfl)
              | (refine OpOk.run ?_ (fun K hK => ?_)
                 · rfl
                 go_simp
                 refine hK.out _ _ (Grows.refl _) ?_
                 exact rfl)
          · -- 3: Op.convert 22 9 t10
            intro w' hs
            simp only [AllV, rdP, isV, forall_eq, rgPut, Act.put, List.setIfInBounds_toArray, List.set_cons_zero, List.set_cons_succ]
            have hcv := run_tostring (P := Try.prog) (HV.out.below hs.out) 22 9 5 Try.underlying22 Try.underlying5 Try.underlying9
            rw [← hSL.out] at hcv
            refine OpOk.run ?_ (fun K hK => ?_)
            · rfl
            go_simp
            refine hK.out _ _ (Grows.refl _) ?_
            exact rfl
          · intro w' hs
            simp only [AllV, rdP, isV, forall_eq, rgPut, Act.put, List.setIfInBounds_toArray, List.set_cons_zero, List.set_cons_succ]
            clear hs
            first
              | (refine OpOk.off ?_ ?_ <;> rfl)
              | (refine OpOk.run ?_ (fun K hK => ?_)
                 · rfl
                 go_simp
                 refine hK.out _ _ (Grows.refl _) ?_
                 exact rfl)
        case hend =>
          intro w' hs
          simp only [AllV, rdP, isV, forall_eq, rgPut, Act.put, List.setIfInBounds_toArray, List.set_cons_zero, List.set_cons_succ]
          have HB2 := Lib.hid hs.out
          clear hs
          go_wp2
          go_roundw
          case rel => exact ⟨j + 1, by omega, by omega, by go_num, HM2, HB2⟩
          case measure => simp [intOf]; omega
    · obtain rfl : j = 4 := by omega
      have h0 := Lib.hid (HK0.out hno.out)
      have hdl : decide (((4 : Nat) : Int) ≤ 3) = false := by decide
      go_wp2
      go_ret
      rw [h0.out]
      exact ⟨rfl, HB.out⟩
end Go.Proofs.Ytilanncobbdlfaa
