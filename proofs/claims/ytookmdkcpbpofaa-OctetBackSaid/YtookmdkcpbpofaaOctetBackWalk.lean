/-
  The walk of the law OctetBack.
-/
import Derived.Test.YtookmdkcpbpofaaBackPlain
import Derived.Test.YtookmdkcpbpofaaOctetJoinsWalk
import Derived.OpenShut
namespace Go.Proofs.Ytookmdkcpbpofaa
open Go Go.RowKit

theorem put_open (l : List UInt8) (X N J : Nat) (hX : X < 2 ^ 64) (hl : l.length ≤ 1000000000000) (A : List UInt8) (hA : putL l X N = A) (hJ : A.length = J) (v : Value) (w : World) (hv : Byt w v l) :
    Calls Try.prog 28 #[v, .int .u64 X, .int .i64 N] w fun e w' => ∃ a cap, e = .returned (.slice a J cap) ∧ Byt w' (.slice a J cap) A ∧ Below w.heap.size w w' := by
  refine (put_calls v l X N w hv hX hl).mono ?_
  rintro e w' ⟨v', rfl, hown, hb⟩
  rw [hA] at hown
  obtain ⟨a, cap, rfl, _⟩ := hown.byt.open
  have := hown.byt
  rw [hJ] at this ⊢
  exact ⟨a, cap, rfl, this, hb⟩
theorem putBig_open (l : List UInt8) (X N J : Nat) (hX : X < 2 ^ 64) (hl : l.length ≤ 1000000000000) (A : List UInt8) (hA : putB l X N = A) (hJ : A.length = J) (v : Value) (w : World) (hv : Byt w v l) :
    Calls Try.prog 29 #[v, .int .u64 X, .int .i64 N] w fun e w' => ∃ a cap, e = .returned (.slice a J cap) ∧ Byt w' (.slice a J cap) A ∧ Below w.heap.size w w' := by
  refine (putBig_calls v l X N w hv hX hl).mono ?_
  rintro e w' ⟨v', rfl, hown, hb⟩
  rw [hA] at hown
  obtain ⟨a, cap, rfl, _⟩ := hown.byt.open
  have := hown.byt
  rw [hJ] at this ⊢
  exact ⟨a, cap, rfl, this, hb⟩

/-- One cell of a slice that is read, in a later world. -/
theorem Byt.cellAt {w w' : World} {a : Option Addr} {n cap : Nat} {l : List UInt8} (h : Byt w (.slice a n cap) l) (hb : Below w.heap.size w w') (k : Nat) (hk : k < l.length) :
    ∃ b off, a = some ⟨b, off, none⟩ ∧ w'.cell? ⟨b, off + k, none⟩ = some (.int .u8 (l.getD k 0).toNat) := by
  obtain ⟨a', cap', e, _, _, h3⟩ := h.open
  simp only [Value.slice.injEq] at e
  obtain ⟨rfl, _, rfl⟩ := e
  obtain ⟨b, off, rfl, hc⟩ := h3 k hk
  exact ⟨b, off, rfl, (hb.cell (p := ⟨b, off + k, none⟩) (lt_of_cell hc)).trans hc⟩

set_option maxRecDepth 100000 in
set_option maxHeartbeats 6400000 in
theorem octetBack_walk (v : Value) (l : List UInt8) (x : Int) (s : ByteArray) (w : World) (hv : Byt w v l) (hx : (Lit.int .u64 x).wf = true) (hs : s.size ≤ maxLen) :
    Calls Try.prog 11 #[v, .int .u64 x, .string s] w fun e w' => e = .returned (.bool true) ∧ Below w.heap.size w w' := by
  have hx1 := bounds_u64 hx
  clear hx
  obtain ⟨X, rfl⟩ := Int.eq_ofNat_of_zero_le hx1.1
  have HX : Hid (X < 2 ^ 64) := Lib.hid (by omega)
  clear hx1
  obtain ⟨a, cap, rfl, h1, h2, _⟩ := hv.open
  unfold maxLen at h2 hs
  obtain ⟨L, hL⟩ : ∃ L, Hid (L = l.length) := ⟨_, Lib.hid rfl⟩
  have HV := Lib.hid (show Byt w (.slice a L cap) l by rw [hL.out]; exact hv)
  rw [← hL.out] at h1 ⊢
  clear hv
  by_cases hb : 4096 < L
  · go_enter Try.func11, Try.ntmps11
    go_wp2_with (go_at_call 12; refine (works_calls _).mono ?_; rintro e w1 ⟨rfl, hb1⟩)
    go_ret
    exact ⟨rfl, hb1⟩
  · by_cases hbs : 4096 < s.size
    · go_enter Try.func11, Try.ntmps11
      go_wp2_with (go_at_call 12; refine (works_calls _).mono ?_; rintro e w1 ⟨rfl, hb1⟩)
      go_ret
      exact ⟨rfl, hb1⟩
    · have hLl : Hid (l.length ≤ 1000000000000) := Lib.hid (by have := hL.out; omega)
      go_enter Try.func11, Try.ntmps11
      go_wp2_with fail
      obtain ⟨W1, hW1⟩ : ∃ W1, w.alloc (.cells #[.int .i64 1, .int .i64 2, .int .i64 4, .int .i64 8] 3) = W1 := ⟨_, rfl⟩
      have HB1 : Hid (Below w.heap.size w W1) := Lib.hid (by rw [← hW1]; exact (Below.refl _ _).alloc (Nat.le_refl _) _)
      have hW1s : W1.heap.size = w.heap.size + 1 := by rw [← hW1]; simp
      have HS : Hid (∀ k, k < 4 → ∃ N : Nat, W1.cell? ⟨w.heap.size, k, none⟩ = some (.int .i64 N) ∧ sizedB N = true ∧ 1 ≤ N ∧ N ≤ 8) := Lib.hid (by
        intro k hk
        rw [← hW1, cell_of_row _ w.heap.size k _ _ (0, 0) (heap_alloc_new w _)]
        have : k = 0 ∨ k = 1 ∨ k = 2 ∨ k = 3 := by omega
        rcases this with rfl | rfl | rfl | rfl
        · exact ⟨1, rfl, rfl, by omega, by omega⟩
        · exact ⟨2, rfl, rfl, by omega, by omega⟩
        · exact ⟨4, rfl, rfl, by omega, by omega⟩
        · exact ⟨8, rfl, rfl, by omega, by omega⟩)
      have HV1 := Lib.hid (HV.out.below HB1.out)
      rw [hW1]
      clear hW1
      go_loopw [8] (fun i wr => ∃ k : Nat, k ≤ 4 ∧ i = .int .i64 k ∧ Below W1.heap.size W1 wr) (fun i _ => 4 - (intOf i).toNat)
      case atStart => exact ⟨0, by omega, rfl, Below.refl _ _⟩
      case round =>
        obtain ⟨k, hk, rfl, hbb⟩ := hrel
        have HBB := Lib.hid hbb
        clear hbb
        by_cases hlt : k < 4
        · obtain ⟨N, hN0, hsN, hN1, hN8⟩ := HS.out k hlt
          have hcN := (HBB.out.cell (p := ⟨w.heap.size, k, none⟩) (lt_of_cell hN0)).trans hN0
          clear hN0
          have HSN := Lib.hid hsN
          clear hsN
          obtain ⟨J, hJ⟩ : ∃ J, Hid (J = L + N) := ⟨_, Lib.hid rfl⟩
          obtain ⟨Y, hY⟩ : ∃ Y, Hid (Y = X % 256 ^ N) := ⟨_, Lib.hid rfl⟩
          obtain ⟨A, hA⟩ : ∃ A, Hid (A = putL l X N) := ⟨_, Lib.hid rfl⟩
          obtain ⟨B, hB⟩ : ∃ B, Hid (B = putB l X N) := ⟨_, Lib.hid rfl⟩
          have HAl : Hid (A.length = J ∧ B.length = J) := Lib.hid (by rw [hA.out, hB.out, hJ.out, hL.out]; exact back_len l X N HSN.out)
          have HP := Lib.hid (put_open l X N J HX.out hLl.out A hA.out.symm HAl.out.1)
          have HQ := Lib.hid (putBig_open l X N J HX.out hLl.out B hB.out.symm HAl.out.2)
          have HG : Hid (∀ v w, Byt w v A → Calls Try.prog 14 #[v, .int .i64 L, .int .i64 N] w fun e w' => e = .returned (.tuple #[.int .u64 Y, .int .i64 0]) ∧ Below w.heap.size w w') := Lib.hid (fun v w h => by
            have h2 := get_calls v A L N w h (by unfold I64; omega) (by unfold I64; omega) (by have := HAl.out.1; have := hJ.out; omega)
            rw [hA.out, hL.out, (back_get l X N HSN.out).1, (back_get l X N HSN.out).2, ← hL.out, ← hY.out] at h2
            exact h2)
          have HH : Hid (∀ v w, Byt w v B → Calls Try.prog 16 #[v, .int .i64 L, .int .i64 N] w fun e w' => e = .returned (.tuple #[.int .u64 Y, .int .i64 0]) ∧ Below w.heap.size w w') := Lib.hid (fun v w h => by
            have h2 := getBig_calls v B L N w h (by unfold I64; omega) (by unfold I64; omega) (by have := HAl.out.2; have := hJ.out; omega)
            rw [hB.out, hL.out, (back_getBig l X N HSN.out).1, (back_getBig l X N HSN.out).2, ← hL.out, ← hY.out] at h2
            exact h2)
          have hadd : IntKind.i64.wrap ((L : Int) + (N : Int)) = (J : Int) := by
            rw [hJ.out]
            rw [IntWalk.i64_in _ (by omega)]
            simp
          by_cases h8 : N < 8
          · obtain ⟨M, hM⟩ : ∃ M : Nat, Hid (M = 8 * N) := ⟨_, Lib.hid rfl⟩
            obtain ⟨K, hK⟩ : ∃ K : Nat, Hid (K = 2 ^ (8 * N)) := ⟨_, Lib.hid rfl⟩
            have hmul : IntKind.i64.wrap (8 * (N : Int)) = (M : Int) := by
              rw [hM.out]
              rw [IntWalk.i64_in _ (by omega)]
              simp
            have hM64 : (M : Int) ≤ 64 := by rw [hM.out]; omega
            have hK1 : 1 ≤ K := by rw [hK.out]; exact Nat.one_le_two_pow
            have hKl : K < 2 ^ 64 := by
              rw [hK.out]
              exact Nat.pow_lt_pow_right (by decide) (by omega)
            have hsh : IntKind.u64.wrap ((2 : Int) ^ M) = (K : Int) := by
              have : ((2 : Int) ^ M) = ((2 ^ M : Nat) : Int) := by simp
              rw [this, hM.out, ← hK.out]
              exact IntWalk.u64_in _ (by omega)
            have hmod : (X : Int) % (K : Int) = (Y : Int) := by
              rw [hY.out, hK.out, show (256 : Nat) ^ N = 2 ^ (8 * N) by rw [Nat.pow_mul]]
              simp
            clear hKl
            go_wp2_with fail
            refine (HP.out _ _ (HV1.out.below HBB.out)).mono ?_
            rintro e w2 ⟨ac, capc, rfl, hc2, hb2⟩
            have HBB2 := Lib.hid (HBB.out.trans (hb2.mono HBB.out.size))
            have HC2 := Lib.hid hc2
            clear hb2 hc2
            go_wp2_with fail
            refine (HQ.out _ _ (HV1.out.below HBB2.out)).mono ?_
            rintro e w3 ⟨ad, capd, rfl, hd3, hb3⟩
            have HBB3 := Lib.hid (HBB2.out.trans (hb3.mono HBB2.out.size))
            have HC3 := Lib.hid (HC2.out.below hb3)
            have HD3 := Lib.hid hd3
            clear hb3 hd3
            go_wp2_with fail
            refine (HG.out _ _ HC3.out).mono ?_
            rintro e w4 ⟨rfl, hb4⟩
            have HBB4 := Lib.hid (HBB3.out.trans (hb4.mono HBB3.out.size))
            have HC4 := Lib.hid (HC3.out.below hb4)
            have HD4 := Lib.hid (HD3.out.below hb4)
            clear hb4
            go_wp2_with fail
            refine (HH.out _ _ HD4.out).mono ?_
            rintro e w5 ⟨rfl, hb5⟩
            have HBB5 := Lib.hid (HBB4.out.trans (hb5.mono HBB4.out.size))
            have HC5 := Lib.hid (HC4.out.below hb5)
            have HD5 := Lib.hid (HD4.out.below hb5)
            have HV5 := Lib.hid (HV1.out.below HBB5.out)
            clear hb5 HBB2 HC2 HBB3 HC3 HD3 HBB4 HC4 HD4 hcN
            go_wp2_with fail
            go_loopw [17] (fun i wq => ∃ k2 : Nat, k2 ≤ L ∧ i = .int .i64 k2 ∧ Below w5.heap.size w5 wq) (fun i _ => L - (intOf i).toNat)
            case atStart => exact ⟨0, by omega, rfl, Below.refl _ _⟩
            case round =>
              obtain ⟨k2, hk2, rfl, hq⟩ := hrel
              have HQ5 := Lib.hid hq
              clear hq
              by_cases hlt2 : k2 < L
              · obtain ⟨bc, oc, rfl, cc⟩ := HC5.out.cellAt HQ5.out k2 (by rw [HAl.out.1, hJ.out]; omega)
                obtain ⟨bd, od, rfl, cd⟩ := HD5.out.cellAt HQ5.out k2 (by rw [HAl.out.2, hJ.out]; omega)
                obtain ⟨bb, ob, rfl, cb⟩ := HV5.out.cellAt HQ5.out k2 (by rw [← hL.out]; omega)
                have e1 : A.getD k2 0 = l.getD k2 0 := by rw [hA.out]; exact (back_head l X N HSN.out k2 (by rw [← hL.out]; exact hlt2)).1
                have e2 : B.getD k2 0 = l.getD k2 0 := by rw [hB.out]; exact (back_head l X N HSN.out k2 (by rw [← hL.out]; exact hlt2)).2
                rw [e1] at cc
                rw [e2] at cd
                clear e1 e2
                generalize l.getD k2 0 = c at cc cd cb
                have hkJ : k2 < J := by rw [hJ.out]; omega
                go_wp2_with fail
                go_still (by kernel_rfl)
                go_wp2
                exact ⟨⟨k2 + 1, by omega, by go_num, HQ5.out.drew⟩, by simp [intOf]; omega⟩
              · go_wp2_with fail
                go_loopw [18] (fun i wz => ∃ k3 : Nat, k3 ≤ N ∧ i = .int .i64 k3 ∧ Below w5.heap.size w5 wz) (fun i _ => N - (intOf i).toNat)
                case atStart => exact ⟨0, by omega, rfl, HQ5.out⟩
                case round =>
                  obtain ⟨k3, hk3, rfl, hz⟩ := hrel
                  have HZ := Lib.hid hz
                  clear hz
                  by_cases hlt3 : k3 < N
                  · obtain ⟨A1, hA1⟩ : ∃ A1, Hid (A1 = L + k3) := ⟨_, Lib.hid rfl⟩
                    obtain ⟨J1, hJ1⟩ : ∃ J1, Hid (J1 = J - 1) := ⟨_, Lib.hid rfl⟩
                    obtain ⟨A2, hA2⟩ : ∃ A2, Hid (A2 = J1 - k3) := ⟨_, Lib.hid rfl⟩
                    have hA1J : A1 < J := by rw [hA1.out, hJ.out]; omega
                    have hA2J : A2 < J := by rw [hA2.out, hJ1.out, hJ.out]; omega
                    obtain ⟨bc, oc, rfl, cc⟩ := HC5.out.cellAt HZ.out A1 (by rw [HAl.out.1]; exact hA1J)
                    obtain ⟨bd, od, rfl, cd⟩ := HD5.out.cellAt HZ.out A2 (by rw [HAl.out.2]; exact hA2J)
                    have e1 : A.getD A1 0 = B.getD A2 0 := by
                      have := back_tail l X N HSN.out k3 hlt3
                      rw [hA.out, hB.out, show A1 = l.length + k3 by rw [hA1.out, hL.out], show A2 = l.length + N - 1 - k3 by rw [hA2.out, hJ1.out, hJ.out, hL.out]]
                      exact this
                    rw [e1] at cc
                    clear e1
                    generalize B.getD A2 0 = c at cc cd
                    have hu1 : IntKind.i64.wrap ((L : Int) + (k3 : Int)) = (A1 : Int) := by
                      rw [hA1.out]
                      rw [IntWalk.i64_in _ (by omega)]
                      simp
                    have hu2 : IntKind.i64.wrap ((J : Int) - 1) = (J1 : Int) := by
                      rw [hJ1.out]
                      have := hJ.out
                      rw [IntWalk.i64_in _ (by omega)]
                      omega
                    have hu3 : IntKind.i64.wrap ((J1 : Int) - (k3 : Int)) = (A2 : Int) := by
                      rw [hA2.out]
                      have := hJ.out
                      have := hJ1.out
                      rw [IntWalk.i64_in _ (by omega)]
                      omega
                    go_wp2_with fail
                    go_still (by kernel_rfl)
                    go_wp2
                    exact ⟨⟨k3 + 1, by omega, by go_num, HZ.out.drew⟩, by simp [intOf]; omega⟩
                  · go_wp2
                    exact ⟨⟨k + 1, by omega, by go_num, HBB5.out.trans (HZ.out.mono HBB5.out.size)⟩, by simp [intOf]; omega⟩
          · have hN : N = 8 := by omega
            have hYX : Y = X := by
              rw [hY.out, hN]
              have := HX.out
              exact Nat.mod_eq_of_lt (by omega)
            subst hYX
            clear hN
            have h88 : 8 ≤ N := by omega
            clear h8
            go_wp2_with fail
            refine (HP.out _ _ (HV1.out.below HBB.out)).mono ?_
            rintro e w2 ⟨ac, capc, rfl, hc2, hb2⟩
            have HBB2 := Lib.hid (HBB.out.trans (hb2.mono HBB.out.size))
            have HC2 := Lib.hid hc2
            clear hb2 hc2
            go_wp2_with fail
            refine (HQ.out _ _ (HV1.out.below HBB2.out)).mono ?_
            rintro e w3 ⟨ad, capd, rfl, hd3, hb3⟩
            have HBB3 := Lib.hid (HBB2.out.trans (hb3.mono HBB2.out.size))
            have HC3 := Lib.hid (HC2.out.below hb3)
            have HD3 := Lib.hid hd3
            clear hb3 hd3
            go_wp2_with fail
            refine (HG.out _ _ HC3.out).mono ?_
            rintro e w4 ⟨rfl, hb4⟩
            have HBB4 := Lib.hid (HBB3.out.trans (hb4.mono HBB3.out.size))
            have HC4 := Lib.hid (HC3.out.below hb4)
            have HD4 := Lib.hid (HD3.out.below hb4)
            clear hb4
            go_wp2_with fail
            refine (HH.out _ _ HD4.out).mono ?_
            rintro e w5 ⟨rfl, hb5⟩
            have HBB5 := Lib.hid (HBB4.out.trans (hb5.mono HBB4.out.size))
            have HC5 := Lib.hid (HC4.out.below hb5)
            have HD5 := Lib.hid (HD4.out.below hb5)
            have HV5 := Lib.hid (HV1.out.below HBB5.out)
            clear hb5 HBB2 HC2 HBB3 HC3 HD3 HBB4 HC4 HD4 hcN
            go_wp2_with fail
            go_loopw [17] (fun i wq => ∃ k2 : Nat, k2 ≤ L ∧ i = .int .i64 k2 ∧ Below w5.heap.size w5 wq) (fun i _ => L - (intOf i).toNat)
            case atStart => exact ⟨0, by omega, rfl, Below.refl _ _⟩
            case round =>
              obtain ⟨k2, hk2, rfl, hq⟩ := hrel
              have HQ5 := Lib.hid hq
              clear hq
              by_cases hlt2 : k2 < L
              · obtain ⟨bc, oc, rfl, cc⟩ := HC5.out.cellAt HQ5.out k2 (by rw [HAl.out.1, hJ.out]; omega)
                obtain ⟨bd, od, rfl, cd⟩ := HD5.out.cellAt HQ5.out k2 (by rw [HAl.out.2, hJ.out]; omega)
                obtain ⟨bb, ob, rfl, cb⟩ := HV5.out.cellAt HQ5.out k2 (by rw [← hL.out]; omega)
                have e1 : A.getD k2 0 = l.getD k2 0 := by rw [hA.out]; exact (back_head l Y N HSN.out k2 (by rw [← hL.out]; exact hlt2)).1
                have e2 : B.getD k2 0 = l.getD k2 0 := by rw [hB.out]; exact (back_head l Y N HSN.out k2 (by rw [← hL.out]; exact hlt2)).2
                rw [e1] at cc
                rw [e2] at cd
                clear e1 e2
                generalize l.getD k2 0 = c at cc cd cb
                have hkJ : k2 < J := by rw [hJ.out]; omega
                go_wp2_with fail
                go_still (by kernel_rfl)
                go_wp2
                exact ⟨⟨k2 + 1, by omega, by go_num, HQ5.out.drew⟩, by simp [intOf]; omega⟩
              · go_wp2_with fail
                go_loopw [18] (fun i wz => ∃ k3 : Nat, k3 ≤ N ∧ i = .int .i64 k3 ∧ Below w5.heap.size w5 wz) (fun i _ => N - (intOf i).toNat)
                case atStart => exact ⟨0, by omega, rfl, HQ5.out⟩
                case round =>
                  obtain ⟨k3, hk3, rfl, hz⟩ := hrel
                  have HZ := Lib.hid hz
                  clear hz
                  by_cases hlt3 : k3 < N
                  · obtain ⟨A1, hA1⟩ : ∃ A1, Hid (A1 = L + k3) := ⟨_, Lib.hid rfl⟩
                    obtain ⟨J1, hJ1⟩ : ∃ J1, Hid (J1 = J - 1) := ⟨_, Lib.hid rfl⟩
                    obtain ⟨A2, hA2⟩ : ∃ A2, Hid (A2 = J1 - k3) := ⟨_, Lib.hid rfl⟩
                    have hA1J : A1 < J := by rw [hA1.out, hJ.out]; omega
                    have hA2J : A2 < J := by rw [hA2.out, hJ1.out, hJ.out]; omega
                    obtain ⟨bc, oc, rfl, cc⟩ := HC5.out.cellAt HZ.out A1 (by rw [HAl.out.1]; exact hA1J)
                    obtain ⟨bd, od, rfl, cd⟩ := HD5.out.cellAt HZ.out A2 (by rw [HAl.out.2]; exact hA2J)
                    have e1 : A.getD A1 0 = B.getD A2 0 := by
                      have := back_tail l Y N HSN.out k3 hlt3
                      rw [hA.out, hB.out, show A1 = l.length + k3 by rw [hA1.out, hL.out], show A2 = l.length + N - 1 - k3 by rw [hA2.out, hJ1.out, hJ.out, hL.out]]
                      exact this
                    rw [e1] at cc
                    clear e1
                    generalize B.getD A2 0 = c at cc cd
                    have hu1 : IntKind.i64.wrap ((L : Int) + (k3 : Int)) = (A1 : Int) := by
                      rw [hA1.out]
                      rw [IntWalk.i64_in _ (by omega)]
                      simp
                    have hu2 : IntKind.i64.wrap ((J : Int) - 1) = (J1 : Int) := by
                      rw [hJ1.out]
                      have := hJ.out
                      rw [IntWalk.i64_in _ (by omega)]
                      omega
                    have hu3 : IntKind.i64.wrap ((J1 : Int) - (k3 : Int)) = (A2 : Int) := by
                      rw [hA2.out]
                      have := hJ.out
                      have := hJ1.out
                      rw [IntWalk.i64_in _ (by omega)]
                      omega
                    go_wp2_with fail
                    go_still (by kernel_rfl)
                    go_wp2
                    exact ⟨⟨k3 + 1, by omega, by go_num, HZ.out.drew⟩, by simp [intOf]; omega⟩
                  · go_wp2
                    exact ⟨⟨k + 1, by omega, by go_num, HBB5.out.trans (HZ.out.mono HBB5.out.size)⟩, by simp [intOf]; omega⟩
        · obtain ⟨p, hps, hpl⟩ := str_l s
          have hWN : ∃ (n1 : Nat) (T1 : ByteArray) (A1 : List UInt8), (∀ w, Calls Try.prog 25 #[.string s] w fun e w' => ∃ a cap, e = .returned (.slice a n1 cap) ∧ OwnB w' w.heap.size (.slice a n1 cap) A1 ∧ Below w.heap.size w w') ∧
              (∀ v w, Byt w v A1 → Calls Try.prog 23 #[v] w fun e w' => e = .returned (.tuple #[.string T1, .int .i64 0]) ∧ Below w.heap.size w w') ∧ (n1 = 0 ∨ (1 ≤ n1 ∧ T1 = s)) := by
            cases ha : p.all letB with
            | false =>
              refine ⟨0, ⟨#[]⟩, [], fun w => ?_, fun v w h => ?_, .inl rfl⟩
              · rw [hps]; exact wide_open p w (by omega) 0 [] (wideL_none p ha) rfl
              · have h2 := narrow_calls v [] w h (by decide)
                rw [show narS [] = [] by decide, show narE [] = 0 by decide] at h2
                exact h2
            | true =>
              refine ⟨2 * s.size, s, dbl p, fun w => ?_, fun v w h => ?_, ?_⟩
              · have := wide_open p w (by omega) (2 * s.size) (dbl p) (wideL_all p ha) (by rw [dbl_length, hpl])
                rw [← hps] at this
                exact this
              · have h2 := narrow_calls v (dbl p) w h (by rw [dbl_length]; omega)
                rw [(narS_dbl p ha).1, (narS_dbl p ha).2, ← hps] at h2
                exact h2
              · by_cases h0 : s.size = 0
                · left; omega
                · right; exact ⟨by omega, rfl⟩
          have hNB : ∃ (T : ByteArray) (E : Int), (∀ v w, Byt w v l → Calls Try.prog 23 #[v] w fun e w' => e = .returned (.tuple #[.string T, .int .i64 E]) ∧ Below w.heap.size w w') ∧
              (E = 9 ∨ (E = 0 ∧ ∀ w, Calls Try.prog 25 #[.string T] w fun e w' => ∃ v', e = .returned v' ∧ OwnB w' w.heap.size v' l ∧ Below w.heap.size w w')) := by
            refine ⟨sOf (narS l), narE l, fun v w h => narrow_calls v l w h hLl.out, ?_⟩
            cases hok : narOk l with
            | false => left; exact (narE_bad l hok).2
            | true =>
              right
              refine ⟨(wide_narS l hok).2, fun w => ?_⟩
              have h2 := wide_calls (narS l) w (by
                have h4 := narS_len l hok
                have := hLl.out
                omega)
              rw [(wide_narS l hok).1] at h2
              exact h2
          obtain ⟨n1, T1, A1, hW, hN, hn1⟩ := hWN
          obtain ⟨T, E, hNb, hE⟩ := hNB
          have HW := Lib.hid hW
          have HN := Lib.hid hN
          have HNb := Lib.hid hNb
          have HBW := Lib.hid (HB1.out.trans (HBB.out.mono (by omega)))
          have HVr := Lib.hid (HV1.out.below HBB.out)
          clear hW hN hNb hps hpl HS HV1 HV HB1
          rcases hE with rfl | ⟨rfl, hWT⟩
          · rcases hn1 with rfl | ⟨hn1, rfl⟩
            all_goals
              go_wp2_with fail
              refine (HW.out _).mono ?_
              rintro e w2 ⟨a2, cap2, rfl, hown2, hb2⟩
              have HV2 := Lib.hid (HVr.out.below hb2)
              have HBW2 := Lib.hid (HBW.out.trans (hb2.mono HBW.out.size))
              have HO2 := Lib.hid hown2.byt
              clear hb2 hown2
              go_wp2_with fail
              refine (HN.out _ _ HO2.out).mono ?_
              rintro e w3 ⟨rfl, hb3⟩
              have HV3 := Lib.hid (HV2.out.below hb3)
              have HBW3 := Lib.hid (HBW2.out.trans (hb3.mono HBW2.out.size))
              clear hb3
              go_wp2_with fail
              refine (HNb.out _ _ HV3.out).mono ?_
              rintro e w4 ⟨rfl, hb4⟩
              go_wp2_with (go_at_call 12; refine (works_calls _).mono ?_; rintro e w8 ⟨rfl, hb8⟩)
              go_ret
              have B4 := HBW3.out.trans (hb4.mono HBW3.out.size)
              exact ⟨rfl, B4.trans (hb8.mono B4.size)⟩
          · have HWT := Lib.hid hWT
            clear hWT
            rcases hn1 with rfl | ⟨hn1, rfl⟩
            all_goals
              go_wp2_with fail
              refine (HW.out _).mono ?_
              rintro e w2 ⟨a2, cap2, rfl, hown2, hb2⟩
              have HV2 := Lib.hid (HVr.out.below hb2)
              have HBW2 := Lib.hid (HBW.out.trans (hb2.mono HBW.out.size))
              have HO2 := Lib.hid hown2.byt
              clear hb2 hown2
              go_wp2_with fail
              refine (HN.out _ _ HO2.out).mono ?_
              rintro e w3 ⟨rfl, hb3⟩
              have HV3 := Lib.hid (HV2.out.below hb3)
              have HBW3 := Lib.hid (HBW2.out.trans (hb3.mono HBW2.out.size))
              clear hb3
              go_wp2_with fail
              refine (HNb.out _ _ HV3.out).mono ?_
              rintro e w4 ⟨rfl, hb4⟩
              have HV4 := Lib.hid (HV3.out.below hb4)
              have HBW4 := Lib.hid (HBW3.out.trans (hb4.mono HBW3.out.size))
              clear hb4
              go_wp2_with fail
              refine (HWT.out _).mono ?_
              rintro e w5 ⟨v5, rfl, hown5, hb5⟩
              have HQ := Lib.hid (eqBytes_calls _ _ _ _ _ hown5.byt (HV4.out.below hb5))
              go_wp2_with (first
                | (go_at_call 20; refine HQ.out.mono ?_; rintro e w6 ⟨rfl, rfl⟩)
                | (go_at_call 12; refine (works_calls _).mono ?_; rintro e w8 ⟨rfl, hb8⟩))
              go_ret
              have B5 := HBW4.out.trans (hb5.mono HBW4.out.size)
              exact ⟨rfl, B5.trans (hb8.mono B5.size)⟩
end Go.Proofs.Ytookmdkcpbpofaa
