/-
  The walk of the law OctetCuts.
-/
import Derived.Test.YtookmdkcpbpofaaCutOpen
import Derived.OpenShut
namespace Go.Proofs.Ytookmdkcpbpofaa
open Go Go.RowKit

theorem seg_split (l : List UInt8) (P N C : Nat) (h : C ≤ N) : seg l P C ++ seg l ((P + C : Nat) : Int) ((N - C : Nat) : Int) = seg l P N := by
  unfold seg
  simp only [Int.toNat_natCast]
  rw [← List.drop_drop, ← List.take_add]
  congr 1
  omega

set_option maxHeartbeats 3200000 in
theorem octetCuts_walk (v : Value) (l : List UInt8) (p n c : Int) (w : World) (hv : Byt w v l) (hp : (Lit.int .i64 p).wf = true) (hn : (Lit.int .i64 n).wf = true) (hc : (Lit.int .i64 c).wf = true) :
    Calls Try.prog 6 #[.agg #[v, .int .i64 p, .int .i64 n, .int .i64 c]] w fun e w' => e = .returned (.bool true) ∧ Below w.heap.size w w' := by
  have hp1 := bounds_i64 hp
  have hn1 := bounds_i64 hn
  have hc1 := bounds_i64 hc
  clear hp hn hc
  obtain ⟨a, cap, rfl, h1, h2, _⟩ := hv.open
  unfold maxLen at h2
  obtain ⟨L, hL⟩ : ∃ L, Hid (L = l.length) := ⟨_, Lib.hid rfl⟩
  have hv' : Byt w (.slice a L cap) l := by rw [hL.out]; exact hv
  rw [← hL.out] at h1 ⊢
  have hB0 : Below w.heap.size w (w.alloc (.cells #[.slice a L cap, .int .i64 p, .int .i64 n, .int .i64 c] 40)) := (Below.refl _ _).alloc (Nat.le_refl _) _
  have HB0 := Lib.hid hB0
  have HV0 := Lib.hid (hv'.below hB0)
  clear hB0 hv hv'
  by_cases hb : 65536 < L
  · go_enter Try.func6, Try.ntmps6
    go_wp2_with (go_at_call 12; refine (works_calls _).mono ?_; rintro e w1 ⟨rfl, hb1⟩)
    go_ret
    exact ⟨rfl, HB0.out.trans (hb1.mono HB0.out.size)⟩
  · have hLl : l.length ≤ 1000000000000 := by have := hL.out; omega
    have ip : I64 p := by unfold I64; omega
    have i_n : I64 n := by unfold I64; omega
    cases hw : withinB l.length p n with
    | false =>
      have HC := Lib.hid (cut_open l p n ip i_n hLl 0 [] false (by unfold cutL; rw [hw]; rfl) rfl hw)
      have hno : ¬ (0 ≤ p ∧ 0 ≤ n ∧ p ≤ (L : Int) ∧ n ≤ (L : Int) - p) := fun h => by
        rw [hL.out] at h
        rw [(withinB_iff _ _ _).2 h] at hw
        cases hw
      clear hw ip i_n hLl
      have hcs : p < 0 ∨ (0 ≤ p ∧ n < 0) ∨ (0 ≤ p ∧ 0 ≤ n ∧ (L : Int) < p) ∨ (0 ≤ p ∧ 0 ≤ n ∧ p ≤ (L : Int) ∧ (L : Int) - p < n) := by omega
      clear hno
      rcases hcs with q | ⟨q1, q⟩ | ⟨q1, q2, q⟩ | ⟨q1, q2, q3, q⟩
      all_goals
        go_enter Try.func6, Try.ntmps6
        go_wp2_with (first
          | (go_at_call 18; refine (HC.out _ _ HV0.out).mono ?_; rintro e w1 ⟨a1, cap1, rfl, hown1, hb1⟩)
          | (go_at_call 12; refine (works_calls _).mono ?_; rintro e w2 ⟨rfl, hb2⟩))
        go_ret
        have B1 := HB0.out.trans (hb1.mono HB0.out.size)
        exact ⟨rfl, B1.trans (hb2.mono B1.size)⟩
    | true =>
      obtain ⟨q1, q2, q3, q4⟩ := (withinB_iff _ _ _).1 hw
      rw [← hL.out] at q3 q4
      obtain ⟨P, rfl⟩ := Int.eq_ofNat_of_zero_le q1
      obtain ⟨N, rfl⟩ := Int.eq_ofNat_of_zero_le q2
      have HC := Lib.hid (cut_open l P N ip i_n hLl N (seg l P N) true (by unfold cutL; rw [hw]; rfl) (by rw [seg_length l P N hw]; omega) hw)
      by_cases hcc : 0 ≤ c ∧ c ≤ (N : Int)
      · obtain ⟨C, rfl⟩ := Int.eq_ofNat_of_zero_le hcc.1
        have hCN : C ≤ N := by omega
        obtain ⟨S1, hS1⟩ : ∃ S, Hid (S = P + C) := ⟨_, Lib.hid rfl⟩
        obtain ⟨D1, hD1⟩ : ∃ D, Hid (D = N - C) := ⟨_, Lib.hid rfl⟩
        have hPL : P + N ≤ L := by omega
        have hw1 : withinB l.length (P : Int) (C : Int) = true := by rw [withinB_iff, ← hL.out]; omega
        have hw2 : withinB l.length (S1 : Int) (D1 : Int) = true := by
          rw [withinB_iff, ← hL.out, hS1.out, hD1.out]; omega
        have HC1 := Lib.hid (cut_open l P C (by unfold I64; omega) (by unfold I64; omega) hLl C (seg l P C) true (by unfold cutL; rw [hw1]; rfl) (by rw [seg_length l P C hw1]; omega) hw1)
        have HC2 := Lib.hid (cut_open l S1 D1 (by unfold I64; have := hS1.out; omega) (by unfold I64; have := hD1.out; omega) hLl D1 (seg l S1 D1) true (by unfold cutL; rw [hw2]; rfl) (by rw [seg_length l S1 D1 hw2]; omega) hw2)
        have hsp : Hid (seg l P C ++ seg l S1 D1 = seg l P N) := Lib.hid (by rw [hS1.out, hD1.out]; exact seg_split l P N C hCN)
        have hle : Hid ((seg l P C).length + (seg l S1 D1).length ≤ 1000000) := Lib.hid (by
          rw [seg_length l P C hw1, seg_length l S1 D1 hw2]
          have := hD1.out
          omega)
        have hadd : IntKind.i64.wrap ((P : Int) + (C : Int)) = (S1 : Int) := by
          rw [hS1.out]
          rw [IntWalk.i64_in _ (by omega)]
          simp
        have hsub : IntKind.i64.wrap ((N : Int) - (C : Int)) = (D1 : Int) := by
          rw [hD1.out]
          rw [IntWalk.i64_in _ (by omega)]
          omega
        clear hw hw1 hw2 ip i_n hLl q1 q2 q3 q4 hcc hp1 hn1 hc1 hPL
        go_enter Try.func6, Try.ntmps6
        go_wp2_with fail
        refine (HC.out _ _ HV0.out).mono ?_
        rintro e w1 ⟨a1, cap1, rfl, hown1, hb1⟩
        have HV1 := Lib.hid (HV0.out.below hb1)
        have HB1 := Lib.hid (HB0.out.trans (hb1.mono HB0.out.size))
        have HA1 := Lib.hid hown1.byt
        clear hown1 hb1
        go_wp2_with fail
        refine (HC1.out _ _ HV1.out).mono ?_
        rintro e w2 ⟨a2, cap2, rfl, hown2, hb2⟩
        have HV2 := Lib.hid (HV1.out.below hb2)
        have HO2 := Lib.hid hown2
        have HC12 := Lib.hid hb2
        clear hown2 hb2
        go_wp2_with fail
        refine (HC2.out _ _ HV2.out).mono ?_
        rintro e w3 ⟨a3, cap3, rfl, hown3, hb3⟩
        have HO3 := Lib.hid (HO2.out.below hb3)
        have HC13 := Lib.hid (HC12.out.trans (hb3.mono HC12.out.size))
        have HW := Lib.hid hown3.byt
        clear hown3 hb3
        go_wp2_with (first
          | (at_builtin; refine wpList_append_byt rfl _ _ rfl w1.heap.size _ (seg l P C) rfl HO3.out _ (seg l S1 D1) rfl HW.out (by have := hle.out; omega) HC13.out.size ?_; rw [hsp.out]; intro v4 w4 hown4 hg4 _; have hB14 := HC13.out.grown hg4 HC13.out.size (fun j hj => (HO3.out.lt j hj).1); have HQ := Lib.hid (eqBytes_calls _ _ _ _ _ (HA1.out.below hB14) hown4.byt))
          | (go_at_call 20; refine HQ.out.mono ?_; rintro e w7 ⟨rfl, rfl⟩)
          | (go_at_call 12; refine (works_calls _).mono ?_; rintro e w8 ⟨rfl, hb8⟩))
        go_ret
        have B4 := HB1.out.trans (hB14.mono HB1.out.size)
        exact ⟨rfl, B4.trans (hb8.mono B4.size)⟩
      · clear hw ip i_n hLl
        have hcs : c < 0 ∨ (0 ≤ c ∧ (N : Int) < c) := by omega
        clear hcc
        rcases hcs with q | ⟨q5, q⟩
        all_goals
          go_enter Try.func6, Try.ntmps6
          go_wp2_with (first
            | (go_at_call 18; refine (HC.out _ _ HV0.out).mono ?_; rintro e w1 ⟨a1, cap1, rfl, hown1, hb1⟩)
            | (go_at_call 12; refine (works_calls _).mono ?_; rintro e w2 ⟨rfl, hb2⟩))
          go_ret
          have B1 := HB0.out.trans (hb1.mono HB0.out.size)
          exact ⟨rfl, B1.trans (hb2.mono B1.size)⟩
end Go.Proofs.Ytookmdkcpbpofaa
