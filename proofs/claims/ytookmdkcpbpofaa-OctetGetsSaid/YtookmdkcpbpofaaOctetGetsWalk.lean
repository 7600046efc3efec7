/-
  The walk of the law OctetGets.
-/
import Derived.Test.YtookmdkcpbpofaaCutOpen
import Derived.Test.YtookmdkcpbpofaaOct11
import Derived.Test.YtookmdkcpbpofaaSit
import Derived.OpenShut
namespace Go.Proofs.Ytookmdkcpbpofaa
open Go Go.RowKit

set_option maxHeartbeats 3200000 in
theorem octetGets_walk (v : Value) (l : List UInt8) (p n : Int) (w : World) (hv : Byt w v l) (hp : (Lit.int .i64 p).wf = true) (hn : (Lit.int .i64 n).wf = true) :
    Calls Try.prog 3 #[v, .int .i64 p, .int .i64 n] w fun e w' => e = .returned (.bool true) ∧ Below w.heap.size w w' := by
  have hp1 := bounds_i64 hp
  have hn1 := bounds_i64 hn
  clear hp hn
  obtain ⟨a, cap, rfl, h1, h2, _⟩ := hv.open
  unfold maxLen at h2
  by_cases hb : 131072 < l.length
  · go_enter Try.func3, Try.ntmps3
    go_wp2_with (go_at_call 12; refine (works_calls _).mono ?_; rintro e w1 ⟨rfl, hb1⟩)
    go_ret
    exact ⟨rfl, hb1⟩
  · have ip : I64 p := by unfold I64; omega
    have i_n : I64 n := by unfold I64; omega
    have hll : l.length ≤ 1000000000000 := by omega
    obtain ⟨X, hX⟩ : ∃ X, Hid (X = (gotL l p n : Int)) := ⟨_, Lib.hid rfl⟩
    obtain ⟨Y, hY⟩ : ∃ X, Hid (X = (gotB l p n : Int)) := ⟨_, Lib.hid rfl⟩
    obtain ⟨E, hE⟩ : ∃ X, Hid (X = gotE l p n) := ⟨_, Lib.hid rfl⟩
    obtain ⟨C, hC⟩ : ∃ X, Hid (X = cutL l p n) := ⟨_, Lib.hid rfl⟩
    obtain ⟨m, hm⟩ : ∃ X, Hid (X = C.length) := ⟨_, Lib.hid rfl⟩
    obtain ⟨W, hW⟩ : ∃ X, Hid (X = withinB l.length p n) := ⟨_, Lib.hid rfl⟩
    have HCl : Hid (C.length ≤ 1000000) := Lib.hid (by rw [hC.out]; have := cutL_length_le l p n; omega)
    have HG := Lib.hid (fun v w hv => get_calls v l p n w hv ip i_n hll)
    have HRG := Lib.hid (fun v w hv => refGet_calls v l p n w hv ip i_n hll)
    have HB := Lib.hid (fun v w hv => getBig_calls v l p n w hv ip i_n hll)
    have HRB := Lib.hid (fun v w hv => refGetBig_calls v l p n w hv ip i_n hll)
    have HC : Hid (∀ v w, Byt w v l → Calls Try.prog 18 #[v, .int .i64 p, .int .i64 n] w fun e w' => ∃ a cap, e = .returned (.tuple #[.slice a m cap, .bool W]) ∧ OwnB w' w.heap.size (.slice a m cap) C ∧ Below w.heap.size w w') := Lib.hid (fun v w hv => (cut_calls v l p n w hv ip i_n hll).mono (by
      rintro e w' ⟨v', rfl, ho, hb⟩
      obtain ⟨a, c, e1, _, _⟩ := Own.shape ho
      rw [← hC.out, ← hm.out] at e1
      subst e1
      exact ⟨a, c, by rw [hW.out], by rw [hC.out]; exact ho, hb⟩))
    have HRC : Hid (∀ v w, Byt w v l → Calls Try.prog 19 #[v, .int .i64 p, .int .i64 n] w fun e w' => ∃ v', e = .returned (.tuple #[v', .bool W]) ∧ OwnB w' w.heap.size v' C ∧ Below w.heap.size w w') := Lib.hid (fun v w hv => by
      rw [hC.out, hW.out]; exact refCut_calls v l p n w hv ip i_n hll)
    rw [← hX.out, ← hE.out] at HG HRG
    rw [← hY.out, ← hE.out] at HB HRB
    have S := Lib.hid (Sit.start1 w _ l hv)
    clear hv hp1 hn1 ip i_n
    go_enter Try.func3, Try.ntmps3
    go_wp2_with (go_at_call 13; refine (S.out.roomy _ l _ rfl S.out.r0 (by omega)).mono ?_; rintro e w1 ⟨g, cap1, rfl, hin, S1⟩)
    replace S := Lib.hid S1
    replace hin := Lib.hid hin
    clear S1
    go_wp2_with (first
      | (go_at_call 14; refine (HG.out _ _ S.out.o0.byt).mono ?_; rintro e w2 ⟨rfl, hb⟩; replace S := Lib.hid (S.out.call hb); replace hin := Lib.hid (hin.out.below hb); clear hb)
      | (go_at_call 15; refine (HRG.out _ _ S.out.r0).mono ?_; rintro e w2 ⟨rfl, hb⟩; replace S := Lib.hid (S.out.call hb); replace hin := Lib.hid (hin.out.below hb); clear hb)
      | (go_at_call 16; refine (HB.out _ _ S.out.o0.byt).mono ?_; rintro e w2 ⟨rfl, hb⟩; replace S := Lib.hid (S.out.call hb); replace hin := Lib.hid (hin.out.below hb); clear hb)
      | (go_at_call 17; refine (HRB.out _ _ S.out.r0).mono ?_; rintro e w2 ⟨rfl, hb⟩; replace S := Lib.hid (S.out.call hb); replace hin := Lib.hid (hin.out.below hb); clear hb))
    go_wp2_with (go_at_call 18; refine (HC.out _ _ S.out.o0.byt).mono ?_; rintro e w2 ⟨a1, c1, rfl, ho, hb⟩; replace S := Lib.hid (S.out.born hb ho); replace hin := Lib.hid (hin.out.below hb); clear hb ho)
    go_wp2_with (first
      | (go_at_call 19; refine (HRC.out _ _ S.out.r0).mono ?_; rintro e w2 ⟨v2, rfl, ho, hb⟩; replace S := Lib.hid (S.out.born hb ho); replace hin := Lib.hid (hin.out.below hb); clear hb ho)
      | (go_at_call 20; refine (eqB_true _ _ C _ S.out.o1.byt S.out.o0.byt).mono ?_; rintro e w2 ⟨rfl, rfl⟩)
      | (go_at_call 21; refine (kept_calls _ g _ cap1 _ l l _ rfl hin.out S.out.r0).mono ?_; rintro e w2 ⟨rfl, rfl⟩; rw [decide_eq_true rfl])
      | (go_at_call 18; refine (HC.out _ _ S.out.o2.byt).mono ?_; rintro e w2 ⟨a3, c3, rfl, ho, hb⟩; replace S := Lib.hid (S.out.born hb ho); replace hin := Lib.hid (hin.out.below hb); clear hb ho))
    have HA := Lib.hid (S.out.apart [2, 0, 3] #[.slice a1 m c1, .slice a3 m c3, .slice (some ⟨g, 0, none⟩) l.length cap1] 3 (by decide) (by simp) rfl rfl (by decide) (by decide) (len_all _ (by
      have := HCl.out
      intro x hx
      simp only [List.mem_cons, List.not_mem_nil, or_false] at hx
      rcases hx with rfl | rfl | rfl | rfl <;> omega)))
    go_wp2_with (first
      | (go_at_call 22; refine HA.out.mono ?_; rintro e w3 ⟨rfl, hb3⟩; have HB3 := Lib.hid hb3; clear hb3)
      | (go_at_call 12; refine (works_calls _).mono ?_; rintro e w4 ⟨rfl, hb4⟩; have HB4 := Lib.hid hb4; clear hb4))
    go_ret
    exact ⟨rfl, HB3.out.trans (HB4.out.mono HB3.out.size)⟩
end Go.Proofs.Ytookmdkcpbpofaa
