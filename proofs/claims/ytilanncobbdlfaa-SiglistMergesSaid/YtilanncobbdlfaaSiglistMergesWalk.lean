/-
  The walk of the law SiglistMerges.
-/
import Derived.Test.YtilanncobbdlfaaSgN
namespace Go.Proofs.Ytilanncobbdlfaa
open Go Go.RowKit
set_option linter.unusedVariables false

def MrgForm (R : List UInt8) (E : Int) (w : World) (e : Ending) (w' : World) : Prop := ∃ x n c, e = .returned (.tuple #[.slice x n c, .int .i64 E]) ∧ Hid (OwnB w' w.heap.size (.slice x n c) R) ∧ Below w.heap.size w w'
theorem mrg_of {f : FuncId} {a b : Value} {A B : List UInt8} {w : World} (h : Calls Try.prog f #[a, b] w (MrgRes A B w)) (R : List UInt8) (hR : R = mrgR A B) (E : Int) (hE : E = mrgE A B) : Calls Try.prog f #[a, b] w (MrgForm R E w) := by
  subst hR hE
  refine h.mono fun e w' hr => ?_
  unfold MrgRes at hr
  obtain ⟨x, n, c, rfl, ho, hb⟩ := hr
  exact ⟨x, n, c, rfl, Lib.hid ho, hb⟩
set_option maxRecDepth 100000 in
set_option maxHeartbeats 4000000 in
theorem siglistMerges_walk (v : Value) (l : List UInt8) (q : Value) (d : List UInt8) (w : World) (hv : Byt w v l) (hq : Byt w q d) :
    Calls Try.prog 3 #[v, q] w fun e w' => e = .returned (.bool true) ∧ Below w.heap.size w w' := by
  have HV := Lib.hid hv
  have HQ := Lib.hid hq
  obtain ⟨av, cv, rfl, v1, v2, _⟩ := hv.open
  obtain ⟨aq, cq, rfl, q1, q2, _⟩ := hq.open
  clear hv hq
  unfold maxLen at v2 q2
  obtain ⟨nv, hnv⟩ : ∃ n, Hid (n = l.length) := ⟨_, Lib.hid rfl⟩
  obtain ⟨nq, hnq⟩ : ∃ n, Hid (n = d.length) := ⟨_, Lib.hid rfl⟩
  rw [← hnv.out] at HV v1 ⊢
  rw [← hnq.out] at HQ q1 ⊢
  by_cases hb1 : 20000 < nv
  · have e1 : decide ((20000 : Int) < (nv : Int)) = true := by simp; omega
    go_enter Try.func3, Try.ntmps3
    go_wp2_with fail
    refine (works_calls _).mono ?_
    rintro e w1 ⟨rfl, hb⟩
    go_wp2
    go_ret
    exact ⟨rfl, hb⟩
  have e1 : decide ((20000 : Int) < (nv : Int)) = false := by simp; omega
  by_cases hb2 : 20000 < nq
  · have e2 : decide ((20000 : Int) < (nq : Int)) = true := by simp; omega
    go_enter Try.func3, Try.ntmps3
    go_wp2_with fail
    refine (works_calls _).mono ?_
    rintro e w1 ⟨rfl, hb⟩
    go_wp2
    go_ret
    exact ⟨rfl, hb⟩
  have e2 : decide ((20000 : Int) < (nq : Int)) = false := by simp; omega
  have HNV : Hid (l.length ≤ 20000) := Lib.hid (by rw [← hnv.out]; omega)
  have HNQ : Hid (d.length ≤ 20000) := Lib.hid (by rw [← hnq.out]; omega)
  obtain ⟨R, hR⟩ : ∃ R, Hid (R = mrgR l d) := ⟨_, Lib.hid rfl⟩
  obtain ⟨E, hE⟩ : ∃ E, Hid (E = mrgE l d) := ⟨_, Lib.hid rfl⟩
  have hee : (E == E) = true := by simp
  go_enter Try.func3, Try.ntmps3
  go_wp2_with fail
  refine (twin_calls _ l _ HV.out (by have := HNV.out; omega)).mono ?_
  rintro e w1 ⟨u1, rfl, ho, hb⟩
  have HB1 := Lib.hid hb
  have HS1 := Lib.hid ho
  clear ho hb
  go_wp2_with fail
  refine (twin_calls _ d _ (HQ.out.below HB1.out) (by have := HNQ.out; omega)).mono ?_
  rintro e w2 ⟨u2, rfl, ho, hb⟩
  have HB2 := Lib.hid (HB1.out.trans (hb.mono HB1.out.size))
  have HS2 := Lib.hid (OwnB.below HS1.out hb)
  have HT2 := Lib.hid ho.byt
  clear ho hb
  go_wp2_with fail
  refine (mrg_of (merge_calls _ _ l d _ HS2.out.byt HT2.out (by have := HNV.out; omega) (by have := HNQ.out; omega)) R hR.out E hE.out).mono ?_
  rintro e w3 ⟨x3, n3, c3, rfl, ho, hb⟩
  have HB3 := Lib.hid (HB2.out.trans (hb.mono HB2.out.size))
  have HS3 := Lib.hid (HS2.out.byt.below hb)
  have HT3 := Lib.hid (HT2.out.below hb)
  have HC3 := Lib.hid ho.out.byt
  clear ho hb
  go_wp2_with fail
  refine (mrg_of (refMerge_calls _ _ l d _ (HV.out.below HB3.out) (HQ.out.below HB3.out) (by have := HNV.out; omega) (by have := HNQ.out; omega)) R hR.out E hE.out).mono ?_
  rintro e w4 ⟨x4, n4, c4, rfl, ho, hb⟩
  have HB4 := Lib.hid (HB3.out.trans (hb.mono HB3.out.size))
  have HS4 := Lib.hid (HS3.out.below hb)
  have HT4 := Lib.hid (HT3.out.below hb)
  have HC4 := Lib.hid (HC3.out.below hb)
  have HD4 := Lib.hid ho.out.byt
  clear ho hb
  go_wp2_with fail
  refine (same_form R R true (decide_eq_true rfl) _ _ _ HC4.out HD4.out).mono ?_
  rintro e w' ⟨rfl, rfl⟩
  go_wp2_with fail
  refine (same_form l l true (decide_eq_true rfl) _ _ _ HS4.out (HV.out.below HB4.out)).mono ?_
  rintro e w' ⟨rfl, rfl⟩
  go_wp2_with fail
  refine (same_form d d true (decide_eq_true rfl) _ _ _ HT4.out (HQ.out.below HB4.out)).mono ?_
  rintro e w' ⟨rfl, rfl⟩
  go_wp2_with fail
  refine (works_calls _).mono ?_
  rintro e w5 ⟨rfl, hb⟩
  have HB5 := Lib.hid (HB4.out.trans (hb.mono HB4.out.size))
  clear hb
  go_wp2
  go_ret
  exact ⟨rfl, HB5.out⟩
end Go.Proofs.Ytilanncobbdlfaa
