/-
  The walk of the law SiglistReads.
-/
import Derived.Test.YtilanncobbdlfaaSg19
namespace Go.Proofs.Ytilanncobbdlfaa
open Go Go.RowKit
set_option linter.unusedVariables false

set_option maxRecDepth 100000 in
set_option maxHeartbeats 4000000 in
theorem siglistReads_walk (v : Value) (l : List UInt8) (K : Int) (q : Value) (d : List UInt8) (w : World) (hv : Byt w v l) (hK : (Lit.int .u8 K).wf = true) (hq : Byt w q d) :
    Calls Try.prog 5 #[v, .int .u8 K, q] w fun e w' => e = .returned (.bool true) ∧ Below w.heap.size w w' := by
  clear hK
  have HV := Lib.hid hv
  have HQ := Lib.hid hq
  obtain ⟨av, cv, rfl, v1, v2, _⟩ := hv.open
  obtain ⟨aq, cq, rfl, q1, q2, _⟩ := hq.open
  clear hv hq
  unfold maxLen at v2 q2
  obtain ⟨nv, hnv⟩ : ∃ n, Hid (n = l.length) := ⟨_, Lib.hid rfl⟩
  obtain ⟨nq, hnq⟩ : ∃ n, Hid (n = d.length) := ⟨_, Lib.hid rfl⟩
  rw [← hnv.out] at HV v1 ⊢
  rw [← hnq.out] at HQ q1 ⊢
  by_cases hb1 : 131072 < nv
  · have e1 : decide ((131072 : Int) < (nv : Int)) = true := by simp; omega
    go_enter Try.func5, Try.ntmps5
    go_wp2_with fail
    refine (works_calls _).mono ?_
    rintro e w1 ⟨rfl, hb⟩
    go_wp2
    go_ret
    exact ⟨rfl, hb⟩
  have e1 : decide ((131072 : Int) < (nv : Int)) = false := by simp; omega
  by_cases hb2 : 16384 < nq
  · have e2 : decide ((16384 : Int) < (nq : Int)) = true := by simp; omega
    go_enter Try.func5, Try.ntmps5
    go_wp2_with fail
    refine (works_calls _).mono ?_
    rintro e w1 ⟨rfl, hb⟩
    go_wp2
    go_ret
    exact ⟨rfl, hb⟩
  have e2 : decide ((16384 : Int) < (nq : Int)) = false := by simp; omega
  have HNV : Hid (l.length ≤ 131072) := Lib.hid (by rw [← hnv.out]; omega)
  have HNQ : Hid (d.length ≤ 16384) := Lib.hid (by rw [← hnq.out]; omega)
  obtain ⟨L, hL⟩ : ∃ L, Hid (L = resL l) := ⟨_, Lib.hid rfl⟩
  obtain ⟨E, hE⟩ : ∃ E, Hid (E = resE l) := ⟨_, Lib.hid rfl⟩
  obtain ⟨HB, hHB⟩ : ∃ B, Hid (B = hasB L K d) := ⟨_, Lib.hid rfl⟩
  have HRD := Lib.hid (fun u W (h : Byt W u l) => rd_form (sgReadAll_calls u l W h (by have := HNV.out; omega)) L hL.out E hE.out 131072 HNV.out)
  have HRR := Lib.hid (fun u W (h : Byt W u l) => rd_form (refReadAll_calls u l W h (by have := HNV.out; omega)) L hL.out E hE.out 131072 HNV.out)
  go_enter Try.func5, Try.ntmps5
  go_wp2_with fail
  refine (twin_calls _ l _ HV.out (by have := HNV.out; omega)).mono ?_
  rintro e w1 ⟨u1, rfl, ho, hb⟩
  have HB1 := Lib.hid hb
  have HIN1 := Lib.hid ho
  obtain ⟨xi, n1, ci, hn1, rfl⟩ : ∃ x n c, Hid (n = l.length) ∧ u1 = .slice x n c := (by obtain ⟨x, c, e, _⟩ := Own.shape ho; exact ⟨x, _, c, Lib.hid rfl, e⟩)
  clear ho hb
  go_wp2_with fail
  refine (HRD.out _ _ HIN1.out.byt).mono ?_
  rintro e w2 ⟨a2, m2, c2, xs, rfl, ho, hm, hN, hm2, hb⟩
  have HB2 := Lib.hid (HB1.out.trans (hb.mono HB1.out.size))
  have HIN2 := Lib.hid (OwnB.below HIN1.out hb)
  have HXO2 := Lib.hid ho
  have HXM := Lib.hid hm
  have HS12 := Lib.hid hb.size
  have HXN := Lib.hid hN
  clear ho hb hm hN
  go_wp2_with fail
  refine (HRR.out _ _ (HV.out.below HB2.out)).mono ?_
  rintro e w3 ⟨a3, m3, c3, ys, rfl, ho, hm, hN, hm3, hb⟩
  have HB3 := Lib.hid (HB2.out.trans (hb.mono HB2.out.size))
  have HIN3 := Lib.hid (OwnB.below HIN2.out hb)
  have HXO3 := Lib.hid (HXO2.out.below hb)
  have HYO3 := Lib.hid (OwnLis.mono ho (show w1.heap.size ≤ w2.heap.size from HS12.out))
  have HYM := Lib.hid hm
  have HYN := Lib.hid hN
  clear ho hb hm hN
  go_wp2_with fail
  refine (same_form l l true (decide_eq_true rfl) _ _ _ HIN3.out.byt (HV.out.below HB3.out)).mono ?_
  rintro e w' ⟨rfl, rfl⟩
  go_wp2_with fail
  refine (twin_calls _ d _ (HQ.out.below HB3.out) (by have := HNQ.out; omega)).mono ?_
  rintro e w4 ⟨u4, rfl, ho, hb⟩
  have HB4 := Lib.hid (HB3.out.trans (hb.mono HB3.out.size))
  have HIN4 := Lib.hid (OwnB.below HIN3.out hb)
  have HXO4 := Lib.hid (HXO3.out.below hb)
  have HYO4 := Lib.hid (HYO3.out.below hb)
  have HD4 := Lib.hid ho.byt
  clear ho hb
  go_wp2_with fail
  refine (has_form _ xs L K _ d HB _ HXM.out hHB.out HXO4.out.lis HD4.out HXN.out (by decide)).mono ?_
  rintro e w5 ⟨rfl, hb⟩
  have HB5 := Lib.hid (HB4.out.trans (hb.mono HB4.out.size))
  have HIN5 := Lib.hid (OwnB.below HIN4.out hb)
  have HXO5 := Lib.hid (HXO4.out.below hb)
  have HYO5 := Lib.hid (HYO4.out.below hb)
  clear hb
  go_wp2_with fail
  refine (refHas_form _ ys L K _ d HB _ HYM.out hHB.out HYO5.out.lis (HQ.out.below HB5.out) HYN.out (by decide)).mono ?_
  rintro e w' ⟨rfl, rfl⟩
  have hbb : (HB != HB) = false := by simp
  have hn1b : n1 ≤ 131072 := by rw [hn1.out]; exact HNV.out
  obtain ⟨Lg, hLg⟩ : ∃ L, Hid (L = (ownB (.slice xi n1 ci)).toList) := ⟨_, Lib.hid rfl⟩
  have HLL : Hid (∀ x ∈ Lg, w.heap.size ≤ x ∧ x < w1.heap.size) := Lib.hid (fun x hx => by
    rw [hLg.out, Option.mem_toList] at hx
    exact Own.lt HIN1.out x hx)
  have HLH : Hid (∀ g, xi = some ⟨g, 0, none⟩ → 0 < ci → g ∈ Lg) := Lib.hid (fun g hg hc => by
    rw [hLg.out, Option.mem_toList, hg]
    exact ownB_some hc)
  go_wp2
  go_loopw [12] (fun i wr => ∃ j : Nat, j ≤ n1 ∧ i = .int .i64 j ∧ (∃ m : List UInt8, m.length = n1 ∧ Hid (OwnB wr w.heap.size (.slice xi n1 ci) m)) ∧ Hid (Chg Lg w5 wr)) (fun i _ => n1 - (intOf i).toNat)
  case atStart => exact ⟨0, Nat.zero_le _, rfl, ⟨l, hn1.out.symm, HIN5⟩, Lib.hid (Chg.refl _ _)⟩
  case round =>
    obtain ⟨j, hj, rfl, ⟨m, hm, ho⟩, hch⟩ := hrel
    by_cases hlt : j < n1
    · obtain ⟨g, cap, e3, hg1, hg2, hc0, hc1, hc2⟩ := Own.head ho.out (by omega)
      simp only [Value.slice.injEq] at e3
      obtain ⟨rfl, _, rfl⟩ := e3
      have hmem := HLH.out g rfl hc0
      have hcl := OwnB.cell_at ho.out j (by omega)
      have hfz := OwnB.free ho.out (by omega) j
      have HST := Lib.hid (OwnB.set ho.out j hlt 85 85 rfl)
      have HCT := Lib.hid (hch.out.setCell (i := j) hmem (.int .u8 85))
      have hdl : decide ((j : Int) < (n1 : Int)) = true := by simp; omega
      have HJ : Hid (j + 1 ≤ n1) := Lib.hid hlt
      have HM : Hid (m.length = n1) := Lib.hid hm
      clear hm hmem hg1 hg2 hc0 hc1 hc2
      go_wp2
      go_roundw
      case rel => exact ⟨j + 1, HJ.out, by go_num, ⟨_, by rw [List.length_set]; exact HM.out, HST⟩, HCT⟩
      case measure => have := HJ.out; simp [intOf]; omega
    · obtain rfl : j = n1 := by omega
      have hdl : decide ((j : Int) < (j : Int)) = false := by simp
      have HB6 := Lib.hid (Below.andChg HB5.out hch.out HB5.out.size (fun x hx => (HLL.out x hx).1))
      have HX6 := Lib.hid (HXO5.out.chg hch.out (fun x hx => (HLL.out x hx).2)).lis
      have HY6 := Lib.hid (HYO5.out.chg hch.out (fun x hx => (HLL.out x hx).2)).lis
      go_wp2_with fail
      refine (sameLists_form _ _ xs ys L L true _ (decide_eq_true rfl) HXM.out HYM.out HX6.out HY6.out HXN.out HYN.out (by decide)).mono ?_
      rintro e w7 ⟨rfl, hb⟩
      have HB7 := Lib.hid (HB6.out.trans (hb.mono HB6.out.size))
      clear hb
      go_wp2_with fail
      refine (works_calls _).mono ?_
      rintro e w8 ⟨rfl, hb⟩
      have HB8 := Lib.hid (HB7.out.trans (hb.mono HB7.out.size))
      clear hb
      go_wp2
      go_ret
      exact ⟨rfl, HB8.out⟩
end Go.Proofs.Ytilanncobbdlfaa
