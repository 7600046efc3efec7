/-
  The walk of the law SiglistWrites.
-/
import Derived.Test.YtilanncobbdlfaaSg23
namespace Go.Proofs.Ytilanncobbdlfaa
open Go Go.RowKit
set_option linter.unusedVariables false

set_option maxRecDepth 100000 in
set_option maxHeartbeats 4000000 in
theorem siglistWrites_walk (v : Value) (xs : List LiV) (w : World) (hv : Lis w v xs) (hi : ∀ x ∈ xs, x.i.length * 3 ≤ 1048576) :
    Calls Try.prog 6 #[v] w fun e w' => e = .returned (.bool true) ∧ Below w.heap.size w w' := by
  have HV := Lib.hid hv
  have HI := Lib.hid hi
  clear hv hi
  obtain ⟨L, hL⟩ : ∃ L, Hid (xs.map LiV.li = L) := ⟨_, Lib.hid rfl⟩
  obtain ⟨R, hR⟩ : ∃ L', Hid (L' = wrR L) := ⟨_, Lib.hid rfl⟩
  obtain ⟨E, hE⟩ : ∃ E, Hid (E = wrE L) := ⟨_, Lib.hid rfl⟩
  go_enter Try.func6, Try.ntmps6
  go_wp2_with fail
  refine (vast_form v xs L w hL.out HV.out HI.out).mono ?_
  rintro e w' ⟨⟨B, rfl, hB⟩, rfl⟩
  cases B with
  | true =>
    clear hB
    go_wp2_with fail
    refine (works_calls _).mono ?_
    rintro e w1 ⟨rfl, hb⟩
    go_wp2
    go_ret
    exact ⟨rfl, hb⟩
  | false =>
    have HS := Lib.hid (hB rfl)
    clear hB
    go_wp2_with fail
    refine (twins_form v xs L w hL.out HV.out HS.out).mono ?_
    rintro e w1 ⟨a1, n1, c1, ys, rfl, hm, ho, hb⟩
    have HB1 := Lib.hid hb
    clear hb
    go_wp2_with fail
    refine (wr_form _ ys L R hR.out E hE.out _ hm.out ho.out.lis HS.out).mono ?_
    rintro e w2 ⟨a2, n2, c2, rfl, hn2, hl2, ho2, hb⟩
    have HB2 := Lib.hid (HB1.out.trans (hb.mono HB1.out.size))
    have HY2 := Lib.hid (ho.out.below hb)
    clear hb
    go_wp2_with fail
    refine (refWr_form v xs L R hR.out E hE.out _ hL.out (HV.out.below HB2.out) HS.out).mono ?_
    rintro e w3 ⟨a3, n3, c3, rfl, hn3, hl3, ho3, hb⟩
    have HB3 := Lib.hid (HB2.out.trans (hb.mono HB2.out.size))
    have HY3 := Lib.hid (HY2.out.below hb)
    have HO3 := Lib.hid (OwnB.below ho2.out hb)
    clear hb
    go_wp2_with fail
    refine (same_form R R true (decide_eq_true rfl) _ _ _ HO3.out.byt ho3.out.byt).mono ?_
    rintro e w' ⟨rfl, rfl⟩
    go_wp2_with fail
    refine (sameLists_form _ _ ys xs L L true _ (decide_eq_true rfl) hm.out hL.out HY3.out.lis (HV.out.below HB3.out) (HS.out.lisN hm.out) (HS.out.lisN hL.out) (by decide)).mono ?_
    rintro e w4 ⟨rfl, hb⟩
    have HB4 := Lib.hid (HB3.out.trans (hb.mono HB3.out.size))
    clear hb
    go_wp2_with fail
    refine (works_calls _).mono ?_
    rintro e w5 ⟨rfl, hb⟩
    have HB5 := Lib.hid (HB4.out.trans (hb.mono HB4.out.size))
    clear hb
    go_wp2
    go_ret
    exact ⟨rfl, HB5.out⟩
end Go.Proofs.Ytilanncobbdlfaa
