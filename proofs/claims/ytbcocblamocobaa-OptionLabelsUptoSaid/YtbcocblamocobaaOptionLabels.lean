/-
  The law OptionLabels, where what it reads is of bulk at most 1048576: an option's label may not be turned to what is none, nor its path be told longer than what there is.
-/
import Derived.Test.YtbcocblamocobaaFrame
import Derived.Test.YtbcocblamocobaaOptionLabelsWalk
import Derived.Test.YtbcocblamocobaaOpenTurn
import Derived.JoinedCond
namespace Go.Proofs.Ytbcocblamocobaa
open Go Go.RowKit Go.ChangeShapes Go.WideShapes Go.ChangeAt
open Go.ChangeMaps (open_string shut_string)
set_option linter.unusedVariables false

set_option maxRecDepth 100000 in
theorem optionLabels_lifted (os : Os) (started : os.Started) (H : Type) (enc : TypeId × Value → H) (F : Stop.Interp) :
    ReturnsInHanded {} Try.checked os 8 .any ((Rows.OpenSpec.upto Rows.optionLabelsSpec).pre6 enc Try.prog Try.f8 Rows.optionLabelsUptoRow.domain false) (((Rows.OpenSpec.upto Rows.optionLabelsSpec).at F).post enc Try.prog Try.f8 false true false false) := by
  refine returnsInHanded_of_cond (C := Try.checked) (s := Rows.OpenSpec.upto Rows.optionLabelsSpec) (k := Rows.uptoSmall) rfl own started (by kernel_rfl) Try.func8
    (OpenSpec.witness (enc := enc) (C := Try.checked) (s := Rows.OpenSpec.upto Rows.optionLabelsSpec) (k := Rows.uptoSmall) rfl false ⟨#[], #[.agg #[.int .u32 0, .string ByteArray.empty, .slice none 0 0, .slice none 0 0, .int .u16 0, .int .u8 0, .int .u16 0]], []⟩ 8 (by kernel_rfl) (by kernel_rfl) (by kernel_rfl)
      (x := ([.agg [.agg [.lit (.int .u32 0), .lit (.string []), .nil, .nil], .lit (.int .u16 0), .lit (.int .u8 0), .lit (.int .u16 0)]], [], [])) (by kernel_rfl) rfl (by kernel_rfl)) ?_
  intro W base args ds gs before hval0 hW _ hk _
  have hval : ∀ (j : Nat) t v, Try.f8.params[j]? = some t → args[j]? = some v → Value.okWide Try.prog W .any base t v := hval0
  have hW' := hW
  obtain ⟨p, q, hA0, hV, rfl, hfz, hnd⟩ := hW
  have hA : DataW.TrodAll enc Try.prog W 0 (fun _ => true) true Try.f8.params.toList args.toList ds p := hA0
  rw [Try.params8] at hA hval
  obtain ⟨v0, vs0, d0, ds0, p0, q0, hargs, rfl, rfl, h0, r0⟩ := trodAll_cons hA
  obtain ⟨rfl, rfl, rfl⟩ := trodAll_nil r0
  obtain rfl : args = #[v0] := by cases args; simp_all
  obtain ⟨rfl, rfl⟩ := trodVars_none hV
  have k0 := h0
  have lt0 : ∀ x ∈ p0, x.block < W.heap.size := by obtain ⟨m, hm⟩ := k0; exact DataW.trod_lt m _ _ _ hm
  have hk1 : Rows.uptoBulkAll [d0] ≤ 1048576 := by
    have h := of_decide_eq_true hk
    simpa only [List.append_nil] using h
  obtain ⟨o0, pv0, dv0, n0, x0, z0, rfl, oa0, op0, od0, os0, ol0, om0, on0, ox0, oz0⟩ := open_turn (hval 0 44 v0 rfl rfl) h0 hk1
  clear hA0 hval0
  have hw := optionLabels_walk o0 _ _ n0 x0 z0 W oa0 op0 od0 os0 ol0 om0 on0 ox0 oz0
  refine hw.mono fun e W' ⟨he, bel⟩ => ?_
  subst he
  exact ⟨_, rfl, _, _, _, [], _, [], hW', trodAll_mk1 (shut_bool Try.underlying4 _), (trodAll_cons_mk (Below.trod laidOut (by kernel_rfl) (of_decide_eq_true (by kernel_rfl)) k0 bel lt0) trodAll_mk0), rfl, bel.frame _, fun h => by cases h⟩

theorem optionLabels_over : Rows.optionLabelsUptoRow.holds Try.pinned (Rows.OpenSpec.upto Rows.optionLabelsSpec) :=
  OpenClaim.holds_of_cond 8 Try.f8 rfl rfl rfl rfl rfl rfl rfl ⟨rfl, rfl, rfl, rfl, rfl⟩ rfl rfl rfl rfl rfl (by kernel_rfl) Try.func8 (by kernel_rfl)
    (of_decide_eq_true (by kernel_rfl)) (by unfold Func.isWrapper; first | (rw [if_pos (by decide +kernel)]; kernel_rfl) | (rw [if_neg (by decide +kernel)]; exact ⟨rfl, rfl⟩))
    (fun os started H enc _ F => optionLabels_lifted os started H enc F)

theorem optionLabelsUpto_proved : Rows.OptionLabelsUptoSaid := optionLabels_over
#print axioms optionLabelsUpto_proved
end Go.Proofs.Ytbcocblamocobaa
