/-
  The walk of the law OctetTurns.
-/
import Derived.Test.YtookmdkcpbpofaaCutOpen
import Derived.OpenShut
namespace Go.Proofs.Ytookmdkcpbpofaa
open Go Go.RowKit

theorem turns_plain (l : List UInt8) (p n : Int) (hw : withinB l.length p n = true) :
    gotB (seg l p n).reverse 0 n = gotL l p n ∧ gotL (seg l p n).reverse 0 n = gotB l p n ∧ gotE (seg l p n).reverse 0 n = gotE l p n := by
  have hl := seg_length l p n hw
  have h0 : 0 ≤ n := ((withinB_iff _ _ _).1 hw).2.1
  have hw2 : withinB (seg l p n).reverse.length 0 n = true := by
    rw [withinB_iff, List.length_reverse, hl]; omega
  cases hs : sizedB n with
  | false =>
    have e1 : getOk (seg l p n).reverse 0 n = false := by unfold getOk; rw [hs]; rfl
    have e2 : getOk l p n = false := by unfold getOk; rw [hs]; rfl
    unfold gotB gotL gotE
    rw [e1, e2]
    exact ⟨rfl, rfl, rfl⟩
  | true =>
    have e1 : getOk (seg l p n).reverse 0 n = true := by unfold getOk; rw [hs, hw2]; rfl
    have e2 : getOk l p n = true := by unfold getOk; rw [hs, hw]; rfl
    have hsg : seg (seg l p n).reverse 0 n = (seg l p n).reverse := seg_all _ n (by rw [List.length_reverse, hl]; omega)
    unfold gotB gotL gotE
    rw [e1, e2, hsg, List.reverse_reverse]
    exact ⟨rfl, rfl, rfl⟩

set_option maxHeartbeats 3200000 in
theorem octetTurns_walk (v : Value) (l : List UInt8) (p n : Int) (w : World) (hv : Byt w v l) (hp : (Lit.int .i64 p).wf = true) (hn : (Lit.int .i64 n).wf = true) :
    Calls Try.prog 5 #[v, .int .i64 p, .int .i64 n] w fun e w' => e = .returned (.bool true) ∧ Below w.heap.size w w' := by
  have hp1 := bounds_i64 hp
  have hn1 := bounds_i64 hn
  clear hp hn
  obtain ⟨a, cap, rfl, h1, h2, _⟩ := hv.open
  unfold maxLen at h2
  by_cases hb : 65536 < l.length
  · go_enter Try.func5, Try.ntmps5
    go_wp2_with (go_at_call 12; refine (works_calls _).mono ?_; rintro e w1 ⟨rfl, hb1⟩)
    go_ret
    exact ⟨rfl, hb1⟩
  · have ip : I64 p := by unfold I64; omega
    have i_n : I64 n := by unfold I64; omega
    have hg := fun v w hv => get_calls v l p n w hv ip i_n (by omega)
    have hgb := fun v w hv => getBig_calls v l p n w hv ip i_n (by omega)
    cases hw : withinB l.length p n with
    | false =>
      have e0 : getOk l p n = false := by unfold getOk; rw [hw]; exact Bool.and_false _
      have e1 : gotL l p n = 0 := by unfold gotL; rw [e0]; rfl
      have e2 : gotB l p n = 0 := by unfold gotB; rw [e0]; rfl
      have e3 : gotE l p n = 1 := by unfold gotE; rw [e0]; rfl
      have e4 : cutL l p n = [] := by unfold cutL; rw [hw]; rfl
      rw [e1, e3] at hg
      rw [e2, e3] at hgb
      have hc := cut_open l p n ip i_n (by omega) 0 [] false e4 rfl hw
      have HG := Lib.hid hg
      have HB := Lib.hid hgb
      have HC := Lib.hid hc
      clear hg hgb hc e0 e1 e2 e3 e4 hw ip i_n hp1 hn1
      go_enter Try.func5, Try.ntmps5
      go_wp2_with (go_at_call 14; refine (HG.out _ _ hv).mono ?_; rintro e w1 ⟨rfl, hb1⟩)
      have hv1 := hv.below hb1
      go_wp2_with (go_at_call 16; refine (HB.out _ _ hv1).mono ?_; rintro e w2 ⟨rfl, hb2⟩)
      have hv2 := hv1.below hb2
      have HB2 := Lib.hid (hb1.trans (hb2.mono hb1.size))
      clear hb1 hb2 hv1
      go_wp2_with (go_at_call 18; refine (HC.out _ _ hv2).mono ?_; rintro e w3 ⟨a3, cap3, rfl, hown3, hb3⟩)
      have HB3 := Lib.hid (HB2.out.trans (hb3.mono HB2.out.size))
      clear hb3 hown3 HB2
      go_wp2_with (go_at_call 12; refine (works_calls _).mono ?_; rintro e w4 ⟨rfl, hb4⟩)
      go_ret
      exact ⟨rfl, HB3.out.trans (hb4.mono HB3.out.size)⟩
    | true =>
      obtain ⟨t1, t2, t3⟩ := turns_plain l p n hw
      have hl := seg_length l p n hw
      have e4 : cutL l p n = seg l p n := by unfold cutL; rw [hw]; rfl
      obtain ⟨N, rfl⟩ := Int.eq_ofNat_of_zero_le (((withinB_iff _ _ _).1 hw).2.1)
      have hNl : N ≤ l.length := by have := (withinB_iff _ _ _).1 hw; omega
      have hE : Hid ((sizedB N = true ∧ gotE l p N = 0) ∨ (sizedB N = false ∧ gotE l p N = 1)) := Lib.hid (by
        cases hs : sizedB N with
        | false => right; refine ⟨rfl, ?_⟩; unfold gotE getOk; rw [hs]; rfl
        | true => left; refine ⟨rfl, ?_⟩; unfold gotE getOk; rw [hs, hw]; rfl)
      obtain ⟨q, hq⟩ : ∃ q, Hid (q = seg l p N) := ⟨_, Lib.hid rfl⟩
      rw [← hq.out] at t1 t2 t3 hl e4
      rw [Int.toNat_natCast] at hl
      have hc := cut_open l p N ip i_n (by omega) N q true e4 hl hw
      have ht1 := fun v w hv => get_calls v q.reverse 0 N w hv (by unfold I64; omega) i_n (by rw [List.length_reverse]; omega)
      have ht2 := fun v w hv => getBig_calls v q.reverse 0 N w hv (by unfold I64; omega) i_n (by rw [List.length_reverse]; omega)
      rw [t2, t3] at ht1
      rw [t1, t3] at ht2
      obtain ⟨X, hX⟩ : ∃ X, Hid (X = gotL l p N) := ⟨_, Lib.hid rfl⟩
      obtain ⟨Y, hY⟩ : ∃ Y, Hid (Y = gotB l p N) := ⟨_, Lib.hid rfl⟩
      obtain ⟨E, hEE⟩ : ∃ E, Hid (E = gotE l p N) := ⟨_, Lib.hid rfl⟩
      rw [← hX.out, ← hEE.out] at hg ht2
      rw [← hY.out, ← hEE.out] at hgb ht1
      rw [← hEE.out] at hE
      have HG := Lib.hid hg
      have HB := Lib.hid hgb
      have HC := Lib.hid hc
      have HT1 := Lib.hid ht1
      have HT2 := Lib.hid ht2
      have HL := Lib.hid hl
      clear hg hgb hc ht1 ht2 t1 t2 t3 e4 hw ip i_n hp1 hn1 hl
      go_enter Try.func5, Try.ntmps5
      go_wp2_with (go_at_call 14; refine (HG.out _ _ hv).mono ?_; rintro e w1 ⟨rfl, hb1⟩)
      have hv1 := hv.below hb1
      go_wp2_with (go_at_call 16; refine (HB.out _ _ hv1).mono ?_; rintro e w2 ⟨rfl, hb2⟩)
      have hv2 := hv1.below hb2
      have HB2 := Lib.hid (hb1.trans (hb2.mono hb1.size))
      clear hb1 hb2 hv1
      go_wp2_with (go_at_call 18; refine (HC.out _ _ hv2).mono ?_; rintro e w3 ⟨a3, cap3, rfl, hown3, hb3⟩)
      obtain ⟨_, _, e0, g1, g2, h3⟩ := hown3.byt.open
      simp only [Value.slice.injEq] at e0
      obtain ⟨rfl, hx0, rfl⟩ := e0
      clear hx0
      have HB3 := Lib.hid (HB2.out.trans (hb3.mono HB2.out.size))
      clear hb3 hown3 HB2
      rw [HL.out] at g1 h3
      go_wp2_with fail
      go_loopw [13, 14] (fun out i wr => ∃ (k : Nat) (m : List UInt8), k ≤ N ∧ Hid (m = q.reverse.take k) ∧ m.length ≤ 1000000000000 ∧ i = .int .i64 ((N : Int) - 1 - k) ∧ OwnB wr w3.heap.size out m ∧ Below w3.heap.size w3 wr) (fun _ i _ => ((intOf i) + 1).toNat)
      case atStart => exact ⟨0, [], by omega, Lib.hid (by simp), by simp, by go_num, OwnB.empty _ _ _, Below.refl _ _⟩
      case round =>
        obtain ⟨k, m, hk, hm, hml, rfl, hown, hbb⟩ := hrel
        by_cases hlt : k < N
        · obtain ⟨J, hJ⟩ : ∃ J, Hid (J = N - 1 - k) := ⟨_, Lib.hid rfl⟩
          have hj : (N : Int) - 1 - (k : Int) = (J : Int) := by rw [hJ.out]; omega
          have hJN : J < N := by rw [hJ.out]; omega
          obtain ⟨b, off, rfl, hc0⟩ := h3 J hJN
          have hc := (hbb.cell (p := ⟨b, off + J, none⟩) (lt_of_cell hc0)).trans hc0
          rw [hj]
          clear h3 hc0
          obtain ⟨c, hcc⟩ : ∃ c, Hid (c = q.getD J 0) := ⟨_, Lib.hid rfl⟩
          rw [← hcc.out] at hc
          go_wp2_with (at_builtin; refine wpList_append_byt rfl _ _ rfl w3.heap.size _ m rfl (hown.alloc _) _ [c] rfl (Byt.one _ _ _ _ ?c1) ?c2 ?c3 ?_)
          case c1 => rfl
          case c2 => simp; omega
          case c3 => have := hbb.size; simp; omega
          intro v' w' hown' hg _
          go_wp2
          go_roundw
          case rel =>
            refine ⟨k + 1, m ++ [c], by omega, Lib.hid ?_, ?_, (by have := hJ.out; go_num), hown', (hbb.alloc hbb.size _).grown hg (by have := hbb.size; simp; omega) (fun j hj => (hown.lt j hj).1)⟩
            · have hqL := HL.out
              have ec : c = q.getD (N - 1 - k) 0 := hcc.out.trans (congrArg (fun z => q.getD z 0) hJ.out)
              rw [List.take_succ_eq_append_getElem (by simp; omega), ← hm.out, ec]
              simp [List.getD, hqL, show N - 1 - k < N by omega]
            · have hml2 : m.length = k := by rw [hm.out, List.length_take, List.length_reverse, HL.out]; omega
              simp; omega
          case measure => have := hJ.out; simp [intOf]
        · obtain rfl : k = N := by omega
          clear h3
          have hme : Hid (m = q.reverse) := Lib.hid (by rw [hm.out, List.take_of_length_le (by rw [List.length_reverse, HL.out]; omega)])
          have hbt := hown.byt
          rw [hme.out] at hbt
          have HB3' := Lib.hid (HB3.out.trans (hbb.mono HB3.out.size))
          have hsz : (E = 0 ∧ (k = 1 ∨ k = 2 ∨ k = 4 ∨ k = 8)) ∨ (E = 1 ∧ ((k : Int) == 1) = false ∧ ((k : Int) == 2) = false ∧ ((k : Int) == 4) = false ∧ ((k : Int) == 8) = false) := by
            rcases hE.out with ⟨hs, e⟩ | ⟨hs, e⟩
            · have := (sizedB_iff k).1 hs
              exact .inl ⟨e, by omega⟩
            · have hn : ¬ ((k : Int) = 1 ∨ (k : Int) = 2 ∨ (k : Int) = 4 ∨ (k : Int) = 8) := fun h => by rw [(sizedB_iff k).2 h] at hs; cases hs
              simp only [beq_eq_false_iff_ne]
              exact .inr ⟨e, by omega, by omega, by omega, by omega⟩
          clear hE hown
          rcases hsz with ⟨rfl, rfl | rfl | rfl | rfl⟩ | ⟨rfl, q1, q2, q3, q4⟩
          all_goals
            go_wp2_with (first
              | (go_at_call 16; refine (HT2.out _ _ hbt).mono ?_; rintro e w4 ⟨rfl, hb4⟩)
              | (go_at_call 14; refine (HT1.out _ _ (hbt.below hb4)).mono ?_; rintro e w5 ⟨rfl, hb5⟩)
              | (go_at_call 12; refine (works_calls _).mono ?_; rintro e w6 ⟨rfl, hb6⟩))
            go_ret
            have B4 := HB3'.out.trans (hb4.mono HB3'.out.size)
            have B5 := B4.trans (hb5.mono B4.size)
            exact ⟨rfl, B5.trans (hb6.mono B5.size)⟩
end Go.Proofs.Ytookmdkcpbpofaa
