/-
  The contract of the document's own Read of an option.
-/
import Derived.Test.YtbcocblamocobaaOpt4
import Derived.Test.YtbcocblamocobaaOct4
namespace Go.Proofs.Ytbcocblamocobaa
open Go Go.RowKit

theorem below_four {B : Nat} {w w' : World} (h : Below B w w') {b : Nat} (hb : B ≤ b) (d0 d1 d2 d3 : Value) :
    Below B w ((((w'.setCell ⟨b, 0, none⟩ d0).setCell ⟨b, 1, none⟩ d1).setCell ⟨b, 2, none⟩ d2).setCell ⟨b, 3, none⟩ d3) :=
  (((h.setCell (p := ⟨b, 0, none⟩) hb d0).setCell (p := ⟨b, 1, none⟩) hb d1).setCell (p := ⟨b, 2, none⟩) hb d2).setCell (p := ⟨b, 3, none⟩) hb d3
theorem own_four {w : World} {base b : Nat} {v : Value} {l : List UInt8} (ho : OwnB w base v l) (hb : b < base) (d0 d1 d2 d3 : Value) :
    OwnB ((((w.setCell ⟨b, 0, none⟩ d0).setCell ⟨b, 1, none⟩ d1).setCell ⟨b, 2, none⟩ d2).setCell ⟨b, 3, none⟩ d3) base v l :=
  ho.chg' (((((Chg.refl [b] w).setCell (i := 0) (List.mem_singleton.2 rfl) d0).setCell (i := 1) (List.mem_singleton.2 rfl) d1).setCell (i := 2) (List.mem_singleton.2 rfl) d2).setCell (i := 3) (List.mem_singleton.2 rfl) d3) (fun x hx => by rw [List.mem_singleton.1 hx]; exact hb)

theorem rd_short (l : List UInt8) (h : l.length < 8) : rdO l = none := rdO_none l (fun j => by
  cases hz : zp l j with
  | false => rfl
  | true => have := ((zp_iff l j).1 hz).1; omega)

set_option maxRecDepth 100000 in
set_option maxHeartbeats 2000000 in
theorem refRead_short (v : Value) (l : List UInt8) (w : World) (hv : Byt w v l) (hl : l.length < 6) :
    Calls Try.prog 19 #[v] w fun e w' => ∃ p' d', e = .returned (.tuple #[optV (rdR l).a (rdR l).s p' d', .int .i64 (rdE l)]) ∧ OwnB w' w.heap.size p' (rdR l).p ∧ OwnB w' w.heap.size d' (rdR l).d ∧ (∀ j, ownB p' = some j → ownB d' ≠ some j) ∧ Below w.heap.size w w' := by
  have HRN := Lib.hid (res_none l (rd_short l (by omega)))
  have HV := Lib.hid hv
  have hE : gotE l 4 2 = 1 := by
    unfold gotE getOk
    have hw : withinB l.length 4 2 = false := by
      cases hw : withinB l.length 4 2 with
      | false => rfl
      | true => have := (withinB_iff _ _ _).1 hw; omega
    rw [hw, Bool.and_false]; rfl
  have HG1 : Hid (∀ W, Below w.heap.size w W → Calls Try.prog 34 #[v, .int .i64 0, .int .i64 4] W fun e w' => e = .returned (.tuple #[.int .u64 (gotL l 0 4 : Int), .int .i64 (gotE l 0 4)]) ∧ Below W.heap.size W w') := Lib.hid (fun W hb => refGet_calls v l 0 4 W (HV.out.below hb) (by unfold I64; omega) (by unfold I64; omega) (by omega))
  have HG2 : Hid (∀ W, Below w.heap.size w W → Calls Try.prog 34 #[v, .int .i64 4, .int .i64 2] W fun e w' => e = .returned (.tuple #[.int .u64 (gotL l 4 2 : Int), .int .i64 1]) ∧ Below W.heap.size W w') := Lib.hid (fun W hb => by
    have := refGet_calls v l 4 2 W (HV.out.below hb) (by unfold I64; omega) (by unfold I64; omega) (by omega)
    rw [hE] at this
    exact this)
  obtain ⟨x, hx⟩ : ∃ x : Nat, Hid (x = gotL l 0 4) := ⟨_, Lib.hid rfl⟩
  obtain ⟨y, hy⟩ : ∃ x : Nat, Hid (x = gotL l 4 2) := ⟨_, Lib.hid rfl⟩
  obtain ⟨E, hEE⟩ : ∃ x, Hid (x = gotE l 0 4) := ⟨_, Lib.hid rfl⟩
  have hEw : E = 0 ∨ E = 1 := by rw [hEE.out]; unfold gotE; split <;> simp
  rw [← hx.out, ← hEE.out] at HG1
  rw [← hy.out] at HG2
  have HB0 := Lib.hid ((Below.refl w.heap.size w).alloc (Nat.le_refl _) (.cells #[.int .u32 0, .string ByteArray.empty, .slice none 0 0, .slice none 0 0] 25))
  have R0 := Lib.hid (RowAt.new w #[.int .u32 0, .string ByteArray.empty, .slice none 0 0, .slice none 0 0] 25 w.heap.size rfl)
  clear hv hl hE
  rcases hEw with rfl | rfl
  all_goals
    go_enter Try.func19, Try.ntmps19
    go_wp2_with fail
    refine (HG1.out _ HB0.out).mono ?_
    rintro e w1 ⟨rfl, hb⟩
    have HB1 := Lib.hid (HB0.out.trans (hb.mono HB0.out.size))
    have R1 := Lib.hid (R0.out.below hb)
    clear hb
    go_wp2_with fail
    refine (HG2.out _ HB1.out).mono ?_
    rintro e w2 ⟨rfl, hb⟩
    have HB2 := Lib.hid (HB1.out.trans (hb.mono HB1.out.size))
    have R2 := Lib.hid (R1.out.below hb)
    clear hb
    have o0 := R2.out.cell 0 (.int .u32 0) rfl
    have o1 := R2.out.cell 1 (.string ByteArray.empty) rfl
    have o2 := R2.out.cell 2 (.slice none 0 0) rfl
    have o3 := R2.out.cell 3 (.slice none 0 0) rfl
    have fo := R2.out.free
    have zo := R2.out.lt
    go_wp2
    refine bodyPost_ret (v := .tuple #[.agg #[.int .u32 0, .string ByteArray.empty, .slice none 0 0, .slice none 0 0], .int .i64 9]) ?_ rfl ?_
    · (simp [results, Try.results19, go_sem, o0, o1, o2, o3]; try rfl)
    · refine ⟨.slice none 0 0, .slice none 0 0, HRN.out.1, ?_, ?_, fun j hj => by simp [ownB] at hj, below_four HB2.out (Nat.le_refl _) _ _ _ _⟩
      · rw [HRN.out.2]; exact OwnB.empty _ _ _
      · rw [HRN.out.2]; exact OwnB.empty _ _ _

set_option maxRecDepth 100000 in
set_option maxHeartbeats 1500000 in
theorem refRead_long (v : Value) (l : List UInt8) (w : World) (hv : Byt w v l) (hl6 : 6 ≤ l.length) (hl : l.length ≤ 1000000000) :
    Calls Try.prog 19 #[v] w fun e w' => ∃ p' d', e = .returned (.tuple #[optV (rdR l).a (rdR l).s p' d', .int .i64 (rdE l)]) ∧ OwnB w' w.heap.size p' (rdR l).p ∧ OwnB w' w.heap.size d' (rdR l).d ∧ (∀ j, ownB p' = some j → ownB d' ≠ some j) ∧ Below w.heap.size w w' := by
  have HV := Lib.hid hv
  have g1 := cut_in l 0 4 (by omega)
  have g2 := cut_in l 4 2 (by omega)
  have HG1 : Hid (∀ W, Below w.heap.size w W → Calls Try.prog 34 #[v, .int .i64 0, .int .i64 4] W fun e w' => e = .returned (.tuple #[.int .u64 (numL (l.take 4) : Int), .int .i64 0]) ∧ Below W.heap.size W w') := Lib.hid (fun W hb => by
    have := refGet_calls v l 0 4 W (HV.out.below hb) (by unfold I64; omega) (by unfold I64; omega) (by omega)
    have hw : getOk l 0 4 = true := by unfold getOk; rw [show sizedB 4 = true by decide]; exact g1.2
    unfold gotL gotE at this
    rw [hw] at this
    exact this)
  have HG2 : Hid (∀ W, Below w.heap.size w W → Calls Try.prog 34 #[v, .int .i64 4, .int .i64 2] W fun e w' => e = .returned (.tuple #[.int .u64 (szL l : Int), .int .i64 0]) ∧ Below W.heap.size W w') := Lib.hid (fun W hb => by
    have := refGet_calls v l 4 2 W (HV.out.below hb) (by unfold I64; omega) (by unfold I64; omega) (by omega)
    have hw : getOk l 4 2 = true := by unfold getOk; rw [show sizedB 2 = true by decide]; exact g2.2
    unfold gotL gotE at this
    rw [hw] at this
    exact this)
  have hz16 : szL l < 65536 := by
    unfold szL
    have := numL_lt ((l.drop 4).take 2)
    have e : ((l.drop 4).take 2).length = 2 := by rw [List.length_take, List.length_drop]; omega
    rw [e] at this
    omega
  have hx32 : numL (l.take 4) < 4294967296 := by
    have := numL_lt (l.take 4)
    have e : (l.take 4).length = 4 := by rw [List.length_take]; omega
    rw [e] at this
    omega
  obtain ⟨x0, cap, rfl, h1, h2⟩ := hv.shut
  obtain ⟨b, off, rfl⟩ : ∃ b off, x0 = some ⟨b, off, none⟩ := by
    obtain ⟨x', c', e, _, _, hc⟩ := hv.open
    obtain ⟨b, off, e2, _⟩ := hc 0 (by omega)
    cases e
    exact ⟨b, off, e2⟩
  have HC : Hid (∀ i, i < l.length → w.cell? ⟨b, off + i, none⟩ = some (.int .u8 (l.getD i 0).toNat)) := Lib.hid (by
    obtain ⟨x', c', e, _, _, hc⟩ := hv.open
    cases e
    intro i hi
    obtain ⟨b', off', e2, hcell⟩ := hc i hi
    cases e2
    exact hcell)
  have HZ := Lib.hid (zp_iff l)
  have HS := Lib.hid (endK_some l)
  have HN := Lib.hid (endK_none l)
  have HW := Lib.hid (rd_ways l)
  obtain ⟨x, hx⟩ : ∃ x, Hid (x = numL (l.take 4)) := ⟨_, Lib.hid rfl⟩
  obtain ⟨z, hz⟩ : ∃ x, Hid (x = szL l) := ⟨_, Lib.hid rfl⟩
  obtain ⟨L, hL⟩ : ∃ n, Hid (n = l.length) := ⟨_, Lib.hid rfl⟩
  rw [← hx.out] at HG1 hx32
  rw [← hz.out] at HG2 hz16
  rw [← hL.out] at h1 hl hl6 HZ HV HG1 HG2 ⊢
  rw [← hL.out] at HC
  clear hv g1 g2
  have m1 : IntKind.u32.wrap (x : Int) = (x : Int) := by rw [IntKind.wrap_u32]; omega
  have m2 : IntKind.i64.wrap (z : Int) = (z : Int) := IntWalk.i64_in _ (by omega)
  have HB0 := Lib.hid ((Below.refl w.heap.size w).alloc (Nat.le_refl _) (.cells #[.int .u32 0, .string ByteArray.empty, .slice none 0 0, .slice none 0 0] 25))
  have R0 := Lib.hid (RowAt.new w #[.int .u32 0, .string ByteArray.empty, .slice none 0 0, .slice none 0 0] 25 w.heap.size rfl)
  go_enter Try.func19, Try.ntmps19
  go_wp2_with fail
  refine (HG1.out _ HB0.out).mono ?_
  rintro e w1 ⟨rfl, hb⟩
  have HB1 := Lib.hid (HB0.out.trans (hb.mono HB0.out.size))
  have R1 := Lib.hid (R0.out.below hb)
  clear hb
  go_wp2_with fail
  refine (HG2.out _ HB1.out).mono ?_
  rintro e w2 ⟨rfl, hb⟩
  have HB2 := Lib.hid (HB1.out.trans (hb.mono HB1.out.size))
  have R2 := Lib.hid (R1.out.below hb)
  clear hb
  have HC2 : Hid (∀ i, i < L → w2.cell? ⟨b, off + i, none⟩ = some (.int .u8 (l.getD i 0).toNat)) := Lib.hid (fun i hi => (HB2.out.cell (p := ⟨b, off + i, none⟩) (lt_of_cell (HC.out i hi))).trans (HC.out i hi))
  go_wp2
  go_loop [8] (fun i => ∃ k : Nat, 2 * k ≤ L ∧ i = .int .i64 ((6 + 2 * k : Nat) : Int) ∧ Hid (∀ j, j < k → zp l j = false)) (fun i => L + 8 - (intOf i).toNat)
  case atStart => exact ⟨0, by omega, rfl, Lib.hid (fun j hj => by omega)⟩
  case round =>
    obtain ⟨k, hk, rfl, hno⟩ := hrel
    by_cases hlt : 7 + 2 * k < L
    · have c0 := HC2.out (6 + 2 * k) (by omega)
      have c1 := HC2.out (7 + 2 * k) (by omega)
      have b0 := (l.getD (6 + 2 * k) 0).toNat_lt
      have b1 := (l.getD (7 + 2 * k) 0).toNat_lt
      have hzw : (((((l.getD (6 + 2 * k) 0).toNat : Int) != 0) = true) ∧ Hid (zp l k = false)) ∨ (((((l.getD (6 + 2 * k) 0).toNat : Int) != 0) = false) ∧ (((((l.getD (7 + 2 * k) 0).toNat : Int) != 0) = true ∧ Hid (zp l k = false)) ∨ ((((l.getD (7 + 2 * k) 0).toNat : Int) != 0) = false ∧ Hid (zp l k = true)))) := by
        have e0 : ∀ c : UInt8, c = 0 ↔ c.toNat = 0 := fun c => ⟨fun h => by rw [h]; rfl, fun h => UInt8.toNat_inj.1 h⟩
        unfold Hid
        simp only [bne_iff_ne, bne_eq_false_iff_eq]
        cases hz : zp l k with
        | true =>
          have := (HZ.out k).1 hz
          rw [e0, e0] at this
          exact .inr ⟨by omega, .inr ⟨by omega, rfl⟩⟩
        | false =>
          have hn : ¬ (7 + 2 * k < L ∧ l.getD (6 + 2 * k) 0 = 0 ∧ l.getD (7 + 2 * k) 0 = 0) := fun h => by rw [(HZ.out k).2 h] at hz; cases hz
          rw [e0, e0] at hn
          by_cases h0 : (l.getD (6 + 2 * k) 0).toNat = 0
          · exact .inr ⟨by omega, .inl ⟨by omega, rfl⟩⟩
          · exact .inl ⟨by omega, rfl⟩
      obtain ⟨c, hcx⟩ : ∃ x : Int, Hid (x = ((l.getD (6 + 2 * k) 0).toNat : Int)) := ⟨_, Lib.hid rfl⟩
      obtain ⟨d, hdx⟩ : ∃ x : Int, Hid (x = ((l.getD (7 + 2 * k) 0).toNat : Int)) := ⟨_, Lib.hid rfl⟩
      rw [← hcx.out] at c0 hzw
      rw [← hdx.out] at hzw c1
      obtain ⟨q, hq⟩ : ∃ q, Hid (q = 6 + 2 * k) := ⟨_, Lib.hid rfl⟩
      have hqL : q + 1 < L := by have := hq.out; omega
      have HR : Hid (6 + 2 * (k + 1) = q + 2) := Lib.hid (by rw [hq.out]; omega)
      have hkk : 2 * (k + 1) ≤ L := by omega
      have HNX : Hid (zp l k = false → ∀ j, j < k + 1 → zp l j = false) := Lib.hid (fun h j hj => by
        by_cases e : j = k
        · rw [e]; exact h
        · exact hno.out j (by omega))
      have HSK : Hid (zp l k = true → endK l = some k) := Lib.hid (fun h => (HS.out k).2 ⟨h, hno.out⟩)
      rw [show off + (7 + 2 * k) = off + (q + 1) by rw [hq.out]; omega] at c1
      rw [← hq.out] at c0 ⊢
      clear b0 b1 hlt
      rcases hzw with ⟨q1, hzk⟩ | ⟨q1, ⟨q2, hzk⟩ | ⟨q2, hzk⟩⟩
      · have HX := Lib.hid (HNX.out hzk.out)
        clear hzk
        go_wp2
        go_round
        case rel => exact ⟨k + 1, hkk, by rw [HR.out]; go_num, HX⟩
        case measure => simp [intOf]; omega
      · have HX := Lib.hid (HNX.out hzk.out)
        clear hzk
        go_wp2
        go_round
        case rel => exact ⟨k + 1, hkk, by rw [HR.out]; go_num, HX⟩
        case measure => simp [intOf]; omega
      · -- the label ends here
        have hways := HW.out k (HSK.out hzk.out)
        rw [← hx.out, ← hz.out, ← hL.out] at hways
        obtain ⟨v1, v2, v3, v4, v5⟩ := hways
        have HV5 := Lib.hid v5
        clear hzk v2 v3 v4 v5 HNX HSK HC2
        obtain ⟨K2, hK2⟩ : ∃ n : Nat, Hid (n = 2 * k) := ⟨_, Lib.hid rfl⟩
        have hq6 : Hid (q = 6 + K2) := Lib.hid (by rw [hq.out, hK2.out])
        have hqb : 6 ≤ q := by rw [hq6.out]; omega
        obtain ⟨NS, hNS⟩ : ∃ s, Hid (s = sOf (narS ((l.drop 6).take K2))) := ⟨_, Lib.hid rfl⟩
        obtain ⟨NE, hNE⟩ : ∃ s, Hid (s = narE ((l.drop 6).take K2)) := ⟨_, Lib.hid rfl⟩
        have HSEG : Hid (∃ u, (∀ W : World, (Instr.sliceAt 23 (.slice (some ⟨b, off, none⟩) L cap) (some (.int .i64 6)) (some (.int .i64 (q : Int))) none).run Try.prog W = .ok u W) ∧ Byt w u ((l.drop 6).take K2)) := Lib.hid (by
          have hvv := HV.out
          rw [hL.out] at hvv ⊢
          obtain ⟨u, hu1, hu2⟩ := byt_slice hvv 6 (q : Int) (by omega) (by omega) (by have := hL.out; omega)
          refine ⟨u, hu1, ?_⟩
          have e : seg l 6 ((q : Int) - 6) = (l.drop 6).take K2 := by
            unfold seg
            rw [show ((q : Int) - 6).toNat = K2 by have := hq6.out; omega]
            rfl
          rw [e] at hu2
          exact hu2)
        obtain ⟨u, hu1, hu2⟩ := HSEG.out
        obtain ⟨u1, uc, rfl, _, _⟩ := hu2.shut
        have HU := Lib.hid hu2
        clear hu2
        obtain ⟨N6, hN6⟩ : ∃ n, Hid (n = ((l.drop 6).take K2).length) := ⟨_, Lib.hid rfl⟩
        rw [← hN6.out] at hu1 HU
        have HNW : Hid (∀ W, Below w.heap.size w W → Calls Try.prog 35 #[.slice u1 N6 uc] W fun e w' => e = .returned (.tuple #[.string NS, .int .i64 NE]) ∧ Below W.heap.size W w') := Lib.hid (fun W hb => by rw [hNS.out, hNE.out]; exact refNarrow_calls _ _ W (HU.out.below hb) (by rw [List.length_take]; have := hK2.out; omega))
        have n1 : (0 : Int) ≤ (q : Int) + 2 := by omega
        have n2 : IntKind.i64.wrap ((q : Int) + 2) = (q : Int) + 2 := IntWalk.i64_in _ (by omega)
        have HCT : Hid (∀ W, Below w.heap.size w W → Calls Try.prog 36 #[.slice (some ⟨b, off, none⟩) L cap, .int .i64 ((q : Int) + 2), .int .i64 (z : Int)] W fun e w' => ∃ y n c, e = .returned (.tuple #[.slice y n c, .bool (withinB L ((q : Int) + 2) (z : Int))]) ∧ OwnB w' W.heap.size (.slice y n c) (cutL l ((q : Int) + 2) (z : Int)) ∧ Below W.heap.size W w') := Lib.hid (fun W hb => (refCut_calls _ l ((q : Int) + 2) (z : Int) W (HV.out.below hb) (by unfold I64; omega) (by unfold I64; omega) (by have := hL.out; omega)).mono (by
          rintro e w' ⟨v', rfl, ho, hbb⟩
          obtain ⟨y, c, rfl, _, _⟩ := Own.shape ho
          exact ⟨y, _, c, by rw [hL.out], ho, hbb⟩))
        go_wp2_with fail
        refine (HNW.out _ HB2.out).mono ?_
        rintro e w3 ⟨rfl, hb⟩
        have HB3 := Lib.hid (HB2.out.trans (hb.mono HB2.out.size))
        have R3 := Lib.hid (R2.out.below hb)
        clear hb hu1
        go_wp2_with fail
        refine (HCT.out _ HB3.out).mono ?_
        rintro e w4 ⟨y4, n4, c4, rfl, ho, hb⟩
        have HB4 := Lib.hid (HB3.out.trans (hb.mono HB3.out.size))
        have R4 := Lib.hid (R3.out.below hb)
        have O4 := Lib.hid ho
        have z3 := Lib.hid R3.out.lt
        clear hb ho
        have o0 := R4.out.cell 0 (.int .u32 0) rfl
        have o1 := R4.out.cell 1 (.string ByteArray.empty) rfl
        have o2 := R4.out.cell 2 (.slice none 0 0) rfl
        have o3 := R4.out.cell 3 (.slice none 0 0) rfl
        have fo := R4.out.free
        have zo := R4.out.lt
        have e22 : (q : Int) + 2 = ((q + 2 : Nat) : Int) := rfl
        rcases HV5.out with ⟨v6, v7⟩ | ⟨v6, ⟨v7, v8⟩ | ⟨v7, v8⟩⟩
        · have hco := cut_out l (q + 2) z (by have := hL.out; have := hq.out; omega)
          have HRN := Lib.hid (res_none l v7)
          have hwf : withinB L ((q : Int) + 2) (z : Int) = false := by rw [hL.out]; exact hco.2
          rw [hwf]
          have hNEw : NE = 0 ∨ NE = 9 := by rw [hNE.out]; unfold narE; split <;> simp
          clear v7 hco hwf e22
          rcases hNEw with rfl | rfl
          all_goals
            go_wp2
            refine bodyPost_ret (v := .tuple #[.agg #[.int .u32 0, .string ByteArray.empty, .slice none 0 0, .slice none 0 0], .int .i64 9]) ?_ rfl ?_
            · (simp [results, Try.results19, go_sem, o0, o1, o2, o3]; try rfl)
            · refine ⟨.slice none 0 0, .slice none 0 0, HRN.out.1, ?_, ?_, fun j hj => by simp [ownB] at hj, below_four HB4.out (Nat.le_refl _) _ _ _ _⟩
              · rw [HRN.out.2]; exact OwnB.empty _ _ _
              · rw [HRN.out.2]; exact OwnB.empty _ _ _
        · have hci := cut_in l (q + 2) z (by have := hL.out; have := hq.out; omega)
          have HRN := Lib.hid (res_none l v8)
          have hwf : withinB L ((q : Int) + 2) (z : Int) = true := by rw [hL.out]; exact hci.2
          rw [hwf]
          obtain rfl : NE = 9 := by rw [hNE.out]; unfold narE; rw [hK2.out, v7]; rfl
          clear v7 v8 hci hwf e22
          go_wp2
          refine bodyPost_ret (v := .tuple #[.agg #[.int .u32 0, .string ByteArray.empty, .slice none 0 0, .slice none 0 0], .int .i64 9]) ?_ rfl ?_
          · (simp [results, Try.results19, go_sem, o0, o1, o2, o3]; try rfl)
          · refine ⟨.slice none 0 0, .slice none 0 0, HRN.out.1, ?_, ?_, fun j hj => by simp [ownB] at hj, below_four HB4.out (Nat.le_refl _) _ _ _ _⟩
            · rw [HRN.out.2]; exact OwnB.empty _ _ _
            · rw [HRN.out.2]; exact OwnB.empty _ _ _
        · have hci := cut_in l (q + 2) z (by have := hL.out; have := hq.out; omega)
          have HRS := Lib.hid (res_some l _ v8)
          have hwf : withinB L ((q : Int) + 2) (z : Int) = true := by rw [hL.out]; exact hci.2
          rw [hwf]
          obtain rfl : NE = 0 := by rw [hNE.out]; unfold narE; rw [hK2.out, v7]; rfl
          have O4c : Hid (OwnB w4 w3.heap.size (.slice y4 n4 c4) ((l.drop (8 + 2 * k)).take z)) := Lib.hid (by
            have := O4.out
            rw [e22, hci.1, hq.out, show 6 + 2 * k + 2 = 8 + 2 * k by omega] at this
            exact this)
          clear v7 v8 hci hwf e22
          obtain ⟨t, ht⟩ : ∃ t : Nat, Hid (t = q + 2 + z) := ⟨_, Lib.hid rfl⟩
          have htL : t ≤ L := by have := ht.out; have := hq.out; omega
          obtain ⟨yt, hsl, hby⟩ := byt_tail (b := b) (off := off) (cap := cap) (q := t) (len := L) HV.out hL.out htL
          have HBY := Lib.hid hby
          clear hby
          have n3 : (q : Int) + 2 + (z : Int) = (t : Int) := by have := ht.out; omega
          have n4' : IntKind.i64.wrap ((q : Int) + 2 + (z : Int)) = (t : Int) := by rw [n3]; exact IntWalk.i64_in _ (by omega)
          clear o0 o1 o2 o3 fo zo
          go_wp2_with fail
          refine (own_shape _ _ _ (copyBytes_calls _ _ _ (HBY.out.below HB4.out) (by rw [List.length_drop]; have := hL.out; omega))).mono ?_
          rintro e w5 ⟨y5, c5, rfl, ho, hb⟩
          obtain ⟨n5, hn5⟩ : ∃ n, n = (l.drop t).length := ⟨_, rfl⟩
          rw [← hn5] at ho ⊢
          have HB5 := Lib.hid (HB4.out.trans (hb.mono HB4.out.size))
          have R5 := Lib.hid (R4.out.below hb)
          have O5 := Lib.hid ho
          have O45 := Lib.hid (O4c.out.below hb)
          have z4 := Lib.hid R4.out.lt
          clear hb ho hn5
          have o0 := R5.out.cell 0 (.int .u32 0) rfl
          have o1 := R5.out.cell 1 (.string ByteArray.empty) rfl
          have o2 := R5.out.cell 2 (.slice none 0 0) rfl
          have o3 := R5.out.cell 3 (.slice none 0 0) rfl
          have fo := R5.out.free
          have zo := R5.out.lt
          go_wp2
          refine bodyPost_ret (v := .tuple #[.agg #[.int .u32 (x : Int), .string NS, .slice y4 n4 c4, .slice y5 n5 c5], .int .i64 0]) ?_ rfl ?_
          · (simp [results, Try.results19, go_sem, o0, o1, o2, o3]; try rfl)
          · refine ⟨.slice y4 n4 c4, .slice y5 n5 c5, ?_, ?_, ?_, ?_, below_four HB5.out (Nat.le_refl _) _ _ _ _⟩
            · rw [HRS.out.1, HRS.out.2, hNS.out, hK2.out]
              rfl
            · rw [HRS.out.1]
              exact (own_four O45.out z3.out _ _ _ _).mono (Nat.le_of_lt z3.out)
            · rw [HRS.out.1]
              have := (own_four O5.out z4.out (.int .u32 (x : Int)) (.string NS) (.slice y4 n4 c4) (.slice y5 n5 c5)).mono (Nat.le_of_lt z4.out)
              rw [show t = 8 + 2 * k + z by have := ht.out; have := hq.out; omega] at this
              exact this
            · intro j hj e
              have h1 := (Own.lt O4c.out j hj).2
              have h2 := (Own.lt O5.out j e).1
              omega
    · have HX : Hid (endK l = none) := Lib.hid (HN.out.2 (fun j => by
        by_cases hj : j < k
        · exact hno.out j hj
        · cases hzj : zp l j with
          | false => rfl
          | true => have := ((HZ.out j).1 hzj).1; omega))
      have HRN := Lib.hid (res_none l (by unfold rdO; rw [HX.out]))
      have o0 := R2.out.cell 0 (.int .u32 0) rfl
      have o1 := R2.out.cell 1 (.string ByteArray.empty) rfl
      have o2 := R2.out.cell 2 (.slice none 0 0) rfl
      have o3 := R2.out.cell 3 (.slice none 0 0) rfl
      have fo := R2.out.free
      have zo := R2.out.lt
      go_wp2
      refine bodyPost_ret (v := .tuple #[.agg #[.int .u32 0, .string ByteArray.empty, .slice none 0 0, .slice none 0 0], .int .i64 9]) ?_ rfl ?_
      · (simp [results, Try.results19, go_sem, o0, o1, o2, o3]; try rfl)
      · refine ⟨.slice none 0 0, .slice none 0 0, HRN.out.1, ?_, ?_, fun j hj => by simp [ownB] at hj, below_four HB2.out (Nat.le_refl _) _ _ _ _⟩
        · rw [HRN.out.2]; exact OwnB.empty _ _ _
        · rw [HRN.out.2]; exact OwnB.empty _ _ _

theorem refRead_calls (v : Value) (l : List UInt8) (w : World) (hv : Byt w v l) (hl : l.length ≤ 1000000000) :
    Calls Try.prog 19 #[v] w fun e w' => ∃ p' d', e = .returned (.tuple #[optV (rdR l).a (rdR l).s p' d', .int .i64 (rdE l)]) ∧ OwnB w' w.heap.size p' (rdR l).p ∧ OwnB w' w.heap.size d' (rdR l).d ∧ (∀ j, ownB p' = some j → ownB d' ≠ some j) ∧ Below w.heap.size w w' := by
  by_cases h : l.length < 6
  · exact refRead_short v l w hv h
  · exact refRead_long v l w hv (by omega) hl
end Go.Proofs.Ytbcocblamocobaa
