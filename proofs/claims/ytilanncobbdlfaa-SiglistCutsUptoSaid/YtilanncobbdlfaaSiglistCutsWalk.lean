/-
  The walk of the law SiglistCuts.
-/
import Derived.Test.YtilanncobbdlfaaSg25
namespace Go.Proofs.Ytilanncobbdlfaa
open Go Go.RowKit
set_option linter.unusedVariables false

theorem xor_ne (x c : UInt8) (hc : c ≠ 0) : x ^^^ c ≠ x := by
  intro h
  have := congrArg (fun z => x ^^^ z) h
  simp only [← UInt8.xor_assoc, UInt8.xor_self, UInt8.zero_xor] at this
  exact hc this
theorem set_xor_ne (R : List UInt8) (p : Nat) (c : UInt8) (hp : p < R.length) (hc : c ≠ 0) : R.set p (R.getD p 0 ^^^ c) ≠ R := by
  intro e
  have h1 := congrArg (fun l => l[p]?) e
  simp only [List.getElem?_set_self hp, List.getElem?_eq_getElem hp, Option.some.injEq] at h1
  have h2 : R.getD p 0 = R[p] := by simp [List.getD, hp]
  rw [h2] at h1
  exact xor_ne _ c hc h1
theorem bnd8 {n : Int} (h : (Lit.int .u8 n).wf = true) : 0 ≤ n ∧ n ≤ 255 := by
  simp [Lit.wf, IntKind.min, IntKind.max, IntKind.signed, IntKind.bits] at h
  omega
theorem bnd16 {n : Int} (h : (Lit.int .u16 n).wf = true) : 0 ≤ n ∧ n ≤ 65535 := by
  simp [Lit.wf, IntKind.min, IntKind.max, IntKind.signed, IntKind.bits] at h
  omega
set_option maxRecDepth 100000 in
set_option maxHeartbeats 8000000 in
theorem siglistCuts_walk (v : Value) (xs : List LiV) (cu at_ by_ : Int) (w : World) (hv : Lis w v xs) (hi : ∀ x ∈ xs, x.i.length * 3 ≤ 1048576) (hcw : (Lit.int .u16 cu).wf = true) (haw : (Lit.int .u16 at_).wf = true) (hbw : (Lit.int .u8 by_).wf = true) :
    Calls Try.prog 7 #[v, .int .u16 cu, .int .u16 at_, .int .u8 by_] w fun e w' => e = .returned (.bool true) ∧ Below w.heap.size w w' := by
  have hc1 := bnd16 hcw
  have ha1 := bnd16 haw
  have hb1 := bnd8 hbw
  clear hcw haw hbw
  have HV := Lib.hid hv
  have HI := Lib.hid hi
  obtain ⟨a, cap, rfl, h1, h2⟩ := hv.open
  clear hv hi
  obtain ⟨N, hN⟩ : ∃ n, Hid (n = xs.length) := ⟨_, Lib.hid rfl⟩
  rw [← hN.out] at HV h1 ⊢
  obtain ⟨L, hL⟩ : ∃ L, Hid (xs.map LiV.li = L) := ⟨_, Lib.hid rfl⟩
  have HLN : Hid (L.length = N) := Lib.hid (by rw [← hL.out, List.length_map, hN.out])
  obtain ⟨R, hR⟩ : ∃ L', Hid (L' = wrR L) := ⟨_, Lib.hid rfl⟩
  obtain ⟨E, hE⟩ : ∃ E, Hid (E = wrE L) := ⟨_, Lib.hid rfl⟩
  have HOO := Lib.hid (OwnO.of HV.out hL.out)
  have HB0 : Hid (Below w.heap.size w w) := Lib.hid (Below.refl _ _)
  go_enter Try.func7, Try.ntmps7
  go_wp2_with fail
  refine (vast_form _ xs L w hL.out HV.out HI.out).mono ?_
  rintro e w' ⟨⟨BV, rfl, hBV⟩, rfl⟩
  cases BV with
  | true =>
    clear hBV
    go_wp2_with fail
    refine (works_calls _).mono ?_
    rintro e w99 ⟨rfl, hb⟩
    have HB99 := Lib.hid (HB0.out.trans (hb.mono HB0.out.size))
    clear hb
    go_wp2
    go_ret
    exact ⟨rfl, HB99.out⟩
  | false =>
    have HS := Lib.hid (hBV rfl)
    clear hBV
    have hN100 : N ≤ 100 := by have := HS.out.1; have := HLN.out; omega
    go_wp2_with fail
    refine (twins_form _ xs L w hL.out HV.out HS.out).mono ?_
    rintro e w1 ⟨a1, n1, c1, ys, rfl, hm, ho, hb⟩
    have HB1 := Lib.hid hb
    clear hb
    go_wp2_with fail
    refine (wr_form _ ys L R hR.out E hE.out _ hm.out ho.out.lis HS.out).mono ?_
    rintro e w2 ⟨a2, n2, c2, rfl, hn2, HRL, ho2, hb⟩
    have HB2 := Lib.hid (HB1.out.trans (hb.mono HB1.out.size))
    have HO2 := Lib.hid (ho2.out.mono HB1.out.size)
    clear hb ho2
    by_cases hE0 : E = 0
    case neg =>
      have hne : (E != 0) = true := by simp [hE0]
      go_wp2_with fail
      refine (works_calls _).mono ?_
      rintro e w99 ⟨rfl, hb⟩
      have HB99 := Lib.hid (HB2.out.trans (hb.mono HB2.out.size))
      clear hb
      go_wp2
      go_ret
      exact ⟨rfl, HB99.out⟩
    case pos =>
      subst hE0
      obtain ⟨hwb, hll, hrr⟩ := wrE_zero hE.out.symm
      have HWB := Lib.hid hwb
      have HLL := Lib.hid hll
      have HR : Hid (R = lsW L) := Lib.hid (hR.out.trans hrr)
      have HN45 : Hid (¬ N = 0 → 45 ≤ n2) := Lib.hid (fun h => by
        rw [hn2.out, HR.out]
        have h3 := HLN.out
        cases e : L with
        | nil => rw [e] at h3; simp at h3; omega
        | cons x l =>
          have h4 := HWB.out
          rw [e, wrB_cons] at h4
          have := (liW_len h4.1 (HOO.out x (by rw [e]; simp))).2
          rw [lsW_cons, List.length_append]
          omega)
      clear hwb hll hrr
      have hnR := hn2
      have hn2b : n2 ≤ 65536 := by rw [hn2.out]; exact HRL.out
      go_wp2
      go_loopw [12, 11] (fun i_ e_ wr => ∃ (j m : Nat) (ea : Option Addr) (ec : Nat), j ≤ N ∧ i_ = .int .i64 j ∧ e_ = .slice ea m ec ∧ Hid (m = j + 1) ∧ Hid (Own wr w2.heap.size 3 1 (.slice ea m ec) m (endsV L m)) ∧ Hid (Below w2.heap.size w2 wr)) (fun i_ _ _ => N - (intOf i_).toNat)
      case atStart =>
        refine ⟨0, 1, _, _, Nat.zero_le _, rfl, rfl, Lib.hid rfl, Lib.hid ?_, Lib.hid ((Below.refl _ _).alloc (Nat.le_refl _) _)⟩
        have := Own.made w2 w2.heap.size 3 1 #[.int .i64 0] 1 1 (Nat.le_refl _) rfl (by omega) (by omega) (by unfold maxLen; omega)
        exact this
      case round =>
        obtain ⟨j, m, ea, ec, hj, rfl, rfl, hmj, HOW, HBw⟩ := hrel
        obtain ⟨wo, hwo⟩ : ∃ wo : World, wo = wr := ⟨_, rfl⟩
        subst hwo
        by_cases hlt : j < N
        · have hdl : decide ((j : Int) < (N : Int)) = true := by simp; omega
          obtain ⟨yj, hrunj, hyj⟩ := lis_cut HV.out (j + 1) hlt
          have hrunj' : ∀ W : World, (Instr.sliceAt 29 (.slice a N cap) none (some (.int .i64 ((j : Int) + 1))) none).run Try.prog W = .ok (.slice yj (j + 1) cap) W := hrunj
          clear hrunj
          have HYJ := Lib.hid hyj
          clear hyj
          have HBo := Lib.hid (HB2.out.trans (HBw.out.mono HB2.out.size))
          have HEJ := Lib.hid (wrE_of (wrB_take HWB.out (j + 1)) (Nat.le_trans (lsW_take L (j + 1)) HLL.out))
          go_wp2_with fail
          refine (twins_form _ (xs.take (j + 1)) (L.take (j + 1)) _ (by rw [← hL.out, List.map_take]) (HYJ.out.below HBo.out) (HS.out.take _)).mono ?_
          rintro e w3 ⟨a3, n3, c3, vs, rfl, hm3, ho3, hb⟩
          have HB3 := Lib.hid (HBw.out.trans (hb.mono HBw.out.size))
          have HOW3 := Lib.hid (Own.below HOW.out hb (Nat.le_refl _))
          clear hb
          go_wp2_with fail
          refine (wr_form _ vs (L.take (j + 1)) (lsW (L.take (j + 1))) HEJ.out.2.symm 0 HEJ.out.1.symm _ hm3.out ho3.out.lis (HS.out.take _)).mono ?_
          rintro e w4 ⟨a4, n4_, c4, rfl, hn4, hl4, ho4, hb⟩
          have HB4 := Lib.hid (HB3.out.trans (hb.mono HB3.out.size))
          have HOW4 := Lib.hid (Own.below HOW3.out hb (Nat.le_refl _))
          clear hb hrunj'
          have hmb : m ≤ 1000000000 := by have := hmj.out; omega
          go_wp2_with (refine wpList_append_int rfl _ _ rfl w2.heap.size _ m (endsV L m) rfl (HOW4.out.alloc _) _ [.int .i64 (n4_ : Int)] rfl rd_one (by simp [Value.oneCell']) hmb (by have := (HB4.out.alloc HB4.out.size (.cells #[.int .i64 (n4_ : Int)] 3)).size; exact this) ?_)
          intro v5 w5 hO5 hG5 hN5
          obtain ⟨ea5, ec5, rfl, _, _⟩ := Own.shape hO5
          have HO5 : Hid (Own w5 w2.heap.size 3 1 (.slice ea5 (m + 1) ec5) (m + 1) (endsV L (m + 1))) := Lib.hid (by
            rw [endsV_snoc]
            have e := hmj.out
            subst e
            rw [← hn4.out]
            exact hO5)
          have HB5 := Lib.hid ((HB4.out.alloc HB4.out.size (.cells #[.int .i64 (n4_ : Int)] 3)).grown hG5 (HB4.out.alloc HB4.out.size _).size (fun q hq => (Own.lt HOW.out q hq).1))
          clear hO5 hG5 hN5
          go_wp2
          go_roundw
          case rel => exact ⟨j + 1, m + 1, ea5, ec5, hlt, by go_num, by trivial, Lib.hid (by rw [hmj.out]), HO5, HB5⟩
          case measure => simp [intOf]; omega
        · obtain rfl : N = j := by omega
          have hdl : decide ((N : Int) < (N : Int)) = false := by simp
          have HBC := HBw
          have HB5 := Lib.hid (HB2.out.trans (HBw.out.mono HB2.out.size))
          obtain ⟨kz, hkz⟩ : ∃ k : Nat, Hid ((k : Int) = cu % ((n2 : Int) + 1)) := ⟨(cu % ((n2 : Int) + 1)).toNat, Lib.hid (by have := Int.emod_nonneg cu (show (n2 : Int) + 1 ≠ 0 by omega); omega)⟩
          have hkn : kz ≤ n2 := by have := hkz.out; have := Int.emod_lt_of_pos cu (show (0 : Int) < (n2 : Int) + 1 by omega); omega
          have hke : cu % ((n2 : Int) + 1) = (kz : Int) := hkz.out.symm
          have hke2 : cu.tmod ((n2 : Int) + 1) = (kz : Int) := by rw [Int.tmod_eq_emod_of_nonneg (by omega)]; exact hke
          obtain ⟨p, hp⟩ : ∃ p : Nat, Hid ((p : Int) = at_ % 28) := ⟨(at_ % 28).toNat, Lib.hid (by omega)⟩
          have hp28 : p < 28 := by have := hp.out; omega
          have hpe : at_ % 28 = (p : Int) := hp.out.symm
          have hpe2 : at_.tmod 28 = (p : Int) := by rw [Int.tmod_eq_emod_of_nonneg (by omega)]; exact hpe
          obtain ⟨c8, hc8⟩ : ∃ c : UInt8, Hid (by_ = (c.toNat : Int)) := ⟨UInt8.ofNat by_.toNat, Lib.hid (by rw [UInt8.toNat_ofNat']; omega)⟩
          obtain ⟨z8, hz8⟩ : ∃ z : UInt8, Hid (z = R.getD p 0 ^^^ c8) := ⟨_, Lib.hid rfl⟩
          obtain ⟨f, hf⟩ : ∃ f : Int, Hid (f = ((R.getD p 0).toNat : Int)) := ⟨_, Lib.hid rfl⟩
          obtain ⟨zz, hz⟩ : ∃ z : Int, Hid (z = (z8.toNat : Int)) := ⟨_, Lib.hid rfl⟩
          have hxor : bits .xor .u8 f by_ = zz := by rw [hf.out, hc8.out, hz.out, hz8.out]; exact bits_xor8 _ _
          obtain ⟨LK, hLK⟩ : ∃ X, Hid (X = resL (R.take kz)) := ⟨_, Lib.hid rfl⟩
          obtain ⟨EK, hEK⟩ : ∃ X, Hid (X = resE (R.take kz)) := ⟨_, Lib.hid rfl⟩
          obtain ⟨g, ec', e5, _, _, _, _, _⟩ := Own.head HOW.out (by have := hmj.out; omega)
          simp only [Value.slice.injEq] at e5
          obtain ⟨rfl, _, _⟩ := e5
          have hm0 : m ≤ 101 := by have := hmj.out; omega
          go_wp2
          go_loopw [17, 16] (fun i_ z_ wr => ∃ (q : Nat) (z : Int), q ≤ m ∧ i_ = .int .i64 q ∧ z_ = .int .i64 z ∧ Hid (WH L kz q z) ∧ wo = wr) (fun i_ _ _ => m - (intOf i_).toNat)
          case atStart => exact ⟨0, -1, Nat.zero_le _, rfl, rfl, Lib.hid (WH.zero _ _), rfl⟩
          case round =>
            obtain ⟨q, z, hq, rfl, rfl, HW, hww⟩ := hrel
            subst hww
            by_cases hqm : q < m
            · have hdq : decide ((q : Int) < (m : Int)) = true := by simp; omega
              obtain ⟨eq_, heq⟩ : ∃ e, Hid (e = (lsW (L.take q)).length) := ⟨_, Lib.hid rfl⟩
              have hcell := ends_cell HOW.out (endsV_at (L := L) hqm)
              rw [← heq.out] at hcell
              by_cases hek : eq_ = kz
              · have hbe : ((eq_ : Int) == (kz : Int)) = true := by simp [hek]
                have HWQ : Hid (WH L kz (q + 1) (q : Int)) := Lib.hid (WH.hit (by rw [← heq.out]; exact hek))
                clear hek
                go_wp2
                go_roundw
                case rel => exact ⟨q + 1, (q : Int), hqm, by go_num, by trivial, HWQ, by trivial⟩
                case measure => simp [intOf]; omega
              · have hbe : ((eq_ : Int) == (kz : Int)) = false := by simp; omega
                have HWQ : Hid (WH L kz (q + 1) z) := Lib.hid (HW.out.miss (by rw [← heq.out]; exact hek))
                clear hek
                go_wp2
                go_roundw
                case rel => exact ⟨q + 1, z, hqm, by go_num, by trivial, HWQ, by trivial⟩
                case measure => simp [intOf]; omega
            · obtain rfl : q = m := by omega
              have hdq : decide ((q : Int) < (q : Int)) = false := by simp
              have HCR := cut_reads HWB.out HOO.out HLL.out (k := kz) (by rw [← HR.out, ← hn2.out]; exact hkn) (z := z) (by
                have := HW.out
                rw [hmj.out, ← HLN.out] at this
                exact this)
              rcases HCR with ⟨hza, hea⟩ | ⟨r, hrL, rfl, her, hlr⟩
              · obtain rfl := hza
                obtain rfl : EK = 9 := by rw [hEK.out, HR.out]; exact hea
                clear hea
                obtain ⟨yk, hrunk, hyk⟩ := byt_cutn (HO2.out.byt.below HBC.out) hn2.out kz hkn
                have HYK := Lib.hid hyk
                clear hyk
                go_wp2_with fail
                refine (twin_calls _ (R.take kz) _ HYK.out (by rw [List.length_take]; have := HRL.out; omega)).mono ?_
                rintro e w6 ⟨u6, rfl, ho, hb⟩
                have HB6 := Lib.hid (HB5.out.trans (hb.mono HB5.out.size))
                have HC6 := Lib.hid (HBC.out.trans (hb.mono HBC.out.size))
                have HO6 := Lib.hid ho.byt
                clear hb ho
                go_wp2_with fail
                refine (rd_form (sgReadAll_calls _ (R.take kz) _ HO6.out (by rw [List.length_take]; have := HRL.out; omega)) LK hLK.out _ hEK.out 349525 (by rw [List.length_take]; have := HRL.out; omega)).mono ?_
                rintro e w61 ⟨a61, m61, c61, ks, rfl, ho, hm, hN61, hm61, hb⟩
                have HB61 := Lib.hid (HB6.out.trans (hb.mono HB6.out.size))
                have HC61 := Lib.hid (HC6.out.trans (hb.mono HC6.out.size))
                have HO61 := Lib.hid ho.lis
                have HM61 := Lib.hid hm
                have HN61 := Lib.hid hN61
                clear hb ho hm hN61 hrunk
                clear HBC
                have HBC := HC61
                by_cases hN0 : N = 0
                · have hd0 : decide ((0 : Int) < (N : Int)) = false := by simp; omega
                  go_wp2_with fail
                  refine (works_calls _).mono ?_
                  rintro e w99 ⟨rfl, hb⟩
                  have HB99 := Lib.hid (HB61.out.trans (hb.mono HB61.out.size))
                  clear hb
                  go_wp2
                  go_ret
                  exact ⟨rfl, HB99.out⟩
                · have hd0 : decide ((0 : Int) < (N : Int)) = true := by simp; omega
                  have h45 : 45 ≤ n2 := HN45.out hN0
                  have hd28 : decide ((n2 : Int) < 28) = false := by simp; omega
                  by_cases hby : by_ = 0
                  · have hbz : (by_ != 0) = false := by simp [hby]
                    go_wp2_with fail
                    refine (works_calls _).mono ?_
                    rintro e w99 ⟨rfl, hb⟩
                    have HB99 := Lib.hid (HB61.out.trans (hb.mono HB61.out.size))
                    clear hb
                    go_wp2
                    go_ret
                    exact ⟨rfl, HB99.out⟩
                  · have hbz : (by_ != 0) = true := by simp [hby]
                    have HBY := Lib.hid hby
                    clear hby
                    go_wp2_with fail
                    refine (twin_calls _ R _ (HO2.out.byt.below (HBC.out)) (by have := HRL.out; omega)).mono ?_
                    rintro e w7 ⟨u7, rfl, ho, hb⟩
                    have HB7 := Lib.hid (HB61.out.trans (hb.mono HB61.out.size))
                    have HO7 := Lib.hid (ho.mono HB61.out.size)
                    clear hb ho
                    obtain ⟨g7, c7, rfl, hg7, hg7l, hc70, hc7l, hc7m⟩ := Own.head HO7.out (by have := hnR.out; omega)
                    obtain ⟨n7, hn7⟩ : ∃ n, Hid (n = R.length) := ⟨_, Lib.hid rfl⟩
                    rw [← hn7.out] at HO7 ⊢
                    have hd28b : decide ((n7 : Int) < 28) = false := by have := hn7.out; have := hnR.out; simp; omega
                    have hcl := OwnB.cell_at HO7.out p (by have := hnR.out; omega)
                    rw [← hf.out] at hcl
                    have hfz := OwnB.free HO7.out (by have := hn7.out; have := hnR.out; omega) p
                    have hp7 : p < n7 := by have := hn7.out; have := hnR.out; omega
                    have HST := Lib.hid (OwnB.set HO7.out p hp7 z8 zz hz.out)
                    have HB8 := Lib.hid (HB7.out.setCell (p := ⟨g7, p, none⟩) hg7 (.int .u8 zz))
                    have HRL8 : Hid ((R.set p z8).length ≤ 65536) := Lib.hid (by rw [List.length_set]; exact HRL.out)
                    have HNE : Hid (R.set p z8 ≠ lsW L) := Lib.hid (by
                      rw [← HR.out, hz8.out]
                      have hpR : p < R.length := by have := hn7.out; omega
                      exact set_xor_ne R p c8 hpR (fun e0 => HBY.out (by rw [hc8.out, e0]; rfl)))
                    obtain ⟨X8, hX8⟩ : ∃ X, Hid (X = R.set p z8) := ⟨_, Lib.hid rfl⟩
                    rw [← hX8.out] at HST HRL8 HNE
                    obtain ⟨L8, hL8⟩ : ∃ X, Hid (X = resL X8) := ⟨_, Lib.hid rfl⟩
                    obtain ⟨E8, hE8⟩ : ∃ X, Hid (X = resE X8) := ⟨_, Lib.hid rfl⟩
                    clear hc70 hc7l hc7m hg7 hg7l
                    go_wp2_with fail
                    refine (rd_form (sgReadAll_calls _ X8 _ HST.out.byt (by have := HRL8.out; omega)) L8 hL8.out E8 hE8.out 349525 (by have := HRL8.out; omega)).mono ?_
                    rintro e w9 ⟨a9, m9, c9, zs, rfl, ho, hm, hN9, hm9, hb⟩
                    have HB9 := Lib.hid (HB8.out.trans (hb.mono HB8.out.size))
                    have HO9 := Lib.hid ho.lis
                    have HM9 := Lib.hid hm
                    have HN9 := Lib.hid hN9
                    clear hb ho hm hN9
                    by_cases hE80 : E8 = 0
                    · have he8 : (E8 == 0) = true := by simp [hE80]
                      have HDF := Lib.hid (turned_reads HNE.out (hE8.out.symm.trans hE80))
                      clear hE80
                      go_wp2_with fail
                      refine (sameLists_form _ _ zs xs L8 L false _ (by rw [hL8.out]; exact HDF.out) HM9.out hL.out HO9.out (HV.out.below HB9.out) HN9.out (HS.out.lisN hL.out) (by decide)).mono ?_
                      rintro e w10 ⟨rfl, hb⟩
                      have HB10 := Lib.hid (HB9.out.trans (hb.mono HB9.out.size))
                      clear hb
                      go_wp2_with fail
                      refine (works_calls _).mono ?_
                      rintro e w99 ⟨rfl, hb⟩
                      have HB99 := Lib.hid (HB10.out.trans (hb.mono HB10.out.size))
                      clear hb
                      go_wp2
                      go_ret
                      exact ⟨rfl, HB99.out⟩
                    · have he8 : (E8 == 0) = false := by simp [hE80]
                      clear hE80
                      go_wp2_with fail
                      refine (works_calls _).mono ?_
                      rintro e w99 ⟨rfl, hb⟩
                      have HB99 := Lib.hid (HB9.out.trans (hb.mono HB9.out.size))
                      clear hb
                      go_wp2
                      go_ret
                      exact ⟨rfl, HB99.out⟩
              · have hrN : r ≤ N := by rw [← HLN.out]; exact hrL
                obtain ⟨yr, hrunr, hyr⟩ := lis_cut HV.out r hrN
                have HYR := Lib.hid hyr
                clear hyr
                obtain rfl : EK = 0 := by rw [hEK.out, HR.out]; exact her
                have HLK : Hid (LK = L.take r) := Lib.hid (by rw [hLK.out, HR.out]; exact hlr)
                clear her hlr
                have hr0 : decide ((0 : Int) ≤ (r : Int)) = true := by simp
                obtain ⟨yk, hrunk, hyk⟩ := byt_cutn (HO2.out.byt.below HBC.out) hn2.out kz hkn
                have HYK := Lib.hid hyk
                clear hyk
                go_wp2_with fail
                refine (twin_calls _ (R.take kz) _ HYK.out (by rw [List.length_take]; have := HRL.out; omega)).mono ?_
                rintro e w6 ⟨u6, rfl, ho, hb⟩
                have HB6 := Lib.hid (HB5.out.trans (hb.mono HB5.out.size))
                have HC6 := Lib.hid (HBC.out.trans (hb.mono HBC.out.size))
                have HO6 := Lib.hid ho.byt
                clear hb ho
                go_wp2_with fail
                refine (rd_form (sgReadAll_calls _ (R.take kz) _ HO6.out (by rw [List.length_take]; have := HRL.out; omega)) LK hLK.out _ hEK.out 349525 (by rw [List.length_take]; have := HRL.out; omega)).mono ?_
                rintro e w61 ⟨a61, m61, c61, ks, rfl, ho, hm, hN61, hm61, hb⟩
                have HB61 := Lib.hid (HB6.out.trans (hb.mono HB6.out.size))
                have HC61 := Lib.hid (HC6.out.trans (hb.mono HC6.out.size))
                have HO61 := Lib.hid ho.lis
                have HM61 := Lib.hid hm
                have HN61 := Lib.hid hN61
                clear hb ho hm hN61 hrunk
                go_wp2_with fail
                refine (sameLists_form _ _ ks (xs.take r) LK (L.take r) true _ (by rw [HLK.out]; exact decide_eq_true rfl) HM61.out (by rw [← hL.out, List.map_take]) HO61.out (HYR.out.below HB61.out) HN61.out ((HS.out.take r).lisN (by rw [← hL.out, List.map_take])) (by decide)).mono ?_
                rintro e w62 ⟨rfl, hb⟩
                have HB62 := Lib.hid (HB61.out.trans (hb.mono HB61.out.size))
                have HC62 := Lib.hid (HC61.out.trans (hb.mono HC61.out.size))
                clear hb HBC
                have HBC := HC62
                by_cases hN0 : N = 0
                · have hd0 : decide ((0 : Int) < (N : Int)) = false := by simp; omega
                  go_wp2_with fail
                  refine (works_calls _).mono ?_
                  rintro e w99 ⟨rfl, hb⟩
                  have HB99 := Lib.hid (HB62.out.trans (hb.mono HB62.out.size))
                  clear hb
                  go_wp2
                  go_ret
                  exact ⟨rfl, HB99.out⟩
                · have hd0 : decide ((0 : Int) < (N : Int)) = true := by simp; omega
                  have h45 : 45 ≤ n2 := HN45.out hN0
                  have hd28 : decide ((n2 : Int) < 28) = false := by simp; omega
                  by_cases hby : by_ = 0
                  · have hbz : (by_ != 0) = false := by simp [hby]
                    go_wp2_with fail
                    refine (works_calls _).mono ?_
                    rintro e w99 ⟨rfl, hb⟩
                    have HB99 := Lib.hid (HB62.out.trans (hb.mono HB62.out.size))
                    clear hb
                    go_wp2
                    go_ret
                    exact ⟨rfl, HB99.out⟩
                  · have hbz : (by_ != 0) = true := by simp [hby]
                    have HBY := Lib.hid hby
                    clear hby
                    go_wp2_with fail
                    refine (twin_calls _ R _ (HO2.out.byt.below (HBC.out)) (by have := HRL.out; omega)).mono ?_
                    rintro e w7 ⟨u7, rfl, ho, hb⟩
                    have HB7 := Lib.hid (HB62.out.trans (hb.mono HB62.out.size))
                    have HO7 := Lib.hid (ho.mono HB62.out.size)
                    clear hb ho
                    obtain ⟨g7, c7, rfl, hg7, hg7l, hc70, hc7l, hc7m⟩ := Own.head HO7.out (by have := hnR.out; omega)
                    obtain ⟨n7, hn7⟩ : ∃ n, Hid (n = R.length) := ⟨_, Lib.hid rfl⟩
                    rw [← hn7.out] at HO7 ⊢
                    have hd28b : decide ((n7 : Int) < 28) = false := by have := hn7.out; have := hnR.out; simp; omega
                    have hcl := OwnB.cell_at HO7.out p (by have := hnR.out; omega)
                    rw [← hf.out] at hcl
                    have hfz := OwnB.free HO7.out (by have := hn7.out; have := hnR.out; omega) p
                    have hp7 : p < n7 := by have := hn7.out; have := hnR.out; omega
                    have HST := Lib.hid (OwnB.set HO7.out p hp7 z8 zz hz.out)
                    have HB8 := Lib.hid (HB7.out.setCell (p := ⟨g7, p, none⟩) hg7 (.int .u8 zz))
                    have HRL8 : Hid ((R.set p z8).length ≤ 65536) := Lib.hid (by rw [List.length_set]; exact HRL.out)
                    have HNE : Hid (R.set p z8 ≠ lsW L) := Lib.hid (by
                      rw [← HR.out, hz8.out]
                      have hpR : p < R.length := by have := hn7.out; omega
                      exact set_xor_ne R p c8 hpR (fun e0 => HBY.out (by rw [hc8.out, e0]; rfl)))
                    obtain ⟨X8, hX8⟩ : ∃ X, Hid (X = R.set p z8) := ⟨_, Lib.hid rfl⟩
                    rw [← hX8.out] at HST HRL8 HNE
                    obtain ⟨L8, hL8⟩ : ∃ X, Hid (X = resL X8) := ⟨_, Lib.hid rfl⟩
                    obtain ⟨E8, hE8⟩ : ∃ X, Hid (X = resE X8) := ⟨_, Lib.hid rfl⟩
                    clear hc70 hc7l hc7m hg7 hg7l
                    go_wp2_with fail
                    refine (rd_form (sgReadAll_calls _ X8 _ HST.out.byt (by have := HRL8.out; omega)) L8 hL8.out E8 hE8.out 349525 (by have := HRL8.out; omega)).mono ?_
                    rintro e w9 ⟨a9, m9, c9, zs, rfl, ho, hm, hN9, hm9, hb⟩
                    have HB9 := Lib.hid (HB8.out.trans (hb.mono HB8.out.size))
                    have HO9 := Lib.hid ho.lis
                    have HM9 := Lib.hid hm
                    have HN9 := Lib.hid hN9
                    clear hb ho hm hN9
                    by_cases hE80 : E8 = 0
                    · have he8 : (E8 == 0) = true := by simp [hE80]
                      have HDF := Lib.hid (turned_reads HNE.out (hE8.out.symm.trans hE80))
                      clear hE80
                      go_wp2_with fail
                      refine (sameLists_form _ _ zs xs L8 L false _ (by rw [hL8.out]; exact HDF.out) HM9.out hL.out HO9.out (HV.out.below HB9.out) HN9.out (HS.out.lisN hL.out) (by decide)).mono ?_
                      rintro e w10 ⟨rfl, hb⟩
                      have HB10 := Lib.hid (HB9.out.trans (hb.mono HB9.out.size))
                      clear hb
                      go_wp2_with fail
                      refine (works_calls _).mono ?_
                      rintro e w99 ⟨rfl, hb⟩
                      have HB99 := Lib.hid (HB10.out.trans (hb.mono HB10.out.size))
                      clear hb
                      go_wp2
                      go_ret
                      exact ⟨rfl, HB99.out⟩
                    · have he8 : (E8 == 0) = false := by simp [hE80]
                      clear hE80
                      go_wp2_with fail
                      refine (works_calls _).mono ?_
                      rintro e w99 ⟨rfl, hb⟩
                      have HB99 := Lib.hid (HB9.out.trans (hb.mono HB9.out.size))
                      clear hb
                      go_wp2
                      go_ret
                      exact ⟨rfl, HB99.out⟩
end Go.Proofs.Ytilanncobbdlfaa
