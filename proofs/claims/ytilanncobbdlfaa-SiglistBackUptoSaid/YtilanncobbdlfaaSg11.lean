/-
  The contract of siglist's Write.
-/
import Derived.Test.YtilanncobbdlfaaSg10
namespace Go.Proofs.Ytilanncobbdlfaa
open Go Go.RowKit
set_option linter.unusedVariables false

/-- What Write promises. -/
def WrRes (ls : List Li) (w : World) (e : Ending) (w' : World) : Prop := ∃ a n c, e = .returned (.tuple #[.slice a n c, .int .i64 (wrE ls)]) ∧ OwnB w' w.heap.size (.slice a n c) (wrR ls) ∧ Below w.heap.size w w'

set_option maxRecDepth 100000 in
set_option maxHeartbeats 4000000 in
theorem sgWrite_calls (v : Value) (xs : List LiV) (w : World) (hv : Lis w v xs) (hn : xs.length ≤ 1000000) (hi : ∀ x ∈ xs, x.i.length ≤ 1000000) (hd : ∀ x ∈ xs, ∀ y ∈ x.i, y.d.length ≤ 1000000) :
    Calls Try.prog 16 #[v] w (WrRes (xs.map LiV.li) w) := by
  have HV := Lib.hid hv
  have HI := Lib.hid hi
  have HD := Lib.hid hd
  obtain ⟨a, cap, rfl, h1, h2⟩ := hv.open
  clear hv hi hd
  obtain ⟨N, hN⟩ : ∃ n, Hid (n = xs.length) := ⟨_, Lib.hid rfl⟩
  rw [← hN.out] at HV h1 hn ⊢
  obtain ⟨ls, hls⟩ : ∃ l, Hid (l = xs.map LiV.li) := ⟨_, Lib.hid rfl⟩
  rw [← hls.out]
  have HAT : Hid (∀ (j : Nat) (x : LiV), xs[j]? = some x → ls[j]? = some x.li) := Lib.hid (fun j x h => by rw [hls.out]; exact li_at h)
  go_enter Try.func16, Try.ntmps16
  go_wp2
  go_loopw [14] (fun j_ wr => ∃ j : Nat, j ≤ N ∧ j_ = .int .i64 j ∧ Hid (∀ r x, r < j → xs[r]? = some x → riB x.li = true) ∧ Hid (Below w.heap.size w wr)) (fun j_ _ => N - (intOf j_).toNat)
  case atStart => exact ⟨0, Nat.zero_le _, rfl, Lib.hid (fun r x hr => absurd hr (Nat.not_lt_zero _)), Lib.hid (Below.refl _ _)⟩
  case round =>
    obtain ⟨j, hj, rfl, hgood, HB⟩ := hrel
    obtain ⟨wo, hwo⟩ : ∃ wo : World, wo = wr := ⟨_, rfl⟩
    subst hwo
    by_cases hlt : j < N
    · obtain ⟨b, off, x, ia, n, ic, hx, ha, hrow, hxv, hm, hmc, hc, hits⟩ := HV.out.item j (by rw [← hN.out]; exact hlt)
      subst ha
      have hdl : decide ((j : Int) < (N : Int)) = true := by simp; omega
      have HX := Lib.hid hx
      have HRNG := Lib.hid (range_below hrow HB.out)
      have HRI := Lib.hid (fun W (h : Its W (.slice ia n ic) x.i) => sgRight_calls x.k _ x.i W h (by have := HI.out x (List.mem_of_getElem? hx); omega) (fun y hy => by have := HD.out x (List.mem_of_getElem? hx) y hy; omega))
      have HITS := Lib.hid hits
      obtain ⟨k, hk⟩ : ∃ k, Hid (k = x.k) := ⟨_, Lib.hid rfl⟩
      rw [← hk.out] at HRNG HRI
      obtain ⟨RB, hRB⟩ : ∃ B, Hid (B = riB x.li) := ⟨_, Lib.hid rfl⟩
      rw [show riB ⟨k, x.i.map ItV.it⟩ = RB by rw [hRB.out, hk.out]; rfl] at HRI
      clear hrow hx hxv hm hits
      have HR1 := Lib.hid (RowAt.new wo #[.int .u8 k, .slice ia n ic] 39 wo.heap.size rfl)
      have HB1 := Lib.hid (HB.out.alloc HB.out.size (.cells #[.int .u8 k, .slice ia n ic] 39))
      have HI1 := Lib.hid ((HITS.out.below HB.out).below ((Below.refl _ _).alloc (Nat.le_refl _) (.cells #[.int .u8 k, .slice ia n ic] 39)))
      go_wp2_with (first
        | (refine wpList_load_mid rfl 39 _ rfl b (off + j * 2) rfl [.int .u8 k, .slice ia n ic] _ HRNG.out Try.underlying39 rfl (by kernel_rfl) ?_)
        | (refine wpList_store_list rfl _ _ rfl wo #[.int .u8 0, .slice none 0 0] #[.int .u8 k, .slice ia n ic] rfl rfl (fun u hu => by simp at hu; rcases hu with rfl | rfl <;> rfl) rfl rfl ?_)
        | (refine wpList_load_mid rfl 39 _ rfl wo.heap.size 0 rfl [.int .u8 k, .slice ia n ic] _ HR1.out.range Try.underlying39 rfl (by kernel_rfl) ?_))
      refine (HRI.out _ HI1.out).mono ?_
      rintro e w2 ⟨rfl, hb⟩
      have HB2 := Lib.hid (HB1.out.trans (hb.mono HB1.out.size))
      clear hb
      cases RB with
      | false =>
        have HW := Lib.hid (wr_bad (HAT.out j x HX.out) hRB.out.symm)
        go_wp2
        go_ret2
        unfold WrRes
        rw [HW.out.1, HW.out.2]
        exact ⟨_, _, _, rfl, OwnB.empty _ _ _, HB2.out⟩
      | true =>
        go_wp2
        go_roundw
        case rel => exact ⟨j + 1, hlt, by go_num, Lib.hid (fun r y hr hy => by
            by_cases e : r = j
            · subst e
              rw [HX.out] at hy
              cases hy
              exact hRB.out.symm
            · exact hgood.out r y (by omega) hy), HB2⟩
        case measure => simp [intOf]; omega
    · obtain rfl : j = N := by omega
      have hdl : decide ((j : Int) < (j : Int)) = false := by simp
      have HWB : Hid (wrB ls = true) := Lib.hid (by rw [hls.out]; exact wr_good (fun r x hr hx => hgood.out r x (by rw [hN.out]; exact hr) hx))
      obtain ⟨N, hN2⟩ : ∃ N : Nat, N = j := ⟨_, rfl⟩
      subst hN2
      go_wp2
      go_loopw [24, 6] (fun j_ o_ wr => ∃ (j : Nat) (x : Option Addr) (nx cx : Nat) (O : List UInt8), j ≤ N ∧ j_ = .int .i64 j ∧ o_ = .slice x nx cx ∧ nx ≤ 65536 ∧ Hid (nx = O.length) ∧ Hid (O = lsW (ls.take j)) ∧ Hid (OwnB wr w.heap.size (.slice x nx cx) O) ∧ Hid (.slice x nx cx = (.slice none 0 0 : Value) ∨ 0 < O.length) ∧ Hid (Below w.heap.size w wr)) (fun j_ _ _ => N - (intOf j_).toNat)
      case atStart => exact ⟨0, none, 0, 0, [], Nat.zero_le _, rfl, rfl, by omega, Lib.hid rfl, Lib.hid rfl, Lib.hid (OwnB.empty _ _ _), Lib.hid (.inl rfl), HB⟩
      case round =>
        obtain ⟨j, ox, on, oc, O, hj, rfl, rfl, hon, HON, HO, HOO, HNE, HB⟩ := hrel
        obtain ⟨wo, hwo⟩ : ∃ wo : World, wo = wr := ⟨_, rfl⟩
        subst hwo
        by_cases hlt : j < N
        · obtain ⟨b, off, x, ia, n, ic, hx, ha, hrow, hxv, hm, hmc, hc, hits⟩ := HV.out.item j (by rw [← hN.out]; exact hlt)
          subst ha
          have hdl : decide ((j : Int) < (N : Int)) = true := by simp; omega
          have HX := Lib.hid hx
          have HRI := Lib.hid (hgood.out j x hlt hx)
          have HMEM := Lib.hid (List.mem_of_getElem? hx)
          have hn0 : 0 < n := by rw [hm]; exact riB_pos HRI.out
          have hnb : n ≤ 1000000 := by rw [hm]; exact HI.out x HMEM.out
          have HNI := Lib.hid hm
          obtain ⟨ib, io, y0, s0, m0, c0, hy0, hia, hr0, hv0, hm0, hmc0, hc0, _, hol0, _, _⟩ := hits.item 0 (by rw [← hm]; exact hn0)
          subst hia
          have HRNG := Lib.hid (range_below hrow HB.out)
          have HITS := Lib.hid hits
          have HI16 : Hid (w.cell? ⟨ib, io + 16, none⟩ = some (.slice s0 m0 c0)) := Lib.hid (by
            have := hr0 16 _ (itC_at16 y0 hol0)
            rw [hv0, show io + 0 * 17 + 16 = io + 16 by omega] at this
            exact this)
          have HZ : Hid (szL x.li = m0) := Lib.hid (by rw [hm0]; exact szL_of x.k x.i y0 hy0)
          have HM0 : Hid (1 ≤ m0 ∧ m0 ≤ 8192) := Lib.hid (by
            have h3 := (riB_all HRI.out y0 (List.mem_of_getElem? hy0)).1
            rw [hm0]
            exact (mayB_bd x.k y0.d h3).2)
          have hm8 := HM0.out
          obtain ⟨k, hk⟩ : ∃ k, Hid (k = x.k) := ⟨_, Lib.hid rfl⟩
          rw [← hk.out] at HRNG
          clear hrow hx hxv hm hits hr0 hv0 hm0 hy0 hol0
          obtain ⟨SZ, hSZ⟩ : ∃ s, Hid (s = 16 + m0) := ⟨_, Lib.hid rfl⟩
          obtain ⟨PR, hPR⟩ : ∃ s, Hid (s = SZ * n) := ⟨_, Lib.hid rfl⟩
          obtain ⟨TT, hTT⟩ : ∃ s, Hid (s = 28 + PR) := ⟨_, Lib.hid rfl⟩
          have hszb : SZ ≤ 8208 := by have := hSZ.out; omega
          have hprb : PR ≤ 8208 * 1000000 := by rw [hPR.out]; exact Nat.mul_le_mul hszb hnb
          have httb : TT ≤ 28 + 8208 * 1000000 := by have := hTT.out; omega
          have t1 : IntKind.i64.wrap ((16 : Int) + (m0 : Int)) = (SZ : Int) := by rw [IntWalk.i64_in _ (by omega)]; have := hSZ.out; omega
          have t2 : IntKind.i64.wrap ((SZ : Int) * (n : Int)) = (PR : Int) := by
            have e : (SZ : Int) * (n : Int) = (PR : Int) := by rw [hPR.out]; exact (Int.natCast_mul SZ n).symm
            rw [e]
            exact IntWalk.i64_in _ (by omega)
          have t3 : IntKind.i64.wrap ((28 : Int) + (PR : Int)) = (TT : Int) := by rw [IntWalk.i64_in _ (by omega)]; have := hTT.out; omega
          have t4 : IntKind.u64.wrap (TT : Int) = (TT : Int) := IntWalk.u64_in _ (by omega)
          have t5 : IntKind.u64.wrap (SZ : Int) = (SZ : Int) := IntWalk.u64_in _ (by omega)
          obtain ⟨n5, hn5⟩ : ∃ m, Hid (m = wo.heap.size) := ⟨_, Lib.hid rfl⟩
          have HR1 := Lib.hid (RowAt.new wo #[.int .u8 k, .slice (some ⟨ib, io, none⟩) n ic] 39 n5 hn5.out)
          have HB1 := Lib.hid (HB.out.alloc HB.out.size (.cells #[.int .u8 k, .slice (some ⟨ib, io, none⟩) n ic] 39))
          have HO1 := Lib.hid (OwnB.alloc HOO.out (.cells #[.int .u8 k, .slice (some ⟨ib, io, none⟩) n ic] 39))
          have q0 := HR1.out.cell 0 (.int .u8 k) rfl
          have q1 := HR1.out.cell 1 (.slice (some ⟨ib, io, none⟩) n ic) rfl
          have q2 := (HB1.out.cell (p := ⟨ib, io + 16, none⟩) (lt_of_cell HI16.out)).trans HI16.out
          have HNM := Lib.hid (nmL_length_le k)
          obtain ⟨S, hS⟩ : ∃ S, Hid (S = nmL k) := ⟨_, Lib.hid rfl⟩
          have HNC := Lib.hid (fun W => name_calls k W)
          rw [← hS.out] at HNC HNM
          go_wp2_with (first
            | (refine wpList_load_mid rfl 39 _ rfl b (off + j * 2) rfl [.int .u8 k, .slice (some ⟨ib, io, none⟩) n ic] _ HRNG.out Try.underlying39 rfl (by kernel_rfl) ?_)
            | (refine wpList_store_list rfl _ _ rfl wo #[.int .u8 0, .slice none 0 0] #[.int .u8 k, .slice (some ⟨ib, io, none⟩) n ic] rfl rfl (fun u hu => by simp at hu; rcases hu with rfl | rfl <;> rfl) rfl rfl ?_); rw [← hn5.out])
          refine (HNC.out _).mono ?_
          rintro e w' ⟨rfl, rfl⟩
          have hbase := HB1.out.size
          go_wp2_with (at_builtin; refine wpList_append_str rfl _ _ rfl w.heap.size (.slice ox on oc) O rfl HO1.out HNE.out S rfl (by have := HON.out; have := HNM.out; omega) hbase ?_; intro v2 w2 ho2 hg2; have HB2 := Lib.hid (HB1.out.grown hg2 HB1.out.size (fun q hq => by have := (Own.lt HO1.out q hq).1; omega)); have HR2 := Lib.hid (HR1.out.grown hg2 (fun e => by have := (Own.lt HOO.out _ e).2; have := hn5.out; omega)); obtain ⟨P2, hP2⟩ : ∃ P, Hid (P = O ++ S) := ⟨_, Lib.hid rfl⟩; rw [← hP2.out] at ho2; have HP2 : Hid (P2.length ≤ 65536 + 16) := Lib.hid (by rw [hP2.out, List.length_append]; have := HON.out; have := HNM.out; omega); have HO2 := Lib.hid ho2; obtain ⟨x2, c2, rfl, _, _⟩ := Own.shape ho2; clear q0 q1 q2; have q1 := HR2.out.cell 1 (.slice (some ⟨ib, io, none⟩) n ic) rfl; clear ho2 hg2)
          refine (put_calls _ P2 TT 4 _ HO2.out.byt (by omega) (by have := HP2.out; omega)).mono ?_
          rintro e w3 ⟨v3, rfl, ho, hb⟩
          replace ho : OwnB w3 w2.heap.size v3 (P2 ++ lowN TT 4) := by
            unfold putL at ho
            rw [show sizedB 4 = true by decide, if_pos rfl] at ho
            exact ho
          obtain ⟨P3, hP3⟩ : ∃ P, Hid (P = P2 ++ lowN TT 4) := ⟨_, Lib.hid rfl⟩
          rw [← hP3.out] at ho
          have HP3 : Hid (P3.length = P2.length + 4) := Lib.hid (by rw [hP3.out, List.length_append, lowN_length])
          have HB3 := Lib.hid (HB2.out.trans (hb.mono HB2.out.size))
          have HR3 := Lib.hid (HR2.out.below hb)
          have HO3 := Lib.hid (OwnB.mono ho HB2.out.size)
          obtain ⟨x3, c3, rfl, _, _⟩ := Own.shape ho
          clear ho hb
          clear q1 hbase
          go_wp2_with fail
          refine (put_calls _ P3 0 4 _ HO3.out.byt (by omega) (by have := HP2.out; have := HP3.out; omega)).mono ?_
          rintro e w4 ⟨v4, rfl, ho, hb⟩
          replace ho : OwnB w4 w3.heap.size v4 (P3 ++ lowN 0 4) := by
            unfold putL at ho
            rw [show sizedB 4 = true by decide, if_pos rfl] at ho
            exact ho
          obtain ⟨P4, hP4⟩ : ∃ P, Hid (P = P3 ++ lowN 0 4) := ⟨_, Lib.hid rfl⟩
          rw [← hP4.out] at ho
          have HP4 : Hid (P4.length = P3.length + 4) := Lib.hid (by rw [hP4.out, List.length_append, lowN_length])
          have HB4 := Lib.hid (HB3.out.trans (hb.mono HB3.out.size))
          have HR4 := Lib.hid (HR3.out.below hb)
          have HO4 := Lib.hid (OwnB.mono ho HB3.out.size)
          obtain ⟨x4, c4, rfl, _, _⟩ := Own.shape ho
          clear ho hb
          go_wp2_with fail
          refine (put_calls _ P4 SZ 4 _ HO4.out.byt (by omega) (by have := HP2.out; have := HP3.out; have := HP4.out; omega)).mono ?_
          rintro e w5 ⟨v5, rfl, ho, hb⟩
          replace ho : OwnB w5 w4.heap.size v5 (P4 ++ lowN SZ 4) := by
            unfold putL at ho
            rw [show sizedB 4 = true by decide, if_pos rfl] at ho
            exact ho
          obtain ⟨P5, hP5⟩ : ∃ P, Hid (P = P4 ++ lowN SZ 4) := ⟨_, Lib.hid rfl⟩
          rw [← hP5.out] at ho
          have HP5 : Hid (P5.length = P4.length + 4) := Lib.hid (by rw [hP5.out, List.length_append, lowN_length])
          have HB5 := Lib.hid (HB4.out.trans (hb.mono HB4.out.size))
          have HR5 := Lib.hid (HR4.out.below hb)
          have HO5 := Lib.hid (OwnB.mono ho HB4.out.size)
          obtain ⟨x5, c5, rfl, _, _⟩ := Own.shape ho
          clear ho hb
          have q1 := HR5.out.cell 1 (.slice (some ⟨ib, io, none⟩) n ic) rfl
          obtain ⟨is, his⟩ : ∃ i, Hid (i = x.i.map ItV.it) := ⟨_, Lib.hid rfl⟩
          have HPL : Hid (P5 ++ bodyL is = lsW (ls.take (j + 1))) := Lib.hid (by
            rw [lsW_step (HAT.out j x HX.out), ← HO.out, hP5.out, hP4.out, hP3.out, hP2.out, hS.out]
            unfold liW
            rw [HZ.out, hSZ.out]
            rw [show x.li.k = k from hk.out.symm, show x.li.i = is from his.out.symm]
            rw [show (28 + (16 + m0) * is.length) = TT by rw [hTT.out, hPR.out, hSZ.out, his.out, List.length_map, ← HNI.out]]
            simp only [List.append_assoc])
          have HITEM : Hid (∀ y ∈ x.i, y.o.length = 16 ∧ y.d.length = m0) := Lib.hid (fun y hy => ⟨HITS.out.len y hy, by rw [← HZ.out]; exact (riB_all HRI.out y hy).2⟩)
          go_wp2
          clear q1
          go_loopw [58, 6] (fun i_ o_ wr => ∃ (i : Nat) (x3 : Option Addr) (n3 c3 : Nat) (P : List UInt8), i ≤ n ∧ i_ = .int .i64 i ∧ o_ = .slice x3 n3 c3 ∧ Hid (n3 = P.length) ∧ Hid (P = P5 ++ bodyL (is.take i)) ∧ Hid (P.length = P5.length + i * SZ) ∧ Hid (OwnB wr w.heap.size (.slice x3 n3 c3) P) ∧ Hid (Below w.heap.size w wr)) (fun i_ _ _ => n - (intOf i_).toNat)
          case atStart => exact ⟨0, _, _, _, P5, Nat.zero_le _, rfl, rfl, Lib.hid rfl, Lib.hid (by unfold bodyL; simp), Lib.hid (by omega), HO5, HB5⟩
          case round =>
            obtain ⟨i, ox, on3, oc, P, hi, rfl, rfl, HPN, HP, HPl, HOP, HBi⟩ := hrel
            obtain ⟨wi, hwi⟩ : ∃ wi : World, wi = wr := ⟨_, rfl⟩
            subst hwi
            by_cases hlt3 : i < n
            · obtain ⟨b4, off4, y, s, m, c, hy, hia, hry, hyv, hym, hymc, hyc, hyb, hyl, hyC, hy1⟩ := HITS.out.item i (by rw [← HNI.out]; exact hlt3)
              cases hia
              have hdl3 : decide ((i : Int) < (n : Int)) = true := by simp; omega
              have HYE := Lib.hid hy
              have HRY := Lib.hid (range_below hry HBi.out)
              have HYB : Hid (Byt w (.slice s m c) y.d) := Lib.hid (by rw [← hyv]; exact hyb)
              have HYL := Lib.hid hyl
              have HYC := Lib.hid hyC
              have HY1 := Lib.hid hy1
              have HYV := Lib.hid hyv
              have HYD := Lib.hid (HITEM.out y (List.mem_of_getElem? hy)).2
              obtain ⟨X, hX⟩ : ∃ X, Hid (X = itC y) := ⟨_, Lib.hid rfl⟩
              rw [← hX.out] at HRY HYC HY1
              clear hry hy hyv hyb hyl hyC hy1 hym
              obtain ⟨n6, hn6⟩ : ∃ m, Hid (m = wi.heap.size) := ⟨_, Lib.hid rfl⟩
              have HRI := Lib.hid (RowAt.new wi X.toArray 49 n6 hn6.out)
              have HB6 := Lib.hid (HBi.out.alloc HBi.out.size (.cells X.toArray 49))
              have HO6 := Lib.hid (OwnB.alloc HOP.out (.cells X.toArray 49))
              have HGB : Hid (Byt (wi.alloc (.cells X.toArray 49)) (.slice (some ⟨n6, 0, none⟩) 16 16) y.o) := Lib.hid (owner_byt (by rw [← hX.out]; exact HRI.out) HYL.out)
              have HX16 : Hid (X.toArray[16]? = some (.slice s m c)) := Lib.hid (by rw [hX.out, ← HYV.out]; simpa using itC_at16 y HYL.out)
              go_wp2_with (first
                | (refine wpList_load_mid rfl 49 _ rfl ib (io + i * 17) rfl X _ HRY.out Try.underlying49 rfl (by rw [HYC.out]; kernel_rfl) ?_)
                | (refine wpList_store_item rfl _ _ rfl wi _ X rfl HYC.out HY1.out rfl rfl ?_))
              rw [← hn6.out]
              have k6 := HRI.out.cell 16 _ HX16.out
              have z6 := HRI.out.lt
              have hbase := HB6.out.size
              have hplen : P.length ≤ 8208100000 := by
                have e := HPl.out
                have := HP5.out
                have := HP4.out
                have := HP3.out
                have := HP2.out
                have : i * SZ ≤ 1000000 * 8208 := Nat.mul_le_mul (by omega) hszb
                omega
              have hol : y.o.length = 16 := HYL.out
              have hdl : y.d.length ≤ 8192 := by have := HYD.out; omega
              go_wp2
              go_region_held3 (fun w' => w'.cell? ⟨n6, 16, none⟩ = some (.slice s m c) ∧ n6 < w'.heap.size ∧ w.heap.size ≤ w'.heap.size) (refine ⟨?_, ?_, ?_⟩ <;> first | assumption | go_keep)
                (first
                  | (refine wanted_if2 rfl ?_; refine op2_append_byt _ _ rfl w.heap.size (.slice ox on3 oc) P rfl HO6.out (.slice (some ⟨n6, 0, none⟩) 16 16) y.o rfl HGB.out (by omega) hbase ?_; intro v7 w7 ho7 hg7 hw7 _; have HF7 := Lib.hid (fresh_ne (n6 := n6) HOP.out (by have := hn6.out; omega) hw7 (by rw [hn6.out]; simp)); have HO7 := Lib.hid ho7; have HB7 := Lib.hid (HB6.out.drew.grown hg7 HB6.out.size (fun q hq => by have := (Own.lt HO6.out q hq).1; omega)); have HR7 := Lib.hid (HRI.out.drew.grown hg7 (fun e => by have := (Own.lt HOP.out _ e).2; have := hn6.out; omega)); have k7 := HR7.out.cell 16 _ HX16.out; have z7 := HR7.out.lt; have b7 := HB7.out.size; clear ho7 hg7 hw7)
                  | (refine wanted_if2 rfl ?_; refine op2_append_byt _ _ rfl w.heap.size _ (P ++ y.o) rfl HO7.out (.slice s m c) y.d rfl (HYB.out.below HB7.out) (by rw [List.length_append]; omega) b7 ?_; intro v8 w8 ho8 hg8 _ _; have HB8 := Lib.hid (HB7.out.grown hg8 HB7.out.size (fun q hq => by have := (Own.lt HO7.out q hq).1; omega)); have b8 := HB8.out.size; have z8 : n6 < w8.heap.size := Nat.lt_of_lt_of_le z7 hg8.size; have k8 : w8.cell? ⟨n6, 16, none⟩ = some (.slice s m c) := (HR7.out.grown hg8 HF7.out).cell 16 _ HX16.out; have HO8 := Lib.hid ho8; obtain ⟨x8, n8, c8, hn8, e8⟩ : ∃ x n c, Hid (n = (P ++ y.o ++ y.d).length) ∧ v8 = .slice x n c := (by obtain ⟨x, c, e, _⟩ := Own.shape ho8; exact ⟨x, _, c, Lib.hid rfl, e⟩); subst e8; clear ho8 hg8))
              go_wp2
              go_roundw
              case rel =>
                refine ⟨i + 1, x8, n8, c8, P ++ y.o ++ y.d, hlt3, by go_num, rfl, hn8, Lib.hid ?_, Lib.hid ?_, HO8, HB8⟩
                · rw [bodyL_step (show is[i]? = some y.it by rw [his.out]; exact it_at HYE.out), HP.out]
                  show _ = P5 ++ (bodyL (is.take i) ++ y.o ++ y.d)
                  simp only [List.append_assoc]
                · have e1 := HPl.out
                  have e2 := hSZ.out
                  have e3 := HYD.out
                  rw [List.length_append, List.length_append, hol, Nat.add_mul]
                  omega
              case measure => simp [intOf]; omega
            · obtain rfl : i = n := by omega
              have hdl3 : decide ((i : Int) < (i : Int)) = false := by simp
              have HPE : Hid (P = lsW (ls.take (j + 1))) := Lib.hid (by
                rw [← HPL.out, HP.out]
                congr 2
                rw [show i = is.length by rw [his.out, List.length_map, ← HNI.out], List.take_length])
              by_cases hbig : 65536 < on3
              · have hdb : decide ((65536 : Int) < (on3 : Int)) = true := by simp; omega
                have HW := Lib.hid (wr_big HWB.out (j + 1) (by rw [← HPE.out, ← HPN.out]; exact hbig))
                go_wp2
                go_ret2
                unfold WrRes
                rw [HW.out.1, HW.out.2]
                exact ⟨_, _, _, rfl, OwnB.empty _ _ _, HBi.out⟩
              · have hdb : decide ((65536 : Int) < (on3 : Int)) = false := by simp; omega
                go_wp2
                go_roundw
                case rel => exact ⟨j + 1, ox, on3, oc, P, hlt, by go_num, rfl, by omega, HPN, HPE, HOP, Lib.hid (.inr (by have := HPl.out; have := HP5.out; omega)), HBi⟩
                case measure => simp [intOf]; omega
        · obtain rfl : j = N := by omega
          have hdl : decide ((j : Int) < (j : Int)) = false := by simp
          have HW : Hid (wrR ls = O ∧ wrE ls = 0) := Lib.hid (by
            have e : ls.take j = ls := by rw [hN.out, show xs.length = ls.length by rw [hls.out, List.length_map], List.take_length]
            have e2 := HO.out
            rw [e] at e2
            rw [e2]
            exact wr_fit HWB.out (by rw [← e2, ← HON.out]; exact hon))
          go_wp2
          go_ret2
          unfold WrRes
          rw [HW.out.1, HW.out.2]
          exact ⟨_, _, _, rfl, HOO.out, HB.out⟩
end Go.Proofs.Ytilanncobbdlfaa
