/-
  The contract of the document's bytesOf.
-/
import Derived.Test.YtilanncobbdlfaaSg11
namespace Go.Proofs.Ytilanncobbdlfaa
open Go Go.RowKit
set_option linter.unusedVariables false

/-- An item's owner, in a row of items. -/
theorem owner_in {w : World} {b o : Nat} {y : ItV} (h : w.rangeAt b o (itC y)) (hl : y.o.length = 16) : Byt w (.slice (some ⟨b, o, none⟩) 16 16) y.o := by
  refine Byt.of hl.symm (Nat.le_refl _) (by unfold maxLen; omega) (fun q hq => ⟨b, o, rfl, ?_⟩)
  refine h q _ ?_
  unfold itC
  rw [List.getElem?_append_left (by simpa using hq), List.getElem?_map, List.getElem?_eq_getElem hq]
  simp [b8, List.getD, hq]

set_option maxRecDepth 100000 in
set_option maxHeartbeats 4000000 in
theorem bytesOf_calls (x : LiV) (w : World) (hits : Its w x.v x.i) (hri : riB x.li = true) (hnb : x.i.length ≤ 1000000) :
    Calls Try.prog 36 #[.agg #[.int .u8 x.k, x.v]] w fun e w' => ∃ v', e = .returned v' ∧ OwnB w' w.heap.size v' (liW x.li) ∧ Below w.heap.size w w' := by
  obtain ⟨ia, ic, hxv, h1, h2⟩ := hits.open
  rw [hxv] at hits ⊢
  have HITS := Lib.hid hits
  have HRI := Lib.hid hri
  have hn0 := riB_pos hri
  obtain ⟨ib, io, y0, s0, m0, c0, hy0, hia, hr0, hv0, hm0, hmc0, hc0, _, hol0, _, _⟩ := hits.item 0 hn0
  subst hia
  obtain ⟨n, HNI⟩ : ∃ n, Hid (n = x.i.length) := ⟨_, Lib.hid rfl⟩
  rw [← HNI.out] at hn0 hnb h1 HITS hits ⊢
  have HI16 : Hid (w.cell? ⟨ib, io + 16, none⟩ = some (.slice s0 m0 c0)) := Lib.hid (by
    have := hr0 16 _ (itC_at16 y0 hol0)
    rw [hv0, show io + 0 * 17 + 16 = io + 16 by omega] at this
    exact this)
  have HZ : Hid (szL x.li = m0) := Lib.hid (by rw [hm0]; exact szL_of x.k x.i y0 hy0)
  have HM0 : Hid (1 ≤ m0 ∧ m0 ≤ 8192) := Lib.hid (by
    have h3 := (riB_all hri y0 (List.mem_of_getElem? hy0)).1
    rw [hm0]
    exact (mayB_bd x.k y0.d h3).2)
  have hm8 := HM0.out
  obtain ⟨k, hk⟩ : ∃ k, Hid (k = x.k) := ⟨_, Lib.hid rfl⟩
  rw [← hk.out]
  clear hr0 hv0 hm0 hy0 hol0 hits hri hxv
  obtain ⟨L, hL⟩ : ∃ L, Hid (L = liW x.li) := ⟨_, Lib.hid rfl⟩
  rw [← hL.out]
  obtain ⟨SZ, hSZ⟩ : ∃ s, Hid (s = 16 + m0) := ⟨_, Lib.hid rfl⟩
  obtain ⟨PR, hPR⟩ : ∃ s, Hid (s = SZ * n) := ⟨_, Lib.hid rfl⟩
  obtain ⟨TT, hTT⟩ : ∃ s, Hid (s = 28 + PR) := ⟨_, Lib.hid rfl⟩
  have hszb : SZ ≤ 8208 := by have := hSZ.out; omega
  have hprb : PR ≤ 8208 * 1000000 := by rw [hPR.out]; exact Nat.mul_le_mul hszb hnb
  have httb : TT ≤ 28 + 8208 * 1000000 := by have := hTT.out; omega
  have t1 : IntKind.i64.wrap ((16 : Int) + (m0 : Int)) = (SZ : Int) := by rw [IntWalk.i64_in _ (by omega)]; have := hSZ.out; omega
  have t2 : IntKind.i64.wrap ((SZ : Int) * (n : Int)) = (PR : Int) := by
    have e : (SZ : Int) * (n : Int) = (PR : Int) := by rw [hPR.out]; exact (Int.natCast_mul SZ n).symm
    rw [e]
    exact IntWalk.i64_in _ (by omega)
  have t3 : IntKind.i64.wrap ((28 : Int) + (PR : Int)) = (TT : Int) := by rw [IntWalk.i64_in _ (by omega)]; have := hTT.out; omega
  have t4 : IntKind.u64.wrap (TT : Int) = (TT : Int) := IntWalk.u64_in _ (by omega)
  have t5 : IntKind.u64.wrap (SZ : Int) = (SZ : Int) := IntWalk.u64_in _ (by omega)
  have HR0 := Lib.hid (RowAt.new w #[.int .u8 k, .slice (some ⟨ib, io, none⟩) n ic] 39 w.heap.size rfl)
  have HB0 := Lib.hid ((Below.refl w.heap.size w).alloc (Nat.le_refl _) (.cells #[.int .u8 k, .slice (some ⟨ib, io, none⟩) n ic] 39))
  have q1 := HR0.out.cell 1 (.slice (some ⟨ib, io, none⟩) n ic) rfl
  have q2 := (HB0.out.cell (p := ⟨ib, io + 16, none⟩) (lt_of_cell HI16.out)).trans HI16.out
  have HNM := Lib.hid (nmL_length_le k)
  obtain ⟨S, hS⟩ : ∃ S, Hid (S = nmL k) := ⟨_, Lib.hid rfl⟩
  have HNC := Lib.hid (fun W => refName_calls k W)
  rw [← hS.out] at HNC HNM
  have HRe := Lib.hid (HR0.out.alloc (.cells #[] 5))
  have HBe := Lib.hid (HB0.out.alloc HB0.out.size (.cells #[] 5))
  have qe := HRe.out.cell 0 (.int .u8 k) rfl
  go_enter Try.func36, Try.ntmps36
  go_wp2_with fail
  refine (HNC.out _).mono ?_
  rintro e w1 ⟨v1, rfl, ho, hb⟩
  have HR1 := Lib.hid (HRe.out.below hb)
  have HB1 := Lib.hid (HBe.out.trans (hb.mono HBe.out.size))
  have HS1 := Lib.hid ho
  clear ho hb qe q1 q2
  have hbase : w.heap.size + 1 ≤ w1.heap.size := HR1.out.lt
  go_wp2_with (at_builtin; refine wpList_append_byt rfl _ _ rfl (w.heap.size + 1) (.slice (some ⟨_, 0, none⟩) 0 0) [] rfl (OwnB.empty _ _ _) v1 S rfl HS1.out (by have := HNM.out; simp; omega) hbase ?_; intro v2 w2 ho2 hg2 _; rw [List.nil_append] at ho2; have HB2 := Lib.hid (HB1.out.grown hg2 HB1.out.size (fun q hq => by simp [ownB] at hq)); have HR2 := Lib.hid (HR1.out.grown hg2 (fun e => by simp [ownB] at e)); obtain ⟨P2, hP2⟩ : ∃ P, Hid (P = S) := ⟨_, Lib.hid rfl⟩; rw [← hP2.out] at ho2; have HP2 : Hid (P2.length ≤ 16) := Lib.hid (by rw [hP2.out]; have := HNM.out; omega); have HO2 := Lib.hid ho2; obtain ⟨x2, c2, rfl, _, _⟩ := Own.shape ho2; have q1 := HR2.out.cell 1 (.slice (some ⟨ib, io, none⟩) n ic) rfl; clear ho2 hg2)
  refine (refPut_calls _ P2 TT 4 _ HO2.out.byt (by omega) (by have := HP2.out; omega)).mono ?_
  rintro e w3 ⟨v3, rfl, ho, hb⟩
  replace ho : OwnB w3 w2.heap.size v3 (P2 ++ lowN TT 4) := by
    unfold putL at ho
    rw [show sizedB 4 = true by decide, if_pos rfl] at ho
    exact ho
  obtain ⟨P3, hP3⟩ : ∃ P, Hid (P = P2 ++ lowN TT 4) := ⟨_, Lib.hid rfl⟩
  rw [← hP3.out] at ho
  have HP3 : Hid (P3.length = P2.length + 4) := Lib.hid (by rw [hP3.out, List.length_append, lowN_length])
  have HB3 := Lib.hid (HB2.out.trans (hb.mono HB2.out.size))
  have HR3 := Lib.hid (HR2.out.below hb)
  have HO3 := Lib.hid (OwnB.mono ho HR2.out.lt)
  obtain ⟨x3, c3, rfl, _, _⟩ := Own.shape ho
  clear ho hb
  clear q1 hbase
  go_wp2_with fail
  refine (refPut_calls _ P3 0 4 _ HO3.out.byt (by omega) (by have := HP2.out; have := HP3.out; omega)).mono ?_
  rintro e w4 ⟨v4, rfl, ho, hb⟩
  replace ho : OwnB w4 w3.heap.size v4 (P3 ++ lowN 0 4) := by
    unfold putL at ho
    rw [show sizedB 4 = true by decide, if_pos rfl] at ho
    exact ho
  obtain ⟨P4, hP4⟩ : ∃ P, Hid (P = P3 ++ lowN 0 4) := ⟨_, Lib.hid rfl⟩
  rw [← hP4.out] at ho
  have HP4 : Hid (P4.length = P3.length + 4) := Lib.hid (by rw [hP4.out, List.length_append, lowN_length])
  have HB4 := Lib.hid (HB3.out.trans (hb.mono HB3.out.size))
  have HR4 := Lib.hid (HR3.out.below hb)
  have HO4 := Lib.hid (OwnB.mono ho HR3.out.lt)
  obtain ⟨x4, c4, rfl, _, _⟩ := Own.shape ho
  clear ho hb
  go_wp2_with fail
  refine (refPut_calls _ P4 SZ 4 _ HO4.out.byt (by omega) (by have := HP2.out; have := HP3.out; have := HP4.out; omega)).mono ?_
  rintro e w5 ⟨v5, rfl, ho, hb⟩
  replace ho : OwnB w5 w4.heap.size v5 (P4 ++ lowN SZ 4) := by
    unfold putL at ho
    rw [show sizedB 4 = true by decide, if_pos rfl] at ho
    exact ho
  obtain ⟨P5, hP5⟩ : ∃ P, Hid (P = P4 ++ lowN SZ 4) := ⟨_, Lib.hid rfl⟩
  rw [← hP5.out] at ho
  have HP5 : Hid (P5.length = P4.length + 4) := Lib.hid (by rw [hP5.out, List.length_append, lowN_length])
  have HB5 := Lib.hid (HB4.out.trans (hb.mono HB4.out.size))
  have HR5 := Lib.hid (HR4.out.below hb)
  have HO5 := Lib.hid (OwnB.mono ho HR4.out.lt)
  obtain ⟨x5, c5, rfl, _, _⟩ := Own.shape ho
  clear ho hb
  obtain ⟨is, his⟩ : ∃ i, Hid (i = x.i.map ItV.it) := ⟨_, Lib.hid rfl⟩
  have HPL : Hid (P5 ++ bodyL is = L) := Lib.hid (by
    rw [hP5.out, hP4.out, hP3.out, hP2.out, hS.out, hL.out]
    unfold liW
    rw [HZ.out, hSZ.out]
    rw [show x.li.k = k from hk.out.symm, show x.li.i = is from his.out.symm]
    rw [show (28 + (16 + m0) * is.length) = TT by rw [hTT.out, hPR.out, hSZ.out, his.out, List.length_map, ← HNI.out]]
    simp only [List.append_assoc])
  have HITEM : Hid (∀ y ∈ x.i, y.o.length = 16 ∧ y.d.length = m0) := Lib.hid (fun y hy => ⟨HITS.out.len y hy, by rw [← HZ.out]; exact (riB_all HRI.out y hy).2⟩)
  go_wp2
  go_loopw [4, 5] (fun o_ i_ wr => ∃ (i : Nat) (x3 : Option Addr) (n3 c3 : Nat) (P : List UInt8), i ≤ n ∧ i_ = .int .i64 i ∧ o_ = .slice x3 n3 c3 ∧ Hid (n3 = P.length) ∧ Hid (P = P5 ++ bodyL (is.take i)) ∧ Hid (P.length = P5.length + i * SZ) ∧ Hid (OwnB wr (w.heap.size + 1) (.slice x3 n3 c3) P) ∧ Hid (RowAt wr w.heap.size #[.int .u8 k, .slice (some ⟨ib, io, none⟩) n ic]) ∧ Hid (Below w.heap.size w wr)) (fun _ i_ _ => n - (intOf i_).toNat)
  case atStart => exact ⟨0, _, _, _, P5, Nat.zero_le _, rfl, rfl, Lib.hid rfl, Lib.hid (by unfold bodyL; simp), Lib.hid (by omega), HO5, HR5, HB5⟩
  case round =>
    obtain ⟨i, ox, on3, oc, P, hi, rfl, rfl, HPN, HP, HPl, HOP, HRi, HBi⟩ := hrel
    obtain ⟨wi, hwi⟩ : ∃ wi : World, wi = wr := ⟨_, rfl⟩
    subst hwi
    have q1 := HRi.out.cell 1 (.slice (some ⟨ib, io, none⟩) n ic) rfl
    by_cases hlt3 : i < n
    · obtain ⟨b4, off4, y, s, m, c, hy, hia, hry, hyv, hym, hymc, hyc, hyb, hyl, hyC, hy1⟩ := HITS.out.item i (by rw [← HNI.out]; exact hlt3)
      cases hia
      have hdl3 : decide ((i : Int) < (n : Int)) = true := by simp; omega
      have HYE := Lib.hid hy
      have HYB : Hid (Byt w (.slice s m c) y.d) := Lib.hid (by rw [← hyv]; exact hyb)
      have HYD := Lib.hid (HITEM.out y (List.mem_of_getElem? hy)).2
      have HGB := Lib.hid ((owner_in hry hyl).below HBi.out)
      have HYC : Hid (w.cell? ⟨ib, io + i * 17 + 16, none⟩ = some (.slice s m c)) := Lib.hid (by
        have := hry 16 _ (itC_at16 y hyl)
        rw [hyv] at this
        exact this)
      have hol : y.o.length = 16 := hyl
      have hdl : y.d.length ≤ 8192 := by have := HYD.out; omega
      clear hry hy hyv hyb hyC hy1 hym hyl
      have hplen : P.length ≤ 8208100000 := by
        have e := HPl.out
        have := HP5.out
        have := HP4.out
        have := HP3.out
        have := HP2.out
        have : i * SZ ≤ 1000000 * 8208 := Nat.mul_le_mul (by omega) hszb
        omega
      have hbase : w.heap.size + 1 ≤ wi.heap.size := HRi.out.lt
      go_wp2_with (first
        | (at_builtin; refine wpList_append_byt rfl _ _ rfl (w.heap.size + 1) (.slice ox on3 oc) P rfl HOP.out (.slice (some ⟨ib, io + i * 17, none⟩) 16 16) y.o rfl HGB.out (by omega) hbase ?_; intro v7 w7 ho7 hg7 hw7; have HO7 := Lib.hid ho7; have HB7 := Lib.hid (HBi.out.grown hg7 HBi.out.size (fun q hq => by have := (Own.lt HOP.out q hq).1; omega)); have HR7 := Lib.hid (HRi.out.grown hg7 (fun e => by have := (Own.lt HOP.out _ e).1; omega)); have k7 := (HB7.out.cell (p := ⟨ib, io + i * 17 + 16, none⟩) (lt_of_cell HYC.out)).trans HYC.out; have z7 : w.heap.size + 1 ≤ w7.heap.size := HR7.out.lt; have q7 := HR7.out.cell 1 (.slice (some ⟨ib, io, none⟩) n ic) rfl; clear ho7 hg7 hw7)
        | (at_builtin; refine wpList_append_byt rfl _ _ rfl (w.heap.size + 1) _ (P ++ y.o) rfl HO7.out (.slice s m c) y.d rfl (HYB.out.below HB7.out) (by rw [List.length_append]; omega) z7 ?_; intro v8 w8 ho8 hg8 _; have HB8 := Lib.hid (HB7.out.grown hg8 HB7.out.size (fun q hq => by have := (Own.lt HO7.out q hq).1; omega)); have HR8 := Lib.hid (HR7.out.grown hg8 (fun e => by have := (Own.lt HO7.out _ e).1; omega)); have HO8 := Lib.hid ho8; obtain ⟨x8, n8, c8, hn8, e8⟩ : ∃ x n c, Hid (n = (P ++ y.o ++ y.d).length) ∧ v8 = .slice x n c := (by obtain ⟨x, c, e, _⟩ := Own.shape ho8; exact ⟨x, _, c, Lib.hid rfl, e⟩); subst e8; clear ho8 hg8))
      go_roundw
      case rel =>
        refine ⟨i + 1, x8, n8, c8, P ++ y.o ++ y.d, hlt3, by go_num, rfl, hn8, Lib.hid ?_, Lib.hid ?_, HO8, HR8, HB8⟩
        · rw [bodyL_step (show is[i]? = some y.it by rw [his.out]; exact it_at HYE.out), HP.out]
          show _ = P5 ++ (bodyL (is.take i) ++ y.o ++ y.d)
          simp only [List.append_assoc]
        · have e1 := HPl.out
          have e2 := hSZ.out
          have e3 := HYD.out
          rw [List.length_append, List.length_append, hol, Nat.add_mul]
          omega
      case measure => simp [intOf]; omega
    · obtain rfl : i = n := by omega
      have hdl3 : decide ((i : Int) < (i : Int)) = false := by simp
      have HPE : Hid (P = L) := Lib.hid (by
        rw [← HPL.out, HP.out]
        congr 2
        rw [show i = is.length by rw [his.out, List.length_map, ← HNI.out], List.take_length])
      go_wp2
      go_ret
      exact ⟨_, rfl, by rw [← HPE.out]; exact OwnB.mono HOP.out (Nat.le_succ _), HBi.out⟩
end Go.Proofs.Ytilanncobbdlfaa
