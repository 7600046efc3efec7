/-
  siglist.Merge, and the document's stands and Merge.
-/
import Derived.Test.YtilanncobbdlfaaSgM
import Derived.Test.YtilanncobbdlfaaSg23
import Derived.Test.YtilanncobbdlfaaSg22

/-
  The contract of siglist.Merge.
-/
namespace Go.Proofs.Ytilanncobbdlfaa
open Go Go.RowKit
set_option linter.unusedVariables false

theorem mrg_bad1 {A B : List UInt8} {w w' : World} {E : Int} (hE : E = resE A) (h : E ≠ 0) (hb : Below w.heap.size w w') : MrgRes A B w (.returned (.tuple #[.slice none 0 0, .int .i64 E])) w' := by
  subst hE
  have h1 : mrgE A B = resE A := by unfold mrgE; rw [if_neg h]
  have h2 : mrgR A B = [] := by unfold mrgR; rw [if_neg (fun e => h e.1)]
  refine ⟨none, 0, 0, by rw [h1], ?_, hb⟩
  rw [h2]
  exact OwnB.empty _ _ _
theorem mrg_bad2 {A B : List UInt8} {w w' : World} {E : Int} (h0 : 0 = resE A) (hE : E = resE B) (h : E ≠ 0) (hb : Below w.heap.size w w') : MrgRes A B w (.returned (.tuple #[.slice none 0 0, .int .i64 E])) w' := by
  subst hE
  have h1 : mrgE A B = resE B := by unfold mrgE; rw [if_pos h0.symm, if_neg h]
  have h2 : mrgR A B = [] := by unfold mrgR; rw [if_neg (fun e => h e.2)]
  refine ⟨none, 0, 0, by rw [h1], ?_, hb⟩
  rw [h2]
  exact OwnB.empty _ _ _
theorem run_store_new (W : World) (Z : Value) (t : TypeId) (b : Nat) (hb : b = W.heap.size) (F : Value) (hF : F.oneCell' = true) : (store ⟨b, 0, none⟩ F).run Try.prog (W.alloc (.cells #[Z] t)) = .ok () (W.alloc (.cells #[F] t)) := by
  subst hb
  rw [run_store _ _ _ _ _ hF]
  simp
  rw [World.setCell_alloc_at (hn := rfl)]
  rfl
/-- The j-th of lists whose row the call owns. -/
theorem own_row_at {w : World} {base n cap : Nat} {a : Option Addr} {xs : List LiV} (h : Own w base 39 2 (.slice a n cap) xs.length (lisC xs)) {j : Nat} {x : LiV} (hx : xs[j]? = some x) :
    n = xs.length ∧ ∃ b off, a = some ⟨b, off, none⟩ ∧ w.rangeAt b (off + j * 2) [.int .u8 x.k, x.v] := by
  obtain ⟨a', c', e, h1, h2, h3, hc⟩ := h.rd
  simp only [Value.slice.injEq] at e
  obtain ⟨rfl, rfl, rfl⟩ := e
  obtain ⟨h4, h5⟩ := lisC_at hx
  obtain ⟨b, off, e1, c1⟩ := hc _ _ h4
  obtain ⟨b', off', e2, c2⟩ := hc _ _ h5
  rw [e1] at e2
  cases e2
  refine ⟨rfl, b, off, e1, range_two c1 ?_⟩
  rw [Nat.add_assoc]
  exact c2
theorem OwnSet.far {w w' : World} {base b : Nat} {zs : List LiV} {cs : Array Value} {fr : Nat × Nat} (h : OwnSet w base zs) (hb : w.heap[b]? = some (.cells cs 39 fr)) (hc : Chg [b] w w') : OwnSet w' base zs :=
  ⟨h.kind, fun x hx => ⟨(h.its x hx).row.chg hc (fun q hq => by rw [List.mem_singleton.1 hq]; exact (h.its x hx).row.neC hb (by decide)), (h.its x hx).len, fun y hy => Own.chg ((h.its x hx).byt y hy) hc (fun q hq => by rw [List.mem_singleton.1 hq]; exact Own.neC ((h.its x hx).byt y hy) hb (by decide))⟩, h.part⟩
theorem data_of {xs : List LiV} {L : List Li} (h : xs.map LiV.li = L) (hw : wrB L = true) : ∀ x ∈ xs, ∀ y ∈ x.i, y.d.length ≤ 8192 := fun x hx y hy => by
  subst h
  exact wrB_data hw x.li (List.mem_map.2 ⟨x, hx, rfl⟩) y.it (List.mem_map.2 ⟨y, hy, rfl⟩)
theorem addL_nil {l : List Li} {ks : List (Int × It)} {x : Li} (h : keepI x.k ks x.i = []) : addL l ks x = l := by unfold addL; rw [if_pos h]
theorem addL_some {l : List Li} {ks : List (Int × It)} {x : Li} (h : keepI x.k ks x.i ≠ []) : addL l ks x = l ++ [⟨x.k, keepI x.k ks x.i⟩] := by unfold addL; rw [if_neg h]
theorem addL_len (l : List Li) (ks : List (Int × It)) (x : Li) : (addL l ks x).length ≤ l.length + 1 := by
  unfold addL
  split
  · omega
  · simp
theorem mrgA_len (l m : List Li) : ∀ j, j ≤ m.length → (mrgA l m j).length ≤ l.length + j
  | 0, _ => by rw [mrgA_zero]; exact Nat.le_refl _
  | j + 1, hj => by
    obtain ⟨x, hx⟩ : ∃ x, m[j]? = some x := ⟨m[j], by simp⟩
    rw [mrgA_step hx]
    have := mrgA_len l m j (by omega)
    have := addL_len (mrgA l m j) (mrgK l m j) x
    omega
theorem keepI_len (k : Int) : ∀ (l : List It) (ks : List (Int × It)), (keepI k ks l).length ≤ l.length
  | [], ks => Nat.le_refl _
  | x :: l, ks => by
    simp only [keepI]
    have := keepI_len k l ((k, x) :: ks)
    split
    · rw [List.length_cons]; omega
    · rw [List.length_cons, List.length_cons]; omega
/-- Bounds of what is merged. -/
theorem mrgA_bound (n : Nat) (l m : List Li) (hl : ∀ x ∈ l, x.i.length ≤ n) (hm : ∀ x ∈ m, x.i.length ≤ n) : ∀ j, j ≤ m.length → ∀ x ∈ mrgA l m j, x.i.length ≤ n
  | 0, _, x, hx => by rw [mrgA_zero] at hx; exact hl x hx
  | j + 1, hj, x, hx => by
    obtain ⟨z, hz⟩ : ∃ z, m[j]? = some z := ⟨m[j], by simp⟩
    rw [mrgA_step hz] at hx
    unfold addL at hx
    split at hx
    · exact mrgA_bound n l m hl hm j (by omega) x hx
    · rcases List.mem_append.1 hx with hx | hx
      · exact mrgA_bound n l m hl hm j (by omega) x hx
      · rw [List.mem_singleton.1 hx]
        have := keepI_len z.k z.i (mrgK l m j)
        have := hm z (List.mem_of_getElem? hz)
        exact Nat.le_trans (keepI_len _ _ _) this
set_option maxRecDepth 100000 in
set_option maxHeartbeats 8000000 in
theorem merge_calls (va vb : Value) (A B : List UInt8) (w : World) (ha : Byt w va A) (hb : Byt w vb B) (hal : A.length ≤ 400000) (hbl : B.length ≤ 400000) :
    Calls Try.prog 11 #[va, vb] w (MrgRes A B w) := by
  have HA := Lib.hid ha
  have HB := Lib.hid hb
  clear ha hb
  obtain ⟨LA, hLA⟩ : ∃ X, Hid (X = resL A) := ⟨_, Lib.hid rfl⟩
  obtain ⟨EA, hEA⟩ : ∃ X, Hid (X = resE A) := ⟨_, Lib.hid rfl⟩
  obtain ⟨LB, hLB⟩ : ∃ X, Hid (X = resL B) := ⟨_, Lib.hid rfl⟩
  obtain ⟨EB, hEB⟩ : ∃ X, Hid (X = resE B) := ⟨_, Lib.hid rfl⟩
  have hmm := @run_makeMap Try.prog
  go_enter Try.func11, Try.ntmps11
  go_wp2_with fail
  refine (rd_form (sgReadAll_calls va A _ HA.out (by omega)) LA hLA.out EA hEA.out 400000 hal).mono ?_
  rintro e w1 ⟨a1, m1, c1, xs, rfl, ho, hm, hN, hm1, hb⟩
  have HB1 := Lib.hid hb
  have HO1 := Lib.hid ho
  have HM1 := Lib.hid hm
  have HN1 := Lib.hid hN
  have HL1 : Hid (∀ q, ownB (.slice a1 m1 c1) = some q → q < w1.heap.size) := Lib.hid (fun q hq => (Own.lt ho.row q hq).2)
  have HL2 : Hid (∀ y ∈ xs, ∀ q, ownB y.v = some q → q < w1.heap.size) := Lib.hid (fun y hy q hq => (Own.lt (ho.its y hy) q hq).2)
  clear hb ho hm hN
  by_cases hE : EA = 0
  case neg =>
    have hne : (EA != 0) = true := by simp [hE]
    go_wp2
    go_ret2
    exact mrg_bad1 hEA.out hE HB1.out
  case pos =>
    subst hE
    go_wp2_with fail
    refine (rd_form (sgReadAll_calls vb B _ (HB.out.below HB1.out) (by omega)) LB hLB.out EB hEB.out 400000 hbl).mono ?_
    rintro e w2 ⟨a2, m2, c2, ms, rfl, ho, hm, hN, hm2, hb⟩
    have HB2 := Lib.hid (HB1.out.trans (hb.mono HB1.out.size))
    have HO1 := Lib.hid (HO1.out.below hb)
    have HO2 := Lib.hid ho
    have HM2 := Lib.hid hm
    have HN2 := Lib.hid hN
    clear hb ho hm hN
    by_cases hE : EB = 0
    case neg =>
      have hne : (EB != 0) = true := by simp [hE]
      go_wp2
      go_ret2
      exact mrg_bad2 hEA.out hEB.out hE HB2.out
    case pos =>
      subst hE
      have hst := run_store_new ((w2.alloc (.map #[] 0)).alloc (.cells #[.map (some w2.heap.size)] 50)) .nilFunc 53 (w2.heap.size + 1 + 1) (by simp) (.func (.func 25) #[] #[.pointer (some ⟨w2.heap.size + 1, 0, none⟩)]) rfl
      go_wp2
      clear hst hmm
      have hm1n : m1 = xs.length := by
        obtain ⟨_, _, e, _⟩ := Own.shape HO1.out.row
        simp only [Value.slice.injEq] at e
        exact e.2.1
      have hm2n : m2 = ms.length := by
        obtain ⟨_, _, e, _⟩ := Own.shape HO2.out.row
        simp only [Value.slice.injEq] at e
        exact e.2.1
      have HM1N := Lib.hid hm1n
      have HM2N := Lib.hid hm2n
      clear hm1n hm2n
      have HDA := Lib.hid (data_of HM1.out (by rw [hLA.out]; exact (resL_good A).1))
      have HDB := Lib.hid (data_of HM2.out (by rw [hLB.out]; exact (resL_good B).1))
      obtain ⟨w3, hw3⟩ : ∃ W, Hid (W = ((w2.alloc (.map #[] 0)).alloc (.cells #[.map (some w2.heap.size)] 50)).alloc (.cells #[.func (.func 25) #[] #[.pointer (some ⟨w2.heap.size + 1, 0, none⟩)]] 53)) := ⟨_, Lib.hid rfl⟩
      rw [← hw3.out]
      have HB23 : Hid (Below w2.heap.size w2 w3) := Lib.hid (by
        rw [hw3.out]
        exact (((Below.refl _ _).alloc (Nat.le_refl _) _).alloc (by simp) _).alloc (by simp; omega) _)
      have HF3 : Hid (FrS w3 (w2.heap.size + 1 + 1) (w2.heap.size + 1) w2.heap.size [] 0) := Lib.hid (by
        rw [hw3.out]
        refine ⟨?_, ?_, ?_, fun q hq => by simp at hq⟩
        · have := heap_alloc_new ((w2.alloc (.map #[] 0)).alloc (.cells #[.map (some w2.heap.size)] 50)) (.cells #[.func (.func 25) #[] #[.pointer (some ⟨w2.heap.size + 1, 0, none⟩)]] 53)
          simpa using this
        · rw [Below.heap_alloc _ _ _ (by simp)]
          have := heap_alloc_new (w2.alloc (.map #[] 0)) (.cells #[.map (some w2.heap.size)] 50)
          simpa using this
        · exact ((MapK.made w2).of_block (Below.heap_alloc _ _ _ (by simp))).of_block (Below.heap_alloc _ _ _ (by simp; omega)))
      have HO13 := Lib.hid (HO1.out.below HB23.out)
      have HO23 := Lib.hid (HO2.out.below HB23.out)
      have HB3 := Lib.hid (HB2.out.trans (HB23.out.mono HB2.out.size))
      obtain ⟨bm, hbm⟩ : ∃ b, Hid (b = w2.heap.size) := ⟨_, Lib.hid rfl⟩
      rw [← hbm.out] at HF3 ⊢
      obtain ⟨bb, hbb⟩ : ∃ b, Hid (b = bm + 1) := ⟨_, Lib.hid rfl⟩
      rw [← hbb.out] at HF3 ⊢
      obtain ⟨bf, hbf⟩ : ∃ b, Hid (b = bb + 1) := ⟨_, Lib.hid rfl⟩
      rw [← hbf.out] at HF3 ⊢
      have HBM : Hid (w.heap.size ≤ bm) := Lib.hid (by rw [hbm.out]; exact HB2.out.size)
      clear hw3
      go_loopw [37] (fun i_ wr => ∃ (j n : Nat), j ≤ m1 ∧ i_ = .int .i64 j ∧ Hid (n ≤ j * 400000) ∧ Hid (FrS wr bf bb bm (keysL (LA.take j)) n) ∧ Hid (Chg [bm] w3 wr)) (fun i_ _ => m1 - (intOf i_).toNat)
      case atStart => exact ⟨0, 0, Nat.zero_le _, rfl, Lib.hid (Nat.zero_le _), HF3, Lib.hid (Chg.refl _ _)⟩
      case round =>
        obtain ⟨j, n, hj, rfl, HNJ, HFr, HCr⟩ := hrel
        obtain ⟨wo, hwo⟩ : ∃ wo : World, wo = wr := ⟨_, rfl⟩
        subst hwo
        by_cases hlt : j < m1
        · have hdl : decide ((j : Int) < (m1 : Int)) = true := by simp; omega
          obtain ⟨b, off, x, ia, ni, ic, hx, ha, hrow, hxv, hm, hmc, hc, hits⟩ := (HO13.out.lis.chgM HF3.out.mp HCr.out).item j (by rw [← HM1N.out]; exact hlt)
          subst ha
          have HX := Lib.hid hx
          have HXI : Hid (ni ≤ 400000) := Lib.hid (by rw [hm]; exact HN1.out.2 x (List.mem_of_getElem? hx))
          have hni : ni ≤ 400000 := HXI.out
          have HXK : Hid (0 ≤ x.k ∧ x.k ≤ 255) := Lib.hid (HO1.out.kind x (List.mem_of_getElem? hx))
          have HXD := Lib.hid (HDA.out x (List.mem_of_getElem? hx))
          have HRNG := Lib.hid hrow
          have HITS := Lib.hid hits
          have HNI := Lib.hid hm
          obtain ⟨k, hk⟩ : ∃ k, Hid (k = x.k) := ⟨_, Lib.hid rfl⟩
          rw [← hk.out] at HRNG HXK
          clear hrow hx hxv hm hits
          obtain ⟨n5, hn5⟩ : ∃ m, Hid (m = wo.heap.size) := ⟨_, Lib.hid rfl⟩
          have HR1 := Lib.hid (RowAt.new wo #[.int .u8 k, .slice ia ni ic] 39 n5 hn5.out)
          have HBA := Lib.hid ((Below.refl wo.heap.size wo).alloc (Nat.le_refl _) (.cells #[.int .u8 k, .slice ia ni ic] 39))
          have HN5 : Hid (n5 ≠ bm) := Lib.hid (by have := HFr.out.lt; rw [hn5.out]; omega)
          have q0 := HR1.out.cell 0 (.int .u8 k) rfl
          have q1 := HR1.out.cell 1 (.slice ia ni ic) rfl
          go_wp2_with (first
            | (refine wpList_load_mid rfl 39 _ rfl b (off + j * 2) rfl [.int .u8 k, .slice ia ni ic] _ HRNG.out Try.underlying39 rfl (by kernel_rfl) ?_)
            | (refine wpList_store_list rfl _ _ rfl wo #[.int .u8 0, .slice none 0 0] #[.int .u8 k, .slice ia ni ic] rfl rfl (fun u hu => by simp at hu; rcases hu with rfl | rfl <;> rfl) rfl rfl ?_; rw [← hn5.out]))
          clear q0 q1
          go_loopw [44] (fun i_ wr => ∃ (i : Nat), i ≤ ni ∧ i_ = .int .i64 i ∧ Hid (FrS wr bf bb bm (keysI k (keysL (LA.take j)) ((x.i.take i).map ItV.it)) (n + i)) ∧ Hid (RowAt wr n5 #[.int .u8 k, .slice ia ni ic]) ∧ Hid (Chg [bm] wo wr)) (fun i_ _ => ni - (intOf i_).toNat)
          case atStart => exact ⟨0, Nat.zero_le _, rfl, Lib.hid (HFr.out.below HBA.out), HR1, Lib.hid (Below.chg HBA.out [bm])⟩
          case round =>
            obtain ⟨i, hi, rfl, HFi, HRi, HCi⟩ := hrel
            obtain ⟨wi, hwi⟩ : ∃ wi : World, wi = wr := ⟨_, rfl⟩
            subst hwi
            by_cases hlt3 : i < ni
            · obtain ⟨ib, io, y, s, m, c, hy, hia, hry, hyv, hym, hymc, hyc, hyb, hyl, hyC, hy1⟩ := (HITS.out.chgM HFr.out.mp HCi.out).item i (by rw [← HNI.out]; exact hlt3)
              cases hia
              have hdl3 : decide ((i : Int) < (ni : Int)) = true := by simp; omega
              have HYE := Lib.hid hy
              have HYL := Lib.hid hyl
              have HRY := Lib.hid hry
              have HYC := Lib.hid hyC
              have HY1 := Lib.hid hy1
              obtain ⟨X, hX⟩ : ∃ X, Hid (X = itC y) := ⟨_, Lib.hid rfl⟩
              have HBB := Lib.hid ((Below.refl wi.heap.size wi).alloc (Nat.le_refl _) (.cells X.toArray 49))
              have HFA := Lib.hid (HFi.out.below HBB.out)
              have HCL := Lib.hid (fresh_calls k y (wi.alloc (.cells X.toArray 49)) bb bm (n + i) _ HXK.out hyl (hyb.below HBB.out) (Nat.le_trans (HXD.out y (List.mem_of_getElem? hy)) (by omega)) HFA.out.cm HFA.out.mp (by have := HNJ.out; omega))
              rw [← hX.out] at HRY HYC HY1 HCL
              clear hry hyv hym hyb hyl hyC hy1 hy
              obtain ⟨n6, hn6⟩ : ∃ m, Hid (m = wi.heap.size) := ⟨_, Lib.hid rfl⟩
              have HXR := Lib.hid (RowAt.new wi X.toArray 49 n6 hn6.out)
              have HXRG : Hid ((wi.alloc (.cells X.toArray 49)).rangeAt n6 0 X) := Lib.hid (by have := HXR.out.range; simpa using this)
              have HRA := Lib.hid (HRi.out.alloc (.cells X.toArray 49))
              have p0 := HRA.out.cell 0 (.int .u8 k) rfl
              have p1 := HFA.out.cf
              go_wp2_with (first
                | (refine wpList_load_mid rfl 49 _ rfl ib (io + i * 17) rfl X _ HRY.out Try.underlying49 rfl (by rw [HYC.out]; kernel_rfl) ?_)
                | (refine wpList_store_item rfl _ _ rfl wi _ X rfl HYC.out HY1.out rfl rfl ?_; rw [← hn6.out])
                | (refine wpList_load_mid rfl 49 _ rfl n6 0 rfl X _ HXRG.out Try.underlying49 rfl (by rw [HYC.out]; kernel_rfl) ?_))
              refine HCL.out.mono ?_
              rintro e w5 ⟨B', _, rfl, hm', hc'⟩
              have HF5 : Hid (FrS w5 bf bb bm (keysI k (keysL (LA.take j)) ((x.i.take (i + 1)).map ItV.it)) (n + (i + 1))) := Lib.hid (by
                rw [take_it HYE.out, keysI_snoc]
                exact HFA.out.add (x := y.it) hc' hm' HYL.out)
              have HR5 := Lib.hid (HRA.out.chg hc' (by simpa using HN5.out))
              have HC5 := Lib.hid ((HCi.out.below HBB.out).trans hc')
              clear hm' hc' HCL p0 p1
              go_wp2
              go_roundw
              case rel => exact ⟨i + 1, hlt3, by go_num, HF5, HR5, HC5⟩
              case measure => simp [intOf]; omega
            · obtain rfl : ni = i := by omega
              have hdl3 : decide ((ni : Int) < (ni : Int)) = false := by simp
              have HF5 : Hid (FrS wi bf bb bm (keysL (LA.take (j + 1))) (n + ni)) := Lib.hid (by
                have h := HFi.out
                rw [List.take_of_length_le (l := x.i) (by rw [← HNI.out]; exact Nat.le_refl _)] at h
                rw [take_at (show LA[j]? = some x.li by rw [← HM1.out]; exact li_at HX.out), keysL_snoc]
                rw [hk.out] at h
                exact h)
              have HN5' : Hid (n + ni ≤ (j + 1) * 400000) := Lib.hid (by have := HNJ.out; omega)
              have HC5 := Lib.hid (HCr.out.trans HCi.out)
              go_wp2
              go_roundw
              case rel => exact ⟨j + 1, n + ni, hlt, by go_num, HN5', HF5, HC5⟩
              case measure => simp [intOf]; omega
        · obtain rfl : m1 = j := by omega
          have hdl : decide ((m1 : Int) < (m1 : Int)) = false := by simp
          have HRL0 : Hid (Own wo w.heap.size 39 2 (.slice a1 m1 c1) xs.length (lisC xs)) := Lib.hid (HO13.out.row.chgM HF3.out.mp HCr.out)
          have HRM0 : Hid (Own wo w.heap.size 39 2 (.slice a2 m2 c2) ms.length (lisC ms)) := Lib.hid ((HO23.out.row.mono HB1.out.size).chgM HF3.out.mp HCr.out)
          have HNE0 : Hid (∀ q, ownB (.slice a1 m1 c1) = some q → ownB (.slice a2 m2 c2) ≠ some q) := Lib.hid (fun q hq e => by
            have h1 := HL1.out q hq
            have h2 := (Own.lt HO23.out.row q e).1
            omega)
          have HSET0 : Hid (OwnSet wo w.heap.size (xs ++ ms.drop 0)) := Lib.hid ((HO13.out.set.join HO23.out.set HB1.out.size HL2.out).chgM HF3.out.mp HCr.out)
          have HF0 : Hid (FrS wo bf bb bm (mrgK LA LB 0) n) := Lib.hid (by
            have h := HFr.out
            rw [List.take_of_length_le (by rw [← HM1.out, List.length_map, ← HM1N.out]; exact Nat.le_refl _)] at h
            rw [mrgK_zero]
            exact h)
          have HBW0 : Hid (Below w.heap.size w wo) := Lib.hid (Below.andChg HB3.out HCr.out HB3.out.size (fun q hq => by rw [List.mem_singleton.1 hq]; exact HBM.out))
          have HNJ0 : Hid (n ≤ 160000000000 + 0 * 400000) := Lib.hid (by have := HNJ.out; omega)
          have HMAP0 : Hid (xs.map LiV.li = mrgA LA LB 0) := Lib.hid (by rw [mrgA_zero]; exact HM1.out)
          clear HFr HNJ HCr
          go_wp2
          go_loopw [57, 6] (fun i_ l_ wr => ∃ (j n : Nat) (la : Option Addr) (ln lc : Nat) (ys : List LiV), j ≤ m2 ∧ i_ = .int .i64 j ∧ l_ = .slice la ln lc ∧ Hid (ys.map LiV.li = mrgA LA LB j) ∧ Hid (Own wr w.heap.size 39 2 (.slice la ln lc) ys.length (lisC ys)) ∧ Hid (Own wr w.heap.size 39 2 (.slice a2 m2 c2) ms.length (lisC ms)) ∧ Hid (∀ q, ownB (.slice la ln lc) = some q → ownB (.slice a2 m2 c2) ≠ some q) ∧ Hid (OwnSet wr w.heap.size (ys ++ ms.drop j)) ∧ Hid (FrS wr bf bb bm (mrgK LA LB j) n) ∧ Hid (n ≤ 160000000000 + j * 400000) ∧ Hid (Below w.heap.size w wr)) (fun i_ _ _ => m2 - (intOf i_).toNat)
          case atStart => exact ⟨0, n, a1, m1, c1, xs, Nat.zero_le _, rfl, rfl, HMAP0, HRL0, HRM0, HNE0, HSET0, HF0, HNJ0, HBW0⟩
          case round =>
            clear HRL0 HRM0 HNE0 HSET0 HF0 HNJ0 HBW0 HMAP0 n
            obtain ⟨j, n, la, ln, lc, ys, hj2, rfl, rfl, HMAP, HRL, HRM, HNE, HSET, HFr, HNJ, HBW⟩ := hrel
            obtain ⟨wq, hwq⟩ : ∃ wq : World, wq = wr := ⟨_, rfl⟩
            subst hwq
            by_cases hlt2 : j < m2
            · have hdl2 : decide ((j : Int) < (m2 : Int)) = true := by simp; omega
              obtain ⟨x, hx⟩ : ∃ x, ms[j]? = some x := ⟨_, List.getElem?_eq_getElem (by rw [← HM2N.out]; exact hlt2)⟩
              obtain ⟨hmx, b, off, ha2, hrow⟩ := own_row_at HRM.out hx
              clear hmx
              subst ha2
              have HX := Lib.hid hx
              have HSX : Hid (OwnSet wq w.heap.size (ys ++ x :: ms.drop (j + 1))) := Lib.hid (by rw [← drop_cons hx]; exact HSET.out)
              have hits := HSX.out.its x (by simp)
              obtain ⟨ia, ic, hxv, _, _⟩ := Own.shape hits.row
              obtain ⟨ni, hni⟩ : ∃ m, Hid (m = x.i.length) := ⟨_, Lib.hid rfl⟩
              obtain ⟨k, hk⟩ : ∃ k, Hid (k = x.k) := ⟨_, Lib.hid rfl⟩
              rw [← hni.out] at hxv
              have HITS := Lib.hid hits
              rw [hxv] at hrow HITS
              rw [← hk.out] at hrow
              have HRNG := Lib.hid hrow
              have HXV := Lib.hid hxv
              have HXI : Hid (ni ≤ 400000) := Lib.hid (by rw [hni.out]; exact HN2.out.2 x (List.mem_of_getElem? hx))
              have hni4 := HXI.out
              have HXK : Hid (0 ≤ k ∧ k ≤ 255) := Lib.hid (by rw [hk.out]; exact HO2.out.kind x (List.mem_of_getElem? hx))
              have HXD := Lib.hid (HDB.out x (List.mem_of_getElem? hx))
              clear hrow hx hxv hits
              obtain ⟨n16, hn16⟩ : ∃ m, Hid (m = wq.heap.size) := ⟨_, Lib.hid rfl⟩
              obtain ⟨wi, hwi⟩ : ∃ W, Hid (W = wq.alloc (.cells #[.int .u8 k, .slice ia ni ic] 39)) := ⟨_, Lib.hid rfl⟩
              have HR1 : Hid (RowAt wi n16 #[.int .u8 k, .slice ia ni ic]) := Lib.hid (by rw [hwi.out]; exact RowAt.new wq #[.int .u8 k, .slice ia ni ic] 39 n16 hn16.out)
              have HBA : Hid (Below wq.heap.size wq wi) := Lib.hid (by rw [hwi.out]; exact (Below.refl wq.heap.size wq).alloc (Nat.le_refl _) _)
              have HH1 : Hid (wi.heap[n16]? = some (.cells #[.int .u8 k, .slice ia ni ic] 39 (0, 0))) := Lib.hid (by rw [hwi.out, hn16.out]; exact heap_alloc_new wq _)
              have HFA := Lib.hid (HFr.out.below HBA.out)
              have HIA := Lib.hid (HITS.out.below HBA.out)
              have HQL : Hid (∀ q, ownB (.slice ia ni ic) = some q → q ≠ bf ∧ q ≠ n16 ∧ q ≠ bb) := Lib.hid (fun q hq => by
                refine ⟨fun e => ?_, fun e => ?_, fun e => ?_⟩
                · subst e; exact HITS.out.row.neC HFr.out.hf (by decide) hq
                · subst e
                  have := (Own.lt HITS.out.row _ hq).2
                  have := hn16.out
                  omega
                · subst e; exact HITS.out.row.neC HFr.out.hb (by decide) hq)
              have HDL := Lib.hid (dlf_calls (.slice ia ni ic) x.i wi w.heap.size bf n16 bb bm n k (mrgK LA LB j) HXK.out HIA.out (by rw [← hni.out]; omega) (fun y hy => Nat.le_trans (HXD.out y hy) (by omega)) (HFA.out.del (HR1.out.cell 0 _ rfl)) (by have := HNJ.out; omega) HQL.out)
              have q0 := HR1.out.cell 0 (.int .u8 k) rfl
              have q1 := HR1.out.cell 1 (.slice ia ni ic) rfl
              go_wp2_with (first
                | (refine wpList_load_mid rfl 39 _ rfl b (off + j * 2) rfl [.int .u8 k, .slice ia ni ic] _ HRNG.out Try.underlying39 rfl (by kernel_rfl) ?_)
                | (refine wpList_store_list rfl _ _ rfl wq #[.int .u8 0, .slice none 0 0] #[.int .u8 k, .slice ia ni ic] rfl rfl (fun u hu => by simp at hu; rcases hu with rfl | rfl <;> rfl) rfl rfl ?_; rw [← hn16.out, ← hwi.out]))
              clear q0 q1
              refine HDL.out.mono ?_
              rintro e w5 ⟨az, mz, cz, zs, L, rfl, hmz, hown, hkeep, hdel, hsub, hch, hLs⟩
              have hb16 : wq.heap.size = n16 := hn16.out.symm
              have hq16 : ∀ q, ownB (.slice la ln lc) = some q → q ≠ n16 := fun q hq => by have := (Own.lt HRL.out q hq).2; omega
              have hm16 : ∀ q, ownB (.slice (some ⟨b, off, none⟩) m2 c2) = some q → q ≠ n16 := fun q hq => by have := (Own.lt HRM.out q hq).2; omega
              have hfl := HFr.out.lt
              have HLn : Hid (n16 ∉ L) := Lib.hid (fun h => by
                rcases hLs n16 h with e | e
                · omega
                · exact (HQL.out n16 e).2.1 rfl)
              have HLf : Hid (bf ∉ L) := Lib.hid (fun h => by
                rcases hLs bf h with e | e
                · exact HFA.out.nem.1 e
                · exact (HQL.out bf e).1 rfl)
              have HLb : Hid (bb ∉ L) := Lib.hid (fun h => by
                rcases hLs bb h with e | e
                · exact HFA.out.nem.2 e
                · exact (HQL.out bb e).2.2 rfl)
              have HLl : Hid (∀ q ∈ L, ownB (.slice la ln lc) ≠ some q) := Lib.hid (fun q hq e => by
                rcases hLs q hq with rfl | e2
                · exact HRL.out.neM HFr.out.mp e
                · exact own_kinds HITS.out.row HRL.out (by decide) q e2 e)
              have HLm : Hid (∀ q ∈ L, ownB (.slice (some ⟨b, off, none⟩) m2 c2) ≠ some q) := Lib.hid (fun q hq e => by
                rcases hLs q hq with rfl | e2
                · exact HRM.out.neM HFr.out.mp e
                · exact own_kinds HITS.out.row HRM.out (by decide) q e2 e)
              have HR5 := Lib.hid (HR1.out.chg hch HLn.out)
              have r1 := HR5.out.cell 1 (.slice ia ni ic) rfl
              have rf := HR5.out.free
              have HH5 : Hid (w5.heap[n16]? = some (.cells #[.int .u8 k, .slice ia ni ic] 39 (0, 0))) := Lib.hid ((hch.block n16 HR1.out.lt HLn.out).trans HH1.out)
              have HC6 : Hid (Chg [n16] w5 (w5.setCell ⟨n16, 1, none⟩ (.slice az mz cz))) := Lib.hid ((Chg.refl _ _).setCell (by simp) _)
              have HR6 : Hid (RowAt (w5.setCell ⟨n16, 1, none⟩ (.slice az mz cz)) n16 #[.int .u8 k, .slice az mz cz]) := Lib.hid (HR5.out.set (i := 1) (u := .slice az mz cz) (by simp))
              have HRL6 := Lib.hid (((HRL.out.below HBA.out (Nat.le_refl _)).chg hch HLl.out).chg HC6.out (fun q hq e => by rw [List.mem_singleton.1 hq] at e; exact hq16 n16 e rfl))
              have HRM6 := Lib.hid (((HRM.out.below HBA.out (Nat.le_refl _)).chg hch HLm.out).chg HC6.out (fun q hq e => by rw [List.mem_singleton.1 hq] at e; exact hm16 n16 e rfl))
              have HS5 : Hid (OwnSet w5 w.heap.size (ys ++ ⟨k, zs, .slice az mz cz⟩ :: ms.drop (j + 1))) := Lib.hid (OwnSet.upd (x := x) (x' := ⟨k, zs, .slice az mz cz⟩) (HSX.out.below HBA.out) hch (by rw [HXV.out]; exact hLs) HFA.out.mp hk.out hown (by rw [HXV.out]; exact hsub))
              have HS6 := Lib.hid (HS5.out.far HH5.out HC6.out)
              have HKS : Hid (mrgK LA LB (j + 1) = keysI k (mrgK LA LB j) (x.i.map ItV.it)) := Lib.hid (by
                rw [mrgK_step (show LB[j]? = some x.li by rw [← HM2.out]; exact li_at HX.out), hk.out]
                rfl)
              have HF6 : Hid (FrS (w5.setCell ⟨n16, 1, none⟩ (.slice az mz cz)) bf bb bm (mrgK LA LB (j + 1)) (n + x.i.length)) := Lib.hid (by
                rw [HKS.out]
                exact (HFA.out.step hch HLf.out HLb.out hdel.mp hdel.ow).chg HC6.out (by simp; omega) (by simp; omega) (by simp; omega))
              have HNJ6 : Hid (n + x.i.length ≤ 160000000000 + (j + 1) * 400000) := Lib.hid (by rw [← hni.out]; have := HNJ.out; omega)
              have HB6 : Hid (Below w.heap.size w (w5.setCell ⟨n16, 1, none⟩ (.slice az mz cz))) := Lib.hid (by
                have h1 := HBW.out.trans (HBA.out.mono HBW.out.size)
                have h2 := Below.andChg h1 hch h1.size (fun q hq => by
                  rcases hLs q hq with rfl | e
                  · exact HBM.out
                  · exact (Own.lt HITS.out.row q e).1)
                exact h2.setCell (p := ⟨n16, 1, none⟩) (by have := HBW.out.size; show w.heap.size ≤ n16; omega) _)
              have HADD : Hid (mrgA LA LB (j + 1) = addL (mrgA LA LB j) (mrgK LA LB j) x.li) := Lib.hid (mrgA_step (show LB[j]? = some x.li by rw [← HM2.out]; exact li_at HX.out))
              have HKP : Hid (zs.map ItV.it = keepI x.li.k (mrgK LA LB j) x.li.i) := Lib.hid (by rw [hkeep, hk.out]; rfl)
              have HMZ := Lib.hid hmz
              clear hown hkeep hdel hsub hch hLs hmz hb16 hq16 hm16 hfl HDL HR1 HR5
              by_cases hz : zs = []
              · obtain rfl : mz = 0 := by rw [HMZ.out, hz]; rfl
                have hgt : decide ((0 : Int) < ((0 : Nat) : Int)) = false := by simp
                have HM7 : Hid (ys.map LiV.li = mrgA LA LB (j + 1)) := Lib.hid (by
                  rw [HADD.out, addL_nil (by rw [← HKP.out, hz]; rfl)]
                  exact HMAP.out)
                have HS7 := Lib.hid (HS6.out.sub ((List.sublist_cons_self _ _).append_left ys))
                clear hz
                have s0 := HR6.out.cell 0 _ rfl
                have s1 := HR6.out.cell 1 _ rfl
                go_wp2
                go_roundw
                case rel => exact ⟨j + 1, n + x.i.length, la, ln, lc, ys, hlt2, by go_num, rfl, HM7, HRL6, HRM6, HNE, HS7, HF6, HNJ6, HB6⟩
                case measure => simp [intOf]; omega
              · have hmz0 : 0 < mz := by rw [HMZ.out]; exact List.length_pos_iff.2 hz
                have hgt : decide ((0 : Int) < (mz : Int)) = true := by simp; omega
                have s0 := HR6.out.cell 0 _ rfl
                have s1 := HR6.out.cell 1 _ rfl
                have HYL : Hid (ys.length ≤ 1000000) := Lib.hid (by
                  have hl : j ≤ LB.length := by rw [← HM2.out, List.length_map, ← HM2N.out]; omega
                  have h := mrgA_len LA LB j hl
                  rw [← HMAP.out, List.length_map, ← HM1.out, List.length_map, ← HM1N.out] at h
                  omega)
                have HRL7 := Lib.hid (HRL6.out.alloc (.cells #[.int .u8 k, .slice az mz cz] 39))
                have HRM7 := Lib.hid (HRM6.out.alloc (.cells #[.int .u8 k, .slice az mz cz] 39))
                have HBL7 := Lib.hid ((Below.refl (w5.setCell ⟨n16, 1, none⟩ (.slice az mz cz)).heap.size _).alloc (Nat.le_refl _) (.cells #[.int .u8 k, .slice az mz cz] 39))
                have HS7 := Lib.hid (HS6.out.below HBL7.out)
                have HF7 := Lib.hid (HF6.out.below HBL7.out)
                have HB7 := Lib.hid (HB6.out.alloc HB6.out.size (.cells #[.int .u8 k, .slice az mz cz] 39))
                have HRA : Hid (Rd ((w5.setCell ⟨n16, 1, none⟩ (.slice az mz cz)).alloc (.cells #[.int .u8 k, .slice az mz cz] 39)) 2 (.slice (some ⟨w5.heap.size, 0, none⟩) 1 1) 1 [.int .u8 k, .slice az mz cz]) := Lib.hid (by
                  have := rd_one (w := w5.setCell ⟨n16, 1, none⟩ (.slice az mz cz)) (X := [.int .u8 k, .slice az mz cz]) (t := 39)
                  rw [show (w5.setCell ⟨n16, 1, none⟩ (.slice az mz cz)).heap.size = w5.heap.size by simp [World.setCell]] at this
                  exact this)
                have HM8 : Hid ((ys ++ [(⟨k, zs, .slice az mz cz⟩ : LiV)]).map LiV.li = mrgA LA LB (j + 1)) := Lib.hid (by
                  rw [HADD.out, addL_some (by rw [← HKP.out]; simpa using hz), List.map_append, HMAP.out, ← HKP.out]
                  have hkx : x.li.k = k := hk.out.symm
                  rw [hkx]
                  rfl)
                clear hz
                go_wp2_with (first
                  | (at_builtin; refine wpList_append_list rfl _ _ rfl w.heap.size (.slice la ln lc) ys.length (lisC ys) rfl HRL7.out (.slice (some ⟨w5.heap.size, 0, none⟩) 1 1) [.int .u8 k, .slice az mz cz] rfl HRA.out (by intro u hu; simp only [List.mem_cons, List.not_mem_nil, or_false] at hu; rcases hu with hu | hu <;> (rw [hu]; rfl)) (by have := HYL.out; omega) HB7.out.size ?_; intro v8 w8 ho8 hg8 hn8; obtain ⟨la8, lc8, rfl, _, _⟩ := Own.shape ho8)
                  | fail)
                have HRL8 : Hid (Own w8 w.heap.size 39 2 (.slice la8 (ys.length + 1) lc8) (ys ++ [(⟨k, zs, .slice az mz cz⟩ : LiV)]).length (lisC (ys ++ [(⟨k, zs, .slice az mz cz⟩ : LiV)]))) := Lib.hid (by
                  rw [lisC_snoc, List.length_append]
                  exact ho8)
                have HRM8 : Hid (Own w8 w.heap.size 39 2 (.slice (some ⟨b, off, none⟩) m2 c2) ms.length (lisC ms)) := Lib.hid (Own.kept HRM7.out hg8 (fun q hq e => HNE.out q e hq))
                have HNE8 : Hid (∀ q, ownB (.slice la8 (ys.length + 1) lc8) = some q → ownB (.slice (some ⟨b, off, none⟩) m2 c2) ≠ some q) := Lib.hid (fun q hq e => by
                  rcases hn8 with h | ⟨g, h, hge⟩
                  · rw [h] at hq
                    exact HNE.out q hq e
                  · rw [h] at hq
                    cases hq
                    have := (Own.lt HRM7.out _ e).2
                    omega)
                have HS8 : Hid (OwnSet w8 w.heap.size ((ys ++ [(⟨k, zs, .slice az mz cz⟩ : LiV)]) ++ ms.drop (j + 1))) := Lib.hid (by
                  rw [List.append_assoc]
                  exact HS7.out.grown HRL7.out hg8)
                have HF8 : Hid (FrS w8 bf bb bm (mrgK LA LB (j + 1)) (n + x.i.length)) := Lib.hid (HF7.out.chg (L := (ownB (.slice la ln lc)).toList) (Chg.of_grown hg8 (fun q hq => by rw [hq]; simp))
                  (fun h => HRL7.out.neC HF7.out.hf (by decide) (by simpa using h)) (fun h => HRL7.out.neC HF7.out.hb (by decide) (by simpa using h)) (fun h => HRL7.out.neM HF7.out.mp (by simpa using h)))
                have HB8 : Hid (Below w.heap.size w w8) := Lib.hid (HB7.out.grown hg8 HB7.out.size (fun q hq => (Own.lt HRL7.out q hq).1))
                clear ho8 hg8 hn8
                go_wp2
                go_roundw
                case rel => exact ⟨j + 1, n + x.i.length, la8, ys.length + 1, lc8, ys ++ [⟨k, zs, .slice az mz cz⟩], hlt2, by go_num, rfl, HM8, HRL8, HRM8, HNE8, HS8, HF8, HNJ6, HB8⟩
                case measure => simp [intOf]; omega
            · obtain rfl : m2 = j := by omega
              have hdl2 : decide ((m2 : Int) < (m2 : Int)) = false := by simp
              have HLB : Hid (m2 = LB.length) := Lib.hid (by rw [← HM2.out, List.length_map]; exact HM2N.out)
              have HYS : Hid (OwnSet wq w.heap.size ys) := Lib.hid (HSET.out.sub (List.sublist_append_left _ _))
              have HLIS := Lib.hid (HYS.out.lis HRL.out)
              have HQ : Hid (ys.map LiV.li = mrgQ A B) := Lib.hid (by rw [HMAP.out]; unfold mrgQ; rw [← hLA.out, ← hLB.out, ← HLB.out])
              have HBND : Hid (∀ x ∈ mrgA LA LB m2, x.i.length ≤ 400000) := Lib.hid (mrgA_bound 400000 LA LB (fun x hx => by rw [← HM1.out] at hx; obtain ⟨z, hz, rfl⟩ := List.mem_map.1 hx; have := HN1.out.2 z hz; simpa [LiV.li] using this) (fun x hx => by rw [← HM2.out] at hx; obtain ⟨z, hz, rfl⟩ := List.mem_map.1 hx; have := HN2.out.2 z hz; simpa [LiV.li] using this) m2 (by rw [← HLB.out]; exact Nat.le_refl _))
              have HWB : Hid (wrB (mrgA LA LB m2) = true) := Lib.hid (wrB_mrg (by rw [hLA.out]; exact (resL_good A).1) (by rw [hLB.out]; exact (resL_good B).1) m2 (by rw [← HLB.out]; exact Nat.le_refl _))
              have HLEN : Hid (ys.length ≤ 1000000) := Lib.hid (by
                have h := mrgA_len LA LB m2 (by rw [← HLB.out]; exact Nat.le_refl _)
                rw [← HMAP.out, List.length_map, ← HM1.out, List.length_map, ← HM1N.out] at h
                omega)
              have HWR := Lib.hid (sgWrite_calls (.slice la ln lc) ys wq HLIS.out HLEN.out (fun x hx => by
                have h := HBND.out x.li (by rw [← HMAP.out]; exact List.mem_map.2 ⟨x, hx, rfl⟩)
                have h2 : x.i.length ≤ 400000 := by simpa [LiV.li] using h
                omega) (fun x hx y hy => Nat.le_trans (data_of HMAP.out HWB.out x hx y hy) (by omega)))
              go_wp2_with fail
              refine HWR.out.mono ?_
              rintro e w9 ⟨a9, n9, c9, rfl, ho9, hb9⟩
              have HO9 := Lib.hid ho9
              have HB9 := Lib.hid hb9
              clear ho9 hb9 HWR
              obtain ⟨E9, hE9⟩ : ∃ E, Hid (E = wrE (ys.map LiV.li)) := ⟨_, Lib.hid rfl⟩
              rw [← hE9.out]
              go_wp2
              go_ret2
              have h1 : mrgE A B = wrE (mrgQ A B) := by unfold mrgE; rw [if_pos hEA.out.symm, if_pos hEB.out.symm]
              have h2 : mrgR A B = wrR (mrgQ A B) := by unfold mrgR; rw [if_pos ⟨hEA.out.symm, hEB.out.symm⟩]
              have h3 : mrgE A B = E9 := by rw [h1, ← HQ.out, hE9.out]
              refine ⟨a9, n9, c9, by rw [h3]; rfl, ?_, HBW.out.trans (HB9.out.mono HBW.out.size)⟩
              rw [h2, ← HQ.out]
              exact HO9.out.mono HBW.out.size
end Go.Proofs.Ytilanncobbdlfaa

/-
  The contract of the document's stands: does an item stand in lists?
-/
namespace Go.Proofs.Ytilanncobbdlfaa
open Go Go.RowKit
set_option linter.unusedVariables false

/-- A load that is guarded, at the list of a plain region's operations. -/
theorem wpList_load_midg {ops : Array Oper} {rest : List Oper} {op : Oper} {a : Act} {w : World} {Q : Exit → Act → World → Prop} (hw : Region.wanted op (yielded ops a.tmps) = true) (ty : TypeId) (x : Operand) (ho : op.op = .load ty x)
    (b o : Nat) (hx : a.eval x = .pointer (some ⟨b, o, none⟩)) (cs : List Value) (d : TypeDesc) (hc : w.rangeAt b o cs)
    (hu : Try.prog.underlying ty = some d) (hd : d.isRow = true) (hi : (Try.prog.info? ty).map (·.size) = some cs.length)
    (h : wpList Try.prog ops Q rest (a.put op.dst (.agg cs.toArray)) w) : wpList Try.prog ops Q (op :: rest) a w :=
  wpList_step fun _ hK => by
    rw [if_pos hw]
    exact wp_load_mid ty x ho b o hx cs d hc hu hd hi (hK _ _ h)
theorem itC_own_range {w : World} {b : Nat} {y : ItV} (h : RowAt w b (itC y).toArray) : w.rangeAt b 0 (y.o.map b8) := range_pre (ys := [y.v]) (by have := h.range; simpa [itC] using this)
theorem own_range_of {w : World} {b : Nat} {X : List Value} {y : ItV} (h : RowAt w b X.toArray) (hX : X = itC y) : w.rangeAt b 0 (y.o.map b8) := by
  subst hX
  exact itC_own_range h
theorem it_eq {y z : ItV} : z.it = y.it ↔ y.o = z.o ∧ y.d = z.d := by
  unfold ItV.it
  constructor
  · intro h
    injection h with h1 h2
    exact ⟨h1.symm, h2.symm⟩
  · rintro ⟨h1, h2⟩
    rw [h1, h2]
set_option maxRecDepth 100000 in
set_option maxHeartbeats 1000000 in
theorem stands_calls (v : Value) (xs : List LiV) (K : Int) (y : ItV) (w : World) (hv : Lis w v xs) (hyb : Byt w y.v y.d) (hyl : y.o.length = 16) (hn : xs.length ≤ 1000000000) (hi : ∀ x ∈ xs, x.i.length ≤ 1000000000) :
    Calls Try.prog 28 #[v, .int .u8 K, .agg (itC y).toArray] w fun e w' => ∃ B : Bool, (B = true ↔ inL (xs.map LiV.li) (K, y.it)) ∧ e = .returned (.bool B) ∧ Below w.heap.size w w' := by
  have HV := Lib.hid hv
  have HI := Lib.hid hi
  have HYB := Lib.hid hyb
  have HYL := Lib.hid hyl
  obtain ⟨a, cap, rfl, h1, h2⟩ := hv.open
  obtain ⟨ya, yc, hyv, _, _⟩ := hyb.open
  clear hv hi hyb hyl
  obtain ⟨N, hN⟩ : ∃ n, Hid (n = xs.length) := ⟨_, Lib.hid rfl⟩
  rw [← hN.out] at HV h1 hn ⊢
  obtain ⟨Y, hY⟩ : ∃ Y, Hid (Y = itC y) := ⟨_, Lib.hid rfl⟩
  have HR0 := Lib.hid (RowAt.new w (itC y).toArray 49 w.heap.size rfl)
  have HB0 := Lib.hid ((Below.refl w.heap.size w).alloc (Nat.le_refl _) (.cells Y.toArray 49))
  rw [← hY.out] at HR0 ⊢
  obtain ⟨ym, hym⟩ : ∃ m, Hid (m = y.d.length) := ⟨_, Lib.hid rfl⟩
  rw [← hym.out] at hyv
  have HYV := Lib.hid hyv
  clear hyv
  obtain ⟨G1, hG1⟩ : ∃ G, Hid (G = y.o.map b8) := ⟨_, Lib.hid rfl⟩
  obtain ⟨S1, hS1⟩ : ∃ S, Hid (S = sOf y.d) := ⟨_, Lib.hid rfl⟩
  go_enter Try.func28, Try.ntmps28
  go_wp2
  go_loopw [7] (fun i_ wr => ∃ j : Nat, j ≤ N ∧ i_ = .int .i64 j ∧ Hid (∀ r x, r < j → xs[r]? = some x → ¬ (x.k = K ∧ y.it ∈ x.li.i)) ∧ Hid (RowAt wr w.heap.size Y.toArray) ∧ Hid (Below w.heap.size w wr)) (fun i_ _ => N - (intOf i_).toNat)
  case atStart => exact ⟨0, Nat.zero_le _, rfl, Lib.hid (fun r x hr => absurd hr (Nat.not_lt_zero _)), HR0, HB0⟩
  case round =>
    obtain ⟨j, hj, rfl, hgood, HR, HB⟩ := hrel
    obtain ⟨wo, hwo⟩ : ∃ wo : World, wo = wr := ⟨_, rfl⟩
    subst hwo
    by_cases hlt : j < N
    · obtain ⟨b, off, x, ia, n, ic, hx, ha, hrow, hxv, hm, hmc, hc, hits⟩ := HV.out.item j (by rw [← hN.out]; exact hlt)
      subst ha
      have hdl : decide ((j : Int) < (N : Int)) = true := by simp; omega
      have HX := Lib.hid hx
      have HRNG := Lib.hid hrow
      have HITS := Lib.hid hits
      have HNI := Lib.hid hm
      have hnb : n ≤ 1000000000 := by rw [hm]; exact HI.out x (List.mem_of_getElem? hx)
      obtain ⟨k, hk⟩ : ∃ k, Hid (k = x.k) := ⟨_, Lib.hid rfl⟩
      rw [← hk.out] at HRNG
      clear hrow hx hxv hm hits
      go_wp2
      go_loopw [8] (fun i_ wr => ∃ i : Nat, i ≤ n ∧ i_ = .int .i64 i ∧ Hid (∀ r z, r < i → x.i[r]? = some z → ¬ (k = K ∧ z.it = y.it)) ∧ Hid (RowAt wr w.heap.size Y.toArray) ∧ Hid (Below w.heap.size w wr)) (fun i_ _ => n - (intOf i_).toNat)
      case atStart => exact ⟨0, Nat.zero_le _, rfl, Lib.hid (fun r z hr => absurd hr (Nat.not_lt_zero _)), HR, HB⟩
      case round =>
        obtain ⟨i, hi, rfl, hgi, HRi, HBi⟩ := hrel
        obtain ⟨wi, hwi⟩ : ∃ wi : World, wi = wr := ⟨_, rfl⟩
        subst hwi
        have HRG := Lib.hid (range_below HRNG.out HBi.out)
        have q0 : wi.cell? ⟨b, off + j * 2, none⟩ = some (.int .u8 k) := HRG.out 0 _ rfl
        have q1 : wi.cell? ⟨b, off + j * 2 + 1, none⟩ = some (.slice ia n ic) := HRG.out 1 _ rfl
        by_cases hlt3 : i < n
        · obtain ⟨ib, io, z, s, m, c, hz, hia, hrz, hzv, hzm, hzmc, hzc, hzb, hzl, hzC, hz1⟩ := HITS.out.item i (by rw [← HNI.out]; exact hlt3)
          cases hia
          have hdl3 : decide ((i : Int) < (n : Int)) = true := by simp; omega
          have HZE := Lib.hid hz
          have HZL := Lib.hid hzl
          have HRZ := Lib.hid (range_below hrz HBi.out)
          have HZC := Lib.hid hzC
          have HZ1 := Lib.hid hz1
          have HZV := Lib.hid hzv
          have HZB := Lib.hid hzb
          obtain ⟨Z, hZ⟩ : ∃ Z, Hid (Z = itC z) := ⟨_, Lib.hid rfl⟩
          have HZR := Lib.hid (RowAt.new wi (itC z).toArray 49 wi.heap.size rfl)
          rw [← hZ.out] at HRZ HZC HZ1 HZR
          clear hrz hzv hzm hzb hzl hzC hz1 hz
          obtain ⟨n6, hn6⟩ : ∃ m, Hid (m = wi.heap.size) := ⟨_, Lib.hid rfl⟩
          rw [← hn6.out] at HZR
          have HBA : Hid (Below wi.heap.size wi (wi.alloc (.cells Z.toArray 49))) := Lib.hid ((Below.refl wi.heap.size wi).alloc (Nat.le_refl _) _)
          have HRz := Lib.hid (HRi.out.below HBA.out)
          have HBz := Lib.hid (HBi.out.trans (HBA.out.mono HBi.out.size))
          have HRGz := Lib.hid (range_below HRNG.out HBz.out)
          have z0 : (wi.alloc (.cells Z.toArray 49)).cell? ⟨b, off + j * 2, none⟩ = some (.int .u8 k) := HRGz.out 0 _ rfl
          have z1 : (wi.alloc (.cells Z.toArray 49)).cell? ⟨b, off + j * 2 + 1, none⟩ = some (.slice (some ⟨ib, io, none⟩) n ic) := HRGz.out 1 _ rfl
          have HNEXT : Hid (¬ (k = K ∧ z.it = y.it) → ∀ r u, r < i + 1 → x.i[r]? = some u → ¬ (k = K ∧ u.it = y.it)) := Lib.hid (fun h r u hr hu => by
            by_cases e : r = i
            · subst e
              rw [HZE.out] at hu
              cases hu
              exact h
            · exact hgi.out r u (by omega) hu)
          by_cases hkk : k = K
          case neg =>
            have hke : (k == K) = false := by simp [hkk]
            have HG := Lib.hid (HNEXT.out (fun e => hkk e.1))
            clear hkk
            go_wp2_with (first
              | (with_reducible show wpList _ _ _ (⟨some 33, _, _, _, _, _⟩ :: _) _ _; refine wpList_load_mid rfl 49 _ rfl ib (io + i * 17) rfl Z _ HRZ.out Try.underlying49 rfl (by rw [HZC.out]; kernel_rfl) ?_)
              | (with_reducible show wpList _ _ _ (⟨none, _, _, _, _, _⟩ :: _) _ _; refine wpList_store_item rfl _ _ rfl wi _ Z rfl HZC.out HZ1.out rfl rfl ?_; rw [← hn6.out]))
            go_roundw
            case rel => exact ⟨i + 1, hlt3, by go_num, HG, HRz, HBz⟩
            case measure => simp [intOf]; omega
          case pos =>
            have hke : (k == K) = true := by simp [hkk]
            have HKK := Lib.hid hkk
            clear hkk
            obtain ⟨G2, hG2⟩ : ∃ G, Hid (G = z.o.map b8) := ⟨_, Lib.hid rfl⟩
            have HG1R : Hid ((wi.alloc (.cells Z.toArray 49)).rangeAt w.heap.size 0 G1) := Lib.hid (by rw [hG1.out]; exact own_range_of HRz.out hY.out)
            have HG2R : Hid ((wi.alloc (.cells Z.toArray 49)).rangeAt n6 0 G2) := Lib.hid (by rw [hG2.out]; exact own_range_of HZR.out hZ.out)
            have HG1L : Hid (G1.length = 16) := Lib.hid (by rw [hG1.out, List.length_map]; exact HYL.out)
            have HG2L : Hid (G2.length = 16) := Lib.hid (by rw [hG2.out, List.length_map]; exact HZL.out)
            have heg : ∀ W : World, (binOp .eql 47 (.agg G1.toArray) (.agg G2.toArray)).run Try.prog W = .ok (.bool (decide (y.o = z.o))) W := fun W => by rw [hG1.out, hG2.out]; exact run_gid_eq y.o z.o HYL.out HZL.out W
            by_cases hoo : y.o = z.o
            case neg =>
              rw [decide_eq_false hoo] at heg
              have HG := Lib.hid (HNEXT.out (fun e => hoo (it_eq.1 e.2).1))
              clear hoo
              go_wp2_with (first
                | (with_reducible show wpList _ _ _ (⟨some 33, _, _, _, _, _⟩ :: _) _ _; refine wpList_load_mid rfl 49 _ rfl ib (io + i * 17) rfl Z _ HRZ.out Try.underlying49 rfl (by rw [HZC.out]; kernel_rfl) ?_)
                | (with_reducible show wpList _ _ _ (⟨none, _, _, _, _, _⟩ :: _) _ _; refine wpList_store_item rfl _ _ rfl wi _ Z rfl HZC.out HZ1.out rfl rfl ?_; rw [← hn6.out])
                | (with_reducible show wpList _ _ _ (⟨some 43, _, _, _, _, _⟩ :: _) _ _; refine wpList_load_midg rfl 47 _ rfl w.heap.size 0 rfl G1 _ HG1R.out Try.underlying47 rfl (by rw [HG1L.out]; kernel_rfl) ?_)
                | (with_reducible show wpList _ _ _ (⟨some 45, _, _, _, _, _⟩ :: _) _ _; refine wpList_load_midg rfl 47 _ rfl n6 0 rfl G2 _ HG2R.out Try.underlying47 rfl (by rw [HG2L.out]; kernel_rfl) ?_))
              clear heg
              go_roundw
              case rel => exact ⟨i + 1, hlt3, by go_num, HG, HRz, HBz⟩
              case measure => simp [intOf]; omega
            case pos =>
              rw [decide_eq_true hoo] at heg
              have HOO := Lib.hid hoo
              clear hoo
              have y16 : (wi.alloc (.cells Z.toArray 49)).cell? ⟨w.heap.size, 16, none⟩ = some (.slice ya ym yc) := HRz.out.cell 16 _ (by rw [hY.out, ← HYV.out]; simpa using itC_at16 y HYL.out)
              have x16 : (wi.alloc (.cells Z.toArray 49)).cell? ⟨n6, 16, none⟩ = some (.slice s m c) := HZR.out.cell 16 _ (by rw [hZ.out, ← HZV.out]; simpa using itC_at16 z HZL.out)
              obtain ⟨S2, hS2⟩ : ∃ S, Hid (S = sOf z.d) := ⟨_, Lib.hid rfl⟩
              have cv1 : (convert 22 9 (.slice ya ym yc)).run Try.prog (wi.alloc (.cells Z.toArray 49)) = .ok (.string S1) (wi.alloc (.cells Z.toArray 49)) := by rw [hS1.out, ← HYV.out]; exact run_tostring (HYB.out.below HBz.out) _ _ _ Try.underlying22 Try.underlying5 Try.underlying9
              have cv2 : (convert 22 9 (.slice s m c)).run Try.prog (wi.alloc (.cells Z.toArray 49)) = .ok (.string S2) (wi.alloc (.cells Z.toArray 49)) := by rw [hS2.out, ← HZV.out]; exact run_tostring (HZB.out.below HBz.out) _ _ _ Try.underlying22 Try.underlying5 Try.underlying9
              obtain ⟨D, hD⟩ : ∃ D : Bool, Hid (D = decide (y.d = z.d)) := ⟨_, Lib.hid rfl⟩
              have hst : (S1.toList == S2.toList) = D := by rw [hS1.out, hS2.out, hD.out]; exact sOf_beq _ _
              cases D with
              | false =>
                have HG := Lib.hid (HNEXT.out (fun e => of_decide_eq_false hD.out.symm (it_eq.1 e.2).2))
                go_wp2_with (first
                  | (with_reducible show wpList _ _ _ (⟨some 33, _, _, _, _, _⟩ :: _) _ _; refine wpList_load_mid rfl 49 _ rfl ib (io + i * 17) rfl Z _ HRZ.out Try.underlying49 rfl (by rw [HZC.out]; kernel_rfl) ?_)
                  | (with_reducible show wpList _ _ _ (⟨none, _, _, _, _, _⟩ :: _) _ _; refine wpList_store_item rfl _ _ rfl wi _ Z rfl HZC.out HZ1.out rfl rfl ?_; rw [← hn6.out])
                  | (with_reducible show wpList _ _ _ (⟨some 43, _, _, _, _, _⟩ :: _) _ _; refine wpList_load_midg rfl 47 _ rfl w.heap.size 0 rfl G1 _ HG1R.out Try.underlying47 rfl (by rw [HG1L.out]; kernel_rfl) ?_)
                  | (with_reducible show wpList _ _ _ (⟨some 45, _, _, _, _, _⟩ :: _) _ _; refine wpList_load_midg rfl 47 _ rfl n6 0 rfl G2 _ HG2R.out Try.underlying47 rfl (by rw [HG2L.out]; kernel_rfl) ?_))
                clear heg cv1 cv2 hst
                go_roundw
                case rel => exact ⟨i + 1, hlt3, by go_num, HG, HRz, HBz⟩
                case measure => simp [intOf]; omega
              | true =>
                have HIT : Hid (inL (xs.map LiV.li) (K, y.it)) := Lib.hid ⟨x.li, List.mem_map.2 ⟨x, List.mem_of_getElem? HX.out, rfl⟩, hk.out.symm.trans HKK.out, List.mem_map.2 ⟨z, List.mem_of_getElem? HZE.out, it_eq.2 ⟨HOO.out, of_decide_eq_true hD.out.symm⟩⟩⟩
                go_wp2_with (first
                  | (with_reducible show wpList _ _ _ (⟨some 33, _, _, _, _, _⟩ :: _) _ _; refine wpList_load_mid rfl 49 _ rfl ib (io + i * 17) rfl Z _ HRZ.out Try.underlying49 rfl (by rw [HZC.out]; kernel_rfl) ?_)
                  | (with_reducible show wpList _ _ _ (⟨none, _, _, _, _, _⟩ :: _) _ _; refine wpList_store_item rfl _ _ rfl wi _ Z rfl HZC.out HZ1.out rfl rfl ?_; rw [← hn6.out])
                  | (with_reducible show wpList _ _ _ (⟨some 43, _, _, _, _, _⟩ :: _) _ _; refine wpList_load_midg rfl 47 _ rfl w.heap.size 0 rfl G1 _ HG1R.out Try.underlying47 rfl (by rw [HG1L.out]; kernel_rfl) ?_)
                  | (with_reducible show wpList _ _ _ (⟨some 45, _, _, _, _, _⟩ :: _) _ _; refine wpList_load_midg rfl 47 _ rfl n6 0 rfl G2 _ HG2R.out Try.underlying47 rfl (by rw [HG2L.out]; kernel_rfl) ?_))
                clear heg cv1 cv2 hst
                go_ret
                exact ⟨true, ⟨fun _ => HIT.out, fun _ => rfl⟩, rfl, HBz.out⟩
        · obtain rfl : n = i := by omega
          have hdl3 : decide ((n : Int) < (n : Int)) = false := by simp
          have HG : Hid (∀ r u, r < j + 1 → xs[r]? = some u → ¬ (u.k = K ∧ y.it ∈ u.li.i)) := Lib.hid (fun r u hr hu => by
            by_cases e : r = j
            · subst e
              rw [HX.out] at hu
              cases hu
              rintro ⟨h1, h2⟩
              obtain ⟨z, hz, e⟩ := List.mem_map.1 (show y.it ∈ x.i.map ItV.it from h2)
              obtain ⟨q, hq⟩ := List.mem_iff_getElem?.1 hz
              exact hgi.out q z (by rw [HNI.out]; exact (List.getElem?_eq_some_iff.1 hq).1) hq ⟨hk.out.trans h1, e⟩
            · exact hgood.out r u (by omega) hu)
          go_wp2
          go_roundw
          case rel => exact ⟨j + 1, hlt, by go_num, HG, HRi, HBi⟩
          case measure => simp [intOf]; omega
    · obtain rfl : N = j := by omega
      have hdl : decide ((N : Int) < (N : Int)) = false := by simp
      go_wp2
      go_ret
      refine ⟨false, ⟨fun h => (by cases h), ?_⟩, rfl, HB.out⟩
      rintro ⟨u, hu, h1, h2⟩
      obtain ⟨x, hx, rfl⟩ := List.mem_map.1 hu
      obtain ⟨q, hq⟩ := List.mem_iff_getElem?.1 hx
      exact absurd ⟨h1, h2⟩ (hgood.out q x (by rw [hN.out]; exact (List.getElem?_eq_some_iff.1 hq).1) hq)
end Go.Proofs.Ytilanncobbdlfaa

/-
  The contract of the document's Merge.
-/
namespace Go.Proofs.Ytilanncobbdlfaa
open Go Go.RowKit
set_option linter.unusedVariables false

theorem inL_one {k : Int} {zs : List It} {y : It} : inL [⟨k, zs⟩] (k, y) ↔ y ∈ zs := by
  constructor
  · rintro ⟨u, hu, _, h⟩
    rw [List.mem_singleton.1 hu] at h
    exact h
  · exact fun h => ⟨_, List.mem_singleton.2 rfl, rfl, h⟩
theorem ref_old {LA LB : List Li} {j : Nat} (hj : j ≤ LB.length) {k : Int} {l : List It} {y : It} (h : inL (mrgA LA LB j) (k, y)) : keepI k (mrgK LA LB j) (l ++ [y]) = keepI k (mrgK LA LB j) l := by
  rw [keepI_snoc, if_pos ((mem_keep k _ l _).2 (.inl ((inL_mrg LA LB j hj _).2 h))), List.append_nil]
theorem ref_twice {ks : List (Int × It)} {k : Int} {l : List It} {y : It} (h : inL [⟨k, keepI k ks l⟩] (k, y)) : keepI k ks (l ++ [y]) = keepI k ks l := by
  rw [keepI_snoc, if_pos ((mem_keep k _ l _).2 (.inr ⟨rfl, inL_one.1 h⟩)), List.append_nil]
theorem ref_new {LA LB : List Li} {j : Nat} (hj : j ≤ LB.length) {k : Int} {l : List It} {y : It} (h : ¬ inL (mrgA LA LB j) (k, y)) (h2 : ¬ inL [⟨k, keepI k (mrgK LA LB j) l⟩] (k, y)) : keepI k (mrgK LA LB j) (l ++ [y]) = keepI k (mrgK LA LB j) l ++ [y] := by
  rw [keepI_snoc, if_neg ?_]
  rw [mem_keep]
  rintro (e | ⟨_, e⟩)
  · exact h ((inL_mrg LA LB j hj _).1 e)
  · exact h2 (inL_one.2 e)
theorem wrE_ten {L : List Li} (h : wrB L = true) (h0 : wrE L ≠ 0) : wrE L = 10 ∧ wrR L = [] := by
  unfold wrE at h0
  unfold wrE wrR
  rw [h, if_pos rfl] at h0
  rw [h, if_pos rfl, if_pos rfl]
  split
  · rename_i e
    rw [if_pos e] at h0
    exact absurd rfl h0
  · exact ⟨rfl, rfl⟩
theorem OwnSet.snoc {w : World} {base b5 : Nat} {ys : List LiV} {k : Int} {zs : List ItV} {v : Value} (h : OwnSet w base ys) (hk : 0 ≤ k ∧ k ≤ 255) (hi : OwnIts w base v zs) (hlt : ∀ y ∈ ys, ∀ q, ownB y.v = some q → q < b5) (hge : ∀ q, ownB v = some q → b5 ≤ q) : OwnSet w base (ys ++ [⟨k, zs, v⟩]) := by
  refine ⟨fun x hx => ?_, fun x hx => ?_, List.pairwise_append.2 ⟨h.part, List.pairwise_singleton _ _, fun a ha b hb q hq hq2 => ?_⟩⟩
  · rcases List.mem_append.1 hx with hx | hx
    · exact h.kind x hx
    · rw [List.mem_singleton.1 hx]; exact hk
  · rcases List.mem_append.1 hx with hx | hx
    · exact h.its x hx
    · rw [List.mem_singleton.1 hx]; exact hi
  · rw [List.mem_singleton.1 hb] at hq2
    have := hlt a ha q hq
    have := hge q hq2
    omega

set_option maxRecDepth 100000 in
set_option maxHeartbeats 8000000 in
theorem refMerge_calls (va vb : Value) (A B : List UInt8) (w : World) (ha : Byt w va A) (hb : Byt w vb B) (hal : A.length ≤ 400000) (hbl : B.length ≤ 400000) :
    Calls Try.prog 12 #[va, vb] w (MrgRes A B w) := by
  have HA := Lib.hid ha
  have HB := Lib.hid hb
  clear ha hb
  obtain ⟨LA, hLA⟩ : ∃ X, Hid (X = resL A) := ⟨_, Lib.hid rfl⟩
  obtain ⟨EA, hEA⟩ : ∃ X, Hid (X = resE A) := ⟨_, Lib.hid rfl⟩
  obtain ⟨LB, hLB⟩ : ∃ X, Hid (X = resL B) := ⟨_, Lib.hid rfl⟩
  obtain ⟨EB, hEB⟩ : ∃ X, Hid (X = resE B) := ⟨_, Lib.hid rfl⟩
  go_enter Try.func12, Try.ntmps12
  go_wp2_with fail
  refine (rd_form (refReadAll_calls va A _ HA.out (by omega)) LA hLA.out EA hEA.out 400000 hal).mono ?_
  rintro e w1 ⟨a1, m1, c1, xs, rfl, ho, hm, hN, hm1, hb⟩
  have HB1 := Lib.hid hb
  have HO1 := Lib.hid ho
  have HM1 := Lib.hid hm
  have HN1 := Lib.hid hN
  have HL1 : Hid (∀ q, ownB (.slice a1 m1 c1) = some q → q < w1.heap.size) := Lib.hid (fun q hq => (Own.lt ho.row q hq).2)
  clear hb ho hm hN
  by_cases hE : EA = 0
  case neg =>
    have hne : (EA != 0) = true := by simp [hE]
    go_wp2
    go_ret2
    exact mrg_bad1 hEA.out hE HB1.out
  case pos =>
    subst hE
    go_wp2_with fail
    refine (rd_form (refReadAll_calls vb B _ (HB.out.below HB1.out) (by omega)) LB hLB.out EB hEB.out 400000 hbl).mono ?_
    rintro e w2 ⟨a2, m2, c2, ms, rfl, ho, hm, hN, hm2, hb⟩
    have HB2 := Lib.hid (HB1.out.trans (hb.mono HB1.out.size))
    have HO1 := Lib.hid (HO1.out.below hb)
    have HO2 := Lib.hid ho
    have HM2 := Lib.hid hm
    have HN2 := Lib.hid hN
    clear hb ho hm hN
    by_cases hE : EB = 0
    case neg =>
      have hne : (EB != 0) = true := by simp [hE]
      go_wp2
      go_ret2
      exact mrg_bad2 hEA.out hEB.out hE HB2.out
    case pos =>
      subst hE
      have hm1n : m1 = xs.length := by
        obtain ⟨_, _, e, _⟩ := Own.shape HO1.out.row
        simp only [Value.slice.injEq] at e
        exact e.2.1
      have hm2n : m2 = ms.length := by
        obtain ⟨_, _, e, _⟩ := Own.shape HO2.out.row
        simp only [Value.slice.injEq] at e
        exact e.2.1
      have HM1N := Lib.hid hm1n
      have HM2N := Lib.hid hm2n
      clear hm1n hm2n
      have HM2L : Hid (m2 = LB.length) := Lib.hid (by rw [← HM2.out, List.length_map]; exact HM2N.out)
      have HRL0 : Hid (Own w2 w.heap.size 39 2 (.slice a1 m1 c1) xs.length (lisC xs)) := Lib.hid HO1.out.row
      have HRM0 : Hid (Own w2 w.heap.size 39 2 (.slice a2 m2 c2) ms.length (lisC ms)) := Lib.hid (HO2.out.row.mono HB1.out.size)
      have HNE0 : Hid (∀ q, ownB (.slice a1 m1 c1) = some q → ownB (.slice a2 m2 c2) ≠ some q) := Lib.hid (fun q hq e => by
        have h1 := HL1.out q hq
        have h2 := (Own.lt HO2.out.row q e).1
        omega)
      have HSA0 : Hid (OwnSet w2 w.heap.size xs) := Lib.hid HO1.out.set
      have HSM0 : Hid (OwnSet w2 w.heap.size ms) := Lib.hid (HO2.out.set.mono HB1.out.size)
      have HMAP0 : Hid (xs.map LiV.li = mrgA LA LB 0) := Lib.hid (by rw [mrgA_zero]; exact HM1.out)
      go_wp2
      go_loopw [9, 6] (fun i_ l_ wr => ∃ (j : Nat) (la : Option Addr) (ln lc : Nat) (ys : List LiV), j ≤ m2 ∧ i_ = .int .i64 j ∧ l_ = .slice la ln lc ∧ Hid (ys.map LiV.li = mrgA LA LB j) ∧ Hid (Own wr w.heap.size 39 2 (.slice la ln lc) ys.length (lisC ys)) ∧ Hid (Own wr w.heap.size 39 2 (.slice a2 m2 c2) ms.length (lisC ms)) ∧ Hid (∀ q, ownB (.slice la ln lc) = some q → ownB (.slice a2 m2 c2) ≠ some q) ∧ Hid (OwnSet wr w.heap.size ys) ∧ Hid (OwnSet wr w.heap.size ms) ∧ Hid (Below w.heap.size w wr)) (fun i_ _ _ => m2 - (intOf i_).toNat)
      case atStart => exact ⟨0, a1, m1, c1, xs, Nat.zero_le _, rfl, rfl, HMAP0, HRL0, HRM0, HNE0, HSA0, HSM0, HB2⟩
      case round =>
        clear HRL0 HRM0 HNE0 HSA0 HSM0 HMAP0
        obtain ⟨j, la, ln, lc, ys, hj2, rfl, rfl, HMAP, HRL, HRM, HNE, HSA, HSM, HBW⟩ := hrel
        obtain ⟨wq, hwq⟩ : ∃ wq : World, wq = wr := ⟨_, rfl⟩
        subst hwq
        have HJL : Hid (j ≤ LB.length) := Lib.hid (by rw [← HM2L.out]; exact hj2)
        have HBND : Hid (∀ x ∈ ys, x.i.length ≤ 400000) := Lib.hid (fun x hx => by
          have h := mrgA_bound 400000 LA LB (fun x hx => by rw [← HM1.out] at hx; obtain ⟨z, hz, rfl⟩ := List.mem_map.1 hx; have := HN1.out.2 z hz; simpa [LiV.li] using this) (fun x hx => by rw [← HM2.out] at hx; obtain ⟨z, hz, rfl⟩ := List.mem_map.1 hx; have := HN2.out.2 z hz; simpa [LiV.li] using this) j HJL.out x.li (by rw [← HMAP.out]; exact List.mem_map.2 ⟨x, hx, rfl⟩)
          simpa [LiV.li] using h)
        have HLEN : Hid (ys.length ≤ 1000000) := Lib.hid (by
          have h := mrgA_len LA LB j HJL.out
          rw [← HMAP.out, List.length_map, ← HM1.out, List.length_map, ← HM1N.out] at h
          omega)
        have HLIS := Lib.hid (HSA.out.lis HRL.out)
        by_cases hlt2 : j < m2
        · have hdl2 : decide ((j : Int) < (m2 : Int)) = true := by simp; omega
          obtain ⟨x, hx⟩ : ∃ x, ms[j]? = some x := ⟨_, List.getElem?_eq_getElem (by rw [← HM2N.out]; exact hlt2)⟩
          obtain ⟨hmx, b, off, ha2, hrow⟩ := own_row_at HRM.out hx
          clear hmx
          subst ha2
          have HX := Lib.hid hx
          have hits := HSM.out.its x (List.mem_of_getElem? hx)
          obtain ⟨ia, ic, hxv, _, _⟩ := Own.shape hits.row
          obtain ⟨ni, hni⟩ : ∃ m, Hid (m = x.i.length) := ⟨_, Lib.hid rfl⟩
          obtain ⟨k, hk⟩ : ∃ k, Hid (k = x.k) := ⟨_, Lib.hid rfl⟩
          rw [← hni.out] at hxv
          have HITS := Lib.hid hits
          rw [hxv] at hrow HITS
          rw [← hk.out] at hrow
          have HRNG := Lib.hid hrow
          have hni4 : ni ≤ 400000 := by rw [hni.out]; exact HN2.out.2 x (List.mem_of_getElem? hx)
          have HXI := Lib.hid hni4
          have HXK : Hid (0 ≤ k ∧ k ≤ 255) := Lib.hid (by rw [hk.out]; exact HO2.out.kind x (List.mem_of_getElem? hx))
          clear hrow hx hxv hits
          obtain ⟨n5, hn5⟩ : ∃ m, Hid (m = wq.heap.size) := ⟨_, Lib.hid rfl⟩
          have HR0 := Lib.hid (RowAt.new wq #[.int .u8 k, .slice none 0 0] 39 n5 hn5.out)
          have HBA := Lib.hid ((Below.refl wq.heap.size wq).alloc (Nat.le_refl _) (.cells #[.int .u8 k, .slice none 0 0] 39))
          have q0 : wq.cell? ⟨b, off + j * 2, none⟩ = some (.int .u8 k) := HRNG.out 0 _ rfl
          go_wp2_with ((with_reducible show wpList _ _ _ (⟨none, _, _, _, _, _⟩ :: _) _ _); refine wpList_store_list rfl _ _ rfl wq #[.int .u8 0, .slice none 0 0] #[.int .u8 k, .slice none 0 0] rfl rfl (fun u hu => by simp at hu; rcases hu with rfl | rfl <;> rfl) rfl rfl ?_; rw [← hn5.out])
          clear q0
          go_loopw [11] (fun i_ wr => ∃ (i : Nat) (na : Option Addr) (nn nc : Nat) (zs : List ItV), i ≤ ni ∧ i_ = .int .i64 i ∧ Hid (nn = zs.length) ∧ Hid (zs.map ItV.it = keepI k (mrgK LA LB j) ((x.i.take i).map ItV.it)) ∧ Hid (∀ z ∈ zs, z ∈ x.i) ∧ Hid (RowAt wr n5 #[.int .u8 k, .slice na nn nc]) ∧ Hid (Own wr (n5 + 1) 49 17 (.slice na nn nc) zs.length (itsC zs)) ∧ Hid (Below wq.heap.size wq wr)) (fun i_ _ => ni - (intOf i_).toNat)
          case atStart => exact ⟨0, none, 0, 0, [], Nat.zero_le _, rfl, Lib.hid rfl, Lib.hid rfl, Lib.hid (fun z hz => by simp at hz), HR0, Lib.hid (Own.empty _ _ _ _ _), HBA⟩
          case round =>
            clear HR0 HBA
            obtain ⟨i, na, nn, nc, zs, hi, rfl, HNN, HZK, HZS, HRi, HOi, HBi⟩ := hrel
            obtain ⟨wi, hwi⟩ : ∃ wi : World, wi = wr := ⟨_, rfl⟩
            subst hwi
            have HRG := Lib.hid (range_below HRNG.out HBi.out)
            have HZN : Hid (zs.length ≤ 400000) := Lib.hid (by
              have h := congrArg List.length HZK.out
              have h2 := keepI_len k ((x.i.take i).map ItV.it) (mrgK LA LB j)
              rw [List.length_map, List.length_take] at h2
              rw [List.length_map] at h
              have := HXI.out
              have := hni.out
              omega)
            have HIX := Lib.hid (HITS.out.below HBi.out)
            have HZI : Hid (∀ W, Below wi.heap.size wi W → OwnIts W w.heap.size (.slice na nn nc) zs) := Lib.hid (fun W hW => ⟨(HOi.out.mono (by have := HBW.out.size; have := hn5.out; omega)).below hW (Nat.le_refl _), fun z hz => HIX.out.len z (HZS.out z hz), fun z hz => OwnB.below (HIX.out.byt z (HZS.out z hz)) hW⟩)
            have q1 : wi.cell? ⟨b, off + j * 2 + 1, none⟩ = some (.slice ia ni ic) := HRG.out 1 _ rfl
            by_cases hlt3 : i < ni
            · obtain ⟨ib, io, y, s, m, c, hy, hia, hry, hyv, hym, hymc, hyc, hyb, hyl, hyC, hy1⟩ := HIX.out.its.item i (by rw [← hni.out]; exact hlt3)
              cases hia
              have hdl3 : decide ((i : Int) < (ni : Int)) = true := by simp; omega
              have HYE := Lib.hid hy
              have HYL := Lib.hid hyl
              have HRY := Lib.hid hry
              have HYC := Lib.hid hyC
              have HY1 := Lib.hid hy1
              have HYB := Lib.hid hyb
              obtain ⟨X, hX⟩ : ∃ X, Hid (X = itC y) := ⟨_, Lib.hid rfl⟩
              obtain ⟨n6, hn6⟩ : ∃ m, Hid (m = wi.heap.size) := ⟨_, Lib.hid rfl⟩
              have HBB := Lib.hid ((Below.refl wi.heap.size wi).alloc (Nat.le_refl _) (.cells X.toArray 49))
              have HXR := Lib.hid (RowAt.new wi X.toArray 49 n6 hn6.out)
              have HXRG : Hid ((wi.alloc (.cells X.toArray 49)).rangeAt n6 0 X) := Lib.hid (by have := HXR.out.range; simpa using this)
              have HBQ := Lib.hid (HBi.out.trans (HBB.out.mono HBi.out.size))
              have HS1 := Lib.hid (stands_calls (.slice la ln lc) ys k y (wi.alloc (.cells X.toArray 49)) (HLIS.out.below HBQ.out) (HYB.out.below HBB.out) HYL.out (by have := HLEN.out; omega) (fun x hx => by have := HBND.out x hx; omega))
              rw [← hX.out] at HRY HYC HY1 HS1
              clear hry hyv hym hyb hyl hyC hy1 hy
              have HRA := Lib.hid (HRi.out.alloc (.cells X.toArray 49))
              have p0 := HRA.out.cell 0 (.int .u8 k) rfl
              go_wp2_with (first
                | (with_reducible show wpList _ _ _ (⟨some 59, _, _, _, _, _⟩ :: _) _ _; refine wpList_load_mid rfl 49 _ rfl ib (io + i * 17) rfl X _ HRY.out Try.underlying49 rfl (by rw [HYC.out]; kernel_rfl) ?_)
                | (with_reducible show wpList _ _ _ (⟨none, _, _, _, _, _⟩ :: _) _ _; refine wpList_store_item rfl _ _ rfl wi _ X rfl HYC.out HY1.out rfl rfl ?_; rw [← hn6.out])
                | (with_reducible show wpList _ _ _ (⟨some 63, _, _, _, _, _⟩ :: _) _ _; refine wpList_load_mid rfl 49 _ rfl n6 0 rfl X _ HXRG.out Try.underlying49 rfl (by rw [HYC.out]; kernel_rfl) ?_))
              refine HS1.out.mono ?_
              rintro e w5 ⟨B1, hB1, rfl, hb5⟩
              have HB5 := Lib.hid hb5
              have HR5 := Lib.hid (HRA.out.below hb5)
              have HB05 := Lib.hid (HBB.out.trans (hb5.mono HBB.out.size))
              have HQ5 := Lib.hid (HBi.out.trans (HB05.out.mono HBi.out.size))
              have HO5 := Lib.hid (HOi.out.below HB05.out (Nat.le_refl _))
              have HX5 : Hid (w5.rangeAt n6 0 X) := Lib.hid (range_below HXRG.out hb5)
              have HB1' := Lib.hid hB1
              clear hb5 hB1 HS1 p0 q1
              cases B1 with
              | true =>
                have HK5 : Hid (zs.map ItV.it = keepI k (mrgK LA LB j) ((x.i.take (i + 1)).map ItV.it)) := Lib.hid (by
                  rw [take_it HYE.out, ref_old HJL.out (by rw [← HMAP.out]; exact HB1'.out.1 rfl)]
                  exact HZK.out)
                go_wp2
                go_roundw
                case rel => exact ⟨i + 1, na, nn, nc, zs, hlt3, by go_num, HNN, HK5, HZS, HR5, HO5, HQ5⟩
                case measure => simp [intOf]; omega
              | false =>
                have HN1' : Hid (¬ inL (mrgA LA LB j) (k, y.it)) := Lib.hid (fun h => absurd (HB1'.out.2 (by rw [HMAP.out]; exact h)) (by decide))
                have HRR5 : Hid (w5.rangeAt n5 0 [.int .u8 k, .slice na nn nc]) := Lib.hid HR5.out.range
                obtain ⟨n7, hn7⟩ : ∃ m, Hid (m = w5.heap.size) := ⟨_, Lib.hid rfl⟩
                have HBC := Lib.hid ((Below.refl w5.heap.size w5).alloc (Nat.le_refl _) (.cells #[.int .u8 k, .slice na nn nc] 39))
                have HB06 := Lib.hid (HB05.out.trans (HBC.out.mono HB05.out.size))
                have HR6 := Lib.hid (HR5.out.below HBC.out)
                have HX6 := Lib.hid (range_below HX5.out HBC.out)
                have HLZ : Hid (Lis (w5.alloc (.cells #[.int .u8 k, .slice na nn nc] 39)) (.slice (some ⟨w5.heap.size, 0, none⟩) 1 1) [⟨k, zs, .slice na nn nc⟩]) := Lib.hid ⟨rd_one (w := w5) (X := [.int .u8 k, .slice na nn nc]) (t := 39), fun u hu => by rw [List.mem_singleton.1 hu]; exact HXK.out, fun u hu => by rw [List.mem_singleton.1 hu]; exact (HZI.out _ HB06.out).its⟩
                have HS2 := Lib.hid (stands_calls (.slice (some ⟨w5.heap.size, 0, none⟩) 1 1) [⟨k, zs, .slice na nn nc⟩] k y _ HLZ.out (HYB.out.below HB06.out) HYL.out (by simp) (fun u hu => by rw [List.mem_singleton.1 hu]; show zs.length ≤ 1000000000; have := HZN.out; omega))
                rw [← hX.out] at HS2
                have r0 := HR6.out.cell 0 (.int .u8 k) rfl
                go_wp2_with (first
                  | (with_reducible show wpList _ _ _ (⟨some 67, _, _, _, _, _⟩ :: _) _ _; refine wpList_load_midg rfl 39 _ rfl n5 0 rfl [.int .u8 k, .slice na nn nc] _ HRR5.out Try.underlying39 rfl (by kernel_rfl) ?_)
                  | (with_reducible show wpList _ _ _ (⟨some 71, _, _, _, _, _⟩ :: _) _ _; refine wpList_load_midg rfl 49 _ rfl n6 0 rfl X _ HX6.out Try.underlying49 rfl (by rw [HYC.out]; kernel_rfl) ?_))
                refine HS2.out.mono ?_
                rintro e w7 ⟨B2, hB2, rfl, hb7⟩
                have HR7 := Lib.hid (HR6.out.below hb7)
                have HB07 := Lib.hid (HB06.out.trans (hb7.mono HB06.out.size))
                have HQ7 := Lib.hid (HBi.out.trans (HB07.out.mono HBi.out.size))
                have HO7 := Lib.hid (HOi.out.below HB07.out (Nat.le_refl _))
                have HX7 : Hid (w7.rangeAt n6 0 X) := Lib.hid (range_below HX6.out hb7)
                have HB2' := Lib.hid hB2
                clear hb7 hB2 HS2 r0 HLZ
                have HLE : Hid ([(⟨k, zs, .slice na nn nc⟩ : LiV)].map LiV.li = [⟨k, keepI k (mrgK LA LB j) ((x.i.take i).map ItV.it)⟩]) := Lib.hid (by rw [← HZK.out]; rfl)
                cases B2 with
                | true =>
                  have HK7 : Hid (zs.map ItV.it = keepI k (mrgK LA LB j) ((x.i.take (i + 1)).map ItV.it)) := Lib.hid (by
                    rw [take_it HYE.out, ref_twice (by rw [← HLE.out]; exact HB2'.out.1 rfl)]
                    exact HZK.out)
                  go_wp2
                  go_roundw
                  case rel => exact ⟨i + 1, na, nn, nc, zs, hlt3, by go_num, HNN, HK7, HZS, HR7, HO7, HQ7⟩
                  case measure => simp [intOf]; omega
                | false =>
                  have HK7 : Hid ((zs ++ [y]).map ItV.it = keepI k (mrgK LA LB j) ((x.i.take (i + 1)).map ItV.it)) := Lib.hid (by
                    rw [take_it HYE.out, ref_new HJL.out HN1'.out (fun h => absurd (HB2'.out.2 (by rw [HLE.out]; exact h)) (by decide)), ← HZK.out, List.map_append]
                    rfl)
                  have HZS7 : Hid (∀ z ∈ zs ++ [y], z ∈ x.i) := Lib.hid (fun z hz => by
                    rcases List.mem_append.1 hz with hz | hz
                    · exact HZS.out z hz
                    · rw [List.mem_singleton.1 hz]; exact List.mem_of_getElem? HYE.out)
                  have s1 := HR7.out.cell 1 (.slice na nn nc) rfl
                  have HBD := Lib.hid ((Below.refl w7.heap.size w7).alloc (Nat.le_refl _) (.cells X.toArray 49))
                  have HO8 := Lib.hid (HO7.out.below HBD.out (Nat.le_refl _))
                  have HR8 := Lib.hid (HR7.out.below HBD.out)
                  have HQ8 := Lib.hid (HQ7.out.trans (HBD.out.mono HQ7.out.size))
                  have HRX : Hid (Rd (w7.alloc (.cells X.toArray 49)) 17 (.slice (some ⟨w7.heap.size, 0, none⟩) 1 1) 1 X) := Lib.hid (rd_item HYC.out)
                  have HS78 : Hid (n5 + 1 ≤ (w7.alloc (.cells X.toArray 49)).heap.size) := Lib.hid (by have := HR8.out.lt; omega)
                  go_wp2_with (first
                    | (with_reducible show wpList _ _ _ (⟨some 77, _, _, _, _, _⟩ :: _) _ _; refine wpList_load_mid rfl 49 _ rfl n6 0 rfl X _ HX7.out Try.underlying49 rfl (by rw [HYC.out]; kernel_rfl) ?_)
                    | (with_reducible show wpList _ _ _ (⟨some 78, _, _, _, _, _⟩ :: _) _ _; refine wpList_bslice_item rfl _ rfl X HYC.out rfl ?_)
                    | (at_builtin; refine wpList_append_item rfl _ _ rfl (n5 + 1) (.slice na nn nc) zs.length (itsC zs) rfl HO8.out (.slice (some ⟨w7.heap.size, 0, none⟩) 1 1) X rfl HRX.out HY1.out (by have := HZN.out; omega) HS78.out ?_; intro v9 w9 ho9 hg9 _; obtain ⟨x9, c9, rfl, _, _⟩ := Own.shape ho9; have HR9 := Lib.hid (HR8.out.grown hg9 (fun e => by have := (Own.lt HO8.out _ e).1; omega)); have HQ9 := Lib.hid (HQ8.out.grown hg9 HQ8.out.size (fun q hq => by have := (Own.lt HO8.out q hq).1; have := hn5.out; omega)); have HO9 := Lib.hid ho9; have t1 := HR9.out.cell 1 (.slice na nn nc) rfl; have tf := HR9.out.free; clear ho9 hg9))
                  clear t1 tf s1
                  go_roundw
                  case rel =>
                    refine ⟨i + 1, x9, zs.length + 1, c9, zs ++ [y], hlt3, by go_num, Lib.hid (by rw [List.length_append]; rfl), HK7, HZS7, Lib.hid (HR9.out.set (i := 1) (u := .slice x9 (zs.length + 1) c9) (by simp)), Lib.hid ?_, Lib.hid (HQ9.out.setCell (p := ⟨n5, 1, none⟩) (by show wq.heap.size ≤ n5; rw [hn5.out]; exact Nat.le_refl _) _)⟩
                    have h9 := HO9.out
                    rw [hX.out, ← itsC_snoc] at h9
                    rw [List.length_append]
                    exact h9.chg (L := [n5]) ((Chg.refl _ _).setCell (by simp) _) (fun q hq e => by rw [List.mem_singleton.1 hq] at e; have := (Own.lt h9 n5 e).1; omega)
                  case measure => simp [intOf]; omega
            · obtain rfl : ni = i := by omega
              have hdl3 : decide ((ni : Int) < (ni : Int)) = false := by simp
              have HKE : Hid (zs.map ItV.it = keepI x.li.k (mrgK LA LB j) x.li.i) := Lib.hid (by
                have h := HZK.out
                rw [List.take_of_length_le (l := x.i) (by rw [← hni.out]; exact Nat.le_refl _), hk.out] at h
                exact h)
              have HADD : Hid (mrgA LA LB (j + 1) = addL (mrgA LA LB j) (mrgK LA LB j) x.li) := Lib.hid (mrgA_step (show LB[j]? = some x.li by rw [← HM2.out]; exact li_at HX.out))
              have HRL5 := Lib.hid (HRL.out.below HBi.out (Nat.le_refl _))
              have HRM5 := Lib.hid (HRM.out.below HBi.out (Nat.le_refl _))
              have HSA5 := Lib.hid (HSA.out.below HBi.out)
              have HSM5 := Lib.hid (HSM.out.below HBi.out)
              have HBW5 := Lib.hid (HBW.out.trans (HBi.out.mono HBW.out.size))
              have s0 := HRi.out.cell 0 (.int .u8 k) rfl
              have s1 := HRi.out.cell 1 (.slice na nn nc) rfl
              by_cases hz : zs = []
              · obtain rfl : nn = 0 := by rw [HNN.out, hz]; rfl
                have hgt : decide ((0 : Int) < ((0 : Nat) : Int)) = false := by simp
                have HM7 : Hid (ys.map LiV.li = mrgA LA LB (j + 1)) := Lib.hid (by
                  rw [HADD.out, addL_nil (by rw [← HKE.out, hz]; rfl)]
                  exact HMAP.out)
                clear hz
                go_wp2
                go_roundw
                case rel => exact ⟨j + 1, la, ln, lc, ys, hlt2, by go_num, rfl, HM7, HRL5, HRM5, HNE, HSA5, HSM5, HBW5⟩
                case measure => simp [intOf]; omega
              · have hnn0 : 0 < nn := by rw [HNN.out]; exact List.length_pos_iff.2 hz
                have hgt : decide ((0 : Int) < (nn : Int)) = true := by simp; omega
                have HBE := Lib.hid ((Below.refl wi.heap.size wi).alloc (Nat.le_refl _) (.cells #[.int .u8 k, .slice na nn nc] 39))
                have HRL7 := Lib.hid (HRL5.out.alloc (.cells #[.int .u8 k, .slice na nn nc] 39))
                have HRM7 := Lib.hid (HRM5.out.alloc (.cells #[.int .u8 k, .slice na nn nc] 39))
                have HB7 := Lib.hid (HBW5.out.alloc HBW5.out.size (.cells #[.int .u8 k, .slice na nn nc] 39))
                have HSM7 := Lib.hid (HSM5.out.below HBE.out)
                have HSA7 : Hid (OwnSet (wi.alloc (.cells #[.int .u8 k, .slice na nn nc] 39)) w.heap.size (ys ++ [⟨k, zs, .slice na nn nc⟩])) := Lib.hid (OwnSet.snoc (b5 := n5) (HSA5.out.below HBE.out) HXK.out (HZI.out _ HBE.out)
                  (fun y hy q hq => by rw [hn5.out]; exact (Own.lt (HSA.out.its y hy).row q hq).2) (fun q hq => by have := (Own.lt HOi.out q hq).1; omega))
                have HRA : Hid (Rd (wi.alloc (.cells #[.int .u8 k, .slice na nn nc] 39)) 2 (.slice (some ⟨wi.heap.size, 0, none⟩) 1 1) 1 [.int .u8 k, .slice na nn nc]) := Lib.hid (rd_one (w := wi) (X := [.int .u8 k, .slice na nn nc]) (t := 39))
                have HM8 : Hid ((ys ++ [(⟨k, zs, .slice na nn nc⟩ : LiV)]).map LiV.li = mrgA LA LB (j + 1)) := Lib.hid (by
                  rw [HADD.out, addL_some (by rw [← HKE.out]; simpa using hz), List.map_append, HMAP.out, ← HKE.out]
                  have hkx : x.li.k = k := hk.out.symm
                  rw [hkx]
                  rfl)
                have HRR : Hid (wi.rangeAt n5 0 [.int .u8 k, .slice na nn nc]) := Lib.hid HRi.out.range
                clear hz
                go_wp2_with (first
                  | (with_reducible show wpList _ _ _ (⟨some 86, _, _, _, _, _⟩ :: _) _ _; refine wpList_load_mid rfl 39 _ rfl n5 0 rfl [.int .u8 k, .slice na nn nc] _ HRR.out Try.underlying39 rfl (by kernel_rfl) ?_)
                  | (at_builtin; refine wpList_append_list rfl _ _ rfl w.heap.size (.slice la ln lc) ys.length (lisC ys) rfl HRL7.out (.slice (some ⟨wi.heap.size, 0, none⟩) 1 1) [.int .u8 k, .slice na nn nc] rfl HRA.out (by intro u hu; simp only [List.mem_cons, List.not_mem_nil, or_false] at hu; rcases hu with hu | hu <;> (rw [hu]; rfl)) (by have := HLEN.out; omega) HB7.out.size ?_; intro v8 w8 ho8 hg8 hn8; obtain ⟨la8, lc8, rfl, _, _⟩ := Own.shape ho8)
                  | fail)
                have HRL8 : Hid (Own w8 w.heap.size 39 2 (.slice la8 (ys.length + 1) lc8) (ys ++ [(⟨k, zs, .slice na nn nc⟩ : LiV)]).length (lisC (ys ++ [(⟨k, zs, .slice na nn nc⟩ : LiV)]))) := Lib.hid (by
                  rw [lisC_snoc, List.length_append]
                  exact ho8)
                have HRM8 : Hid (Own w8 w.heap.size 39 2 (.slice (some ⟨b, off, none⟩) m2 c2) ms.length (lisC ms)) := Lib.hid (Own.kept HRM7.out hg8 (fun q hq e => HNE.out q e hq))
                have HNE8 : Hid (∀ q, ownB (.slice la8 (ys.length + 1) lc8) = some q → ownB (.slice (some ⟨b, off, none⟩) m2 c2) ≠ some q) := Lib.hid (fun q hq e => by
                  rcases hn8 with h | ⟨g, h, hge⟩
                  · rw [h] at hq
                    exact HNE.out q hq e
                  · rw [h] at hq
                    cases hq
                    have := (Own.lt HRM7.out _ e).2
                    omega)
                have HSA8 := Lib.hid (HSA7.out.grown HRL7.out hg8)
                have HSM8 := Lib.hid (HSM7.out.grown HRL7.out hg8)
                have HB8 : Hid (Below w.heap.size w w8) := Lib.hid (HB7.out.grown hg8 HB7.out.size (fun q hq => (Own.lt HRL7.out q hq).1))
                clear ho8 hg8 hn8
                go_wp2
                go_roundw
                case rel => exact ⟨j + 1, la8, ys.length + 1, lc8, ys ++ [⟨k, zs, .slice na nn nc⟩], hlt2, by go_num, rfl, HM8, HRL8, HRM8, HNE8, HSA8, HSM8, HB8⟩
                case measure => simp [intOf]; omega
        · obtain rfl : m2 = j := by omega
          have hdl2 : decide ((m2 : Int) < (m2 : Int)) = false := by simp
          have HQ : Hid (ys.map LiV.li = mrgQ A B) := Lib.hid (by rw [HMAP.out]; unfold mrgQ; rw [← hLA.out, ← hLB.out, ← HM2L.out])
          have HWB : Hid (wrB (mrgA LA LB m2) = true) := Lib.hid (wrB_mrg (by rw [hLA.out]; exact (resL_good A).1) (by rw [hLB.out]; exact (resL_good B).1) m2 HJL.out)
          have HWR := Lib.hid (refWriteL_calls (.slice la ln lc) ys wq HLIS.out HLEN.out (fun x hx => by have := HBND.out x hx; omega) (fun x hx y hy => Nat.le_trans (data_of HMAP.out HWB.out x hx y hy) (by omega)))
          go_wp2_with fail
          refine HWR.out.mono ?_
          rintro e w9 ⟨a9, n9, c9, rfl, ho9, hb9⟩
          have HO9 := Lib.hid ho9
          have HB9 := Lib.hid (HBW.out.trans (hb9.mono HBW.out.size))
          clear ho9 hb9 HWR
          obtain ⟨E9, hE9⟩ : ∃ E, Hid (E = wrE (ys.map LiV.li)) := ⟨_, Lib.hid rfl⟩
          rw [← hE9.out]
          have HE1 : Hid (mrgE A B = E9) := Lib.hid (by unfold mrgE; rw [if_pos hEA.out.symm, if_pos hEB.out.symm, ← HQ.out, hE9.out])
          have HE2 : Hid (mrgR A B = wrR (ys.map LiV.li)) := Lib.hid (by unfold mrgR; rw [if_pos ⟨hEA.out.symm, hEB.out.symm⟩, ← HQ.out])
          by_cases hE : E9 = 0
          case neg =>
            have HTEN : Hid (E9 = 10 ∧ wrR (ys.map LiV.li) = []) := Lib.hid (by
              have h := wrE_ten (L := ys.map LiV.li) (by rw [HMAP.out]; exact HWB.out) (by rw [← hE9.out]; exact hE)
              rw [← hE9.out] at h
              exact h)
            have hne : (E9 != 0) = true := by simp [hE]
            clear hE
            go_wp2
            go_ret2
            refine ⟨none, 0, 0, by rw [HE1.out, HTEN.out.1]; rfl, ?_, HB9.out⟩
            rw [HE2.out, HTEN.out.2]
            exact OwnB.empty _ _ _
          case pos =>
            subst hE
            go_wp2
            go_ret2
            refine ⟨a9, n9, c9, by rw [HE1.out]; rfl, ?_, HB9.out⟩
            rw [HE2.out]
            exact HO9.out.mono HBW.out.size
end Go.Proofs.Ytilanncobbdlfaa
