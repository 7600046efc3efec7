/-
  The walk of the law SiglistHas.
-/
import Derived.Test.YtilanncobbdlfaaSg23
namespace Go.Proofs.Ytilanncobbdlfaa
open Go Go.RowKit
set_option linter.unusedVariables false

/-- Lists that are not vast: their items have no bound but the memory's own. -/
def LiSW (L : List Li) : Prop := L.length ≤ 100 ∧ (∀ x ∈ L, x.i.length * 40 ≤ 140737488351232) ∧ ∀ x ∈ L, ∀ y ∈ x.i, y.d.length ≤ 16384
theorem LiSW.of {xs : List LiV} (h1 : xs.length ≤ 100) (h2 : ∀ x ∈ xs, x.i.length * 40 ≤ 140737488351232) (h3 : ∀ x ∈ xs, ∀ y ∈ x.i, y.d.length ≤ 16384) : LiSW (xs.map LiV.li) := by
  refine ⟨by simpa using h1, fun x hx => ?_, fun x hx y hy => ?_⟩
  · obtain ⟨u, hu, rfl⟩ := List.mem_map.1 hx
    simpa [LiV.li] using h2 u hu
  · obtain ⟨u, hu, rfl⟩ := List.mem_map.1 hx
    obtain ⟨z, hz, rfl⟩ := List.mem_map.1 (show y ∈ u.i.map ItV.it from hy)
    exact h3 u hu z hz
theorem LiSW.xs {xs : List LiV} {L : List Li} (h : LiSW L) (e : xs.map LiV.li = L) : xs.length ≤ 100 ∧ (∀ x ∈ xs, x.i.length * 40 ≤ 140737488351232) ∧ ∀ x ∈ xs, ∀ y ∈ x.i, y.d.length ≤ 16384 := by
  subst e
  obtain ⟨h1, h2, h3⟩ := h
  refine ⟨by simpa using h1, fun x hx => ?_, fun x hx y hy => ?_⟩
  · have := h2 x.li (List.mem_map.2 ⟨x, hx, rfl⟩)
    simpa [LiV.li] using this
  · exact h3 x.li (List.mem_map.2 ⟨x, hx, rfl⟩) y.it (List.mem_map.2 ⟨y, hy, rfl⟩)
theorem LiSW.lisN {xs : List LiV} {L : List Li} (h : LiSW L) (e : xs.map LiV.li = L) : LisN xs 3518437208780 := by
  obtain ⟨h1, h2, _⟩ := h.xs e
  exact ⟨by omega, fun x hx => by have := h2 x hx; omega⟩
theorem vast_formW (v : Value) (xs : List LiV) (L : List Li) (w : World) (hL : xs.map LiV.li = L) (hv : Lis w v xs) (hi : ∀ x ∈ xs, x.i.length * 40 ≤ 140737488351232) :
    Calls Try.prog 14 #[v] w fun e w' => (∃ B, e = .returned (.bool B) ∧ (B = false → LiSW L)) ∧ w = w' := by
  refine (vast_calls v xs w hv).mono ?_
  rintro e w' ⟨⟨B, rfl, hB⟩, rfl⟩
  refine ⟨⟨B, rfl, fun h => ?_⟩, rfl⟩
  rw [← hL]
  exact LiSW.of (hB h).1 hi (hB h).2
theorem twins_formW (v : Value) (xs : List LiV) (L : List Li) (w : World) (hL : xs.map LiV.li = L) (hv : Lis w v xs) (hs : LiSW L) :
    Calls Try.prog 17 #[v] w fun e w' => ∃ a n c ys, e = .returned (.slice a n c) ∧ Hid (ys.map LiV.li = L) ∧ Hid (OwnLis w' w.heap.size (.slice a n c) ys) ∧ Below w.heap.size w w' := by
  obtain ⟨h1, h2, h3⟩ := hs.xs hL
  refine (twins_calls v xs w hv (by omega) (fun x hx => by have := h2 x hx; omega) (fun x hx y hy => by have := h3 x hx y hy; omega)).mono ?_
  rintro e w' ⟨v', ys, rfl, hm, ho, hb⟩
  obtain ⟨a, c, rfl, _, _⟩ := ho.lis.open
  exact ⟨a, _, c, ys, rfl, Lib.hid (hm.trans hL), Lib.hid ho, hb⟩

theorem hasI_snoc (K : Int) (data : List UInt8) (is : List It) (y : It) : hasI K data (is ++ [y]) = (hasI K data is || decide (cutD K y.d = data)) := by
  unfold hasI
  rw [List.any_append, List.any_cons, List.any_nil, Bool.or_false]
theorem hasB_snoc (K : Int) (data : List UInt8) (L : List Li) (x : Li) : hasB (L ++ [x]) K data = (hasB L K data || (decide (x.k = K) && hasI K data x.i)) := by
  unfold hasB
  rw [List.any_append, List.any_cons, List.any_nil, Bool.or_false]
theorem has_stepI {K k : Int} {data D : List UInt8} {is : List It} {i : Nat} {y : It} {B B0 : Bool} (hy : is[i]? = some y) (hB : B = (B0 || (decide (k = K) && hasI K data (is.take i)))) (hD : D = cutD k y.d) :
    (B || (decide (k = K) && decide (D = data))) = (B0 || (decide (k = K) && hasI K data (is.take (i + 1)))) := by
  subst hB hD
  rw [List.take_add_one, hy, Option.toList_some, hasI_snoc]
  by_cases h : k = K
  · subst h
    rw [decide_eq_true rfl]
    simp only [Bool.true_and, Bool.or_assoc]
  · rw [decide_eq_false h]
    simp
theorem has_stepL {K : Int} {data : List UInt8} {L : List Li} {j : Nat} {x : Li} (hx : L[j]? = some x) : hasB (L.take (j + 1)) K data = (hasB (L.take j) K data || (decide (x.k = K) && hasI K data x.i)) := by
  rw [List.take_add_one, hx, Option.toList_some, hasB_snoc]

set_option maxRecDepth 100000 in
set_option maxHeartbeats 8000000 in
theorem siglistHas_walk (v : Value) (xs : List LiV) (K : Int) (q : Value) (data : List UInt8) (w : World) (hv : Lis w v xs) (hi : ∀ x ∈ xs, x.i.length * 40 ≤ 140737488351232) (hKw : (Lit.int .u8 K).wf = true) (hq : Byt w q data) :
    Calls Try.prog 8 #[v, .int .u8 K, q] w fun e w' => e = .returned (.bool true) ∧ Below w.heap.size w w' := by
  clear hKw
  have HV := Lib.hid hv
  have HI := Lib.hid hi
  have HQ := Lib.hid hq
  obtain ⟨a, cap, rfl, h1, h2⟩ := hv.open
  obtain ⟨aq, cq, rfl, q1, q2, _⟩ := hq.open
  clear hv hi hq
  unfold maxLen at q2
  obtain ⟨N, hN⟩ : ∃ n, Hid (n = xs.length) := ⟨_, Lib.hid rfl⟩
  obtain ⟨nq, hnq⟩ : ∃ n, Hid (n = data.length) := ⟨_, Lib.hid rfl⟩
  rw [← hN.out] at HV h1 ⊢
  rw [← hnq.out] at HQ q1 ⊢
  obtain ⟨L, hL⟩ : ∃ L, Hid (xs.map LiV.li = L) := ⟨_, Lib.hid rfl⟩
  go_enter Try.func8, Try.ntmps8
  go_wp2_with fail
  refine (vast_formW _ xs L w hL.out HV.out HI.out).mono ?_
  rintro e w' ⟨⟨BV, rfl, hBV⟩, rfl⟩
  cases BV with
  | true =>
    clear hBV
    go_wp2_with fail
    refine (works_calls _).mono ?_
    rintro e w1 ⟨rfl, hb⟩
    go_wp2
    go_ret
    exact ⟨rfl, hb⟩
  | false =>
    have HS := Lib.hid (hBV rfl)
    clear hBV
    by_cases hb2 : 16384 < nq
    · have e2 : decide ((16384 : Int) < (nq : Int)) = true := by simp; omega
      go_wp2_with fail
      refine (works_calls _).mono ?_
      rintro e w1 ⟨rfl, hb⟩
      go_wp2
      go_ret
      exact ⟨rfl, hb⟩
    have e2 : decide ((16384 : Int) < (nq : Int)) = false := by simp; omega
    have HNQ : Hid (data.length ≤ 16384) := Lib.hid (by rw [← hnq.out]; omega)
    go_wp2
    go_loopw [8, 7] (fun i_ w_ wr => ∃ (j : Nat) (B : Bool), j ≤ N ∧ i_ = .int .i64 j ∧ w_ = .bool B ∧ Hid (B = hasB (L.take j) K data) ∧ Hid (Below w.heap.size w wr)) (fun i_ _ _ => N - (intOf i_).toNat)
    case atStart => exact ⟨0, false, Nat.zero_le _, rfl, rfl, Lib.hid rfl, Lib.hid (Below.refl _ _)⟩
    case round =>
      obtain ⟨j, B0, hj, rfl, rfl, HW0, HB⟩ := hrel
      obtain ⟨wo, hwo⟩ : ∃ wo : World, wo = wr := ⟨_, rfl⟩
      subst hwo
      by_cases hlt : j < N
      · obtain ⟨b, off, x, ia, n, ic, hx, ha, hrow, hxv, hm, hmc, hc, hits⟩ := HV.out.item j (by rw [← hN.out]; exact hlt)
        subst ha
        have hdl : decide ((j : Int) < (N : Int)) = true := by simp; omega
        have HX := Lib.hid hx
        have HXL : Hid (L[j]? = some x.li) := Lib.hid (by rw [← hL.out]; exact li_at hx)
        have HITS := Lib.hid hits
        have HNI := Lib.hid hm
        obtain ⟨k, hk⟩ : ∃ k, Hid (k = x.k) := ⟨_, Lib.hid rfl⟩
        rw [← hk.out] at hrow
        have HC0 : Hid (w.cell? ⟨b, off + j * 2, none⟩ = some (.int .u8 k)) := Lib.hid (hrow 0 _ rfl)
        have HC1 : Hid (w.cell? ⟨b, off + j * 2 + 1, none⟩ = some (.slice ia n ic)) := Lib.hid (hrow 1 _ rfl)
        have HXIN : Hid (x ∈ xs) := Lib.hid (List.mem_of_getElem? hx)
        clear hrow hx hxv hm hits
        go_wp2
        go_loopw [9, 7] (fun k_ w_ wr => ∃ (i : Nat) (B : Bool), i ≤ n ∧ k_ = .int .i64 i ∧ w_ = .bool B ∧ Hid (B = (B0 || (decide (k = K) && hasI K data (x.li.i.take i)))) ∧ Hid (Below w.heap.size w wr)) (fun k_ _ _ => n - (intOf k_).toNat)
        case atStart => exact ⟨0, B0, Nat.zero_le _, rfl, rfl, Lib.hid (by simp [hasI]), HB⟩
        case round =>
          obtain ⟨i, B, hi, rfl, rfl, HW, HBi⟩ := hrel
          obtain ⟨wi, hwi⟩ : ∃ wi : World, wi = wr := ⟨_, rfl⟩
          subst hwi
          have q0 : wi.cell? ⟨b, off + j * 2, none⟩ = some (.int .u8 k) := (Below.cell HBi.out (lt_of_cell HC0.out)).trans HC0.out
          have q1 : wi.cell? ⟨b, off + j * 2 + 1, none⟩ = some (.slice ia n ic) := (Below.cell HBi.out (lt_of_cell HC1.out)).trans HC1.out
          by_cases hlt3 : i < n
          · obtain ⟨ib, io, y, s, m, c, hy, hia, hry, hyv, hym, hymc, hyc, hyb, hyl, hyC, hy1⟩ := HITS.out.item i (by rw [← HNI.out]; exact hlt3)
            cases hia
            have hdl3 : decide ((i : Int) < (n : Int)) = true := by simp; omega
            have HYE := Lib.hid hy
            have HYM := Lib.hid hym
            have HYB : Hid (Byt w (.slice s m c) y.d) := Lib.hid (by rw [← hyv]; exact hyb)
            have q3 : wi.cell? ⟨ib, io + i * 17 + 16, none⟩ = some (.slice s m c) := by
              have h3 := hry 16 _ (itC_at16 y hyl)
              rw [hyv] at h3
              exact (Below.cell HBi.out (lt_of_cell h3)).trans h3
            have HYD : Hid (y.d.length ≤ 16384) := Lib.hid ((HS.out.xs hL.out).2.2 x HXIN.out y (List.mem_of_getElem? hy))
            clear hry hy hyv hyb hyl hyC hy1 hym
            obtain ⟨D, hD⟩ : ∃ D, Hid (D = cutD k y.d) := ⟨_, Lib.hid rfl⟩
            have HDL : Hid (D.length ≤ 140737488355328) := Lib.hid (by
              have h := HYD.out
              rw [hD.out]
              unfold cutD
              split
              · rw [List.length_take]; omega
              · omega)
            have HNW : Hid ((B || (decide (k = K) && decide (D = data))) = (B0 || (decide (k = K) && hasI K data (x.li.i.take (i + 1))))) := Lib.hid (has_stepI (y := y.it) (by show (x.i.map ItV.it)[i]? = _; rw [List.getElem?_map, HYE.out]; rfl) HW.out hD.out)
            have HHAS : Hid (true = hasB L k D) := Lib.hid (by rw [← hL.out]; exact (has_yes HX.out hk.out.symm HYE.out hD.out.symm).symm)
            by_cases h3 : k = 3
            · by_cases h32 : 32 < m
              · have hk3 : (k == 3) = true := by simp [h3]
                have h32d : decide ((32 : Int) < (m : Int)) = true := by simp; omega
                obtain ⟨ya, hrun, hyd⟩ := byt_cut HYB.out HYM.out 32 (by omega)
                have hrun' : ∀ W : World, (Instr.sliceAt 22 (.slice s m c) none (some (.int .i64 32)) none).run Try.prog W = .ok (.slice ya 32 c) W := hrun
                clear hrun
                have HDB : Hid (Byt w (.slice ya 32 c) D) := Lib.hid (by rw [hD.out]; unfold cutD; rw [if_pos h3]; exact hyd)
                clear hyd h3
                cases B with
                | true =>
                  go_wp2_with fail
                  have HBx := HBi
                  refine' wp_region_grows (by kernel_rfl) (fun w' => w'.cell? ⟨b, off + j * 2, none⟩ = some (.int .u8 k) ∧ Hid (Below w.heap.size w w')) [isV _, fun v w' => ∃ ys, Hid (ys.map LiV.li = L) ∧ Lis w' v ys, isV _, isV _, isV _, isV _, isV _, isV _, fun v w' => Byt w' v D, isV (.bool true), isV (.bool false)] 100 [[], [(0, some 72)], [], [], [(2, some 74), (3, some 75)], [(4, some 76)], [(5, some 77)], [], [(7, some 79)], [(1, some 73), (6, some 78), (8, some 80)], [(9, some 81)]] [(0, some 72), (1, some 73), (2, some 74), (3, some 75), (4, some 76), (5, some 77), (6, some 78), (7, some 79), (8, some 80), (9, some 81), (10, some 82)] rfl (by kernel_rfl) ⟨fun _ _ _ _ h => h, fun _ _ _ hg ⟨ys, h1, h2⟩ => ⟨ys, h1, Lis.below h2 hg⟩, fun _ _ _ _ h => h, fun _ _ _ _ h => h, fun _ _ _ _ h => h, fun _ _ _ _ h => h, fun _ _ _ _ h => h, fun _ _ _ _ h => h, fun _ _ _ hg h => Byt.below h hg, fun _ _ _ _ h => h, fun _ _ _ _ h => h, trivial⟩ (fun _ a a' _ e h => by cases a; cases a'; cases e; exact h) ?hS ?hsteps ?hend
                  case hS =>
                    intro w' hg
                    have hbz := Lib.hid (HBx.out.drew.trans (hg.mono HBx.out.size))
                    have cc : ∀ (p : Addr) (v : Value), w.cell? p = some v → w'.cell? p = some v := fun p v h => (Below.cell hbz.out (lt_of_cell h)).trans h
                    exact ⟨cc _ _ HC0.out, hbz⟩
                  case hsteps =>
                    refine ⟨?_, ?_, ?_, ?_, ?_, ?_, ?_, ?_, ?_, ?_, ?_, trivial⟩
                    · intro w' hs
                      simp only [AllV, rgPut]
                      clear hs
                      first
                        | (refine OpOk.off ?_ ?_ <;> rfl)
                        | (refine OpOk.run ?_ (fun K hK => ?_)
                           · rfl
                           go_simp
                           refine hK.out _ _ (Grows.refl _) ?_
                           exact rfl)
                    · intro w' hs
                      simp only [AllV, rdP, isV, forall_eq, rgPut, Act.put, List.setIfInBounds_toArray, List.set_cons_zero, List.set_cons_succ]
                      obtain ⟨f0, hbb⟩ := hs
                      first
                        | (refine OpOk.off ?_ ?_ <;> rfl)
                        | (refine OpOk.run ?_ (fun K hK => ?_)
                           · rfl
                           go_simp
                           go_at_call 17
                           refine (twins_formW _ xs L _ hL.out (HV.out.below hbb.out) HS.out).mono ?_
                           rintro e w1 ⟨a1, m1, c1, ys, rfl, hm, ho, hb⟩
                           refine hK.out _ _ hb ?_
                           exact ⟨_, hm, ho.out.lis⟩
                          )
                    · intro w' hs
                      simp only [AllV, rgPut]
                      clear hs
                      first
                        | (refine OpOk.off ?_ ?_ <;> rfl)
                        | (refine OpOk.run ?_ (fun K hK => ?_)
                           · rfl
                           go_simp
                           refine hK.out _ _ (Grows.refl _) ?_
                           exact rfl)
                    · intro w' hs
                      simp only [AllV, rgPut]
                      clear hs
                      first
                        | (refine OpOk.off ?_ ?_ <;> rfl)
                        | (refine OpOk.run ?_ (fun K hK => ?_)
                           · rfl
                           go_simp
                           refine hK.out _ _ (Grows.refl _) ?_
                           exact rfl)
                    · intro w' hs
                      simp only [AllV, rdP, isV, forall_eq, rgPut, Act.put, List.setIfInBounds_toArray, List.set_cons_zero, List.set_cons_succ]
                      clear hs
                      first
                        | (refine OpOk.off ?_ ?_ <;> rfl)
                        | (refine OpOk.run ?_ (fun K hK => ?_)
                           · rfl
                           go_simp
                           refine hK.out _ _ (Grows.refl _) ?_
                           exact rfl)
                    · intro w' hs
                      simp only [AllV, rdP, isV, forall_eq, rgPut, Act.put, List.setIfInBounds_toArray, List.set_cons_zero, List.set_cons_succ]
                      clear hs
                      first
                        | (refine OpOk.off ?_ ?_ <;> rfl)
                        | (refine OpOk.run ?_ (fun K hK => ?_)
                           · rfl
                           go_simp
                           refine hK.out _ _ (Grows.refl _) ?_
                           exact rfl)
                    · intro w' hs
                      simp only [AllV, rdP, isV, forall_eq, rgPut, Act.put, List.setIfInBounds_toArray, List.set_cons_zero, List.set_cons_succ]
                      obtain ⟨f0, hbb⟩ := hs
                      first
                        | (refine OpOk.off ?_ ?_ <;> rfl)
                        | (refine OpOk.run ?_ (fun K hK => ?_)
                           · rfl
                           go_simp
                           refine hK.out _ _ (Grows.refl _) ?_
                           exact rfl)
                    · intro w' hs
                      simp only [AllV, rgPut]
                      clear hs
                      first
                        | (refine OpOk.off ?_ ?_ <;> rfl)
                        | (refine OpOk.run ?_ (fun K hK => ?_)
                           · rfl
                           go_simp
                           refine hK.out _ _ (Grows.refl _) ?_
                           exact rfl)
                    · intro w' hs
                      simp only [AllV, rdP, isV, forall_eq, rgPut, Act.put, List.setIfInBounds_toArray, List.set_cons_zero, List.set_cons_succ]
                      obtain ⟨f0, hbb⟩ := hs
                      first
                        | (refine OpOk.off ?_ ?_ <;> rfl)
                        | (refine OpOk.run ?_ (fun K hK => ?_)
                           · rfl
                           go_simp
                           go_at_call 10
                           refine (twin_calls _ D _ (HDB.out.below hbb.out) HDL.out).mono ?_
                           rintro e w1 ⟨u1, rfl, ho, hb⟩
                           refine hK.out _ _ hb ?_
                           exact ho.byt
                          )
                    · -- 9: Op.call { value (Operand.func 22), args := #[t73, t78, t80],
                      intro w' hs
                      simp only [AllV, rdP, rgPut, Act.put, List.setIfInBounds_toArray, List.set_cons_zero, List.set_cons_succ]
                      obtain ⟨f0, hbb⟩ := hs
                      rintro v0 ⟨ys, hm, hl⟩ v1 h1 v2 h2
                      cases h1
                      refine OpOk.run ?_ (fun K hK => ?_)
                      · rfl
                      go_simp
                      go_at_call 22
                      refine (has_form _ ys L k _ D true _ hm.out HHAS.out hl h2 (HS.out.lisN hm.out) (by decide)).mono ?_
                      rintro e w1 ⟨rfl, hb⟩
                      refine hK.out _ _ hb ?_
                      exact rfl
                    · intro w' hs
                      simp only [AllV, rdP, isV, forall_eq, rgPut, Act.put, List.setIfInBounds_toArray, List.set_cons_zero, List.set_cons_succ]
                      clear hs
                      first
                        | (refine OpOk.off ?_ ?_ <;> rfl)
                        | (refine OpOk.run ?_ (fun K hK => ?_)
                           · rfl
                           go_simp
                           refine hK.out _ _ (Grows.refl _) ?_
                           exact rfl)
                  case hend =>
                    intro w' hs
                    simp only [AllV, rdP, rgPut, Act.put, List.setIfInBounds_toArray, List.set_cons_zero, List.set_cons_succ]
                    intro a0 b0 a1 b1 a2 b2 a3 b3 a4 b4 a5 b5 a6 b6 a7 b7 a8 b8 a9 b9 a10 b10
                    clear b0 b1 b2 b3 b4 b5 b6 b7 b8 b9
                    cases b10
                    obtain ⟨f0, hbb⟩ := hs
                    clear f0
                    go_wp2
                    go_roundw
                    case rel => exact ⟨i + 1, true, hlt3, by go_num, by trivial, Lib.hid (by have := HNW.out; skip; simpa using this), hbb⟩
                    case measure => simp [intOf]; omega
                | false =>
                  by_cases hkk : k = K
                  · have hke : (k == K) = true := by simp [hkk]
                    have HKK := Lib.hid hkk
                    clear hkk
                    go_wp2_with fail
                    refine (same_form D data (decide (D = data)) rfl _ _ _ (HDB.out.below HBi.out) (HQ.out.below HBi.out)).mono ?_
                    obtain ⟨DB, hDB⟩ : ∃ B, Hid (B = decide (D = data)) := ⟨_, Lib.hid rfl⟩
                    rw [← hDB.out] at HNW ⊢
                    rintro e w' ⟨rfl, rfl⟩
                    go_wp2_with fail
                    have HBx := HBi
                    refine' wp_region_grows (by kernel_rfl) (fun w' => w'.cell? ⟨b, off + j * 2, none⟩ = some (.int .u8 k) ∧ Hid (Below w.heap.size w w')) [isV _, fun v w' => ∃ ys, Hid (ys.map LiV.li = L) ∧ Lis w' v ys, isV _, isV _, isV _, isV _, isV _, isV _, fun v w' => Byt w' v D, isV (.bool true), isV (.bool false)] 100 [[], [(0, some 72)], [], [], [(2, some 74), (3, some 75)], [(4, some 76)], [(5, some 77)], [], [(7, some 79)], [(1, some 73), (6, some 78), (8, some 80)], [(9, some 81)]] [(0, some 72), (1, some 73), (2, some 74), (3, some 75), (4, some 76), (5, some 77), (6, some 78), (7, some 79), (8, some 80), (9, some 81), (10, some 82)] rfl (by kernel_rfl) ⟨fun _ _ _ _ h => h, fun _ _ _ hg ⟨ys, h1, h2⟩ => ⟨ys, h1, Lis.below h2 hg⟩, fun _ _ _ _ h => h, fun _ _ _ _ h => h, fun _ _ _ _ h => h, fun _ _ _ _ h => h, fun _ _ _ _ h => h, fun _ _ _ _ h => h, fun _ _ _ hg h => Byt.below h hg, fun _ _ _ _ h => h, fun _ _ _ _ h => h, trivial⟩ (fun _ a a' _ e h => by cases a; cases a'; cases e; exact h) ?hS ?hsteps ?hend
                    case hS =>
                      intro w' hg
                      have hbz := Lib.hid (HBx.out.drew.trans (hg.mono HBx.out.size))
                      have cc : ∀ (p : Addr) (v : Value), w.cell? p = some v → w'.cell? p = some v := fun p v h => (Below.cell hbz.out (lt_of_cell h)).trans h
                      exact ⟨cc _ _ HC0.out, hbz⟩
                    case hsteps =>
                      refine ⟨?_, ?_, ?_, ?_, ?_, ?_, ?_, ?_, ?_, ?_, ?_, trivial⟩
                      · intro w' hs
                        simp only [AllV, rgPut]
                        clear hs
                        first
                          | (refine OpOk.off ?_ ?_ <;> rfl)
                          | (refine OpOk.run ?_ (fun K hK => ?_)
                             · rfl
                             go_simp
                             refine hK.out _ _ (Grows.refl _) ?_
                             exact rfl)
                      · intro w' hs
                        simp only [AllV, rdP, isV, forall_eq, rgPut, Act.put, List.setIfInBounds_toArray, List.set_cons_zero, List.set_cons_succ]
                        obtain ⟨f0, hbb⟩ := hs
                        first
                          | (refine OpOk.off ?_ ?_ <;> rfl)
                          | (refine OpOk.run ?_ (fun K hK => ?_)
                             · rfl
                             go_simp
                             go_at_call 17
                             refine (twins_formW _ xs L _ hL.out (HV.out.below hbb.out) HS.out).mono ?_
                             rintro e w1 ⟨a1, m1, c1, ys, rfl, hm, ho, hb⟩
                             refine hK.out _ _ hb ?_
                             exact ⟨_, hm, ho.out.lis⟩
                            )
                      · intro w' hs
                        simp only [AllV, rgPut]
                        clear hs
                        first
                          | (refine OpOk.off ?_ ?_ <;> rfl)
                          | (refine OpOk.run ?_ (fun K hK => ?_)
                             · rfl
                             go_simp
                             refine hK.out _ _ (Grows.refl _) ?_
                             exact rfl)
                      · intro w' hs
                        simp only [AllV, rgPut]
                        clear hs
                        first
                          | (refine OpOk.off ?_ ?_ <;> rfl)
                          | (refine OpOk.run ?_ (fun K hK => ?_)
                             · rfl
                             go_simp
                             refine hK.out _ _ (Grows.refl _) ?_
                             exact rfl)
                      · intro w' hs
                        simp only [AllV, rdP, isV, forall_eq, rgPut, Act.put, List.setIfInBounds_toArray, List.set_cons_zero, List.set_cons_succ]
                        clear hs
                        first
                          | (refine OpOk.off ?_ ?_ <;> rfl)
                          | (refine OpOk.run ?_ (fun K hK => ?_)
                             · rfl
                             go_simp
                             refine hK.out _ _ (Grows.refl _) ?_
                             exact rfl)
                      · intro w' hs
                        simp only [AllV, rdP, isV, forall_eq, rgPut, Act.put, List.setIfInBounds_toArray, List.set_cons_zero, List.set_cons_succ]
                        clear hs
                        first
                          | (refine OpOk.off ?_ ?_ <;> rfl)
                          | (refine OpOk.run ?_ (fun K hK => ?_)
                             · rfl
                             go_simp
                             refine hK.out _ _ (Grows.refl _) ?_
                             exact rfl)
                      · intro w' hs
                        simp only [AllV, rdP, isV, forall_eq, rgPut, Act.put, List.setIfInBounds_toArray, List.set_cons_zero, List.set_cons_succ]
                        obtain ⟨f0, hbb⟩ := hs
                        first
                          | (refine OpOk.off ?_ ?_ <;> rfl)
                          | (refine OpOk.run ?_ (fun K hK => ?_)
                             · rfl
                             go_simp
                             refine hK.out _ _ (Grows.refl _) ?_
                             exact rfl)
                      · intro w' hs
                        simp only [AllV, rgPut]
                        clear hs
                        first
                          | (refine OpOk.off ?_ ?_ <;> rfl)
                          | (refine OpOk.run ?_ (fun K hK => ?_)
                             · rfl
                             go_simp
                             refine hK.out _ _ (Grows.refl _) ?_
                             exact rfl)
                      · intro w' hs
                        simp only [AllV, rdP, isV, forall_eq, rgPut, Act.put, List.setIfInBounds_toArray, List.set_cons_zero, List.set_cons_succ]
                        obtain ⟨f0, hbb⟩ := hs
                        first
                          | (refine OpOk.off ?_ ?_ <;> rfl)
                          | (refine OpOk.run ?_ (fun K hK => ?_)
                             · rfl
                             go_simp
                             go_at_call 10
                             refine (twin_calls _ D _ (HDB.out.below hbb.out) HDL.out).mono ?_
                             rintro e w1 ⟨u1, rfl, ho, hb⟩
                             refine hK.out _ _ hb ?_
                             exact ho.byt
                            )
                      · -- 9: Op.call { value (Operand.func 22), args := #[t73, t78, t80],
                        intro w' hs
                        simp only [AllV, rdP, rgPut, Act.put, List.setIfInBounds_toArray, List.set_cons_zero, List.set_cons_succ]
                        obtain ⟨f0, hbb⟩ := hs
                        rintro v0 ⟨ys, hm, hl⟩ v1 h1 v2 h2
                        cases h1
                        refine OpOk.run ?_ (fun K hK => ?_)
                        · rfl
                        go_simp
                        go_at_call 22
                        refine (has_form _ ys L k _ D true _ hm.out HHAS.out hl h2 (HS.out.lisN hm.out) (by decide)).mono ?_
                        rintro e w1 ⟨rfl, hb⟩
                        refine hK.out _ _ hb ?_
                        exact rfl
                      · intro w' hs
                        simp only [AllV, rdP, isV, forall_eq, rgPut, Act.put, List.setIfInBounds_toArray, List.set_cons_zero, List.set_cons_succ]
                        clear hs
                        first
                          | (refine OpOk.off ?_ ?_ <;> rfl)
                          | (refine OpOk.run ?_ (fun K hK => ?_)
                             · rfl
                             go_simp
                             refine hK.out _ _ (Grows.refl _) ?_
                             exact rfl)
                    case hend =>
                      intro w' hs
                      simp only [AllV, rdP, rgPut, Act.put, List.setIfInBounds_toArray, List.set_cons_zero, List.set_cons_succ]
                      intro a0 b0 a1 b1 a2 b2 a3 b3 a4 b4 a5 b5 a6 b6 a7 b7 a8 b8 a9 b9 a10 b10
                      clear b0 b1 b2 b3 b4 b5 b6 b7 b8 b9
                      cases b10
                      obtain ⟨f0, hbb⟩ := hs
                      clear f0
                      go_wp2
                      go_roundw
                      case rel => exact ⟨i + 1, DB, hlt3, by go_num, by trivial, Lib.hid (by have := HNW.out; rw [decide_eq_true HKK.out] at this ⊢; simpa using this), hbb⟩
                      case measure => simp [intOf]; omega
                  · have hke : (k == K) = false := by simp [hkk]
                    have HKK := Lib.hid hkk
                    clear hkk
                    go_wp2_with fail
                    have HBx := HBi
                    refine' wp_region_grows (by kernel_rfl) (fun w' => w'.cell? ⟨b, off + j * 2, none⟩ = some (.int .u8 k) ∧ Hid (Below w.heap.size w w')) [isV _, fun v w' => ∃ ys, Hid (ys.map LiV.li = L) ∧ Lis w' v ys, isV _, isV _, isV _, isV _, isV _, isV _, fun v w' => Byt w' v D, isV (.bool true), isV (.bool false)] 100 [[], [(0, some 72)], [], [], [(2, some 74), (3, some 75)], [(4, some 76)], [(5, some 77)], [], [(7, some 79)], [(1, some 73), (6, some 78), (8, some 80)], [(9, some 81)]] [(0, some 72), (1, some 73), (2, some 74), (3, some 75), (4, some 76), (5, some 77), (6, some 78), (7, some 79), (8, some 80), (9, some 81), (10, some 82)] rfl (by kernel_rfl) ⟨fun _ _ _ _ h => h, fun _ _ _ hg ⟨ys, h1, h2⟩ => ⟨ys, h1, Lis.below h2 hg⟩, fun _ _ _ _ h => h, fun _ _ _ _ h => h, fun _ _ _ _ h => h, fun _ _ _ _ h => h, fun _ _ _ _ h => h, fun _ _ _ _ h => h, fun _ _ _ hg h => Byt.below h hg, fun _ _ _ _ h => h, fun _ _ _ _ h => h, trivial⟩ (fun _ a a' _ e h => by cases a; cases a'; cases e; exact h) ?hS ?hsteps ?hend
                    case hS =>
                      intro w' hg
                      have hbz := Lib.hid (HBx.out.drew.trans (hg.mono HBx.out.size))
                      have cc : ∀ (p : Addr) (v : Value), w.cell? p = some v → w'.cell? p = some v := fun p v h => (Below.cell hbz.out (lt_of_cell h)).trans h
                      exact ⟨cc _ _ HC0.out, hbz⟩
                    case hsteps =>
                      refine ⟨?_, ?_, ?_, ?_, ?_, ?_, ?_, ?_, ?_, ?_, ?_, trivial⟩
                      · intro w' hs
                        simp only [AllV, rgPut]
                        clear hs
                        first
                          | (refine OpOk.off ?_ ?_ <;> rfl)
                          | (refine OpOk.run ?_ (fun K hK => ?_)
                             · rfl
                             go_simp
                             refine hK.out _ _ (Grows.refl _) ?_
                             exact rfl)
                      · intro w' hs
                        simp only [AllV, rdP, isV, forall_eq, rgPut, Act.put, List.setIfInBounds_toArray, List.set_cons_zero, List.set_cons_succ]
                        obtain ⟨f0, hbb⟩ := hs
                        first
                          | (refine OpOk.off ?_ ?_ <;> rfl)
                          | (refine OpOk.run ?_ (fun K hK => ?_)
                             · rfl
                             go_simp
                             go_at_call 17
                             refine (twins_formW _ xs L _ hL.out (HV.out.below hbb.out) HS.out).mono ?_
                             rintro e w1 ⟨a1, m1, c1, ys, rfl, hm, ho, hb⟩
                             refine hK.out _ _ hb ?_
                             exact ⟨_, hm, ho.out.lis⟩
                            )
                      · intro w' hs
                        simp only [AllV, rgPut]
                        clear hs
                        first
                          | (refine OpOk.off ?_ ?_ <;> rfl)
                          | (refine OpOk.run ?_ (fun K hK => ?_)
                             · rfl
                             go_simp
                             refine hK.out _ _ (Grows.refl _) ?_
                             exact rfl)
                      · intro w' hs
                        simp only [AllV, rgPut]
                        clear hs
                        first
                          | (refine OpOk.off ?_ ?_ <;> rfl)
                          | (refine OpOk.run ?_ (fun K hK => ?_)
                             · rfl
                             go_simp
                             refine hK.out _ _ (Grows.refl _) ?_
                             exact rfl)
                      · intro w' hs
                        simp only [AllV, rdP, isV, forall_eq, rgPut, Act.put, List.setIfInBounds_toArray, List.set_cons_zero, List.set_cons_succ]
                        clear hs
                        first
                          | (refine OpOk.off ?_ ?_ <;> rfl)
                          | (refine OpOk.run ?_ (fun K hK => ?_)
                             · rfl
                             go_simp
                             refine hK.out _ _ (Grows.refl _) ?_
                             exact rfl)
                      · intro w' hs
                        simp only [AllV, rdP, isV, forall_eq, rgPut, Act.put, List.setIfInBounds_toArray, List.set_cons_zero, List.set_cons_succ]
                        clear hs
                        first
                          | (refine OpOk.off ?_ ?_ <;> rfl)
                          | (refine OpOk.run ?_ (fun K hK => ?_)
                             · rfl
                             go_simp
                             refine hK.out _ _ (Grows.refl _) ?_
                             exact rfl)
                      · intro w' hs
                        simp only [AllV, rdP, isV, forall_eq, rgPut, Act.put, List.setIfInBounds_toArray, List.set_cons_zero, List.set_cons_succ]
                        obtain ⟨f0, hbb⟩ := hs
                        first
                          | (refine OpOk.off ?_ ?_ <;> rfl)
                          | (refine OpOk.run ?_ (fun K hK => ?_)
                             · rfl
                             go_simp
                             refine hK.out _ _ (Grows.refl _) ?_
                             exact rfl)
                      · intro w' hs
                        simp only [AllV, rgPut]
                        clear hs
                        first
                          | (refine OpOk.off ?_ ?_ <;> rfl)
                          | (refine OpOk.run ?_ (fun K hK => ?_)
                             · rfl
                             go_simp
                             refine hK.out _ _ (Grows.refl _) ?_
                             exact rfl)
                      · intro w' hs
                        simp only [AllV, rdP, isV, forall_eq, rgPut, Act.put, List.setIfInBounds_toArray, List.set_cons_zero, List.set_cons_succ]
                        obtain ⟨f0, hbb⟩ := hs
                        first
                          | (refine OpOk.off ?_ ?_ <;> rfl)
                          | (refine OpOk.run ?_ (fun K hK => ?_)
                             · rfl
                             go_simp
                             go_at_call 10
                             refine (twin_calls _ D _ (HDB.out.below hbb.out) HDL.out).mono ?_
                             rintro e w1 ⟨u1, rfl, ho, hb⟩
                             refine hK.out _ _ hb ?_
                             exact ho.byt
                            )
                      · -- 9: Op.call { value (Operand.func 22), args := #[t73, t78, t80],
                        intro w' hs
                        simp only [AllV, rdP, rgPut, Act.put, List.setIfInBounds_toArray, List.set_cons_zero, List.set_cons_succ]
                        obtain ⟨f0, hbb⟩ := hs
                        rintro v0 ⟨ys, hm, hl⟩ v1 h1 v2 h2
                        cases h1
                        refine OpOk.run ?_ (fun K hK => ?_)
                        · rfl
                        go_simp
                        go_at_call 22
                        refine (has_form _ ys L k _ D true _ hm.out HHAS.out hl h2 (HS.out.lisN hm.out) (by decide)).mono ?_
                        rintro e w1 ⟨rfl, hb⟩
                        refine hK.out _ _ hb ?_
                        exact rfl
                      · intro w' hs
                        simp only [AllV, rdP, isV, forall_eq, rgPut, Act.put, List.setIfInBounds_toArray, List.set_cons_zero, List.set_cons_succ]
                        clear hs
                        first
                          | (refine OpOk.off ?_ ?_ <;> rfl)
                          | (refine OpOk.run ?_ (fun K hK => ?_)
                             · rfl
                             go_simp
                             refine hK.out _ _ (Grows.refl _) ?_
                             exact rfl)
                    case hend =>
                      intro w' hs
                      simp only [AllV, rdP, rgPut, Act.put, List.setIfInBounds_toArray, List.set_cons_zero, List.set_cons_succ]
                      intro a0 b0 a1 b1 a2 b2 a3 b3 a4 b4 a5 b5 a6 b6 a7 b7 a8 b8 a9 b9 a10 b10
                      clear b0 b1 b2 b3 b4 b5 b6 b7 b8 b9
                      cases b10
                      obtain ⟨f0, hbb⟩ := hs
                      clear f0
                      go_wp2
                      go_roundw
                      case rel => exact ⟨i + 1, false, hlt3, by go_num, by trivial, Lib.hid (by have := HNW.out; rw [decide_eq_false HKK.out] at this ⊢; simpa using this), hbb⟩
                      case measure => simp [intOf]; omega
              · have hk3 : (k == 3) = true := by simp [h3]
                have h32d : decide ((32 : Int) < (m : Int)) = false := by simp; omega
                have HDB : Hid (Byt w (.slice s m c) D) := Lib.hid (by rw [hD.out]; unfold cutD; rw [if_pos h3, List.take_of_length_le (by rw [← HYM.out]; omega)]; exact HYB.out)
                clear h3
                cases B with
                | true =>
                  go_wp2_with fail
                  have HBx := HBi
                  refine' wp_region_grows (by kernel_rfl) (fun w' => w'.cell? ⟨b, off + j * 2, none⟩ = some (.int .u8 k) ∧ Hid (Below w.heap.size w w')) [isV _, fun v w' => ∃ ys, Hid (ys.map LiV.li = L) ∧ Lis w' v ys, isV _, isV _, isV _, isV _, isV _, isV _, fun v w' => Byt w' v D, isV (.bool true), isV (.bool false)] 100 [[], [(0, some 72)], [], [], [(2, some 74), (3, some 75)], [(4, some 76)], [(5, some 77)], [], [(7, some 79)], [(1, some 73), (6, some 78), (8, some 80)], [(9, some 81)]] [(0, some 72), (1, some 73), (2, some 74), (3, some 75), (4, some 76), (5, some 77), (6, some 78), (7, some 79), (8, some 80), (9, some 81), (10, some 82)] rfl (by kernel_rfl) ⟨fun _ _ _ _ h => h, fun _ _ _ hg ⟨ys, h1, h2⟩ => ⟨ys, h1, Lis.below h2 hg⟩, fun _ _ _ _ h => h, fun _ _ _ _ h => h, fun _ _ _ _ h => h, fun _ _ _ _ h => h, fun _ _ _ _ h => h, fun _ _ _ _ h => h, fun _ _ _ hg h => Byt.below h hg, fun _ _ _ _ h => h, fun _ _ _ _ h => h, trivial⟩ (fun _ a a' _ e h => by cases a; cases a'; cases e; exact h) ?hS ?hsteps ?hend
                  case hS =>
                    intro w' hg
                    have hbz := Lib.hid (HBx.out.drew.trans (hg.mono HBx.out.size))
                    have cc : ∀ (p : Addr) (v : Value), w.cell? p = some v → w'.cell? p = some v := fun p v h => (Below.cell hbz.out (lt_of_cell h)).trans h
                    exact ⟨cc _ _ HC0.out, hbz⟩
                  case hsteps =>
                    refine ⟨?_, ?_, ?_, ?_, ?_, ?_, ?_, ?_, ?_, ?_, ?_, trivial⟩
                    · intro w' hs
                      simp only [AllV, rgPut]
                      clear hs
                      first
                        | (refine OpOk.off ?_ ?_ <;> rfl)
                        | (refine OpOk.run ?_ (fun K hK => ?_)
                           · rfl
                           go_simp
                           refine hK.out _ _ (Grows.refl _) ?_
                           exact rfl)
                    · intro w' hs
                      simp only [AllV, rdP, isV, forall_eq, rgPut, Act.put, List.setIfInBounds_toArray, List.set_cons_zero, List.set_cons_succ]
                      obtain ⟨f0, hbb⟩ := hs
                      first
                        | (refine OpOk.off ?_ ?_ <;> rfl)
                        | (refine OpOk.run ?_ (fun K hK => ?_)
                           · rfl
                           go_simp
                           go_at_call 17
                           refine (twins_formW _ xs L _ hL.out (HV.out.below hbb.out) HS.out).mono ?_
                           rintro e w1 ⟨a1, m1, c1, ys, rfl, hm, ho, hb⟩
                           refine hK.out _ _ hb ?_
                           exact ⟨_, hm, ho.out.lis⟩
                          )
                    · intro w' hs
                      simp only [AllV, rgPut]
                      clear hs
                      first
                        | (refine OpOk.off ?_ ?_ <;> rfl)
                        | (refine OpOk.run ?_ (fun K hK => ?_)
                           · rfl
                           go_simp
                           refine hK.out _ _ (Grows.refl _) ?_
                           exact rfl)
                    · intro w' hs
                      simp only [AllV, rgPut]
                      clear hs
                      first
                        | (refine OpOk.off ?_ ?_ <;> rfl)
                        | (refine OpOk.run ?_ (fun K hK => ?_)
                           · rfl
                           go_simp
                           refine hK.out _ _ (Grows.refl _) ?_
                           exact rfl)
                    · intro w' hs
                      simp only [AllV, rdP, isV, forall_eq, rgPut, Act.put, List.setIfInBounds_toArray, List.set_cons_zero, List.set_cons_succ]
                      clear hs
                      first
                        | (refine OpOk.off ?_ ?_ <;> rfl)
                        | (refine OpOk.run ?_ (fun K hK => ?_)
                           · rfl
                           go_simp
                           refine hK.out _ _ (Grows.refl _) ?_
                           exact rfl)
                    · intro w' hs
                      simp only [AllV, rdP, isV, forall_eq, rgPut, Act.put, List.setIfInBounds_toArray, List.set_cons_zero, List.set_cons_succ]
                      clear hs
                      first
                        | (refine OpOk.off ?_ ?_ <;> rfl)
                        | (refine OpOk.run ?_ (fun K hK => ?_)
                           · rfl
                           go_simp
                           refine hK.out _ _ (Grows.refl _) ?_
                           exact rfl)
                    · intro w' hs
                      simp only [AllV, rdP, isV, forall_eq, rgPut, Act.put, List.setIfInBounds_toArray, List.set_cons_zero, List.set_cons_succ]
                      obtain ⟨f0, hbb⟩ := hs
                      first
                        | (refine OpOk.off ?_ ?_ <;> rfl)
                        | (refine OpOk.run ?_ (fun K hK => ?_)
                           · rfl
                           go_simp
                           refine hK.out _ _ (Grows.refl _) ?_
                           exact rfl)
                    · intro w' hs
                      simp only [AllV, rgPut]
                      clear hs
                      first
                        | (refine OpOk.off ?_ ?_ <;> rfl)
                        | (refine OpOk.run ?_ (fun K hK => ?_)
                           · rfl
                           go_simp
                           refine hK.out _ _ (Grows.refl _) ?_
                           exact rfl)
                    · intro w' hs
                      simp only [AllV, rdP, isV, forall_eq, rgPut, Act.put, List.setIfInBounds_toArray, List.set_cons_zero, List.set_cons_succ]
                      obtain ⟨f0, hbb⟩ := hs
                      first
                        | (refine OpOk.off ?_ ?_ <;> rfl)
                        | (refine OpOk.run ?_ (fun K hK => ?_)
                           · rfl
                           go_simp
                           go_at_call 10
                           refine (twin_calls _ D _ (HDB.out.below hbb.out) HDL.out).mono ?_
                           rintro e w1 ⟨u1, rfl, ho, hb⟩
                           refine hK.out _ _ hb ?_
                           exact ho.byt
                          )
                    · -- 9: Op.call { value (Operand.func 22), args := #[t73, t78, t80],
                      intro w' hs
                      simp only [AllV, rdP, rgPut, Act.put, List.setIfInBounds_toArray, List.set_cons_zero, List.set_cons_succ]
                      obtain ⟨f0, hbb⟩ := hs
                      rintro v0 ⟨ys, hm, hl⟩ v1 h1 v2 h2
                      cases h1
                      refine OpOk.run ?_ (fun K hK => ?_)
                      · rfl
                      go_simp
                      go_at_call 22
                      refine (has_form _ ys L k _ D true _ hm.out HHAS.out hl h2 (HS.out.lisN hm.out) (by decide)).mono ?_
                      rintro e w1 ⟨rfl, hb⟩
                      refine hK.out _ _ hb ?_
                      exact rfl
                    · intro w' hs
                      simp only [AllV, rdP, isV, forall_eq, rgPut, Act.put, List.setIfInBounds_toArray, List.set_cons_zero, List.set_cons_succ]
                      clear hs
                      first
                        | (refine OpOk.off ?_ ?_ <;> rfl)
                        | (refine OpOk.run ?_ (fun K hK => ?_)
                           · rfl
                           go_simp
                           refine hK.out _ _ (Grows.refl _) ?_
                           exact rfl)
                  case hend =>
                    intro w' hs
                    simp only [AllV, rdP, rgPut, Act.put, List.setIfInBounds_toArray, List.set_cons_zero, List.set_cons_succ]
                    intro a0 b0 a1 b1 a2 b2 a3 b3 a4 b4 a5 b5 a6 b6 a7 b7 a8 b8 a9 b9 a10 b10
                    clear b0 b1 b2 b3 b4 b5 b6 b7 b8 b9
                    cases b10
                    obtain ⟨f0, hbb⟩ := hs
                    clear f0
                    go_wp2
                    go_roundw
                    case rel => exact ⟨i + 1, true, hlt3, by go_num, by trivial, Lib.hid (by have := HNW.out; skip; simpa using this), hbb⟩
                    case measure => simp [intOf]; omega
                | false =>
                  by_cases hkk : k = K
                  · have hke : (k == K) = true := by simp [hkk]
                    have HKK := Lib.hid hkk
                    clear hkk
                    go_wp2_with fail
                    refine (same_form D data (decide (D = data)) rfl _ _ _ (HDB.out.below HBi.out) (HQ.out.below HBi.out)).mono ?_
                    obtain ⟨DB, hDB⟩ : ∃ B, Hid (B = decide (D = data)) := ⟨_, Lib.hid rfl⟩
                    rw [← hDB.out] at HNW ⊢
                    rintro e w' ⟨rfl, rfl⟩
                    go_wp2_with fail
                    have HBx := HBi
                    refine' wp_region_grows (by kernel_rfl) (fun w' => w'.cell? ⟨b, off + j * 2, none⟩ = some (.int .u8 k) ∧ Hid (Below w.heap.size w w')) [isV _, fun v w' => ∃ ys, Hid (ys.map LiV.li = L) ∧ Lis w' v ys, isV _, isV _, isV _, isV _, isV _, isV _, fun v w' => Byt w' v D, isV (.bool true), isV (.bool false)] 100 [[], [(0, some 72)], [], [], [(2, some 74), (3, some 75)], [(4, some 76)], [(5, some 77)], [], [(7, some 79)], [(1, some 73), (6, some 78), (8, some 80)], [(9, some 81)]] [(0, some 72), (1, some 73), (2, some 74), (3, some 75), (4, some 76), (5, some 77), (6, some 78), (7, some 79), (8, some 80), (9, some 81), (10, some 82)] rfl (by kernel_rfl) ⟨fun _ _ _ _ h => h, fun _ _ _ hg ⟨ys, h1, h2⟩ => ⟨ys, h1, Lis.below h2 hg⟩, fun _ _ _ _ h => h, fun _ _ _ _ h => h, fun _ _ _ _ h => h, fun _ _ _ _ h => h, fun _ _ _ _ h => h, fun _ _ _ _ h => h, fun _ _ _ hg h => Byt.below h hg, fun _ _ _ _ h => h, fun _ _ _ _ h => h, trivial⟩ (fun _ a a' _ e h => by cases a; cases a'; cases e; exact h) ?hS ?hsteps ?hend
                    case hS =>
                      intro w' hg
                      have hbz := Lib.hid (HBx.out.drew.trans (hg.mono HBx.out.size))
                      have cc : ∀ (p : Addr) (v : Value), w.cell? p = some v → w'.cell? p = some v := fun p v h => (Below.cell hbz.out (lt_of_cell h)).trans h
                      exact ⟨cc _ _ HC0.out, hbz⟩
                    case hsteps =>
                      refine ⟨?_, ?_, ?_, ?_, ?_, ?_, ?_, ?_, ?_, ?_, ?_, trivial⟩
                      · intro w' hs
                        simp only [AllV, rgPut]
                        clear hs
                        first
                          | (refine OpOk.off ?_ ?_ <;> rfl)
                          | (refine OpOk.run ?_ (fun K hK => ?_)
                             · rfl
                             go_simp
                             refine hK.out _ _ (Grows.refl _) ?_
                             exact rfl)
                      · intro w' hs
                        simp only [AllV, rdP, isV, forall_eq, rgPut, Act.put, List.setIfInBounds_toArray, List.set_cons_zero, List.set_cons_succ]
                        obtain ⟨f0, hbb⟩ := hs
                        first
                          | (refine OpOk.off ?_ ?_ <;> rfl)
                          | (refine OpOk.run ?_ (fun K hK => ?_)
                             · rfl
                             go_simp
                             go_at_call 17
                             refine (twins_formW _ xs L _ hL.out (HV.out.below hbb.out) HS.out).mono ?_
                             rintro e w1 ⟨a1, m1, c1, ys, rfl, hm, ho, hb⟩
                             refine hK.out _ _ hb ?_
                             exact ⟨_, hm, ho.out.lis⟩
                            )
                      · intro w' hs
                        simp only [AllV, rgPut]
                        clear hs
                        first
                          | (refine OpOk.off ?_ ?_ <;> rfl)
                          | (refine OpOk.run ?_ (fun K hK => ?_)
                             · rfl
                             go_simp
                             refine hK.out _ _ (Grows.refl _) ?_
                             exact rfl)
                      · intro w' hs
                        simp only [AllV, rgPut]
                        clear hs
                        first
                          | (refine OpOk.off ?_ ?_ <;> rfl)
                          | (refine OpOk.run ?_ (fun K hK => ?_)
                             · rfl
                             go_simp
                             refine hK.out _ _ (Grows.refl _) ?_
                             exact rfl)
                      · intro w' hs
                        simp only [AllV, rdP, isV, forall_eq, rgPut, Act.put, List.setIfInBounds_toArray, List.set_cons_zero, List.set_cons_succ]
                        clear hs
                        first
                          | (refine OpOk.off ?_ ?_ <;> rfl)
                          | (refine OpOk.run ?_ (fun K hK => ?_)
                             · rfl
                             go_simp
                             refine hK.out _ _ (Grows.refl _) ?_
                             exact rfl)
                      · intro w' hs
                        simp only [AllV, rdP, isV, forall_eq, rgPut, Act.put, List.setIfInBounds_toArray, List.set_cons_zero, List.set_cons_succ]
                        clear hs
                        first
                          | (refine OpOk.off ?_ ?_ <;> rfl)
                          | (refine OpOk.run ?_ (fun K hK => ?_)
                             · rfl
                             go_simp
                             refine hK.out _ _ (Grows.refl _) ?_
                             exact rfl)
                      · intro w' hs
                        simp only [AllV, rdP, isV, forall_eq, rgPut, Act.put, List.setIfInBounds_toArray, List.set_cons_zero, List.set_cons_succ]
                        obtain ⟨f0, hbb⟩ := hs
                        first
                          | (refine OpOk.off ?_ ?_ <;> rfl)
                          | (refine OpOk.run ?_ (fun K hK => ?_)
                             · rfl
                             go_simp
                             refine hK.out _ _ (Grows.refl _) ?_
                             exact rfl)
                      · intro w' hs
                        simp only [AllV, rgPut]
                        clear hs
                        first
                          | (refine OpOk.off ?_ ?_ <;> rfl)
                          | (refine OpOk.run ?_ (fun K hK => ?_)
                             · rfl
                             go_simp
                             refine hK.out _ _ (Grows.refl _) ?_
                             exact rfl)
                      · intro w' hs
                        simp only [AllV, rdP, isV, forall_eq, rgPut, Act.put, List.setIfInBounds_toArray, List.set_cons_zero, List.set_cons_succ]
                        obtain ⟨f0, hbb⟩ := hs
                        first
                          | (refine OpOk.off ?_ ?_ <;> rfl)
                          | (refine OpOk.run ?_ (fun K hK => ?_)
                             · rfl
                             go_simp
                             go_at_call 10
                             refine (twin_calls _ D _ (HDB.out.below hbb.out) HDL.out).mono ?_
                             rintro e w1 ⟨u1, rfl, ho, hb⟩
                             refine hK.out _ _ hb ?_
                             exact ho.byt
                            )
                      · -- 9: Op.call { value (Operand.func 22), args := #[t73, t78, t80],
                        intro w' hs
                        simp only [AllV, rdP, rgPut, Act.put, List.setIfInBounds_toArray, List.set_cons_zero, List.set_cons_succ]
                        obtain ⟨f0, hbb⟩ := hs
                        rintro v0 ⟨ys, hm, hl⟩ v1 h1 v2 h2
                        cases h1
                        refine OpOk.run ?_ (fun K hK => ?_)
                        · rfl
                        go_simp
                        go_at_call 22
                        refine (has_form _ ys L k _ D true _ hm.out HHAS.out hl h2 (HS.out.lisN hm.out) (by decide)).mono ?_
                        rintro e w1 ⟨rfl, hb⟩
                        refine hK.out _ _ hb ?_
                        exact rfl
                      · intro w' hs
                        simp only [AllV, rdP, isV, forall_eq, rgPut, Act.put, List.setIfInBounds_toArray, List.set_cons_zero, List.set_cons_succ]
                        clear hs
                        first
                          | (refine OpOk.off ?_ ?_ <;> rfl)
                          | (refine OpOk.run ?_ (fun K hK => ?_)
                             · rfl
                             go_simp
                             refine hK.out _ _ (Grows.refl _) ?_
                             exact rfl)
                    case hend =>
                      intro w' hs
                      simp only [AllV, rdP, rgPut, Act.put, List.setIfInBounds_toArray, List.set_cons_zero, List.set_cons_succ]
                      intro a0 b0 a1 b1 a2 b2 a3 b3 a4 b4 a5 b5 a6 b6 a7 b7 a8 b8 a9 b9 a10 b10
                      clear b0 b1 b2 b3 b4 b5 b6 b7 b8 b9
                      cases b10
                      obtain ⟨f0, hbb⟩ := hs
                      clear f0
                      go_wp2
                      go_roundw
                      case rel => exact ⟨i + 1, DB, hlt3, by go_num, by trivial, Lib.hid (by have := HNW.out; rw [decide_eq_true HKK.out] at this ⊢; simpa using this), hbb⟩
                      case measure => simp [intOf]; omega
                  · have hke : (k == K) = false := by simp [hkk]
                    have HKK := Lib.hid hkk
                    clear hkk
                    go_wp2_with fail
                    have HBx := HBi
                    refine' wp_region_grows (by kernel_rfl) (fun w' => w'.cell? ⟨b, off + j * 2, none⟩ = some (.int .u8 k) ∧ Hid (Below w.heap.size w w')) [isV _, fun v w' => ∃ ys, Hid (ys.map LiV.li = L) ∧ Lis w' v ys, isV _, isV _, isV _, isV _, isV _, isV _, fun v w' => Byt w' v D, isV (.bool true), isV (.bool false)] 100 [[], [(0, some 72)], [], [], [(2, some 74), (3, some 75)], [(4, some 76)], [(5, some 77)], [], [(7, some 79)], [(1, some 73), (6, some 78), (8, some 80)], [(9, some 81)]] [(0, some 72), (1, some 73), (2, some 74), (3, some 75), (4, some 76), (5, some 77), (6, some 78), (7, some 79), (8, some 80), (9, some 81), (10, some 82)] rfl (by kernel_rfl) ⟨fun _ _ _ _ h => h, fun _ _ _ hg ⟨ys, h1, h2⟩ => ⟨ys, h1, Lis.below h2 hg⟩, fun _ _ _ _ h => h, fun _ _ _ _ h => h, fun _ _ _ _ h => h, fun _ _ _ _ h => h, fun _ _ _ _ h => h, fun _ _ _ _ h => h, fun _ _ _ hg h => Byt.below h hg, fun _ _ _ _ h => h, fun _ _ _ _ h => h, trivial⟩ (fun _ a a' _ e h => by cases a; cases a'; cases e; exact h) ?hS ?hsteps ?hend
                    case hS =>
                      intro w' hg
                      have hbz := Lib.hid (HBx.out.drew.trans (hg.mono HBx.out.size))
                      have cc : ∀ (p : Addr) (v : Value), w.cell? p = some v → w'.cell? p = some v := fun p v h => (Below.cell hbz.out (lt_of_cell h)).trans h
                      exact ⟨cc _ _ HC0.out, hbz⟩
                    case hsteps =>
                      refine ⟨?_, ?_, ?_, ?_, ?_, ?_, ?_, ?_, ?_, ?_, ?_, trivial⟩
                      · intro w' hs
                        simp only [AllV, rgPut]
                        clear hs
                        first
                          | (refine OpOk.off ?_ ?_ <;> rfl)
                          | (refine OpOk.run ?_ (fun K hK => ?_)
                             · rfl
                             go_simp
                             refine hK.out _ _ (Grows.refl _) ?_
                             exact rfl)
                      · intro w' hs
                        simp only [AllV, rdP, isV, forall_eq, rgPut, Act.put, List.setIfInBounds_toArray, List.set_cons_zero, List.set_cons_succ]
                        obtain ⟨f0, hbb⟩ := hs
                        first
                          | (refine OpOk.off ?_ ?_ <;> rfl)
                          | (refine OpOk.run ?_ (fun K hK => ?_)
                             · rfl
                             go_simp
                             go_at_call 17
                             refine (twins_formW _ xs L _ hL.out (HV.out.below hbb.out) HS.out).mono ?_
                             rintro e w1 ⟨a1, m1, c1, ys, rfl, hm, ho, hb⟩
                             refine hK.out _ _ hb ?_
                             exact ⟨_, hm, ho.out.lis⟩
                            )
                      · intro w' hs
                        simp only [AllV, rgPut]
                        clear hs
                        first
                          | (refine OpOk.off ?_ ?_ <;> rfl)
                          | (refine OpOk.run ?_ (fun K hK => ?_)
                             · rfl
                             go_simp
                             refine hK.out _ _ (Grows.refl _) ?_
                             exact rfl)
                      · intro w' hs
                        simp only [AllV, rgPut]
                        clear hs
                        first
                          | (refine OpOk.off ?_ ?_ <;> rfl)
                          | (refine OpOk.run ?_ (fun K hK => ?_)
                             · rfl
                             go_simp
                             refine hK.out _ _ (Grows.refl _) ?_
                             exact rfl)
                      · intro w' hs
                        simp only [AllV, rdP, isV, forall_eq, rgPut, Act.put, List.setIfInBounds_toArray, List.set_cons_zero, List.set_cons_succ]
                        clear hs
                        first
                          | (refine OpOk.off ?_ ?_ <;> rfl)
                          | (refine OpOk.run ?_ (fun K hK => ?_)
                             · rfl
                             go_simp
                             refine hK.out _ _ (Grows.refl _) ?_
                             exact rfl)
                      · intro w' hs
                        simp only [AllV, rdP, isV, forall_eq, rgPut, Act.put, List.setIfInBounds_toArray, List.set_cons_zero, List.set_cons_succ]
                        clear hs
                        first
                          | (refine OpOk.off ?_ ?_ <;> rfl)
                          | (refine OpOk.run ?_ (fun K hK => ?_)
                             · rfl
                             go_simp
                             refine hK.out _ _ (Grows.refl _) ?_
                             exact rfl)
                      · intro w' hs
                        simp only [AllV, rdP, isV, forall_eq, rgPut, Act.put, List.setIfInBounds_toArray, List.set_cons_zero, List.set_cons_succ]
                        obtain ⟨f0, hbb⟩ := hs
                        first
                          | (refine OpOk.off ?_ ?_ <;> rfl)
                          | (refine OpOk.run ?_ (fun K hK => ?_)
                             · rfl
                             go_simp
                             refine hK.out _ _ (Grows.refl _) ?_
                             exact rfl)
                      · intro w' hs
                        simp only [AllV, rgPut]
                        clear hs
                        first
                          | (refine OpOk.off ?_ ?_ <;> rfl)
                          | (refine OpOk.run ?_ (fun K hK => ?_)
                             · rfl
                             go_simp
                             refine hK.out _ _ (Grows.refl _) ?_
                             exact rfl)
                      · intro w' hs
                        simp only [AllV, rdP, isV, forall_eq, rgPut, Act.put, List.setIfInBounds_toArray, List.set_cons_zero, List.set_cons_succ]
                        obtain ⟨f0, hbb⟩ := hs
                        first
                          | (refine OpOk.off ?_ ?_ <;> rfl)
                          | (refine OpOk.run ?_ (fun K hK => ?_)
                             · rfl
                             go_simp
                             go_at_call 10
                             refine (twin_calls _ D _ (HDB.out.below hbb.out) HDL.out).mono ?_
                             rintro e w1 ⟨u1, rfl, ho, hb⟩
                             refine hK.out _ _ hb ?_
                             exact ho.byt
                            )
                      · -- 9: Op.call { value (Operand.func 22), args := #[t73, t78, t80],
                        intro w' hs
                        simp only [AllV, rdP, rgPut, Act.put, List.setIfInBounds_toArray, List.set_cons_zero, List.set_cons_succ]
                        obtain ⟨f0, hbb⟩ := hs
                        rintro v0 ⟨ys, hm, hl⟩ v1 h1 v2 h2
                        cases h1
                        refine OpOk.run ?_ (fun K hK => ?_)
                        · rfl
                        go_simp
                        go_at_call 22
                        refine (has_form _ ys L k _ D true _ hm.out HHAS.out hl h2 (HS.out.lisN hm.out) (by decide)).mono ?_
                        rintro e w1 ⟨rfl, hb⟩
                        refine hK.out _ _ hb ?_
                        exact rfl
                      · intro w' hs
                        simp only [AllV, rdP, isV, forall_eq, rgPut, Act.put, List.setIfInBounds_toArray, List.set_cons_zero, List.set_cons_succ]
                        clear hs
                        first
                          | (refine OpOk.off ?_ ?_ <;> rfl)
                          | (refine OpOk.run ?_ (fun K hK => ?_)
                             · rfl
                             go_simp
                             refine hK.out _ _ (Grows.refl _) ?_
                             exact rfl)
                    case hend =>
                      intro w' hs
                      simp only [AllV, rdP, rgPut, Act.put, List.setIfInBounds_toArray, List.set_cons_zero, List.set_cons_succ]
                      intro a0 b0 a1 b1 a2 b2 a3 b3 a4 b4 a5 b5 a6 b6 a7 b7 a8 b8 a9 b9 a10 b10
                      clear b0 b1 b2 b3 b4 b5 b6 b7 b8 b9
                      cases b10
                      obtain ⟨f0, hbb⟩ := hs
                      clear f0
                      go_wp2
                      go_roundw
                      case rel => exact ⟨i + 1, false, hlt3, by go_num, by trivial, Lib.hid (by have := HNW.out; rw [decide_eq_false HKK.out] at this ⊢; simpa using this), hbb⟩
                      case measure => simp [intOf]; omega
            · have hk3 : (k == 3) = false := by simp [h3]
              have HDB : Hid (Byt w (.slice s m c) D) := Lib.hid (by rw [hD.out]; unfold cutD; rw [if_neg h3]; exact HYB.out)
              clear h3
              cases B with
              | true =>
                go_wp2_with fail
                have HBx := HBi
                refine' wp_region_grows (by kernel_rfl) (fun w' => w'.cell? ⟨b, off + j * 2, none⟩ = some (.int .u8 k) ∧ Hid (Below w.heap.size w w')) [isV _, fun v w' => ∃ ys, Hid (ys.map LiV.li = L) ∧ Lis w' v ys, isV _, isV _, isV _, isV _, isV _, isV _, fun v w' => Byt w' v D, isV (.bool true), isV (.bool false)] 100 [[], [(0, some 72)], [], [], [(2, some 74), (3, some 75)], [(4, some 76)], [(5, some 77)], [], [(7, some 79)], [(1, some 73), (6, some 78), (8, some 80)], [(9, some 81)]] [(0, some 72), (1, some 73), (2, some 74), (3, some 75), (4, some 76), (5, some 77), (6, some 78), (7, some 79), (8, some 80), (9, some 81), (10, some 82)] rfl (by kernel_rfl) ⟨fun _ _ _ _ h => h, fun _ _ _ hg ⟨ys, h1, h2⟩ => ⟨ys, h1, Lis.below h2 hg⟩, fun _ _ _ _ h => h, fun _ _ _ _ h => h, fun _ _ _ _ h => h, fun _ _ _ _ h => h, fun _ _ _ _ h => h, fun _ _ _ _ h => h, fun _ _ _ hg h => Byt.below h hg, fun _ _ _ _ h => h, fun _ _ _ _ h => h, trivial⟩ (fun _ a a' _ e h => by cases a; cases a'; cases e; exact h) ?hS ?hsteps ?hend
                case hS =>
                  intro w' hg
                  have hbz := Lib.hid (HBx.out.drew.trans (hg.mono HBx.out.size))
                  have cc : ∀ (p : Addr) (v : Value), w.cell? p = some v → w'.cell? p = some v := fun p v h => (Below.cell hbz.out (lt_of_cell h)).trans h
                  exact ⟨cc _ _ HC0.out, hbz⟩
                case hsteps =>
                  refine ⟨?_, ?_, ?_, ?_, ?_, ?_, ?_, ?_, ?_, ?_, ?_, trivial⟩
                  · intro w' hs
                    simp only [AllV, rgPut]
                    clear hs
                    first
                      | (refine OpOk.off ?_ ?_ <;> rfl)
                      | (refine OpOk.run ?_ (fun K hK => ?_)
                         · rfl
                         go_simp
                         refine hK.out _ _ (Grows.refl _) ?_
                         exact rfl)
                  · intro w' hs
                    simp only [AllV, rdP, isV, forall_eq, rgPut, Act.put, List.setIfInBounds_toArray, List.set_cons_zero, List.set_cons_succ]
                    obtain ⟨f0, hbb⟩ := hs
                    first
                      | (refine OpOk.off ?_ ?_ <;> rfl)
                      | (refine OpOk.run ?_ (fun K hK => ?_)
                         · rfl
                         go_simp
                         go_at_call 17
                         refine (twins_formW _ xs L _ hL.out (HV.out.below hbb.out) HS.out).mono ?_
                         rintro e w1 ⟨a1, m1, c1, ys, rfl, hm, ho, hb⟩
                         refine hK.out _ _ hb ?_
                         exact ⟨_, hm, ho.out.lis⟩
                        )
                  · intro w' hs
                    simp only [AllV, rgPut]
                    clear hs
                    first
                      | (refine OpOk.off ?_ ?_ <;> rfl)
                      | (refine OpOk.run ?_ (fun K hK => ?_)
                         · rfl
                         go_simp
                         refine hK.out _ _ (Grows.refl _) ?_
                         exact rfl)
                  · intro w' hs
                    simp only [AllV, rgPut]
                    clear hs
                    first
                      | (refine OpOk.off ?_ ?_ <;> rfl)
                      | (refine OpOk.run ?_ (fun K hK => ?_)
                         · rfl
                         go_simp
                         refine hK.out _ _ (Grows.refl _) ?_
                         exact rfl)
                  · intro w' hs
                    simp only [AllV, rdP, isV, forall_eq, rgPut, Act.put, List.setIfInBounds_toArray, List.set_cons_zero, List.set_cons_succ]
                    clear hs
                    first
                      | (refine OpOk.off ?_ ?_ <;> rfl)
                      | (refine OpOk.run ?_ (fun K hK => ?_)
                         · rfl
                         go_simp
                         refine hK.out _ _ (Grows.refl _) ?_
                         exact rfl)
                  · intro w' hs
                    simp only [AllV, rdP, isV, forall_eq, rgPut, Act.put, List.setIfInBounds_toArray, List.set_cons_zero, List.set_cons_succ]
                    clear hs
                    first
                      | (refine OpOk.off ?_ ?_ <;> rfl)
                      | (refine OpOk.run ?_ (fun K hK => ?_)
                         · rfl
                         go_simp
                         refine hK.out _ _ (Grows.refl _) ?_
                         exact rfl)
                  · intro w' hs
                    simp only [AllV, rdP, isV, forall_eq, rgPut, Act.put, List.setIfInBounds_toArray, List.set_cons_zero, List.set_cons_succ]
                    obtain ⟨f0, hbb⟩ := hs
                    first
                      | (refine OpOk.off ?_ ?_ <;> rfl)
                      | (refine OpOk.run ?_ (fun K hK => ?_)
                         · rfl
                         go_simp
                         refine hK.out _ _ (Grows.refl _) ?_
                         exact rfl)
                  · intro w' hs
                    simp only [AllV, rgPut]
                    clear hs
                    first
                      | (refine OpOk.off ?_ ?_ <;> rfl)
                      | (refine OpOk.run ?_ (fun K hK => ?_)
                         · rfl
                         go_simp
                         refine hK.out _ _ (Grows.refl _) ?_
                         exact rfl)
                  · intro w' hs
                    simp only [AllV, rdP, isV, forall_eq, rgPut, Act.put, List.setIfInBounds_toArray, List.set_cons_zero, List.set_cons_succ]
                    obtain ⟨f0, hbb⟩ := hs
                    first
                      | (refine OpOk.off ?_ ?_ <;> rfl)
                      | (refine OpOk.run ?_ (fun K hK => ?_)
                         · rfl
                         go_simp
                         go_at_call 10
                         refine (twin_calls _ D _ (HDB.out.below hbb.out) HDL.out).mono ?_
                         rintro e w1 ⟨u1, rfl, ho, hb⟩
                         refine hK.out _ _ hb ?_
                         exact ho.byt
                        )
                  · -- 9: Op.call { value (Operand.func 22), args := #[t73, t78, t80],
                    intro w' hs
                    simp only [AllV, rdP, rgPut, Act.put, List.setIfInBounds_toArray, List.set_cons_zero, List.set_cons_succ]
                    obtain ⟨f0, hbb⟩ := hs
                    rintro v0 ⟨ys, hm, hl⟩ v1 h1 v2 h2
                    cases h1
                    refine OpOk.run ?_ (fun K hK => ?_)
                    · rfl
                    go_simp
                    go_at_call 22
                    refine (has_form _ ys L k _ D true _ hm.out HHAS.out hl h2 (HS.out.lisN hm.out) (by decide)).mono ?_
                    rintro e w1 ⟨rfl, hb⟩
                    refine hK.out _ _ hb ?_
                    exact rfl
                  · intro w' hs
                    simp only [AllV, rdP, isV, forall_eq, rgPut, Act.put, List.setIfInBounds_toArray, List.set_cons_zero, List.set_cons_succ]
                    clear hs
                    first
                      | (refine OpOk.off ?_ ?_ <;> rfl)
                      | (refine OpOk.run ?_ (fun K hK => ?_)
                         · rfl
                         go_simp
                         refine hK.out _ _ (Grows.refl _) ?_
                         exact rfl)
                case hend =>
                  intro w' hs
                  simp only [AllV, rdP, rgPut, Act.put, List.setIfInBounds_toArray, List.set_cons_zero, List.set_cons_succ]
                  intro a0 b0 a1 b1 a2 b2 a3 b3 a4 b4 a5 b5 a6 b6 a7 b7 a8 b8 a9 b9 a10 b10
                  clear b0 b1 b2 b3 b4 b5 b6 b7 b8 b9
                  cases b10
                  obtain ⟨f0, hbb⟩ := hs
                  clear f0
                  go_wp2
                  go_roundw
                  case rel => exact ⟨i + 1, true, hlt3, by go_num, by trivial, Lib.hid (by have := HNW.out; skip; simpa using this), hbb⟩
                  case measure => simp [intOf]; omega
              | false =>
                by_cases hkk : k = K
                · have hke : (k == K) = true := by simp [hkk]
                  have HKK := Lib.hid hkk
                  clear hkk
                  go_wp2_with fail
                  refine (same_form D data (decide (D = data)) rfl _ _ _ (HDB.out.below HBi.out) (HQ.out.below HBi.out)).mono ?_
                  obtain ⟨DB, hDB⟩ : ∃ B, Hid (B = decide (D = data)) := ⟨_, Lib.hid rfl⟩
                  rw [← hDB.out] at HNW ⊢
                  rintro e w' ⟨rfl, rfl⟩
                  go_wp2_with fail
                  have HBx := HBi
                  refine' wp_region_grows (by kernel_rfl) (fun w' => w'.cell? ⟨b, off + j * 2, none⟩ = some (.int .u8 k) ∧ Hid (Below w.heap.size w w')) [isV _, fun v w' => ∃ ys, Hid (ys.map LiV.li = L) ∧ Lis w' v ys, isV _, isV _, isV _, isV _, isV _, isV _, fun v w' => Byt w' v D, isV (.bool true), isV (.bool false)] 100 [[], [(0, some 72)], [], [], [(2, some 74), (3, some 75)], [(4, some 76)], [(5, some 77)], [], [(7, some 79)], [(1, some 73), (6, some 78), (8, some 80)], [(9, some 81)]] [(0, some 72), (1, some 73), (2, some 74), (3, some 75), (4, some 76), (5, some 77), (6, some 78), (7, some 79), (8, some 80), (9, some 81), (10, some 82)] rfl (by kernel_rfl) ⟨fun _ _ _ _ h => h, fun _ _ _ hg ⟨ys, h1, h2⟩ => ⟨ys, h1, Lis.below h2 hg⟩, fun _ _ _ _ h => h, fun _ _ _ _ h => h, fun _ _ _ _ h => h, fun _ _ _ _ h => h, fun _ _ _ _ h => h, fun _ _ _ _ h => h, fun _ _ _ hg h => Byt.below h hg, fun _ _ _ _ h => h, fun _ _ _ _ h => h, trivial⟩ (fun _ a a' _ e h => by cases a; cases a'; cases e; exact h) ?hS ?hsteps ?hend
                  case hS =>
                    intro w' hg
                    have hbz := Lib.hid (HBx.out.drew.trans (hg.mono HBx.out.size))
                    have cc : ∀ (p : Addr) (v : Value), w.cell? p = some v → w'.cell? p = some v := fun p v h => (Below.cell hbz.out (lt_of_cell h)).trans h
                    exact ⟨cc _ _ HC0.out, hbz⟩
                  case hsteps =>
                    refine ⟨?_, ?_, ?_, ?_, ?_, ?_, ?_, ?_, ?_, ?_, ?_, trivial⟩
                    · intro w' hs
                      simp only [AllV, rgPut]
                      clear hs
                      first
                        | (refine OpOk.off ?_ ?_ <;> rfl)
                        | (refine OpOk.run ?_ (fun K hK => ?_)
                           · rfl
                           go_simp
                           refine hK.out _ _ (Grows.refl _) ?_
                           exact rfl)
                    · intro w' hs
                      simp only [AllV, rdP, isV, forall_eq, rgPut, Act.put, List.setIfInBounds_toArray, List.set_cons_zero, List.set_cons_succ]
                      obtain ⟨f0, hbb⟩ := hs
                      first
                        | (refine OpOk.off ?_ ?_ <;> rfl)
                        | (refine OpOk.run ?_ (fun K hK => ?_)
                           · rfl
                           go_simp
                           go_at_call 17
                           refine (twins_formW _ xs L _ hL.out (HV.out.below hbb.out) HS.out).mono ?_
                           rintro e w1 ⟨a1, m1, c1, ys, rfl, hm, ho, hb⟩
                           refine hK.out _ _ hb ?_
                           exact ⟨_, hm, ho.out.lis⟩
                          )
                    · intro w' hs
                      simp only [AllV, rgPut]
                      clear hs
                      first
                        | (refine OpOk.off ?_ ?_ <;> rfl)
                        | (refine OpOk.run ?_ (fun K hK => ?_)
                           · rfl
                           go_simp
                           refine hK.out _ _ (Grows.refl _) ?_
                           exact rfl)
                    · intro w' hs
                      simp only [AllV, rgPut]
                      clear hs
                      first
                        | (refine OpOk.off ?_ ?_ <;> rfl)
                        | (refine OpOk.run ?_ (fun K hK => ?_)
                           · rfl
                           go_simp
                           refine hK.out _ _ (Grows.refl _) ?_
                           exact rfl)
                    · intro w' hs
                      simp only [AllV, rdP, isV, forall_eq, rgPut, Act.put, List.setIfInBounds_toArray, List.set_cons_zero, List.set_cons_succ]
                      clear hs
                      first
                        | (refine OpOk.off ?_ ?_ <;> rfl)
                        | (refine OpOk.run ?_ (fun K hK => ?_)
                           · rfl
                           go_simp
                           refine hK.out _ _ (Grows.refl _) ?_
                           exact rfl)
                    · intro w' hs
                      simp only [AllV, rdP, isV, forall_eq, rgPut, Act.put, List.setIfInBounds_toArray, List.set_cons_zero, List.set_cons_succ]
                      clear hs
                      first
                        | (refine OpOk.off ?_ ?_ <;> rfl)
                        | (refine OpOk.run ?_ (fun K hK => ?_)
                           · rfl
                           go_simp
                           refine hK.out _ _ (Grows.refl _) ?_
                           exact rfl)
                    · intro w' hs
                      simp only [AllV, rdP, isV, forall_eq, rgPut, Act.put, List.setIfInBounds_toArray, List.set_cons_zero, List.set_cons_succ]
                      obtain ⟨f0, hbb⟩ := hs
                      first
                        | (refine OpOk.off ?_ ?_ <;> rfl)
                        | (refine OpOk.run ?_ (fun K hK => ?_)
                           · rfl
                           go_simp
                           refine hK.out _ _ (Grows.refl _) ?_
                           exact rfl)
                    · intro w' hs
                      simp only [AllV, rgPut]
                      clear hs
                      first
                        | (refine OpOk.off ?_ ?_ <;> rfl)
                        | (refine OpOk.run ?_ (fun K hK => ?_)
                           · rfl
                           go_simp
                           refine hK.out _ _ (Grows.refl _) ?_
                           exact rfl)
                    · intro w' hs
                      simp only [AllV, rdP, isV, forall_eq, rgPut, Act.put, List.setIfInBounds_toArray, List.set_cons_zero, List.set_cons_succ]
                      obtain ⟨f0, hbb⟩ := hs
                      first
                        | (refine OpOk.off ?_ ?_ <;> rfl)
                        | (refine OpOk.run ?_ (fun K hK => ?_)
                           · rfl
                           go_simp
                           go_at_call 10
                           refine (twin_calls _ D _ (HDB.out.below hbb.out) HDL.out).mono ?_
                           rintro e w1 ⟨u1, rfl, ho, hb⟩
                           refine hK.out _ _ hb ?_
                           exact ho.byt
                          )
                    · -- 9: Op.call { value (Operand.func 22), args := #[t73, t78, t80],
                      intro w' hs
                      simp only [AllV, rdP, rgPut, Act.put, List.setIfInBounds_toArray, List.set_cons_zero, List.set_cons_succ]
                      obtain ⟨f0, hbb⟩ := hs
                      rintro v0 ⟨ys, hm, hl⟩ v1 h1 v2 h2
                      cases h1
                      refine OpOk.run ?_ (fun K hK => ?_)
                      · rfl
                      go_simp
                      go_at_call 22
                      refine (has_form _ ys L k _ D true _ hm.out HHAS.out hl h2 (HS.out.lisN hm.out) (by decide)).mono ?_
                      rintro e w1 ⟨rfl, hb⟩
                      refine hK.out _ _ hb ?_
                      exact rfl
                    · intro w' hs
                      simp only [AllV, rdP, isV, forall_eq, rgPut, Act.put, List.setIfInBounds_toArray, List.set_cons_zero, List.set_cons_succ]
                      clear hs
                      first
                        | (refine OpOk.off ?_ ?_ <;> rfl)
                        | (refine OpOk.run ?_ (fun K hK => ?_)
                           · rfl
                           go_simp
                           refine hK.out _ _ (Grows.refl _) ?_
                           exact rfl)
                  case hend =>
                    intro w' hs
                    simp only [AllV, rdP, rgPut, Act.put, List.setIfInBounds_toArray, List.set_cons_zero, List.set_cons_succ]
                    intro a0 b0 a1 b1 a2 b2 a3 b3 a4 b4 a5 b5 a6 b6 a7 b7 a8 b8 a9 b9 a10 b10
                    clear b0 b1 b2 b3 b4 b5 b6 b7 b8 b9
                    cases b10
                    obtain ⟨f0, hbb⟩ := hs
                    clear f0
                    go_wp2
                    go_roundw
                    case rel => exact ⟨i + 1, DB, hlt3, by go_num, by trivial, Lib.hid (by have := HNW.out; rw [decide_eq_true HKK.out] at this ⊢; simpa using this), hbb⟩
                    case measure => simp [intOf]; omega
                · have hke : (k == K) = false := by simp [hkk]
                  have HKK := Lib.hid hkk
                  clear hkk
                  go_wp2_with fail
                  have HBx := HBi
                  refine' wp_region_grows (by kernel_rfl) (fun w' => w'.cell? ⟨b, off + j * 2, none⟩ = some (.int .u8 k) ∧ Hid (Below w.heap.size w w')) [isV _, fun v w' => ∃ ys, Hid (ys.map LiV.li = L) ∧ Lis w' v ys, isV _, isV _, isV _, isV _, isV _, isV _, fun v w' => Byt w' v D, isV (.bool true), isV (.bool false)] 100 [[], [(0, some 72)], [], [], [(2, some 74), (3, some 75)], [(4, some 76)], [(5, some 77)], [], [(7, some 79)], [(1, some 73), (6, some 78), (8, some 80)], [(9, some 81)]] [(0, some 72), (1, some 73), (2, some 74), (3, some 75), (4, some 76), (5, some 77), (6, some 78), (7, some 79), (8, some 80), (9, some 81), (10, some 82)] rfl (by kernel_rfl) ⟨fun _ _ _ _ h => h, fun _ _ _ hg ⟨ys, h1, h2⟩ => ⟨ys, h1, Lis.below h2 hg⟩, fun _ _ _ _ h => h, fun _ _ _ _ h => h, fun _ _ _ _ h => h, fun _ _ _ _ h => h, fun _ _ _ _ h => h, fun _ _ _ _ h => h, fun _ _ _ hg h => Byt.below h hg, fun _ _ _ _ h => h, fun _ _ _ _ h => h, trivial⟩ (fun _ a a' _ e h => by cases a; cases a'; cases e; exact h) ?hS ?hsteps ?hend
                  case hS =>
                    intro w' hg
                    have hbz := Lib.hid (HBx.out.drew.trans (hg.mono HBx.out.size))
                    have cc : ∀ (p : Addr) (v : Value), w.cell? p = some v → w'.cell? p = some v := fun p v h => (Below.cell hbz.out (lt_of_cell h)).trans h
                    exact ⟨cc _ _ HC0.out, hbz⟩
                  case hsteps =>
                    refine ⟨?_, ?_, ?_, ?_, ?_, ?_, ?_, ?_, ?_, ?_, ?_, trivial⟩
                    · intro w' hs
                      simp only [AllV, rgPut]
                      clear hs
                      first
                        | (refine OpOk.off ?_ ?_ <;> rfl)
                        | (refine OpOk.run ?_ (fun K hK => ?_)
                           · rfl
                           go_simp
                           refine hK.out _ _ (Grows.refl _) ?_
                           exact rfl)
                    · intro w' hs
                      simp only [AllV, rdP, isV, forall_eq, rgPut, Act.put, List.setIfInBounds_toArray, List.set_cons_zero, List.set_cons_succ]
                      obtain ⟨f0, hbb⟩ := hs
                      first
                        | (refine OpOk.off ?_ ?_ <;> rfl)
                        | (refine OpOk.run ?_ (fun K hK => ?_)
                           · rfl
                           go_simp
                           go_at_call 17
                           refine (twins_formW _ xs L _ hL.out (HV.out.below hbb.out) HS.out).mono ?_
                           rintro e w1 ⟨a1, m1, c1, ys, rfl, hm, ho, hb⟩
                           refine hK.out _ _ hb ?_
                           exact ⟨_, hm, ho.out.lis⟩
                          )
                    · intro w' hs
                      simp only [AllV, rgPut]
                      clear hs
                      first
                        | (refine OpOk.off ?_ ?_ <;> rfl)
                        | (refine OpOk.run ?_ (fun K hK => ?_)
                           · rfl
                           go_simp
                           refine hK.out _ _ (Grows.refl _) ?_
                           exact rfl)
                    · intro w' hs
                      simp only [AllV, rgPut]
                      clear hs
                      first
                        | (refine OpOk.off ?_ ?_ <;> rfl)
                        | (refine OpOk.run ?_ (fun K hK => ?_)
                           · rfl
                           go_simp
                           refine hK.out _ _ (Grows.refl _) ?_
                           exact rfl)
                    · intro w' hs
                      simp only [AllV, rdP, isV, forall_eq, rgPut, Act.put, List.setIfInBounds_toArray, List.set_cons_zero, List.set_cons_succ]
                      clear hs
                      first
                        | (refine OpOk.off ?_ ?_ <;> rfl)
                        | (refine OpOk.run ?_ (fun K hK => ?_)
                           · rfl
                           go_simp
                           refine hK.out _ _ (Grows.refl _) ?_
                           exact rfl)
                    · intro w' hs
                      simp only [AllV, rdP, isV, forall_eq, rgPut, Act.put, List.setIfInBounds_toArray, List.set_cons_zero, List.set_cons_succ]
                      clear hs
                      first
                        | (refine OpOk.off ?_ ?_ <;> rfl)
                        | (refine OpOk.run ?_ (fun K hK => ?_)
                           · rfl
                           go_simp
                           refine hK.out _ _ (Grows.refl _) ?_
                           exact rfl)
                    · intro w' hs
                      simp only [AllV, rdP, isV, forall_eq, rgPut, Act.put, List.setIfInBounds_toArray, List.set_cons_zero, List.set_cons_succ]
                      obtain ⟨f0, hbb⟩ := hs
                      first
                        | (refine OpOk.off ?_ ?_ <;> rfl)
                        | (refine OpOk.run ?_ (fun K hK => ?_)
                           · rfl
                           go_simp
                           refine hK.out _ _ (Grows.refl _) ?_
                           exact rfl)
                    · intro w' hs
                      simp only [AllV, rgPut]
                      clear hs
                      first
                        | (refine OpOk.off ?_ ?_ <;> rfl)
                        | (refine OpOk.run ?_ (fun K hK => ?_)
                           · rfl
                           go_simp
                           refine hK.out _ _ (Grows.refl _) ?_
                           exact rfl)
                    · intro w' hs
                      simp only [AllV, rdP, isV, forall_eq, rgPut, Act.put, List.setIfInBounds_toArray, List.set_cons_zero, List.set_cons_succ]
                      obtain ⟨f0, hbb⟩ := hs
                      first
                        | (refine OpOk.off ?_ ?_ <;> rfl)
                        | (refine OpOk.run ?_ (fun K hK => ?_)
                           · rfl
                           go_simp
                           go_at_call 10
                           refine (twin_calls _ D _ (HDB.out.below hbb.out) HDL.out).mono ?_
                           rintro e w1 ⟨u1, rfl, ho, hb⟩
                           refine hK.out _ _ hb ?_
                           exact ho.byt
                          )
                    · -- 9: Op.call { value (Operand.func 22), args := #[t73, t78, t80],
                      intro w' hs
                      simp only [AllV, rdP, rgPut, Act.put, List.setIfInBounds_toArray, List.set_cons_zero, List.set_cons_succ]
                      obtain ⟨f0, hbb⟩ := hs
                      rintro v0 ⟨ys, hm, hl⟩ v1 h1 v2 h2
                      cases h1
                      refine OpOk.run ?_ (fun K hK => ?_)
                      · rfl
                      go_simp
                      go_at_call 22
                      refine (has_form _ ys L k _ D true _ hm.out HHAS.out hl h2 (HS.out.lisN hm.out) (by decide)).mono ?_
                      rintro e w1 ⟨rfl, hb⟩
                      refine hK.out _ _ hb ?_
                      exact rfl
                    · intro w' hs
                      simp only [AllV, rdP, isV, forall_eq, rgPut, Act.put, List.setIfInBounds_toArray, List.set_cons_zero, List.set_cons_succ]
                      clear hs
                      first
                        | (refine OpOk.off ?_ ?_ <;> rfl)
                        | (refine OpOk.run ?_ (fun K hK => ?_)
                           · rfl
                           go_simp
                           refine hK.out _ _ (Grows.refl _) ?_
                           exact rfl)
                  case hend =>
                    intro w' hs
                    simp only [AllV, rdP, rgPut, Act.put, List.setIfInBounds_toArray, List.set_cons_zero, List.set_cons_succ]
                    intro a0 b0 a1 b1 a2 b2 a3 b3 a4 b4 a5 b5 a6 b6 a7 b7 a8 b8 a9 b9 a10 b10
                    clear b0 b1 b2 b3 b4 b5 b6 b7 b8 b9
                    cases b10
                    obtain ⟨f0, hbb⟩ := hs
                    clear f0
                    go_wp2
                    go_roundw
                    case rel => exact ⟨i + 1, false, hlt3, by go_num, by trivial, Lib.hid (by have := HNW.out; rw [decide_eq_false HKK.out] at this ⊢; simpa using this), hbb⟩
                    case measure => simp [intOf]; omega
          · obtain rfl : i = n := by omega
            have hdl3 : decide ((i : Int) < (i : Int)) = false := by simp
            have HE : Hid (B = hasB (L.take (j + 1)) K data) := Lib.hid (by
              rw [has_stepL HXL.out, ← HW0.out, HW.out, hk.out]
              show (B0 || (decide (x.k = K) && hasI K data ((x.i.map ItV.it).take i))) = (B0 || (decide (x.k = K) && hasI K data (x.i.map ItV.it)))
              rw [List.take_of_length_le (by rw [List.length_map, HNI.out]; exact Nat.le_refl _)])
            go_wp2
            go_roundw
            case rel => exact ⟨j + 1, B, hlt, by go_num, by trivial, HE, HBi⟩
            case measure => simp [intOf]; omega
      · obtain rfl : j = N := by omega
        have hdl : decide ((j : Int) < (j : Int)) = false := by simp
        have HE : Hid (B0 = hasB L K data) := Lib.hid (by rw [HW0.out, List.take_of_length_le (by rw [← hL.out, List.length_map, hN.out]; exact Nat.le_refl _)])
        go_wp2_with fail
        refine (twins_formW _ xs L _ hL.out (HV.out.below HB.out) HS.out).mono ?_
        rintro e w1 ⟨a1, m1, c1, ys, rfl, hm, ho, hb⟩
        have HB1 := Lib.hid (HB.out.trans (hb.mono HB.out.size))
        clear hb
        go_wp2_with fail
        refine (twin_calls _ data _ (HQ.out.below HB1.out) (by have := HNQ.out; omega)).mono ?_
        rintro e w2 ⟨u2, rfl, ho2, hb⟩
        have HB2 := Lib.hid (HB1.out.trans (hb.mono HB1.out.size))
        have HY2 := Lib.hid (ho.out.below hb)
        have HD2 := Lib.hid ho2.byt
        clear hb ho2
        go_wp2_with fail
        refine (has_form _ ys L K _ data B0 _ hm.out HE.out HY2.out.lis HD2.out (HS.out.lisN hm.out) (by decide)).mono ?_
        rintro e w3 ⟨rfl, hb⟩
        have HB3 := Lib.hid (HB2.out.trans (hb.mono HB2.out.size))
        clear hb
        have hbb : (B0 == B0) = true := by simp
        go_wp2_with fail
        refine (has_form (.slice none 0 0) [] [] K _ data false _ rfl rfl (Lis.nil _) (HQ.out.below HB3.out) (n := 0) ⟨Nat.le_refl _, fun x hx => by simp at hx⟩ (by decide)).mono ?_
        rintro e w4 ⟨rfl, hb⟩
        have HB4 := Lib.hid (HB3.out.trans (hb.mono HB3.out.size))
        clear hb
        go_wp2_with fail
        refine (works_calls _).mono ?_
        rintro e w5 ⟨rfl, hb⟩
        have HB5 := Lib.hid (HB4.out.trans (hb.mono HB4.out.size))
        clear hb
        go_wp2
        go_ret
        exact ⟨rfl, HB5.out⟩
end Go.Proofs.Ytilanncobbdlfaa
