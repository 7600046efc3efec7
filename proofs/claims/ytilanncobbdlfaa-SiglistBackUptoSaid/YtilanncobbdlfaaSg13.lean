/-
  The contract of the document's Write.
-/
import Derived.Test.YtilanncobbdlfaaSg12
namespace Go.Proofs.Ytilanncobbdlfaa
open Go Go.RowKit
set_option linter.unusedVariables false

theorem liW_length {x : LiV} (h : riB x.li = true) (hl : ∀ y ∈ x.i, y.o.length = 16) : (liW x.li).length ≤ 28 + x.i.length * 8208 := by
  have h1 := riB_all h
  have h2 := nmL_length_le x.k
  have h3 : (bodyL x.li.i).length = x.li.i.length * (16 + szL x.li) := bodyL_length _ _ (fun y hy => by
    obtain ⟨z, hz, rfl⟩ := List.mem_map.1 hy
    have e := (h1 z hz).2
    have e2 := hl z hz
    show z.o.length + z.d.length = _
    omega)
  have h4 : x.li.i.length = x.i.length := List.length_map _
  have h5 : szL x.li ≤ 8192 := by
    have hp := riB_pos h
    have := h1 x.i[0] (List.getElem_mem hp)
    have := (mayB_bd _ _ this.1).2.2
    omega
  have h6 : x.i.length * (16 + szL x.li) ≤ x.i.length * 8208 := Nat.mul_le_mul (Nat.le_refl _) (by omega)
  rw [h4] at h3
  unfold liW
  rw [List.length_append, List.length_append, List.length_append, List.length_append, lowN_length, lowN_length, lowN_length, h3]
  have h7 : (nmL x.li.k).length ≤ 16 := h2
  omega
theorem ri_nil {x : LiV} (h : x.i.length = 0) : riB x.li = false := by
  cases e : riB x.li with
  | false => rfl
  | true => have := riB_pos e; omega

set_option maxRecDepth 100000 in
set_option maxHeartbeats 4000000 in
theorem refWriteL_calls (v : Value) (xs : List LiV) (w : World) (hv : Lis w v xs) (hn : xs.length ≤ 1000000) (hi : ∀ x ∈ xs, x.i.length ≤ 1000000) (hd : ∀ x ∈ xs, ∀ y ∈ x.i, y.d.length ≤ 1000000) :
    Calls Try.prog 24 #[v] w (WrRes (xs.map LiV.li) w) := by
  have HV := Lib.hid hv
  have HI := Lib.hid hi
  have HD := Lib.hid hd
  obtain ⟨a, cap, rfl, h1, h2⟩ := hv.open
  clear hv hi hd
  obtain ⟨N, hN⟩ : ∃ n, Hid (n = xs.length) := ⟨_, Lib.hid rfl⟩
  rw [← hN.out] at HV h1 hn ⊢
  obtain ⟨ls, hls⟩ : ∃ l, Hid (l = xs.map LiV.li) := ⟨_, Lib.hid rfl⟩
  rw [← hls.out]
  have HAT : Hid (∀ (j : Nat) (x : LiV), xs[j]? = some x → ls[j]? = some x.li) := Lib.hid (fun j x h => by rw [hls.out]; exact li_at h)
  go_enter Try.func24, Try.ntmps24
  go_wp2
  go_loopw [4] (fun j_ wr => ∃ j : Nat, j ≤ N ∧ j_ = .int .i64 j ∧ Hid (∀ r x, r < j → xs[r]? = some x → riB x.li = true) ∧ Hid (Below w.heap.size w wr)) (fun j_ _ => N - (intOf j_).toNat)
  case atStart => exact ⟨0, Nat.zero_le _, rfl, Lib.hid (fun r x hr => absurd hr (Nat.not_lt_zero _)), Lib.hid (Below.refl _ _)⟩
  case round =>
    obtain ⟨j, hj, rfl, hgood, HB⟩ := hrel
    obtain ⟨wo, hwo⟩ : ∃ wo : World, wo = wr := ⟨_, rfl⟩
    subst hwo
    by_cases hlt : j < N
    · obtain ⟨b, off, x, ia, n, ic, hx, ha, hrow, hxv, hm, hmc, hc, hits⟩ := HV.out.item j (by rw [← hN.out]; exact hlt)
      subst ha
      have hdl : decide ((j : Int) < (N : Int)) = true := by simp; omega
      have HX := Lib.hid hx
      have HMEM := Lib.hid (List.mem_of_getElem? hx)
      have HC1 : Hid (w.cell? ⟨b, off + j * 2, none⟩ = some (.int .u8 x.k)) := Lib.hid (hrow 0 _ rfl)
      have HC2 : Hid (w.cell? ⟨b, off + j * 2 + 1, none⟩ = some (.slice ia n ic)) := Lib.hid (hrow 1 _ rfl)
      have HITS := Lib.hid hits
      have HNI := Lib.hid hm
      obtain ⟨k, hk⟩ : ∃ k, Hid (k = x.k) := ⟨_, Lib.hid rfl⟩
      rw [← hk.out] at HC1
      have q2 := (HB.out.cell (p := ⟨b, off + j * 2 + 1, none⟩) (lt_of_cell HC2.out)).trans HC2.out
      by_cases hn0 : 0 < n
      · have hne0 : ((n : Int) == 0) = false := by simp; omega
        clear hrow hx hxv hm hits
        obtain ⟨ib, io, y0, s0, m0, c0, hy0, hia, hr0, hv0, hm0, hmc0, hc0, _, hol0, _, _⟩ := HITS.out.item 0 (by rw [← HNI.out]; exact hn0)
        subst hia
        have HI16 : Hid (w.cell? ⟨ib, io + 16, none⟩ = some (.slice s0 m0 c0)) := Lib.hid (by
          have := hr0 16 _ (itC_at16 y0 hol0)
          rw [hv0, show io + 0 * 17 + 16 = io + 16 by omega] at this
          exact this)
        obtain ⟨Z, hZ⟩ : ∃ z, Hid (z = szL x.li) := ⟨_, Lib.hid rfl⟩
        have HZ0 : Hid (Z = m0) := Lib.hid (by rw [hZ.out, hm0]; exact szL_of x.k x.i y0 hy0)
        clear hr0 hv0 hm0 hy0 hol0
        go_wp2
        clear q2
        go_loopw [5] (fun i_ wr => ∃ i : Nat, i ≤ n ∧ i_ = .int .i64 i ∧ Hid (∀ r y, r < i → x.i[r]? = some y → (mayB k y.d && decide (y.d.length = Z)) = true) ∧ Hid (Below w.heap.size w wr)) (fun i_ _ => n - (intOf i_).toNat)
        case atStart => exact ⟨0, Nat.zero_le _, rfl, Lib.hid (fun r y hr => absurd hr (Nat.not_lt_zero _)), HB⟩
        case round =>
          obtain ⟨i, hi, rfl, hgi, HBi⟩ := hrel
          obtain ⟨wi, hwi⟩ : ∃ wi : World, wi = wr := ⟨_, rfl⟩
          subst hwi
          have q2 := (HBi.out.cell (p := ⟨b, off + j * 2 + 1, none⟩) (lt_of_cell HC2.out)).trans HC2.out
          by_cases hlt3 : i < n
          · obtain ⟨b4, off4, y, s, m, c, hy, hia, hry, hyv, hym, hymc, hyc, hyb, hyl, hyC, hy1⟩ := HITS.out.item i (by rw [← HNI.out]; exact hlt3)
            cases hia
            have hdl3 : decide ((i : Int) < (n : Int)) = true := by simp; omega
            have HXE := Lib.hid hy
            have HMD := Lib.hid hym
            have HXB : Hid (Byt w (.slice s m c) y.d) := Lib.hid (by rw [← hyv]; exact hyb)
            have HC3 : Hid (w.cell? ⟨ib, io + i * 17 + 16, none⟩ = some (.slice s m c)) := Lib.hid (by
              have := hry 16 _ (itC_at16 y hyl)
              rw [hyv] at this
              exact this)
            have HMAY := Lib.hid (fun W (h : Byt W (.slice s m c) y.d) => refMay_calls k _ y.d W h (by have := HD.out x HMEM.out y (List.mem_of_getElem? hy); omega))
            obtain ⟨MB, hMB⟩ : ∃ B, Hid (B = mayB k y.d) := ⟨_, Lib.hid rfl⟩
            rw [← hMB.out] at HMAY
            clear hry hy hyv hyb hyC hy1 hym hyl
            have HBAD : Hid ((mayB k y.d && decide (y.d.length = Z)) = false → wrR ls = [] ∧ wrE ls = 1) := Lib.hid (fun h => wr_bad (HAT.out j x HX.out) (ri_bad x.k x.i y i HXE.out (by rw [← hk.out]; rw [hZ.out] at h; exact h)))
            go_wp2
            clear q2
            cases MB with
            | false =>
              have HW := Lib.hid (HBAD.out (by rw [← hMB.out]; rfl))
              refine' wp_region_grows (by kernel_rfl) (fun w' => w'.cell? ⟨b, off + j * 2, none⟩ = some (.int .u8 k) ∧ w'.cell? ⟨b, off + j * 2 + 1, none⟩ = some (.slice (some ⟨ib, io, none⟩) n ic) ∧ w'.cell? ⟨ib, io + i * 17 + 16, none⟩ = some (.slice s m c) ∧ w'.cell? ⟨ib, io + 16, none⟩ = some (.slice s0 m0 c0) ∧ Hid (Below w.heap.size w w')) [isV _, isV _, isV _, isV _, isV _, isV _, isV _, isV _, isV _, isV _, isV _, isV _, isV _, isV _, isV _, isV _, isV _, isV _, isV _, isV _, isV _, isV _, isV _, isV _, isV _, isV _, isV _, isV _, isV _, isV _, isV _, isV _, isV _, isV _, isV _, isV _, isV _, isV _] 86 [[], [], [(0, some 31), (1, some 32)], [(2, some 33)], [(3, some 34)], [], [], [(5, some 36), (6, some 37)], [(7, some 38)], [(8, some 39)], [], [(9, some 40), (10, some 41)], [(11, some 42)], [(12, some 43)], [(4, some 35), (13, some 44)], [(14, some 45)], [(15, some 46)], [(16, some 47)], [(16, some 47)], [(17, some 48), (18, some 49), (16, some 47)], [(19, some 50), (16, some 47)], [(20, some 51), (16, some 47)], [(16, some 47)], [(21, some 52), (22, some 53), (16, some 47)], [(23, some 54), (16, some 47)], [(24, some 55), (16, some 47)], [(25, some 56), (16, some 47)], [(16, some 47)], [(16, some 47)], [(27, some 58), (28, some 59), (16, some 47)], [(29, some 60), (16, some 47)], [(30, some 61), (16, some 47)], [(31, some 62), (16, some 47)], [(32, some 63), (16, some 47)], [(33, some 64), (16, some 47)], [(34, some 65), (16, some 47)], [(26, some 57), (35, some 66), (16, some 47)], [(16, some 47), (36, some 67)]] [(0, some 31), (1, some 32), (2, some 33), (3, some 34), (4, some 35), (5, some 36), (6, some 37), (7, some 38), (8, some 39), (9, some 40), (10, some 41), (11, some 42), (12, some 43), (13, some 44), (14, some 45), (15, some 46), (16, some 47), (17, some 48), (18, some 49), (19, some 50), (20, some 51), (21, some 52), (22, some 53), (23, some 54), (24, some 55), (25, some 56), (26, some 57), (27, some 58), (28, some 59), (29, some 60), (30, some 61), (31, some 62), (32, some 63), (33, some 64), (34, some 65), (35, some 66), (36, some 67), (37, some 68)] rfl (by kernel_rfl) ⟨fun _ _ _ _ h => h, fun _ _ _ _ h => h, fun _ _ _ _ h => h, fun _ _ _ _ h => h, fun _ _ _ _ h => h, fun _ _ _ _ h => h, fun _ _ _ _ h => h, fun _ _ _ _ h => h, fun _ _ _ _ h => h, fun _ _ _ _ h => h, fun _ _ _ _ h => h, fun _ _ _ _ h => h, fun _ _ _ _ h => h, fun _ _ _ _ h => h, fun _ _ _ _ h => h, fun _ _ _ _ h => h, fun _ _ _ _ h => h, fun _ _ _ _ h => h, fun _ _ _ _ h => h, fun _ _ _ _ h => h, fun _ _ _ _ h => h, fun _ _ _ _ h => h, fun _ _ _ _ h => h, fun _ _ _ _ h => h, fun _ _ _ _ h => h, fun _ _ _ _ h => h, fun _ _ _ _ h => h, fun _ _ _ _ h => h, fun _ _ _ _ h => h, fun _ _ _ _ h => h, fun _ _ _ _ h => h, fun _ _ _ _ h => h, fun _ _ _ _ h => h, fun _ _ _ _ h => h, fun _ _ _ _ h => h, fun _ _ _ _ h => h, fun _ _ _ _ h => h, fun _ _ _ _ h => h, trivial⟩ (fun _ a a' _ e h => by cases a; cases a'; cases e; exact h) ?hS ?hsteps ?hend
              case hS =>
                intro w' hg
                have hbz := Lib.hid (HBi.out.drew.trans (hg.mono HBi.out.size))
                have cc : ∀ (p : Addr) (v : Value), w.cell? p = some v → w'.cell? p = some v := fun p v h => (Below.cell hbz.out (lt_of_cell h)).trans h
                exact ⟨cc _ _ HC1.out, cc _ _ HC2.out, cc _ _ HC3.out, cc _ _ HI16.out, hbz⟩
              case hsteps =>
                refine ⟨?_, ?_, ?_, ?_, ?_, ?_, ?_, ?_, ?_, ?_, ?_, ?_, ?_, ?_, ?_, ?_, ?_, ?_, ?_, ?_, ?_, ?_, ?_, ?_, ?_, ?_, ?_, ?_, ?_, ?_, ?_, ?_, ?_, ?_, ?_, ?_, ?_, ?_, trivial⟩
                · intro w' hs
                  simp only [AllV, rgPut]
                  clear hs
                  first
                    | (refine OpOk.off ?_ ?_ <;> rfl)
                    | (refine OpOk.run ?_ (fun K hK => ?_)
                       · rfl
                       go_simp
                       refine hK.out _ _ (Grows.refl _) ?_
                       exact rfl)
                · intro w' hs
                  simp only [AllV, rgPut]
                  clear hs
                  first
                    | (refine OpOk.off ?_ ?_ <;> rfl)
                    | (refine OpOk.run ?_ (fun K hK => ?_)
                       · rfl
                       go_simp
                       refine hK.out _ _ (Grows.refl _) ?_
                       exact rfl)
                · intro w' hs
                  simp only [AllV, rdP, isV, forall_eq, rgPut, Act.put, List.setIfInBounds_toArray, List.set_cons_zero, List.set_cons_succ]
                  clear hs
                  first
                    | (refine OpOk.off ?_ ?_ <;> rfl)
                    | (refine OpOk.run ?_ (fun K hK => ?_)
                       · rfl
                       go_simp
                       refine hK.out _ _ (Grows.refl _) ?_
                       exact rfl)
                · intro w' hs
                  simp only [AllV, rdP, isV, forall_eq, rgPut, Act.put, List.setIfInBounds_toArray, List.set_cons_zero, List.set_cons_succ]
                  clear hs
                  first
                    | (refine OpOk.off ?_ ?_ <;> rfl)
                    | (refine OpOk.run ?_ (fun K hK => ?_)
                       · rfl
                       go_simp
                       refine hK.out _ _ (Grows.refl _) ?_
                       exact rfl)
                · intro w' hs
                  simp only [AllV, rdP, isV, forall_eq, rgPut, Act.put, List.setIfInBounds_toArray, List.set_cons_zero, List.set_cons_succ]
                  obtain ⟨f0, f1, f2, f3, hbb⟩ := hs
                  first
                    | (refine OpOk.off ?_ ?_ <;> rfl)
                    | (refine OpOk.run ?_ (fun K hK => ?_)
                       · rfl
                       go_simp
                       refine hK.out _ _ (Grows.refl _) ?_
                       exact rfl)
                · intro w' hs
                  simp only [AllV, rgPut]
                  clear hs
                  first
                    | (refine OpOk.off ?_ ?_ <;> rfl)
                    | (refine OpOk.run ?_ (fun K hK => ?_)
                       · rfl
                       go_simp
                       refine hK.out _ _ (Grows.refl _) ?_
                       exact rfl)
                · intro w' hs
                  simp only [AllV, rgPut]
                  clear hs
                  first
                    | (refine OpOk.off ?_ ?_ <;> rfl)
                    | (refine OpOk.run ?_ (fun K hK => ?_)
                       · rfl
                       go_simp
                       refine hK.out _ _ (Grows.refl _) ?_
                       exact rfl)
                · intro w' hs
                  simp only [AllV, rdP, isV, forall_eq, rgPut, Act.put, List.setIfInBounds_toArray, List.set_cons_zero, List.set_cons_succ]
                  clear hs
                  first
                    | (refine OpOk.off ?_ ?_ <;> rfl)
                    | (refine OpOk.run ?_ (fun K hK => ?_)
                       · rfl
                       go_simp
                       refine hK.out _ _ (Grows.refl _) ?_
                       exact rfl)
                · intro w' hs
                  simp only [AllV, rdP, isV, forall_eq, rgPut, Act.put, List.setIfInBounds_toArray, List.set_cons_zero, List.set_cons_succ]
                  clear hs
                  first
                    | (refine OpOk.off ?_ ?_ <;> rfl)
                    | (refine OpOk.run ?_ (fun K hK => ?_)
                       · rfl
                       go_simp
                       refine hK.out _ _ (Grows.refl _) ?_
                       exact rfl)
                · intro w' hs
                  simp only [AllV, rdP, isV, forall_eq, rgPut, Act.put, List.setIfInBounds_toArray, List.set_cons_zero, List.set_cons_succ]
                  obtain ⟨f0, f1, f2, f3, hbb⟩ := hs
                  first
                    | (refine OpOk.off ?_ ?_ <;> rfl)
                    | (refine OpOk.run ?_ (fun K hK => ?_)
                       · rfl
                       go_simp
                       refine hK.out _ _ (Grows.refl _) ?_
                       exact rfl)
                · intro w' hs
                  simp only [AllV, rgPut]
                  clear hs
                  first
                    | (refine OpOk.off ?_ ?_ <;> rfl)
                    | (refine OpOk.run ?_ (fun K hK => ?_)
                       · rfl
                       go_simp
                       refine hK.out _ _ (Grows.refl _) ?_
                       exact rfl)
                · intro w' hs
                  simp only [AllV, rdP, isV, forall_eq, rgPut, Act.put, List.setIfInBounds_toArray, List.set_cons_zero, List.set_cons_succ]
                  clear hs
                  first
                    | (refine OpOk.off ?_ ?_ <;> rfl)
                    | (refine OpOk.run ?_ (fun K hK => ?_)
                       · rfl
                       go_simp
                       refine hK.out _ _ (Grows.refl _) ?_
                       exact rfl)
                · intro w' hs
                  simp only [AllV, rdP, isV, forall_eq, rgPut, Act.put, List.setIfInBounds_toArray, List.set_cons_zero, List.set_cons_succ]
                  clear hs
                  first
                    | (refine OpOk.off ?_ ?_ <;> rfl)
                    | (refine OpOk.run ?_ (fun K hK => ?_)
                       · rfl
                       go_simp
                       refine hK.out _ _ (Grows.refl _) ?_
                       exact rfl)
                · intro w' hs
                  simp only [AllV, rdP, isV, forall_eq, rgPut, Act.put, List.setIfInBounds_toArray, List.set_cons_zero, List.set_cons_succ]
                  obtain ⟨f0, f1, f2, f3, hbb⟩ := hs
                  first
                    | (refine OpOk.off ?_ ?_ <;> rfl)
                    | (refine OpOk.run ?_ (fun K hK => ?_)
                       · rfl
                       go_simp
                       refine hK.out _ _ (Grows.refl _) ?_
                       exact rfl)
                · intro w' hs
                  simp only [AllV, rdP, isV, forall_eq, rgPut, Act.put, List.setIfInBounds_toArray, List.set_cons_zero, List.set_cons_succ]
                  obtain ⟨f0, f1, f2, f3, hbb⟩ := hs
                  first
                    | (refine OpOk.off ?_ ?_ <;> rfl)
                    | (refine OpOk.run ?_ (fun K hK => ?_)
                       · rfl
                       go_simp
                       go_at_call 35
                       refine (HMAY.out _ (HXB.out.below hbb.out)).mono ?_
                       rintro e w1 ⟨rfl, hb⟩
                       refine hK.out _ _ hb ?_
                       exact rfl
                      )
                · intro w' hs
                  simp only [AllV, rdP, isV, forall_eq, rgPut, Act.put, List.setIfInBounds_toArray, List.set_cons_zero, List.set_cons_succ]
                  clear hs
                  first
                    | (refine OpOk.off ?_ ?_ <;> rfl)
                    | (refine OpOk.run ?_ (fun K hK => ?_)
                       · rfl
                       go_simp
                       refine hK.out _ _ (Grows.refl _) ?_
                       exact rfl)
                · intro w' hs
                  simp only [AllV, rdP, isV, forall_eq, rgPut, Act.put, List.setIfInBounds_toArray, List.set_cons_zero, List.set_cons_succ]
                  clear hs
                  first
                    | (refine OpOk.off ?_ ?_ <;> rfl)
                    | (refine OpOk.run ?_ (fun K hK => ?_)
                       · rfl
                       go_simp
                       refine hK.out _ _ (Grows.refl _) ?_
                       exact rfl)
                · intro w' hs
                  simp only [AllV, rdP, isV, forall_eq, rgPut, Act.put, List.setIfInBounds_toArray, List.set_cons_zero, List.set_cons_succ]
                  clear hs
                  first
                    | (refine OpOk.off ?_ ?_ <;> rfl)
                    | (refine OpOk.run ?_ (fun K hK => ?_)
                       · rfl
                       go_simp
                       refine hK.out _ _ (Grows.refl _) ?_
                       exact rfl)
                · intro w' hs
                  simp only [AllV, rdP, isV, forall_eq, rgPut, Act.put, List.setIfInBounds_toArray, List.set_cons_zero, List.set_cons_succ]
                  clear hs
                  first
                    | (refine OpOk.off ?_ ?_ <;> rfl)
                    | (refine OpOk.run ?_ (fun K hK => ?_)
                       · rfl
                       go_simp
                       refine hK.out _ _ (Grows.refl _) ?_
                       exact rfl)
                · intro w' hs
                  simp only [AllV, rdP, isV, forall_eq, rgPut, Act.put, List.setIfInBounds_toArray, List.set_cons_zero, List.set_cons_succ]
                  clear hs
                  first
                    | (refine OpOk.off ?_ ?_ <;> rfl)
                    | (refine OpOk.run ?_ (fun K hK => ?_)
                       · rfl
                       go_simp
                       refine hK.out _ _ (Grows.refl _) ?_
                       exact rfl)
                · intro w' hs
                  simp only [AllV, rdP, isV, forall_eq, rgPut, Act.put, List.setIfInBounds_toArray, List.set_cons_zero, List.set_cons_succ]
                  clear hs
                  first
                    | (refine OpOk.off ?_ ?_ <;> rfl)
                    | (refine OpOk.run ?_ (fun K hK => ?_)
                       · rfl
                       go_simp
                       refine hK.out _ _ (Grows.refl _) ?_
                       exact rfl)
                · intro w' hs
                  simp only [AllV, rdP, isV, forall_eq, rgPut, Act.put, List.setIfInBounds_toArray, List.set_cons_zero, List.set_cons_succ]
                  obtain ⟨f0, f1, f2, f3, hbb⟩ := hs
                  first
                    | (refine OpOk.off ?_ ?_ <;> rfl)
                    | (refine OpOk.run ?_ (fun K hK => ?_)
                       · rfl
                       go_simp
                       refine hK.out _ _ (Grows.refl _) ?_
                       exact rfl)
                · intro w' hs
                  simp only [AllV, rdP, isV, forall_eq, rgPut, Act.put, List.setIfInBounds_toArray, List.set_cons_zero, List.set_cons_succ]
                  clear hs
                  first
                    | (refine OpOk.off ?_ ?_ <;> rfl)
                    | (refine OpOk.run ?_ (fun K hK => ?_)
                       · rfl
                       go_simp
                       refine hK.out _ _ (Grows.refl _) ?_
                       exact rfl)
                · intro w' hs
                  simp only [AllV, rdP, isV, forall_eq, rgPut, Act.put, List.setIfInBounds_toArray, List.set_cons_zero, List.set_cons_succ]
                  clear hs
                  first
                    | (refine OpOk.off ?_ ?_ <;> rfl)
                    | (refine OpOk.run ?_ (fun K hK => ?_)
                       · rfl
                       go_simp
                       refine hK.out _ _ (Grows.refl _) ?_
                       exact rfl)
                · intro w' hs
                  simp only [AllV, rdP, isV, forall_eq, rgPut, Act.put, List.setIfInBounds_toArray, List.set_cons_zero, List.set_cons_succ]
                  clear hs
                  first
                    | (refine OpOk.off ?_ ?_ <;> rfl)
                    | (refine OpOk.run ?_ (fun K hK => ?_)
                       · rfl
                       go_simp
                       refine hK.out _ _ (Grows.refl _) ?_
                       exact rfl)
                · intro w' hs
                  simp only [AllV, rdP, isV, forall_eq, rgPut, Act.put, List.setIfInBounds_toArray, List.set_cons_zero, List.set_cons_succ]
                  obtain ⟨f0, f1, f2, f3, hbb⟩ := hs
                  first
                    | (refine OpOk.off ?_ ?_ <;> rfl)
                    | (refine OpOk.run ?_ (fun K hK => ?_)
                       · rfl
                       go_simp
                       refine hK.out _ _ (Grows.refl _) ?_
                       exact rfl)
                · intro w' hs
                  simp only [AllV, rdP, isV, forall_eq, rgPut, Act.put, List.setIfInBounds_toArray, List.set_cons_zero, List.set_cons_succ]
                  obtain ⟨f0, f1, f2, f3, hbb⟩ := hs
                  first
                    | (refine OpOk.off ?_ ?_ <;> rfl)
                    | (refine OpOk.run ?_ (fun K hK => ?_)
                       · rfl
                       go_simp
                       refine hK.out _ _ (Grows.refl _) ?_
                       exact rfl)
                · intro w' hs
                  simp only [AllV, rdP, isV, forall_eq, rgPut, Act.put, List.setIfInBounds_toArray, List.set_cons_zero, List.set_cons_succ]
                  clear hs
                  first
                    | (refine OpOk.off ?_ ?_ <;> rfl)
                    | (refine OpOk.run ?_ (fun K hK => ?_)
                       · rfl
                       go_simp
                       refine hK.out _ _ (Grows.refl _) ?_
                       exact rfl)
                · intro w' hs
                  simp only [AllV, rdP, isV, forall_eq, rgPut, Act.put, List.setIfInBounds_toArray, List.set_cons_zero, List.set_cons_succ]
                  clear hs
                  first
                    | (refine OpOk.off ?_ ?_ <;> rfl)
                    | (refine OpOk.run ?_ (fun K hK => ?_)
                       · rfl
                       go_simp
                       refine hK.out _ _ (Grows.refl _) ?_
                       exact rfl)
                · intro w' hs
                  simp only [AllV, rdP, isV, forall_eq, rgPut, Act.put, List.setIfInBounds_toArray, List.set_cons_zero, List.set_cons_succ]
                  clear hs
                  first
                    | (refine OpOk.off ?_ ?_ <;> rfl)
                    | (refine OpOk.run ?_ (fun K hK => ?_)
                       · rfl
                       go_simp
                       refine hK.out _ _ (Grows.refl _) ?_
                       exact rfl)
                · intro w' hs
                  simp only [AllV, rdP, isV, forall_eq, rgPut, Act.put, List.setIfInBounds_toArray, List.set_cons_zero, List.set_cons_succ]
                  clear hs
                  first
                    | (refine OpOk.off ?_ ?_ <;> rfl)
                    | (refine OpOk.run ?_ (fun K hK => ?_)
                       · rfl
                       go_simp
                       refine hK.out _ _ (Grows.refl _) ?_
                       exact rfl)
                · intro w' hs
                  simp only [AllV, rdP, isV, forall_eq, rgPut, Act.put, List.setIfInBounds_toArray, List.set_cons_zero, List.set_cons_succ]
                  obtain ⟨f0, f1, f2, f3, hbb⟩ := hs
                  first
                    | (refine OpOk.off ?_ ?_ <;> rfl)
                    | (refine OpOk.run ?_ (fun K hK => ?_)
                       · rfl
                       go_simp
                       refine hK.out _ _ (Grows.refl _) ?_
                       exact rfl)
                · intro w' hs
                  simp only [AllV, rdP, isV, forall_eq, rgPut, Act.put, List.setIfInBounds_toArray, List.set_cons_zero, List.set_cons_succ]
                  clear hs
                  first
                    | (refine OpOk.off ?_ ?_ <;> rfl)
                    | (refine OpOk.run ?_ (fun K hK => ?_)
                       · rfl
                       go_simp
                       refine hK.out _ _ (Grows.refl _) ?_
                       exact rfl)
                · intro w' hs
                  simp only [AllV, rdP, isV, forall_eq, rgPut, Act.put, List.setIfInBounds_toArray, List.set_cons_zero, List.set_cons_succ]
                  clear hs
                  first
                    | (refine OpOk.off ?_ ?_ <;> rfl)
                    | (refine OpOk.run ?_ (fun K hK => ?_)
                       · rfl
                       go_simp
                       refine hK.out _ _ (Grows.refl _) ?_
                       exact rfl)
                · intro w' hs
                  simp only [AllV, rdP, isV, forall_eq, rgPut, Act.put, List.setIfInBounds_toArray, List.set_cons_zero, List.set_cons_succ]
                  obtain ⟨f0, f1, f2, f3, hbb⟩ := hs
                  first
                    | (refine OpOk.off ?_ ?_ <;> rfl)
                    | (refine OpOk.run ?_ (fun K hK => ?_)
                       · rfl
                       go_simp
                       refine hK.out _ _ (Grows.refl _) ?_
                       exact rfl)
                · intro w' hs
                  simp only [AllV, rdP, isV, forall_eq, rgPut, Act.put, List.setIfInBounds_toArray, List.set_cons_zero, List.set_cons_succ]
                  obtain ⟨f0, f1, f2, f3, hbb⟩ := hs
                  first
                    | (refine OpOk.off ?_ ?_ <;> rfl)
                    | (refine OpOk.run ?_ (fun K hK => ?_)
                       · rfl
                       go_simp
                       refine hK.out _ _ (Grows.refl _) ?_
                       exact rfl)
                · intro w' hs
                  simp only [AllV, rdP, isV, forall_eq, rgPut, Act.put, List.setIfInBounds_toArray, List.set_cons_zero, List.set_cons_succ]
                  clear hs
                  first
                    | (refine OpOk.off ?_ ?_ <;> rfl)
                    | (refine OpOk.run ?_ (fun K hK => ?_)
                       · rfl
                       go_simp
                       refine hK.out _ _ (Grows.refl _) ?_
                       exact rfl)
                · intro w' hs
                  simp only [AllV, rdP, isV, forall_eq, rgPut, Act.put, List.setIfInBounds_toArray, List.set_cons_zero, List.set_cons_succ]
                  clear hs
                  first
                    | (refine OpOk.off ?_ ?_ <;> rfl)
                    | (refine OpOk.run ?_ (fun K hK => ?_)
                       · rfl
                       go_simp
                       refine hK.out _ _ (Grows.refl _) ?_
                       exact rfl)
              case hend =>
                intro w' hs
                simp only [AllV, rdP, isV, forall_eq, rgPut, Act.put, List.setIfInBounds_toArray, List.set_cons_zero, List.set_cons_succ]
                obtain ⟨f0, f1, f2, f3, hbb⟩ := hs
                clear f0 f1 f2 f3
                go_wp2
                go_ret2
                unfold WrRes
                rw [HW.out.1, HW.out.2]
                exact ⟨_, _, _, rfl, OwnB.empty _ _ _, hbb.out⟩
            | true =>
              by_cases hml : m = m0
              · have HG2 : Hid (∀ r z, r < i + 1 → x.i[r]? = some z → (mayB k z.d && decide (z.d.length = Z)) = true) := Lib.hid (fun r z hr hz => by
                  by_cases e : r = i
                  · subst e
                    rw [HXE.out] at hz
                    cases hz
                    rw [← hMB.out, Bool.true_and]
                    exact decide_eq_true (by rw [HZ0.out, ← hml]; exact HMD.out.symm)
                  · exact hgi.out r z (by omega) hz)
                have hne : ((m : Int) != (m0 : Int)) = false := by simp; omega
                have HJ : Hid (i + 1 ≤ n) := Lib.hid hlt3
                clear hml
                refine' wp_region_grows (by kernel_rfl) (fun w' => w'.cell? ⟨b, off + j * 2, none⟩ = some (.int .u8 k) ∧ w'.cell? ⟨b, off + j * 2 + 1, none⟩ = some (.slice (some ⟨ib, io, none⟩) n ic) ∧ w'.cell? ⟨ib, io + i * 17 + 16, none⟩ = some (.slice s m c) ∧ w'.cell? ⟨ib, io + 16, none⟩ = some (.slice s0 m0 c0) ∧ Hid (Below w.heap.size w w')) [isV _, isV _, isV _, isV _, isV _, isV _, isV _, isV _, isV _, isV _, isV _, isV _, isV _, isV _, isV _, isV _, isV _, isV _, isV _, isV _, isV _, isV _, isV _, isV _, isV _, isV _, isV _, isV _, isV _, isV _, isV _, isV _, isV _, isV _, isV _, isV _, isV _, isV _] 86 [[], [], [(0, some 31), (1, some 32)], [(2, some 33)], [(3, some 34)], [], [], [(5, some 36), (6, some 37)], [(7, some 38)], [(8, some 39)], [], [(9, some 40), (10, some 41)], [(11, some 42)], [(12, some 43)], [(4, some 35), (13, some 44)], [(14, some 45)], [(15, some 46)], [(16, some 47)], [(16, some 47)], [(17, some 48), (18, some 49), (16, some 47)], [(19, some 50), (16, some 47)], [(20, some 51), (16, some 47)], [(16, some 47)], [(21, some 52), (22, some 53), (16, some 47)], [(23, some 54), (16, some 47)], [(24, some 55), (16, some 47)], [(25, some 56), (16, some 47)], [(16, some 47)], [(16, some 47)], [(27, some 58), (28, some 59), (16, some 47)], [(29, some 60), (16, some 47)], [(30, some 61), (16, some 47)], [(31, some 62), (16, some 47)], [(32, some 63), (16, some 47)], [(33, some 64), (16, some 47)], [(34, some 65), (16, some 47)], [(26, some 57), (35, some 66), (16, some 47)], [(16, some 47), (36, some 67)]] [(0, some 31), (1, some 32), (2, some 33), (3, some 34), (4, some 35), (5, some 36), (6, some 37), (7, some 38), (8, some 39), (9, some 40), (10, some 41), (11, some 42), (12, some 43), (13, some 44), (14, some 45), (15, some 46), (16, some 47), (17, some 48), (18, some 49), (19, some 50), (20, some 51), (21, some 52), (22, some 53), (23, some 54), (24, some 55), (25, some 56), (26, some 57), (27, some 58), (28, some 59), (29, some 60), (30, some 61), (31, some 62), (32, some 63), (33, some 64), (34, some 65), (35, some 66), (36, some 67), (37, some 68)] rfl (by kernel_rfl) ⟨fun _ _ _ _ h => h, fun _ _ _ _ h => h, fun _ _ _ _ h => h, fun _ _ _ _ h => h, fun _ _ _ _ h => h, fun _ _ _ _ h => h, fun _ _ _ _ h => h, fun _ _ _ _ h => h, fun _ _ _ _ h => h, fun _ _ _ _ h => h, fun _ _ _ _ h => h, fun _ _ _ _ h => h, fun _ _ _ _ h => h, fun _ _ _ _ h => h, fun _ _ _ _ h => h, fun _ _ _ _ h => h, fun _ _ _ _ h => h, fun _ _ _ _ h => h, fun _ _ _ _ h => h, fun _ _ _ _ h => h, fun _ _ _ _ h => h, fun _ _ _ _ h => h, fun _ _ _ _ h => h, fun _ _ _ _ h => h, fun _ _ _ _ h => h, fun _ _ _ _ h => h, fun _ _ _ _ h => h, fun _ _ _ _ h => h, fun _ _ _ _ h => h, fun _ _ _ _ h => h, fun _ _ _ _ h => h, fun _ _ _ _ h => h, fun _ _ _ _ h => h, fun _ _ _ _ h => h, fun _ _ _ _ h => h, fun _ _ _ _ h => h, fun _ _ _ _ h => h, fun _ _ _ _ h => h, trivial⟩ (fun _ a a' _ e h => by cases a; cases a'; cases e; exact h) ?hS ?hsteps ?hend
                case hS =>
                  intro w' hg
                  have hbz := Lib.hid (HBi.out.drew.trans (hg.mono HBi.out.size))
                  have cc : ∀ (p : Addr) (v : Value), w.cell? p = some v → w'.cell? p = some v := fun p v h => (Below.cell hbz.out (lt_of_cell h)).trans h
                  exact ⟨cc _ _ HC1.out, cc _ _ HC2.out, cc _ _ HC3.out, cc _ _ HI16.out, hbz⟩
                case hsteps =>
                  refine ⟨?_, ?_, ?_, ?_, ?_, ?_, ?_, ?_, ?_, ?_, ?_, ?_, ?_, ?_, ?_, ?_, ?_, ?_, ?_, ?_, ?_, ?_, ?_, ?_, ?_, ?_, ?_, ?_, ?_, ?_, ?_, ?_, ?_, ?_, ?_, ?_, ?_, ?_, trivial⟩
                  · intro w' hs
                    simp only [AllV, rgPut]
                    clear hs
                    first
                      | (refine OpOk.off ?_ ?_ <;> rfl)
                      | (refine OpOk.run ?_ (fun K hK => ?_)
                         · rfl
                         go_simp
                         refine hK.out _ _ (Grows.refl _) ?_
                         exact rfl)
                  · intro w' hs
                    simp only [AllV, rgPut]
                    clear hs
                    first
                      | (refine OpOk.off ?_ ?_ <;> rfl)
                      | (refine OpOk.run ?_ (fun K hK => ?_)
                         · rfl
                         go_simp
                         refine hK.out _ _ (Grows.refl _) ?_
                         exact rfl)
                  · intro w' hs
                    simp only [AllV, rdP, isV, forall_eq, rgPut, Act.put, List.setIfInBounds_toArray, List.set_cons_zero, List.set_cons_succ]
                    clear hs
                    first
                      | (refine OpOk.off ?_ ?_ <;> rfl)
                      | (refine OpOk.run ?_ (fun K hK => ?_)
                         · rfl
                         go_simp
                         refine hK.out _ _ (Grows.refl _) ?_
                         exact rfl)
                  · intro w' hs
                    simp only [AllV, rdP, isV, forall_eq, rgPut, Act.put, List.setIfInBounds_toArray, List.set_cons_zero, List.set_cons_succ]
                    clear hs
                    first
                      | (refine OpOk.off ?_ ?_ <;> rfl)
                      | (refine OpOk.run ?_ (fun K hK => ?_)
                         · rfl
                         go_simp
                         refine hK.out _ _ (Grows.refl _) ?_
                         exact rfl)
                  · intro w' hs
                    simp only [AllV, rdP, isV, forall_eq, rgPut, Act.put, List.setIfInBounds_toArray, List.set_cons_zero, List.set_cons_succ]
                    obtain ⟨f0, f1, f2, f3, hbb⟩ := hs
                    first
                      | (refine OpOk.off ?_ ?_ <;> rfl)
                      | (refine OpOk.run ?_ (fun K hK => ?_)
                         · rfl
                         go_simp
                         refine hK.out _ _ (Grows.refl _) ?_
                         exact rfl)
                  · intro w' hs
                    simp only [AllV, rgPut]
                    clear hs
                    first
                      | (refine OpOk.off ?_ ?_ <;> rfl)
                      | (refine OpOk.run ?_ (fun K hK => ?_)
                         · rfl
                         go_simp
                         refine hK.out _ _ (Grows.refl _) ?_
                         exact rfl)
                  · intro w' hs
                    simp only [AllV, rgPut]
                    clear hs
                    first
                      | (refine OpOk.off ?_ ?_ <;> rfl)
                      | (refine OpOk.run ?_ (fun K hK => ?_)
                         · rfl
                         go_simp
                         refine hK.out _ _ (Grows.refl _) ?_
                         exact rfl)
                  · intro w' hs
                    simp only [AllV, rdP, isV, forall_eq, rgPut, Act.put, List.setIfInBounds_toArray, List.set_cons_zero, List.set_cons_succ]
                    clear hs
                    first
                      | (refine OpOk.off ?_ ?_ <;> rfl)
                      | (refine OpOk.run ?_ (fun K hK => ?_)
                         · rfl
                         go_simp
                         refine hK.out _ _ (Grows.refl _) ?_
                         exact rfl)
                  · intro w' hs
                    simp only [AllV, rdP, isV, forall_eq, rgPut, Act.put, List.setIfInBounds_toArray, List.set_cons_zero, List.set_cons_succ]
                    clear hs
                    first
                      | (refine OpOk.off ?_ ?_ <;> rfl)
                      | (refine OpOk.run ?_ (fun K hK => ?_)
                         · rfl
                         go_simp
                         refine hK.out _ _ (Grows.refl _) ?_
                         exact rfl)
                  · intro w' hs
                    simp only [AllV, rdP, isV, forall_eq, rgPut, Act.put, List.setIfInBounds_toArray, List.set_cons_zero, List.set_cons_succ]
                    obtain ⟨f0, f1, f2, f3, hbb⟩ := hs
                    first
                      | (refine OpOk.off ?_ ?_ <;> rfl)
                      | (refine OpOk.run ?_ (fun K hK => ?_)
                         · rfl
                         go_simp
                         refine hK.out _ _ (Grows.refl _) ?_
                         exact rfl)
                  · intro w' hs
                    simp only [AllV, rgPut]
                    clear hs
                    first
                      | (refine OpOk.off ?_ ?_ <;> rfl)
                      | (refine OpOk.run ?_ (fun K hK => ?_)
                         · rfl
                         go_simp
                         refine hK.out _ _ (Grows.refl _) ?_
                         exact rfl)
                  · intro w' hs
                    simp only [AllV, rdP, isV, forall_eq, rgPut, Act.put, List.setIfInBounds_toArray, List.set_cons_zero, List.set_cons_succ]
                    clear hs
                    first
                      | (refine OpOk.off ?_ ?_ <;> rfl)
                      | (refine OpOk.run ?_ (fun K hK => ?_)
                         · rfl
                         go_simp
                         refine hK.out _ _ (Grows.refl _) ?_
                         exact rfl)
                  · intro w' hs
                    simp only [AllV, rdP, isV, forall_eq, rgPut, Act.put, List.setIfInBounds_toArray, List.set_cons_zero, List.set_cons_succ]
                    clear hs
                    first
                      | (refine OpOk.off ?_ ?_ <;> rfl)
                      | (refine OpOk.run ?_ (fun K hK => ?_)
                         · rfl
                         go_simp
                         refine hK.out _ _ (Grows.refl _) ?_
                         exact rfl)
                  · intro w' hs
                    simp only [AllV, rdP, isV, forall_eq, rgPut, Act.put, List.setIfInBounds_toArray, List.set_cons_zero, List.set_cons_succ]
                    obtain ⟨f0, f1, f2, f3, hbb⟩ := hs
                    first
                      | (refine OpOk.off ?_ ?_ <;> rfl)
                      | (refine OpOk.run ?_ (fun K hK => ?_)
                         · rfl
                         go_simp
                         refine hK.out _ _ (Grows.refl _) ?_
                         exact rfl)
                  · intro w' hs
                    simp only [AllV, rdP, isV, forall_eq, rgPut, Act.put, List.setIfInBounds_toArray, List.set_cons_zero, List.set_cons_succ]
                    obtain ⟨f0, f1, f2, f3, hbb⟩ := hs
                    first
                      | (refine OpOk.off ?_ ?_ <;> rfl)
                      | (refine OpOk.run ?_ (fun K hK => ?_)
                         · rfl
                         go_simp
                         go_at_call 35
                         refine (HMAY.out _ (HXB.out.below hbb.out)).mono ?_
                         rintro e w1 ⟨rfl, hb⟩
                         refine hK.out _ _ hb ?_
                         exact rfl
                        )
                  · intro w' hs
                    simp only [AllV, rdP, isV, forall_eq, rgPut, Act.put, List.setIfInBounds_toArray, List.set_cons_zero, List.set_cons_succ]
                    clear hs
                    first
                      | (refine OpOk.off ?_ ?_ <;> rfl)
                      | (refine OpOk.run ?_ (fun K hK => ?_)
                         · rfl
                         go_simp
                         refine hK.out _ _ (Grows.refl _) ?_
                         exact rfl)
                  · intro w' hs
                    simp only [AllV, rdP, isV, forall_eq, rgPut, Act.put, List.setIfInBounds_toArray, List.set_cons_zero, List.set_cons_succ]
                    clear hs
                    first
                      | (refine OpOk.off ?_ ?_ <;> rfl)
                      | (refine OpOk.run ?_ (fun K hK => ?_)
                         · rfl
                         go_simp
                         refine hK.out _ _ (Grows.refl _) ?_
                         exact rfl)
                  · intro w' hs
                    simp only [AllV, rdP, isV, forall_eq, rgPut, Act.put, List.setIfInBounds_toArray, List.set_cons_zero, List.set_cons_succ]
                    clear hs
                    first
                      | (refine OpOk.off ?_ ?_ <;> rfl)
                      | (refine OpOk.run ?_ (fun K hK => ?_)
                         · rfl
                         go_simp
                         refine hK.out _ _ (Grows.refl _) ?_
                         exact rfl)
                  · intro w' hs
                    simp only [AllV, rdP, isV, forall_eq, rgPut, Act.put, List.setIfInBounds_toArray, List.set_cons_zero, List.set_cons_succ]
                    clear hs
                    first
                      | (refine OpOk.off ?_ ?_ <;> rfl)
                      | (refine OpOk.run ?_ (fun K hK => ?_)
                         · rfl
                         go_simp
                         refine hK.out _ _ (Grows.refl _) ?_
                         exact rfl)
                  · intro w' hs
                    simp only [AllV, rdP, isV, forall_eq, rgPut, Act.put, List.setIfInBounds_toArray, List.set_cons_zero, List.set_cons_succ]
                    clear hs
                    first
                      | (refine OpOk.off ?_ ?_ <;> rfl)
                      | (refine OpOk.run ?_ (fun K hK => ?_)
                         · rfl
                         go_simp
                         refine hK.out _ _ (Grows.refl _) ?_
                         exact rfl)
                  · intro w' hs
                    simp only [AllV, rdP, isV, forall_eq, rgPut, Act.put, List.setIfInBounds_toArray, List.set_cons_zero, List.set_cons_succ]
                    clear hs
                    first
                      | (refine OpOk.off ?_ ?_ <;> rfl)
                      | (refine OpOk.run ?_ (fun K hK => ?_)
                         · rfl
                         go_simp
                         refine hK.out _ _ (Grows.refl _) ?_
                         exact rfl)
                  · intro w' hs
                    simp only [AllV, rdP, isV, forall_eq, rgPut, Act.put, List.setIfInBounds_toArray, List.set_cons_zero, List.set_cons_succ]
                    obtain ⟨f0, f1, f2, f3, hbb⟩ := hs
                    first
                      | (refine OpOk.off ?_ ?_ <;> rfl)
                      | (refine OpOk.run ?_ (fun K hK => ?_)
                         · rfl
                         go_simp
                         refine hK.out _ _ (Grows.refl _) ?_
                         exact rfl)
                  · intro w' hs
                    simp only [AllV, rdP, isV, forall_eq, rgPut, Act.put, List.setIfInBounds_toArray, List.set_cons_zero, List.set_cons_succ]
                    clear hs
                    first
                      | (refine OpOk.off ?_ ?_ <;> rfl)
                      | (refine OpOk.run ?_ (fun K hK => ?_)
                         · rfl
                         go_simp
                         refine hK.out _ _ (Grows.refl _) ?_
                         exact rfl)
                  · intro w' hs
                    simp only [AllV, rdP, isV, forall_eq, rgPut, Act.put, List.setIfInBounds_toArray, List.set_cons_zero, List.set_cons_succ]
                    clear hs
                    first
                      | (refine OpOk.off ?_ ?_ <;> rfl)
                      | (refine OpOk.run ?_ (fun K hK => ?_)
                         · rfl
                         go_simp
                         refine hK.out _ _ (Grows.refl _) ?_
                         exact rfl)
                  · intro w' hs
                    simp only [AllV, rdP, isV, forall_eq, rgPut, Act.put, List.setIfInBounds_toArray, List.set_cons_zero, List.set_cons_succ]
                    clear hs
                    first
                      | (refine OpOk.off ?_ ?_ <;> rfl)
                      | (refine OpOk.run ?_ (fun K hK => ?_)
                         · rfl
                         go_simp
                         refine hK.out _ _ (Grows.refl _) ?_
                         exact rfl)
                  · intro w' hs
                    simp only [AllV, rdP, isV, forall_eq, rgPut, Act.put, List.setIfInBounds_toArray, List.set_cons_zero, List.set_cons_succ]
                    obtain ⟨f0, f1, f2, f3, hbb⟩ := hs
                    first
                      | (refine OpOk.off ?_ ?_ <;> rfl)
                      | (refine OpOk.run ?_ (fun K hK => ?_)
                         · rfl
                         go_simp
                         refine hK.out _ _ (Grows.refl _) ?_
                         exact rfl)
                  · intro w' hs
                    simp only [AllV, rdP, isV, forall_eq, rgPut, Act.put, List.setIfInBounds_toArray, List.set_cons_zero, List.set_cons_succ]
                    obtain ⟨f0, f1, f2, f3, hbb⟩ := hs
                    first
                      | (refine OpOk.off ?_ ?_ <;> rfl)
                      | (refine OpOk.run ?_ (fun K hK => ?_)
                         · rfl
                         go_simp
                         refine hK.out _ _ (Grows.refl _) ?_
                         exact rfl)
                  · intro w' hs
                    simp only [AllV, rdP, isV, forall_eq, rgPut, Act.put, List.setIfInBounds_toArray, List.set_cons_zero, List.set_cons_succ]
                    clear hs
                    first
                      | (refine OpOk.off ?_ ?_ <;> rfl)
                      | (refine OpOk.run ?_ (fun K hK => ?_)
                         · rfl
                         go_simp
                         refine hK.out _ _ (Grows.refl _) ?_
                         exact rfl)
                  · intro w' hs
                    simp only [AllV, rdP, isV, forall_eq, rgPut, Act.put, List.setIfInBounds_toArray, List.set_cons_zero, List.set_cons_succ]
                    clear hs
                    first
                      | (refine OpOk.off ?_ ?_ <;> rfl)
                      | (refine OpOk.run ?_ (fun K hK => ?_)
                         · rfl
                         go_simp
                         refine hK.out _ _ (Grows.refl _) ?_
                         exact rfl)
                  · intro w' hs
                    simp only [AllV, rdP, isV, forall_eq, rgPut, Act.put, List.setIfInBounds_toArray, List.set_cons_zero, List.set_cons_succ]
                    clear hs
                    first
                      | (refine OpOk.off ?_ ?_ <;> rfl)
                      | (refine OpOk.run ?_ (fun K hK => ?_)
                         · rfl
                         go_simp
                         refine hK.out _ _ (Grows.refl _) ?_
                         exact rfl)
                  · intro w' hs
                    simp only [AllV, rdP, isV, forall_eq, rgPut, Act.put, List.setIfInBounds_toArray, List.set_cons_zero, List.set_cons_succ]
                    clear hs
                    first
                      | (refine OpOk.off ?_ ?_ <;> rfl)
                      | (refine OpOk.run ?_ (fun K hK => ?_)
                         · rfl
                         go_simp
                         refine hK.out _ _ (Grows.refl _) ?_
                         exact rfl)
                  · intro w' hs
                    simp only [AllV, rdP, isV, forall_eq, rgPut, Act.put, List.setIfInBounds_toArray, List.set_cons_zero, List.set_cons_succ]
                    obtain ⟨f0, f1, f2, f3, hbb⟩ := hs
                    first
                      | (refine OpOk.off ?_ ?_ <;> rfl)
                      | (refine OpOk.run ?_ (fun K hK => ?_)
                         · rfl
                         go_simp
                         refine hK.out _ _ (Grows.refl _) ?_
                         exact rfl)
                  · intro w' hs
                    simp only [AllV, rdP, isV, forall_eq, rgPut, Act.put, List.setIfInBounds_toArray, List.set_cons_zero, List.set_cons_succ]
                    clear hs
                    first
                      | (refine OpOk.off ?_ ?_ <;> rfl)
                      | (refine OpOk.run ?_ (fun K hK => ?_)
                         · rfl
                         go_simp
                         refine hK.out _ _ (Grows.refl _) ?_
                         exact rfl)
                  · intro w' hs
                    simp only [AllV, rdP, isV, forall_eq, rgPut, Act.put, List.setIfInBounds_toArray, List.set_cons_zero, List.set_cons_succ]
                    clear hs
                    first
                      | (refine OpOk.off ?_ ?_ <;> rfl)
                      | (refine OpOk.run ?_ (fun K hK => ?_)
                         · rfl
                         go_simp
                         refine hK.out _ _ (Grows.refl _) ?_
                         exact rfl)
                  · intro w' hs
                    simp only [AllV, rdP, isV, forall_eq, rgPut, Act.put, List.setIfInBounds_toArray, List.set_cons_zero, List.set_cons_succ]
                    obtain ⟨f0, f1, f2, f3, hbb⟩ := hs
                    first
                      | (refine OpOk.off ?_ ?_ <;> rfl)
                      | (refine OpOk.run ?_ (fun K hK => ?_)
                         · rfl
                         go_simp
                         refine hK.out _ _ (Grows.refl _) ?_
                         exact rfl)
                  · intro w' hs
                    simp only [AllV, rdP, isV, forall_eq, rgPut, Act.put, List.setIfInBounds_toArray, List.set_cons_zero, List.set_cons_succ]
                    obtain ⟨f0, f1, f2, f3, hbb⟩ := hs
                    first
                      | (refine OpOk.off ?_ ?_ <;> rfl)
                      | (refine OpOk.run ?_ (fun K hK => ?_)
                         · rfl
                         go_simp
                         refine hK.out _ _ (Grows.refl _) ?_
                         exact rfl)
                  · intro w' hs
                    simp only [AllV, rdP, isV, forall_eq, rgPut, Act.put, List.setIfInBounds_toArray, List.set_cons_zero, List.set_cons_succ]
                    clear hs
                    first
                      | (refine OpOk.off ?_ ?_ <;> rfl)
                      | (refine OpOk.run ?_ (fun K hK => ?_)
                         · rfl
                         go_simp
                         refine hK.out _ _ (Grows.refl _) ?_
                         exact rfl)
                  · intro w' hs
                    simp only [AllV, rdP, isV, forall_eq, rgPut, Act.put, List.setIfInBounds_toArray, List.set_cons_zero, List.set_cons_succ]
                    clear hs
                    first
                      | (refine OpOk.off ?_ ?_ <;> rfl)
                      | (refine OpOk.run ?_ (fun K hK => ?_)
                         · rfl
                         go_simp
                         refine hK.out _ _ (Grows.refl _) ?_
                         exact rfl)
                case hend =>
                  intro w' hs
                  simp only [AllV, rdP, isV, forall_eq, rgPut, Act.put, List.setIfInBounds_toArray, List.set_cons_zero, List.set_cons_succ]
                  obtain ⟨f0, f1, f2, f3, hbb⟩ := hs
                  clear f0 f1 f2 f3
                  go_wp2
                  go_roundw
                  case rel => exact ⟨i + 1, HJ.out, by go_num, HG2, hbb⟩
                  case measure => have := HJ.out; simp [intOf]; omega
              · have HW := Lib.hid (HBAD.out (by rw [← hMB.out, Bool.true_and]; exact decide_eq_false (fun e => hml (by have := HMD.out; have := HZ0.out; omega))))
                have hne : ((m : Int) != (m0 : Int)) = true := by simp; omega
                clear hml
                refine' wp_region_grows (by kernel_rfl) (fun w' => w'.cell? ⟨b, off + j * 2, none⟩ = some (.int .u8 k) ∧ w'.cell? ⟨b, off + j * 2 + 1, none⟩ = some (.slice (some ⟨ib, io, none⟩) n ic) ∧ w'.cell? ⟨ib, io + i * 17 + 16, none⟩ = some (.slice s m c) ∧ w'.cell? ⟨ib, io + 16, none⟩ = some (.slice s0 m0 c0) ∧ Hid (Below w.heap.size w w')) [isV _, isV _, isV _, isV _, isV _, isV _, isV _, isV _, isV _, isV _, isV _, isV _, isV _, isV _, isV _, isV _, isV _, isV _, isV _, isV _, isV _, isV _, isV _, isV _, isV _, isV _, isV _, isV _, isV _, isV _, isV _, isV _, isV _, isV _, isV _, isV _, isV _, isV _] 86 [[], [], [(0, some 31), (1, some 32)], [(2, some 33)], [(3, some 34)], [], [], [(5, some 36), (6, some 37)], [(7, some 38)], [(8, some 39)], [], [(9, some 40), (10, some 41)], [(11, some 42)], [(12, some 43)], [(4, some 35), (13, some 44)], [(14, some 45)], [(15, some 46)], [(16, some 47)], [(16, some 47)], [(17, some 48), (18, some 49), (16, some 47)], [(19, some 50), (16, some 47)], [(20, some 51), (16, some 47)], [(16, some 47)], [(21, some 52), (22, some 53), (16, some 47)], [(23, some 54), (16, some 47)], [(24, some 55), (16, some 47)], [(25, some 56), (16, some 47)], [(16, some 47)], [(16, some 47)], [(27, some 58), (28, some 59), (16, some 47)], [(29, some 60), (16, some 47)], [(30, some 61), (16, some 47)], [(31, some 62), (16, some 47)], [(32, some 63), (16, some 47)], [(33, some 64), (16, some 47)], [(34, some 65), (16, some 47)], [(26, some 57), (35, some 66), (16, some 47)], [(16, some 47), (36, some 67)]] [(0, some 31), (1, some 32), (2, some 33), (3, some 34), (4, some 35), (5, some 36), (6, some 37), (7, some 38), (8, some 39), (9, some 40), (10, some 41), (11, some 42), (12, some 43), (13, some 44), (14, some 45), (15, some 46), (16, some 47), (17, some 48), (18, some 49), (19, some 50), (20, some 51), (21, some 52), (22, some 53), (23, some 54), (24, some 55), (25, some 56), (26, some 57), (27, some 58), (28, some 59), (29, some 60), (30, some 61), (31, some 62), (32, some 63), (33, some 64), (34, some 65), (35, some 66), (36, some 67), (37, some 68)] rfl (by kernel_rfl) ⟨fun _ _ _ _ h => h, fun _ _ _ _ h => h, fun _ _ _ _ h => h, fun _ _ _ _ h => h, fun _ _ _ _ h => h, fun _ _ _ _ h => h, fun _ _ _ _ h => h, fun _ _ _ _ h => h, fun _ _ _ _ h => h, fun _ _ _ _ h => h, fun _ _ _ _ h => h, fun _ _ _ _ h => h, fun _ _ _ _ h => h, fun _ _ _ _ h => h, fun _ _ _ _ h => h, fun _ _ _ _ h => h, fun _ _ _ _ h => h, fun _ _ _ _ h => h, fun _ _ _ _ h => h, fun _ _ _ _ h => h, fun _ _ _ _ h => h, fun _ _ _ _ h => h, fun _ _ _ _ h => h, fun _ _ _ _ h => h, fun _ _ _ _ h => h, fun _ _ _ _ h => h, fun _ _ _ _ h => h, fun _ _ _ _ h => h, fun _ _ _ _ h => h, fun _ _ _ _ h => h, fun _ _ _ _ h => h, fun _ _ _ _ h => h, fun _ _ _ _ h => h, fun _ _ _ _ h => h, fun _ _ _ _ h => h, fun _ _ _ _ h => h, fun _ _ _ _ h => h, fun _ _ _ _ h => h, trivial⟩ (fun _ a a' _ e h => by cases a; cases a'; cases e; exact h) ?hS ?hsteps ?hend
                case hS =>
                  intro w' hg
                  have hbz := Lib.hid (HBi.out.drew.trans (hg.mono HBi.out.size))
                  have cc : ∀ (p : Addr) (v : Value), w.cell? p = some v → w'.cell? p = some v := fun p v h => (Below.cell hbz.out (lt_of_cell h)).trans h
                  exact ⟨cc _ _ HC1.out, cc _ _ HC2.out, cc _ _ HC3.out, cc _ _ HI16.out, hbz⟩
                case hsteps =>
                  refine ⟨?_, ?_, ?_, ?_, ?_, ?_, ?_, ?_, ?_, ?_, ?_, ?_, ?_, ?_, ?_, ?_, ?_, ?_, ?_, ?_, ?_, ?_, ?_, ?_, ?_, ?_, ?_, ?_, ?_, ?_, ?_, ?_, ?_, ?_, ?_, ?_, ?_, ?_, trivial⟩
                  · intro w' hs
                    simp only [AllV, rgPut]
                    clear hs
                    first
                      | (refine OpOk.off ?_ ?_ <;> rfl)
                      | (refine OpOk.run ?_ (fun K hK => ?_)
                         · rfl
                         go_simp
                         refine hK.out _ _ (Grows.refl _) ?_
                         exact rfl)
                  · intro w' hs
                    simp only [AllV, rgPut]
                    clear hs
                    first
                      | (refine OpOk.off ?_ ?_ <;> rfl)
                      | (refine OpOk.run ?_ (fun K hK => ?_)
                         · rfl
                         go_simp
                         refine hK.out _ _ (Grows.refl _) ?_
                         exact rfl)
                  · intro w' hs
                    simp only [AllV, rdP, isV, forall_eq, rgPut, Act.put, List.setIfInBounds_toArray, List.set_cons_zero, List.set_cons_succ]
                    clear hs
                    first
                      | (refine OpOk.off ?_ ?_ <;> rfl)
                      | (refine OpOk.run ?_ (fun K hK => ?_)
                         · rfl
                         go_simp
                         refine hK.out _ _ (Grows.refl _) ?_
                         exact rfl)
                  · intro w' hs
                    simp only [AllV, rdP, isV, forall_eq, rgPut, Act.put, List.setIfInBounds_toArray, List.set_cons_zero, List.set_cons_succ]
                    clear hs
                    first
                      | (refine OpOk.off ?_ ?_ <;> rfl)
                      | (refine OpOk.run ?_ (fun K hK => ?_)
                         · rfl
                         go_simp
                         refine hK.out _ _ (Grows.refl _) ?_
                         exact rfl)
                  · intro w' hs
                    simp only [AllV, rdP, isV, forall_eq, rgPut, Act.put, List.setIfInBounds_toArray, List.set_cons_zero, List.set_cons_succ]
                    obtain ⟨f0, f1, f2, f3, hbb⟩ := hs
                    first
                      | (refine OpOk.off ?_ ?_ <;> rfl)
                      | (refine OpOk.run ?_ (fun K hK => ?_)
                         · rfl
                         go_simp
                         refine hK.out _ _ (Grows.refl _) ?_
                         exact rfl)
                  · intro w' hs
                    simp only [AllV, rgPut]
                    clear hs
                    first
                      | (refine OpOk.off ?_ ?_ <;> rfl)
                      | (refine OpOk.run ?_ (fun K hK => ?_)
                         · rfl
                         go_simp
                         refine hK.out _ _ (Grows.refl _) ?_
                         exact rfl)
                  · intro w' hs
                    simp only [AllV, rgPut]
                    clear hs
                    first
                      | (refine OpOk.off ?_ ?_ <;> rfl)
                      | (refine OpOk.run ?_ (fun K hK => ?_)
                         · rfl
                         go_simp
                         refine hK.out _ _ (Grows.refl _) ?_
                         exact rfl)
                  · intro w' hs
                    simp only [AllV, rdP, isV, forall_eq, rgPut, Act.put, List.setIfInBounds_toArray, List.set_cons_zero, List.set_cons_succ]
                    clear hs
                    first
                      | (refine OpOk.off ?_ ?_ <;> rfl)
                      | (refine OpOk.run ?_ (fun K hK => ?_)
                         · rfl
                         go_simp
                         refine hK.out _ _ (Grows.refl _) ?_
                         exact rfl)
                  · intro w' hs
                    simp only [AllV, rdP, isV, forall_eq, rgPut, Act.put, List.setIfInBounds_toArray, List.set_cons_zero, List.set_cons_succ]
                    clear hs
                    first
                      | (refine OpOk.off ?_ ?_ <;> rfl)
                      | (refine OpOk.run ?_ (fun K hK => ?_)
                         · rfl
                         go_simp
                         refine hK.out _ _ (Grows.refl _) ?_
                         exact rfl)
                  · intro w' hs
                    simp only [AllV, rdP, isV, forall_eq, rgPut, Act.put, List.setIfInBounds_toArray, List.set_cons_zero, List.set_cons_succ]
                    obtain ⟨f0, f1, f2, f3, hbb⟩ := hs
                    first
                      | (refine OpOk.off ?_ ?_ <;> rfl)
                      | (refine OpOk.run ?_ (fun K hK => ?_)
                         · rfl
                         go_simp
                         refine hK.out _ _ (Grows.refl _) ?_
                         exact rfl)
                  · intro w' hs
                    simp only [AllV, rgPut]
                    clear hs
                    first
                      | (refine OpOk.off ?_ ?_ <;> rfl)
                      | (refine OpOk.run ?_ (fun K hK => ?_)
                         · rfl
                         go_simp
                         refine hK.out _ _ (Grows.refl _) ?_
                         exact rfl)
                  · intro w' hs
                    simp only [AllV, rdP, isV, forall_eq, rgPut, Act.put, List.setIfInBounds_toArray, List.set_cons_zero, List.set_cons_succ]
                    clear hs
                    first
                      | (refine OpOk.off ?_ ?_ <;> rfl)
                      | (refine OpOk.run ?_ (fun K hK => ?_)
                         · rfl
                         go_simp
                         refine hK.out _ _ (Grows.refl _) ?_
                         exact rfl)
                  · intro w' hs
                    simp only [AllV, rdP, isV, forall_eq, rgPut, Act.put, List.setIfInBounds_toArray, List.set_cons_zero, List.set_cons_succ]
                    clear hs
                    first
                      | (refine OpOk.off ?_ ?_ <;> rfl)
                      | (refine OpOk.run ?_ (fun K hK => ?_)
                         · rfl
                         go_simp
                         refine hK.out _ _ (Grows.refl _) ?_
                         exact rfl)
                  · intro w' hs
                    simp only [AllV, rdP, isV, forall_eq, rgPut, Act.put, List.setIfInBounds_toArray, List.set_cons_zero, List.set_cons_succ]
                    obtain ⟨f0, f1, f2, f3, hbb⟩ := hs
                    first
                      | (refine OpOk.off ?_ ?_ <;> rfl)
                      | (refine OpOk.run ?_ (fun K hK => ?_)
                         · rfl
                         go_simp
                         refine hK.out _ _ (Grows.refl _) ?_
                         exact rfl)
                  · intro w' hs
                    simp only [AllV, rdP, isV, forall_eq, rgPut, Act.put, List.setIfInBounds_toArray, List.set_cons_zero, List.set_cons_succ]
                    obtain ⟨f0, f1, f2, f3, hbb⟩ := hs
                    first
                      | (refine OpOk.off ?_ ?_ <;> rfl)
                      | (refine OpOk.run ?_ (fun K hK => ?_)
                         · rfl
                         go_simp
                         go_at_call 35
                         refine (HMAY.out _ (HXB.out.below hbb.out)).mono ?_
                         rintro e w1 ⟨rfl, hb⟩
                         refine hK.out _ _ hb ?_
                         exact rfl
                        )
                  · intro w' hs
                    simp only [AllV, rdP, isV, forall_eq, rgPut, Act.put, List.setIfInBounds_toArray, List.set_cons_zero, List.set_cons_succ]
                    clear hs
                    first
                      | (refine OpOk.off ?_ ?_ <;> rfl)
                      | (refine OpOk.run ?_ (fun K hK => ?_)
                         · rfl
                         go_simp
                         refine hK.out _ _ (Grows.refl _) ?_
                         exact rfl)
                  · intro w' hs
                    simp only [AllV, rdP, isV, forall_eq, rgPut, Act.put, List.setIfInBounds_toArray, List.set_cons_zero, List.set_cons_succ]
                    clear hs
                    first
                      | (refine OpOk.off ?_ ?_ <;> rfl)
                      | (refine OpOk.run ?_ (fun K hK => ?_)
                         · rfl
                         go_simp
                         refine hK.out _ _ (Grows.refl _) ?_
                         exact rfl)
                  · intro w' hs
                    simp only [AllV, rdP, isV, forall_eq, rgPut, Act.put, List.setIfInBounds_toArray, List.set_cons_zero, List.set_cons_succ]
                    clear hs
                    first
                      | (refine OpOk.off ?_ ?_ <;> rfl)
                      | (refine OpOk.run ?_ (fun K hK => ?_)
                         · rfl
                         go_simp
                         refine hK.out _ _ (Grows.refl _) ?_
                         exact rfl)
                  · intro w' hs
                    simp only [AllV, rdP, isV, forall_eq, rgPut, Act.put, List.setIfInBounds_toArray, List.set_cons_zero, List.set_cons_succ]
                    clear hs
                    first
                      | (refine OpOk.off ?_ ?_ <;> rfl)
                      | (refine OpOk.run ?_ (fun K hK => ?_)
                         · rfl
                         go_simp
                         refine hK.out _ _ (Grows.refl _) ?_
                         exact rfl)
                  · intro w' hs
                    simp only [AllV, rdP, isV, forall_eq, rgPut, Act.put, List.setIfInBounds_toArray, List.set_cons_zero, List.set_cons_succ]
                    clear hs
                    first
                      | (refine OpOk.off ?_ ?_ <;> rfl)
                      | (refine OpOk.run ?_ (fun K hK => ?_)
                         · rfl
                         go_simp
                         refine hK.out _ _ (Grows.refl _) ?_
                         exact rfl)
                  · intro w' hs
                    simp only [AllV, rdP, isV, forall_eq, rgPut, Act.put, List.setIfInBounds_toArray, List.set_cons_zero, List.set_cons_succ]
                    clear hs
                    first
                      | (refine OpOk.off ?_ ?_ <;> rfl)
                      | (refine OpOk.run ?_ (fun K hK => ?_)
                         · rfl
                         go_simp
                         refine hK.out _ _ (Grows.refl _) ?_
                         exact rfl)
                  · intro w' hs
                    simp only [AllV, rdP, isV, forall_eq, rgPut, Act.put, List.setIfInBounds_toArray, List.set_cons_zero, List.set_cons_succ]
                    obtain ⟨f0, f1, f2, f3, hbb⟩ := hs
                    first
                      | (refine OpOk.off ?_ ?_ <;> rfl)
                      | (refine OpOk.run ?_ (fun K hK => ?_)
                         · rfl
                         go_simp
                         refine hK.out _ _ (Grows.refl _) ?_
                         exact rfl)
                  · intro w' hs
                    simp only [AllV, rdP, isV, forall_eq, rgPut, Act.put, List.setIfInBounds_toArray, List.set_cons_zero, List.set_cons_succ]
                    clear hs
                    first
                      | (refine OpOk.off ?_ ?_ <;> rfl)
                      | (refine OpOk.run ?_ (fun K hK => ?_)
                         · rfl
                         go_simp
                         refine hK.out _ _ (Grows.refl _) ?_
                         exact rfl)
                  · intro w' hs
                    simp only [AllV, rdP, isV, forall_eq, rgPut, Act.put, List.setIfInBounds_toArray, List.set_cons_zero, List.set_cons_succ]
                    clear hs
                    first
                      | (refine OpOk.off ?_ ?_ <;> rfl)
                      | (refine OpOk.run ?_ (fun K hK => ?_)
                         · rfl
                         go_simp
                         refine hK.out _ _ (Grows.refl _) ?_
                         exact rfl)
                  · intro w' hs
                    simp only [AllV, rdP, isV, forall_eq, rgPut, Act.put, List.setIfInBounds_toArray, List.set_cons_zero, List.set_cons_succ]
                    clear hs
                    first
                      | (refine OpOk.off ?_ ?_ <;> rfl)
                      | (refine OpOk.run ?_ (fun K hK => ?_)
                         · rfl
                         go_simp
                         refine hK.out _ _ (Grows.refl _) ?_
                         exact rfl)
                  · intro w' hs
                    simp only [AllV, rdP, isV, forall_eq, rgPut, Act.put, List.setIfInBounds_toArray, List.set_cons_zero, List.set_cons_succ]
                    obtain ⟨f0, f1, f2, f3, hbb⟩ := hs
                    first
                      | (refine OpOk.off ?_ ?_ <;> rfl)
                      | (refine OpOk.run ?_ (fun K hK => ?_)
                         · rfl
                         go_simp
                         refine hK.out _ _ (Grows.refl _) ?_
                         exact rfl)
                  · intro w' hs
                    simp only [AllV, rdP, isV, forall_eq, rgPut, Act.put, List.setIfInBounds_toArray, List.set_cons_zero, List.set_cons_succ]
                    obtain ⟨f0, f1, f2, f3, hbb⟩ := hs
                    first
                      | (refine OpOk.off ?_ ?_ <;> rfl)
                      | (refine OpOk.run ?_ (fun K hK => ?_)
                         · rfl
                         go_simp
                         refine hK.out _ _ (Grows.refl _) ?_
                         exact rfl)
                  · intro w' hs
                    simp only [AllV, rdP, isV, forall_eq, rgPut, Act.put, List.setIfInBounds_toArray, List.set_cons_zero, List.set_cons_succ]
                    clear hs
                    first
                      | (refine OpOk.off ?_ ?_ <;> rfl)
                      | (refine OpOk.run ?_ (fun K hK => ?_)
                         · rfl
                         go_simp
                         refine hK.out _ _ (Grows.refl _) ?_
                         exact rfl)
                  · intro w' hs
                    simp only [AllV, rdP, isV, forall_eq, rgPut, Act.put, List.setIfInBounds_toArray, List.set_cons_zero, List.set_cons_succ]
                    clear hs
                    first
                      | (refine OpOk.off ?_ ?_ <;> rfl)
                      | (refine OpOk.run ?_ (fun K hK => ?_)
                         · rfl
                         go_simp
                         refine hK.out _ _ (Grows.refl _) ?_
                         exact rfl)
                  · intro w' hs
                    simp only [AllV, rdP, isV, forall_eq, rgPut, Act.put, List.setIfInBounds_toArray, List.set_cons_zero, List.set_cons_succ]
                    clear hs
                    first
                      | (refine OpOk.off ?_ ?_ <;> rfl)
                      | (refine OpOk.run ?_ (fun K hK => ?_)
                         · rfl
                         go_simp
                         refine hK.out _ _ (Grows.refl _) ?_
                         exact rfl)
                  · intro w' hs
                    simp only [AllV, rdP, isV, forall_eq, rgPut, Act.put, List.setIfInBounds_toArray, List.set_cons_zero, List.set_cons_succ]
                    clear hs
                    first
                      | (refine OpOk.off ?_ ?_ <;> rfl)
                      | (refine OpOk.run ?_ (fun K hK => ?_)
                         · rfl
                         go_simp
                         refine hK.out _ _ (Grows.refl _) ?_
                         exact rfl)
                  · intro w' hs
                    simp only [AllV, rdP, isV, forall_eq, rgPut, Act.put, List.setIfInBounds_toArray, List.set_cons_zero, List.set_cons_succ]
                    obtain ⟨f0, f1, f2, f3, hbb⟩ := hs
                    first
                      | (refine OpOk.off ?_ ?_ <;> rfl)
                      | (refine OpOk.run ?_ (fun K hK => ?_)
                         · rfl
                         go_simp
                         refine hK.out _ _ (Grows.refl _) ?_
                         exact rfl)
                  · intro w' hs
                    simp only [AllV, rdP, isV, forall_eq, rgPut, Act.put, List.setIfInBounds_toArray, List.set_cons_zero, List.set_cons_succ]
                    clear hs
                    first
                      | (refine OpOk.off ?_ ?_ <;> rfl)
                      | (refine OpOk.run ?_ (fun K hK => ?_)
                         · rfl
                         go_simp
                         refine hK.out _ _ (Grows.refl _) ?_
                         exact rfl)
                  · intro w' hs
                    simp only [AllV, rdP, isV, forall_eq, rgPut, Act.put, List.setIfInBounds_toArray, List.set_cons_zero, List.set_cons_succ]
                    clear hs
                    first
                      | (refine OpOk.off ?_ ?_ <;> rfl)
                      | (refine OpOk.run ?_ (fun K hK => ?_)
                         · rfl
                         go_simp
                         refine hK.out _ _ (Grows.refl _) ?_
                         exact rfl)
                  · intro w' hs
                    simp only [AllV, rdP, isV, forall_eq, rgPut, Act.put, List.setIfInBounds_toArray, List.set_cons_zero, List.set_cons_succ]
                    obtain ⟨f0, f1, f2, f3, hbb⟩ := hs
                    first
                      | (refine OpOk.off ?_ ?_ <;> rfl)
                      | (refine OpOk.run ?_ (fun K hK => ?_)
                         · rfl
                         go_simp
                         refine hK.out _ _ (Grows.refl _) ?_
                         exact rfl)
                  · intro w' hs
                    simp only [AllV, rdP, isV, forall_eq, rgPut, Act.put, List.setIfInBounds_toArray, List.set_cons_zero, List.set_cons_succ]
                    obtain ⟨f0, f1, f2, f3, hbb⟩ := hs
                    first
                      | (refine OpOk.off ?_ ?_ <;> rfl)
                      | (refine OpOk.run ?_ (fun K hK => ?_)
                         · rfl
                         go_simp
                         refine hK.out _ _ (Grows.refl _) ?_
                         exact rfl)
                  · intro w' hs
                    simp only [AllV, rdP, isV, forall_eq, rgPut, Act.put, List.setIfInBounds_toArray, List.set_cons_zero, List.set_cons_succ]
                    clear hs
                    first
                      | (refine OpOk.off ?_ ?_ <;> rfl)
                      | (refine OpOk.run ?_ (fun K hK => ?_)
                         · rfl
                         go_simp
                         refine hK.out _ _ (Grows.refl _) ?_
                         exact rfl)
                  · intro w' hs
                    simp only [AllV, rdP, isV, forall_eq, rgPut, Act.put, List.setIfInBounds_toArray, List.set_cons_zero, List.set_cons_succ]
                    clear hs
                    first
                      | (refine OpOk.off ?_ ?_ <;> rfl)
                      | (refine OpOk.run ?_ (fun K hK => ?_)
                         · rfl
                         go_simp
                         refine hK.out _ _ (Grows.refl _) ?_
                         exact rfl)
                case hend =>
                  intro w' hs
                  simp only [AllV, rdP, isV, forall_eq, rgPut, Act.put, List.setIfInBounds_toArray, List.set_cons_zero, List.set_cons_succ]
                  obtain ⟨f0, f1, f2, f3, hbb⟩ := hs
                  clear f0 f1 f2 f3
                  go_wp2
                  go_ret2
                  unfold WrRes
                  rw [HW.out.1, HW.out.2]
                  exact ⟨_, _, _, rfl, OwnB.empty _ _ _, hbb.out⟩
          · obtain rfl : i = n := by omega
            have hdl3 : decide ((i : Int) < (i : Int)) = false := by simp
            have HE : Hid (riB x.li = true) := Lib.hid (by
              have := ri_good x.k x.i (fun r y hr hy => by
                rw [show szL ⟨x.k, x.i.map ItV.it⟩ = Z from hZ.out.symm, ← hk.out]
                exact hgi.out r y (by rw [HNI.out]; exact hr) hy)
              show riB ⟨x.k, x.i.map ItV.it⟩ = true
              rw [this]
              exact decide_eq_true (by rw [← HNI.out]; omega))
            go_wp2
            go_roundw
            case rel => exact ⟨j + 1, hlt, by go_num, Lib.hid (fun r y hr hy => by
                by_cases e : r = j
                · subst e
                  rw [HX.out] at hy
                  cases hy
                  exact HE.out
                · exact hgood.out r y (by omega) hy), HBi⟩
            case measure => simp [intOf]; omega
      · obtain rfl : n = 0 := by omega
        have HW := Lib.hid (wr_bad (HAT.out j x HX.out) (ri_nil HNI.out.symm))
        clear hrow hx hxv hm hits
        go_wp2
        go_ret2
        unfold WrRes
        rw [HW.out.1, HW.out.2]
        exact ⟨_, _, _, rfl, OwnB.empty _ _ _, HB.out⟩
    · obtain rfl : j = N := by omega
      have hdl : decide ((j : Int) < (j : Int)) = false := by simp
      have HWB : Hid (wrB ls = true) := Lib.hid (by rw [hls.out]; exact wr_good (fun r x hr hx => hgood.out r x (by rw [hN.out]; exact hr) hx))
      obtain ⟨N, hN2⟩ : ∃ N : Nat, N = j := ⟨_, rfl⟩
      subst hN2
      go_wp2
      go_loopw [6, 7] (fun o_ j_ wr => ∃ (j : Nat) (x : Option Addr) (nx cx : Nat) (O : List UInt8), j ≤ N ∧ j_ = .int .i64 j ∧ o_ = .slice x nx cx ∧ nx ≤ 65536 ∧ Hid (nx = O.length) ∧ Hid (O = lsW (ls.take j)) ∧ Hid (OwnB wr w.heap.size (.slice x nx cx) O) ∧ Hid (Below w.heap.size w wr)) (fun _ j_ _ => N - (intOf j_).toNat)
      case atStart => exact ⟨0, none, 0, 0, [], Nat.zero_le _, rfl, rfl, by omega, Lib.hid rfl, Lib.hid rfl, Lib.hid (OwnB.empty _ _ _), HB⟩
      case round =>
        obtain ⟨j, ox, on, oc, O, hj, rfl, rfl, hon, HON, HO, HOO, HB⟩ := hrel
        obtain ⟨wo, hwo⟩ : ∃ wo : World, wo = wr := ⟨_, rfl⟩
        subst hwo
        by_cases hlt : j < N
        · obtain ⟨b, off, x, ia, n, ic, hx, ha, hrow, hxv, hm, hmc, hc, hits⟩ := HV.out.item j (by rw [← hN.out]; exact hlt)
          subst ha
          have hdl : decide ((j : Int) < (N : Int)) = true := by simp; omega
          have HX := Lib.hid hx
          have HRI := Lib.hid (hgood.out j x hlt hx)
          have HMEM := Lib.hid (List.mem_of_getElem? hx)
          have hnb : x.i.length ≤ 1000000 := HI.out x HMEM.out
          have HBO : Hid (∀ W, Its W (.slice ia n ic) x.i → Calls Try.prog 36 #[.agg #[.int .u8 x.k, .slice ia n ic]] W fun e w' => ∃ v', e = .returned v' ∧ OwnB w' W.heap.size v' (liW x.li) ∧ Below W.heap.size W w') := Lib.hid (fun W h => by
            have := bytesOf_calls x W (by rw [hxv]; exact h) HRI.out hnb
            rw [hxv] at this
            exact this)
          have HLL : Hid ((liW x.li).length ≤ 8208000028) := Lib.hid (by
            have := liW_length HRI.out hits.len
            have := Nat.mul_le_mul hnb (Nat.le_refl 8208)
            omega)
          have HRNG := Lib.hid (range_below hrow HB.out)
          have HITS := Lib.hid hits
          obtain ⟨k, hk⟩ : ∃ k, Hid (k = x.k) := ⟨_, Lib.hid rfl⟩
          rw [← hk.out] at HRNG HBO
          have HLS := Lib.hid (lsW_step (HAT.out j x HX.out))
          obtain ⟨L, hL⟩ : ∃ L, Hid (L = liW x.li) := ⟨_, Lib.hid rfl⟩
          rw [← hL.out] at HBO HLL HLS
          rw [← HO.out] at HLS
          clear hrow hx hxv hm hits
          go_wp2_with (refine wpList_load_mid rfl 39 _ rfl b (off + j * 2) rfl [.int .u8 k, .slice ia n ic] _ HRNG.out Try.underlying39 rfl (by kernel_rfl) ?_)
          refine (HBO.out _ (HITS.out.below HB.out)).mono ?_
          rintro e w2 ⟨v2, rfl, ho, hb⟩
          have HB2 := Lib.hid (HB.out.trans (hb.mono HB.out.size))
          have HO2 := Lib.hid (OwnB.below HOO.out hb)
          have HL2 := Lib.hid ho.byt
          have hbase := HB2.out.size
          clear ho hb
          by_cases hbig : 65536 < (O ++ L).length
          · have HW := Lib.hid (wr_big HWB.out (j + 1) (by rw [HLS.out]; exact hbig))
            go_wp2_with (at_builtin; refine wpList_append_byt rfl _ _ rfl w.heap.size (.slice ox on oc) O rfl HO2.out v2 L rfl HL2.out (by have := HON.out; have := HLL.out; omega) hbase ?_; intro v3 w3 ho3 hg3 _; have HB3 := Lib.hid (HB2.out.grown hg3 HB2.out.size (fun q hq => by have := (Own.lt HO2.out q hq).1; omega)); have HO3 := Lib.hid ho3; obtain ⟨x3, n3, c3, hn3, e3⟩ : ∃ x n c, Hid (n = (O ++ L).length) ∧ v3 = .slice x n c := (by obtain ⟨x, c, e, _⟩ := Own.shape ho3; exact ⟨x, _, c, Lib.hid rfl, e⟩); subst e3; clear ho3 hg3; have hdb : decide ((65536 : Int) < (n3 : Int)) = true := (by have := hn3.out; simp; omega))
            go_ret2
            unfold WrRes
            rw [HW.out.1, HW.out.2]
            exact ⟨_, _, _, rfl, OwnB.empty _ _ _, HB3.out⟩
          · skip
            go_wp2_with (at_builtin; refine wpList_append_byt rfl _ _ rfl w.heap.size (.slice ox on oc) O rfl HO2.out v2 L rfl HL2.out (by have := HON.out; have := HLL.out; omega) hbase ?_; intro v3 w3 ho3 hg3 _; have HB3 := Lib.hid (HB2.out.grown hg3 HB2.out.size (fun q hq => by have := (Own.lt HO2.out q hq).1; omega)); have HO3 := Lib.hid ho3; obtain ⟨x3, n3, c3, hn3, e3⟩ : ∃ x n c, Hid (n = (O ++ L).length) ∧ v3 = .slice x n c := (by obtain ⟨x, c, e, _⟩ := Own.shape ho3; exact ⟨x, _, c, Lib.hid rfl, e⟩); subst e3; clear ho3 hg3; have hdb : decide ((65536 : Int) < (n3 : Int)) = false := (by have := hn3.out; simp; omega))
            go_roundw
            case rel => exact ⟨j + 1, x3, n3, c3, O ++ L, hlt, by go_num, rfl, by have := hn3.out; omega, hn3, Lib.hid HLS.out.symm, HO3, HB3⟩
            case measure => simp [intOf]; omega
        · obtain rfl : j = N := by omega
          have hdl : decide ((j : Int) < (j : Int)) = false := by simp
          have HW : Hid (wrR ls = O ∧ wrE ls = 0) := Lib.hid (by
            have e : ls.take j = ls := by rw [hN.out, show xs.length = ls.length by rw [hls.out, List.length_map], List.take_length]
            have e2 := HO.out
            rw [e] at e2
            rw [e2]
            exact wr_fit HWB.out (by rw [← e2, ← HON.out]; exact hon))
          go_wp2
          go_ret2
          unfold WrRes
          rw [HW.out.1, HW.out.2]
          exact ⟨_, _, _, rfl, HOO.out, HB.out⟩
end Go.Proofs.Ytilanncobbdlfaa
