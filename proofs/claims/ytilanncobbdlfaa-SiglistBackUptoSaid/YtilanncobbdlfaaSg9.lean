/-
  The contract of siglist's right.
-/
import Derived.Test.YtilanncobbdlfaaSg8
namespace Go.Proofs.Ytilanncobbdlfaa
open Go Go.RowKit
set_option linter.unusedVariables false

theorem range_below {w w' : World} {b o : Nat} {cs : List Value} (h : w.rangeAt b o cs) (hb : Below w.heap.size w w') : w'.rangeAt b o cs := fun j v hv => by
  have := h j v hv
  exact (hb.cell (p := ⟨b, o + j, none⟩) (lt_of_cell this)).trans this
theorem szL_of (k : Int) (xs : List ItV) (x0 : ItV) (h : xs[0]? = some x0) : szL ⟨k, xs.map ItV.it⟩ = x0.d.length := by
  cases xs with
  | nil => simp at h
  | cons y ys =>
    simp only [List.getElem?_cons_zero, Option.some.injEq] at h
    subst h
    rfl
theorem ri_bad (k : Int) (xs : List ItV) (x : ItV) (j : Nat) (h : xs[j]? = some x) (hb : (mayB k x.d && decide (x.d.length = szL ⟨k, xs.map ItV.it⟩)) = false) : riB ⟨k, xs.map ItV.it⟩ = false := by
  cases e : riB ⟨k, xs.map ItV.it⟩ with
  | false => rfl
  | true =>
    unfold riB at e
    rw [Bool.and_eq_true, List.all_eq_true] at e
    have := e.1 x.it (List.mem_map.2 ⟨x, List.mem_of_getElem? h, rfl⟩)
    have h2 : (mayB k x.d && decide (x.d.length = szL ⟨k, xs.map ItV.it⟩)) = true := this
    rw [hb] at h2
    cases h2
theorem ri_good (k : Int) (xs : List ItV) (h : ∀ j x, j < xs.length → xs[j]? = some x → (mayB k x.d && decide (x.d.length = szL ⟨k, xs.map ItV.it⟩)) = true) : riB ⟨k, xs.map ItV.it⟩ = decide ((0 : Int) < (xs.length : Int)) := by
  unfold riB
  have h1 : ((xs.map ItV.it).all fun y => mayB k y.d && decide (y.d.length = szL ⟨k, xs.map ItV.it⟩)) = true := by
    rw [List.all_eq_true]
    intro y hy
    obtain ⟨x, hx, rfl⟩ := List.mem_map.1 hy
    obtain ⟨j, hj, e⟩ := List.getElem_of_mem hx
    exact h j x hj (by rw [← e]; exact List.getElem?_eq_getElem hj)
  show ((xs.map ItV.it).all _ && _) = _
  rw [h1, Bool.true_and]
  cases xs with
  | nil => rfl
  | cons x xs => simp

set_option maxRecDepth 100000 in
set_option maxHeartbeats 4000000 in
theorem sgRight_calls (k : Int) (v : Value) (xs : List ItV) (w : World) (hv : Its w v xs) (hn : xs.length ≤ 1000000000) (hd : ∀ x ∈ xs, x.d.length ≤ 1000000000) :
    Calls Try.prog 30 #[.agg #[.int .u8 k, v]] w fun e w' => e = .returned (.bool (riB ⟨k, xs.map ItV.it⟩)) ∧ Below w.heap.size w w' := by
  have HV := Lib.hid hv
  have HD := Lib.hid hd
  obtain ⟨a, cap, rfl, h1, h2⟩ := hv.open
  clear hv hd
  obtain ⟨n, hnn⟩ : ∃ n, Hid (n = xs.length) := ⟨_, Lib.hid rfl⟩
  rw [← hnn.out] at HV h1 hn ⊢
  have HBAD := Lib.hid (ri_bad k xs)
  have HGOOD := Lib.hid (ri_good k xs)
  have HSZ := Lib.hid (szL_of k xs)
  obtain ⟨RB, hRB⟩ : ∃ B, Hid (B = riB ⟨k, xs.map ItV.it⟩) := ⟨_, Lib.hid rfl⟩
  rw [← hRB.out] at HBAD HGOOD ⊢
  obtain ⟨Z, hZ⟩ : ∃ z, Hid (z = szL ⟨k, xs.map ItV.it⟩) := ⟨_, Lib.hid rfl⟩
  rw [← hZ.out] at HBAD HGOOD HSZ
  have HB0 := Lib.hid ((Below.refl w.heap.size w).alloc (Nat.le_refl _) (.cells #[.int .u8 k, .slice a n cap] 39))
  have HR0 := Lib.hid (RowAt.new w #[.int .u8 k, .slice a n cap] 39 w.heap.size rfl)
  have r1 := HR0.out.cell 1 (.slice a n cap) rfl
  go_enter Try.func30, Try.ntmps30
  go_wp2
  clear r1
  go_loopw [8] (fun i_ wr => ∃ j : Nat, j ≤ n ∧ i_ = .int .i64 j ∧ Hid (∀ r x, r < j → xs[r]? = some x → (mayB k x.d && decide (x.d.length = Z)) = true) ∧ Hid (RowAt wr w.heap.size #[.int .u8 k, .slice a n cap]) ∧ Hid (Below w.heap.size w wr)) (fun i_ _ => n - (intOf i_).toNat)
  case atStart => exact ⟨0, Nat.zero_le _, rfl, Lib.hid (fun r x hr => absurd hr (Nat.not_lt_zero _)), HR0, HB0⟩
  case round =>
    obtain ⟨j, hj, rfl, hgood, HR, HB⟩ := hrel
    obtain ⟨wo, hwo⟩ : ∃ wo : World, wo = wr := ⟨_, rfl⟩
    subst hwo
    by_cases hlt : j < n
    · obtain ⟨b, off, x, s, m, c, hx, ha, hrow, hxv, hm, hmc, hc, hxb, hxl, hxc, hx1⟩ := HV.out.item j (by rw [← hnn.out]; exact hlt)
      obtain ⟨b', off', x0, s0, m0, c0, hx0, ha0, hrow0, hxv0, hm0, hmc0, hc0, _, hxl0, _, _⟩ := HV.out.item 0 (by rw [← hnn.out]; omega)
      rw [ha] at ha0
      cases ha0
      subst ha
      have hdl : decide ((j : Int) < (n : Int)) = true := by simp; omega
      have h0n : 0 < n := by omega
      have HC0 : Hid (w.cell? ⟨b, off + 16, none⟩ = some (.slice s0 m0 c0)) := Lib.hid (by
        have := hrow0 16 _ (itC_at16 x0 hxl0)
        rw [hxv0] at this
        rw [show off + 0 * 17 + 16 = off + 16 by omega] at this
        exact this)
      have HBLT : Hid (b < w.heap.size) := Lib.hid (lt_of_cell HC0.out)
      have HROW := Lib.hid (range_below hrow HB.out)
      have HX1 := Lib.hid hx1
      have HXC := Lib.hid hxc
      have HMD := Lib.hid hm
      have HM0 := Lib.hid hm0
      have HXE := Lib.hid hx
      have HXB : Hid (Byt w (.slice s m c) x.d) := Lib.hid (by rw [← hxv]; exact hxb)
      have HMAY := Lib.hid (fun W (h : Byt W (.slice s m c) x.d) => may_calls k _ x.d W h (HD.out x (List.mem_of_getElem? hx)))
      obtain ⟨MB, hMB⟩ : ∃ B, Hid (B = mayB k x.d) := ⟨_, Lib.hid rfl⟩
      rw [← hMB.out] at HMAY
      obtain ⟨X, hX⟩ : ∃ X, Hid (X = itC x) := ⟨_, Lib.hid rfl⟩
      rw [← hX.out] at HROW HX1 HXC
      have HX16 : Hid (X.toArray[16]? = some (.slice s m c)) := Lib.hid (by rw [hX.out, ← hxv]; simpa using itC_at16 x hxl)
      have HZ0 : Hid (Z = m0) := Lib.hid (by rw [HSZ.out x0 hx0]; exact HM0.out.symm)
      clear hrow hrow0 hx1 hxc hm hm0 hx hx0 hxv hxv0 hxb hxl hxl0
      have HR2 := Lib.hid (HR.out.alloc (.cells X.toArray 49))
      have HX4 := Lib.hid (RowAt.new wo X.toArray 49 wo.heap.size rfl)
      have HBr := Lib.hid (HB.out.alloc HB.out.size (.cells X.toArray 49))
      obtain ⟨n4, hn4⟩ : ∃ n4, Hid (n4 = wo.heap.size) := ⟨_, Lib.hid rfl⟩
      rw [← hn4.out] at HX4
      go_wp2_with (first
        | (refine wpList_load_mid rfl 49 _ rfl b (off + j * 17) rfl X _ HROW.out Try.underlying49 rfl (by rw [HXC.out]; kernel_rfl) ?_)
        | (refine wpList_store_item rfl _ _ rfl wo _ X rfl HXC.out HX1.out rfl rfl ?_))
      rw [← hn4.out]
      cases MB with
      | false =>
        have HNO := Lib.hid (HBAD.out x j HXE.out (by rw [← hMB.out]; rfl))
        refine' wp_region_grows (by kernel_rfl) (fun w' => w'.cell? ⟨w.heap.size, 0, none⟩ = some (.int .u8 k) ∧ w'.cell? ⟨w.heap.size, 1, none⟩ = some (.slice (some ⟨b, off, none⟩) n cap) ∧ w'.cell? ⟨n4, 16, none⟩ = some (.slice s m c) ∧ w'.cell? ⟨b, off + 16, none⟩ = some (.slice s0 m0 c0) ∧ w.heap.size < w'.heap.size ∧ n4 < w'.heap.size ∧ b < w'.heap.size ∧ Hid (Below w.heap.size w w')) [isV _, isV _, isV _, isV _, isV _, isV _, isV _, isV _, isV _, isV _, isV _, isV _, isV _, isV _, isV _, isV _, isV _, isV _] 35 [[], [(0, some 12)], [], [(2, some 14)], [(1, some 13), (3, some 15)], [(4, some 16)], [(5, some 17)], [(6, some 18)], [(7, some 19), (6, some 18)], [(8, some 20), (6, some 18)], [(6, some 18)], [(10, some 22), (6, some 18)], [(11, some 23), (6, some 18)], [(12, some 24), (6, some 18)], [(13, some 25), (6, some 18)], [(14, some 26), (6, some 18)], [(9, some 21), (15, some 27), (6, some 18)], [(6, some 18), (16, some 28)]] [(0, some 12), (1, some 13), (2, some 14), (3, some 15), (4, some 16), (5, some 17), (6, some 18), (7, some 19), (8, some 20), (9, some 21), (10, some 22), (11, some 23), (12, some 24), (13, some 25), (14, some 26), (15, some 27), (16, some 28), (17, some 29)] rfl (by kernel_rfl) ⟨fun _ _ _ _ h => h, fun _ _ _ _ h => h, fun _ _ _ _ h => h, fun _ _ _ _ h => h, fun _ _ _ _ h => h, fun _ _ _ _ h => h, fun _ _ _ _ h => h, fun _ _ _ _ h => h, fun _ _ _ _ h => h, fun _ _ _ _ h => h, fun _ _ _ _ h => h, fun _ _ _ _ h => h, fun _ _ _ _ h => h, fun _ _ _ _ h => h, fun _ _ _ _ h => h, fun _ _ _ _ h => h, fun _ _ _ _ h => h, fun _ _ _ _ h => h, trivial⟩ (fun _ a a' _ e h => by cases a; cases a'; cases e; exact h) ?hS ?hsteps ?hend
        case hS =>
          intro w' hg
          have r := HR2.out.drew.below hg
          have x := HX4.out.drew.below hg
          have hbz := Lib.hid (HBr.out.drew.trans (hg.mono HBr.out.size))
          exact ⟨r.cell 0 _ rfl, r.cell 1 _ rfl, x.cell 16 _ HX16.out, (Below.cell hbz.out (p := ⟨b, off + 16, none⟩) HBLT.out).trans HC0.out, r.lt, x.lt, Nat.lt_of_lt_of_le HBLT.out hbz.out.size, hbz⟩
        case hsteps =>
          refine ⟨?_, ?_, ?_, ?_, ?_, ?_, ?_, ?_, ?_, ?_, ?_, ?_, ?_, ?_, ?_, ?_, ?_, ?_, trivial⟩
          · intro w' hs
            simp only [AllV, rgPut]
            clear hs
            first
              | (refine OpOk.off ?_ ?_ <;> rfl)
              | (refine OpOk.run ?_ (fun K hK => ?_)
                 · rfl
                 go_simp
                 refine hK.out _ _ (Grows.refl _) ?_
                 exact rfl)
          · intro w' hs
            simp only [AllV, rdP, isV, forall_eq, rgPut, Act.put, List.setIfInBounds_toArray, List.set_cons_zero, List.set_cons_succ]
            obtain ⟨f0, f1, f2, f3, f4, f5, f6, hbb⟩ := hs
            first
              | (refine OpOk.off ?_ ?_ <;> rfl)
              | (refine OpOk.run ?_ (fun K hK => ?_)
                 · rfl
                 go_simp
                 refine hK.out _ _ (Grows.refl _) ?_
                 exact rfl)
          · intro w' hs
            simp only [AllV, rgPut]
            clear hs
            first
              | (refine OpOk.off ?_ ?_ <;> rfl)
              | (refine OpOk.run ?_ (fun K hK => ?_)
                 · rfl
                 go_simp
                 refine hK.out _ _ (Grows.refl _) ?_
                 exact rfl)
          · intro w' hs
            simp only [AllV, rdP, isV, forall_eq, rgPut, Act.put, List.setIfInBounds_toArray, List.set_cons_zero, List.set_cons_succ]
            obtain ⟨f0, f1, f2, f3, f4, f5, f6, hbb⟩ := hs
            first
              | (refine OpOk.off ?_ ?_ <;> rfl)
              | (refine OpOk.run ?_ (fun K hK => ?_)
                 · rfl
                 go_simp
                 refine hK.out _ _ (Grows.refl _) ?_
                 exact rfl)
          · intro w' hs
            simp only [AllV, rdP, isV, forall_eq, rgPut, Act.put, List.setIfInBounds_toArray, List.set_cons_zero, List.set_cons_succ]
            obtain ⟨f0, f1, f2, f3, f4, f5, f6, hbb⟩ := hs
            first
              | (refine OpOk.off ?_ ?_ <;> rfl)
              | (refine OpOk.run ?_ (fun K hK => ?_)
                 · rfl
                 go_simp
                 go_at_call 41
                 refine (HMAY.out _ (HXB.out.below hbb.out)).mono ?_
                 rintro e w1 ⟨rfl, hb⟩
                 refine hK.out _ _ hb ?_
                 exact rfl
                )
          · intro w' hs
            simp only [AllV, rdP, isV, forall_eq, rgPut, Act.put, List.setIfInBounds_toArray, List.set_cons_zero, List.set_cons_succ]
            clear hs
            first
              | (refine OpOk.off ?_ ?_ <;> rfl)
              | (refine OpOk.run ?_ (fun K hK => ?_)
                 · rfl
                 go_simp
                 refine hK.out _ _ (Grows.refl _) ?_
                 exact rfl)
          · intro w' hs
            simp only [AllV, rdP, isV, forall_eq, rgPut, Act.put, List.setIfInBounds_toArray, List.set_cons_zero, List.set_cons_succ]
            clear hs
            first
              | (refine OpOk.off ?_ ?_ <;> rfl)
              | (refine OpOk.run ?_ (fun K hK => ?_)
                 · rfl
                 go_simp
                 refine hK.out _ _ (Grows.refl _) ?_
                 exact rfl)
          · intro w' hs
            simp only [AllV, rdP, isV, forall_eq, rgPut, Act.put, List.setIfInBounds_toArray, List.set_cons_zero, List.set_cons_succ]
            clear hs
            first
              | (refine OpOk.off ?_ ?_ <;> rfl)
              | (refine OpOk.run ?_ (fun K hK => ?_)
                 · rfl
                 go_simp
                 refine hK.out _ _ (Grows.refl _) ?_
                 exact rfl)
          · intro w' hs
            simp only [AllV, rdP, isV, forall_eq, rgPut, Act.put, List.setIfInBounds_toArray, List.set_cons_zero, List.set_cons_succ]
            obtain ⟨f0, f1, f2, f3, f4, f5, f6, hbb⟩ := hs
            first
              | (refine OpOk.off ?_ ?_ <;> rfl)
              | (refine OpOk.run ?_ (fun K hK => ?_)
                 · rfl
                 go_simp
                 refine hK.out _ _ (Grows.refl _) ?_
                 exact rfl)
          · intro w' hs
            simp only [AllV, rdP, isV, forall_eq, rgPut, Act.put, List.setIfInBounds_toArray, List.set_cons_zero, List.set_cons_succ]
            obtain ⟨f0, f1, f2, f3, f4, f5, f6, hbb⟩ := hs
            first
              | (refine OpOk.off ?_ ?_ <;> rfl)
              | (refine OpOk.run ?_ (fun K hK => ?_)
                 · rfl
                 go_simp
                 refine hK.out _ _ (Grows.refl _) ?_
                 exact rfl)
          · intro w' hs
            simp only [AllV, rdP, isV, forall_eq, rgPut, Act.put, List.setIfInBounds_toArray, List.set_cons_zero, List.set_cons_succ]
            clear hs
            first
              | (refine OpOk.off ?_ ?_ <;> rfl)
              | (refine OpOk.run ?_ (fun K hK => ?_)
                 · rfl
                 go_simp
                 refine hK.out _ _ (Grows.refl _) ?_
                 exact rfl)
          · intro w' hs
            simp only [AllV, rdP, isV, forall_eq, rgPut, Act.put, List.setIfInBounds_toArray, List.set_cons_zero, List.set_cons_succ]
            obtain ⟨f0, f1, f2, f3, f4, f5, f6, hbb⟩ := hs
            first
              | (refine OpOk.off ?_ ?_ <;> rfl)
              | (refine OpOk.run ?_ (fun K hK => ?_)
                 · rfl
                 go_simp
                 refine hK.out _ _ (Grows.refl _) ?_
                 exact rfl)
          · intro w' hs
            simp only [AllV, rdP, isV, forall_eq, rgPut, Act.put, List.setIfInBounds_toArray, List.set_cons_zero, List.set_cons_succ]
            clear hs
            first
              | (refine OpOk.off ?_ ?_ <;> rfl)
              | (refine OpOk.run ?_ (fun K hK => ?_)
                 · rfl
                 go_simp
                 refine hK.out _ _ (Grows.refl _) ?_
                 exact rfl)
          · intro w' hs
            simp only [AllV, rdP, isV, forall_eq, rgPut, Act.put, List.setIfInBounds_toArray, List.set_cons_zero, List.set_cons_succ]
            clear hs
            first
              | (refine OpOk.off ?_ ?_ <;> rfl)
              | (refine OpOk.run ?_ (fun K hK => ?_)
                 · rfl
                 go_simp
                 refine hK.out _ _ (Grows.refl _) ?_
                 exact rfl)
          · intro w' hs
            simp only [AllV, rdP, isV, forall_eq, rgPut, Act.put, List.setIfInBounds_toArray, List.set_cons_zero, List.set_cons_succ]
            obtain ⟨f0, f1, f2, f3, f4, f5, f6, hbb⟩ := hs
            first
              | (refine OpOk.off ?_ ?_ <;> rfl)
              | (refine OpOk.run ?_ (fun K hK => ?_)
                 · rfl
                 go_simp
                 refine hK.out _ _ (Grows.refl _) ?_
                 exact rfl)
          · intro w' hs
            simp only [AllV, rdP, isV, forall_eq, rgPut, Act.put, List.setIfInBounds_toArray, List.set_cons_zero, List.set_cons_succ]
            obtain ⟨f0, f1, f2, f3, f4, f5, f6, hbb⟩ := hs
            first
              | (refine OpOk.off ?_ ?_ <;> rfl)
              | (refine OpOk.run ?_ (fun K hK => ?_)
                 · rfl
                 go_simp
                 refine hK.out _ _ (Grows.refl _) ?_
                 exact rfl)
          · intro w' hs
            simp only [AllV, rdP, isV, forall_eq, rgPut, Act.put, List.setIfInBounds_toArray, List.set_cons_zero, List.set_cons_succ]
            clear hs
            first
              | (refine OpOk.off ?_ ?_ <;> rfl)
              | (refine OpOk.run ?_ (fun K hK => ?_)
                 · rfl
                 go_simp
                 refine hK.out _ _ (Grows.refl _) ?_
                 exact rfl)
          · intro w' hs
            simp only [AllV, rdP, isV, forall_eq, rgPut, Act.put, List.setIfInBounds_toArray, List.set_cons_zero, List.set_cons_succ]
            clear hs
            first
              | (refine OpOk.off ?_ ?_ <;> rfl)
              | (refine OpOk.run ?_ (fun K hK => ?_)
                 · rfl
                 go_simp
                 refine hK.out _ _ (Grows.refl _) ?_
                 exact rfl)
        case hend =>
          intro w' hs
          simp only [AllV, rdP, isV, forall_eq, rgPut, Act.put, List.setIfInBounds_toArray, List.set_cons_zero, List.set_cons_succ]
          obtain ⟨f0, f1, f2, f3, f4, f5, f6, hbb⟩ := hs
          clear f0 f1 f2 f3 f4 f5 f6
          go_wp2
          go_ret
          rw [HNO.out]
          exact ⟨rfl, hbb.out⟩
      | true =>
        by_cases hml : m = m0
        · have HG2 : Hid (∀ r y, r < j + 1 → xs[r]? = some y → (mayB k y.d && decide (y.d.length = Z)) = true) := Lib.hid (fun r y hr hy => by
            by_cases e : r = j
            · subst e
              rw [HXE.out] at hy
              cases hy
              rw [← hMB.out, Bool.true_and]
              exact decide_eq_true (by rw [HZ0.out, ← hml]; exact HMD.out.symm)
            · exact hgood.out r y (by omega) hy)
          have hne : ((m : Int) != (m0 : Int)) = false := by simp; omega
          have HJ : Hid (j + 1 ≤ n) := Lib.hid hlt
          clear hml
          refine' wp_region_grows (by kernel_rfl) (fun w' => w'.cell? ⟨w.heap.size, 0, none⟩ = some (.int .u8 k) ∧ w'.cell? ⟨w.heap.size, 1, none⟩ = some (.slice (some ⟨b, off, none⟩) n cap) ∧ w'.cell? ⟨n4, 16, none⟩ = some (.slice s m c) ∧ w'.cell? ⟨b, off + 16, none⟩ = some (.slice s0 m0 c0) ∧ w.heap.size < w'.heap.size ∧ n4 < w'.heap.size ∧ b < w'.heap.size ∧ Hid (Below w.heap.size w w') ∧ Hid (RowAt w' w.heap.size #[.int .u8 k, .slice (some ⟨b, off, none⟩) n cap])) [isV _, isV _, isV _, isV _, isV _, isV _, isV _, isV _, isV _, isV _, isV _, isV _, isV _, isV _, isV _, isV _, isV _, isV _] 35 [[], [(0, some 12)], [], [(2, some 14)], [(1, some 13), (3, some 15)], [(4, some 16)], [(5, some 17)], [(6, some 18)], [(7, some 19), (6, some 18)], [(8, some 20), (6, some 18)], [(6, some 18)], [(10, some 22), (6, some 18)], [(11, some 23), (6, some 18)], [(12, some 24), (6, some 18)], [(13, some 25), (6, some 18)], [(14, some 26), (6, some 18)], [(9, some 21), (15, some 27), (6, some 18)], [(6, some 18), (16, some 28)]] [(0, some 12), (1, some 13), (2, some 14), (3, some 15), (4, some 16), (5, some 17), (6, some 18), (7, some 19), (8, some 20), (9, some 21), (10, some 22), (11, some 23), (12, some 24), (13, some 25), (14, some 26), (15, some 27), (16, some 28), (17, some 29)] rfl (by kernel_rfl) ⟨fun _ _ _ _ h => h, fun _ _ _ _ h => h, fun _ _ _ _ h => h, fun _ _ _ _ h => h, fun _ _ _ _ h => h, fun _ _ _ _ h => h, fun _ _ _ _ h => h, fun _ _ _ _ h => h, fun _ _ _ _ h => h, fun _ _ _ _ h => h, fun _ _ _ _ h => h, fun _ _ _ _ h => h, fun _ _ _ _ h => h, fun _ _ _ _ h => h, fun _ _ _ _ h => h, fun _ _ _ _ h => h, fun _ _ _ _ h => h, fun _ _ _ _ h => h, trivial⟩ (fun _ a a' _ e h => by cases a; cases a'; cases e; exact h) ?hS ?hsteps ?hend
          case hS =>
            intro w' hg
            have r := HR2.out.drew.below hg
            have x := HX4.out.drew.below hg
            have hbz := Lib.hid (HBr.out.drew.trans (hg.mono HBr.out.size))
            exact ⟨r.cell 0 _ rfl, r.cell 1 _ rfl, x.cell 16 _ HX16.out, (Below.cell hbz.out (p := ⟨b, off + 16, none⟩) HBLT.out).trans HC0.out, r.lt, x.lt, Nat.lt_of_lt_of_le HBLT.out hbz.out.size, hbz, Lib.hid r⟩
          case hsteps =>
            refine ⟨?_, ?_, ?_, ?_, ?_, ?_, ?_, ?_, ?_, ?_, ?_, ?_, ?_, ?_, ?_, ?_, ?_, ?_, trivial⟩
            · intro w' hs
              simp only [AllV, rgPut]
              clear hs
              first
                | (refine OpOk.off ?_ ?_ <;> rfl)
                | (refine OpOk.run ?_ (fun K hK => ?_)
                   · rfl
                   go_simp
                   refine hK.out _ _ (Grows.refl _) ?_
                   exact rfl)
            · intro w' hs
              simp only [AllV, rdP, isV, forall_eq, rgPut, Act.put, List.setIfInBounds_toArray, List.set_cons_zero, List.set_cons_succ]
              obtain ⟨f0, f1, f2, f3, f4, f5, f6, hbb, hrw⟩ := hs
              first
                | (refine OpOk.off ?_ ?_ <;> rfl)
                | (refine OpOk.run ?_ (fun K hK => ?_)
                   · rfl
                   go_simp
                   refine hK.out _ _ (Grows.refl _) ?_
                   exact rfl)
            · intro w' hs
              simp only [AllV, rgPut]
              clear hs
              first
                | (refine OpOk.off ?_ ?_ <;> rfl)
                | (refine OpOk.run ?_ (fun K hK => ?_)
                   · rfl
                   go_simp
                   refine hK.out _ _ (Grows.refl _) ?_
                   exact rfl)
            · intro w' hs
              simp only [AllV, rdP, isV, forall_eq, rgPut, Act.put, List.setIfInBounds_toArray, List.set_cons_zero, List.set_cons_succ]
              obtain ⟨f0, f1, f2, f3, f4, f5, f6, hbb, hrw⟩ := hs
              first
                | (refine OpOk.off ?_ ?_ <;> rfl)
                | (refine OpOk.run ?_ (fun K hK => ?_)
                   · rfl
                   go_simp
                   refine hK.out _ _ (Grows.refl _) ?_
                   exact rfl)
            · intro w' hs
              simp only [AllV, rdP, isV, forall_eq, rgPut, Act.put, List.setIfInBounds_toArray, List.set_cons_zero, List.set_cons_succ]
              obtain ⟨f0, f1, f2, f3, f4, f5, f6, hbb, hrw⟩ := hs
              first
                | (refine OpOk.off ?_ ?_ <;> rfl)
                | (refine OpOk.run ?_ (fun K hK => ?_)
                   · rfl
                   go_simp
                   go_at_call 41
                   refine (HMAY.out _ (HXB.out.below hbb.out)).mono ?_
                   rintro e w1 ⟨rfl, hb⟩
                   refine hK.out _ _ hb ?_
                   exact rfl
                  )
            · intro w' hs
              simp only [AllV, rdP, isV, forall_eq, rgPut, Act.put, List.setIfInBounds_toArray, List.set_cons_zero, List.set_cons_succ]
              clear hs
              first
                | (refine OpOk.off ?_ ?_ <;> rfl)
                | (refine OpOk.run ?_ (fun K hK => ?_)
                   · rfl
                   go_simp
                   refine hK.out _ _ (Grows.refl _) ?_
                   exact rfl)
            · intro w' hs
              simp only [AllV, rdP, isV, forall_eq, rgPut, Act.put, List.setIfInBounds_toArray, List.set_cons_zero, List.set_cons_succ]
              clear hs
              first
                | (refine OpOk.off ?_ ?_ <;> rfl)
                | (refine OpOk.run ?_ (fun K hK => ?_)
                   · rfl
                   go_simp
                   refine hK.out _ _ (Grows.refl _) ?_
                   exact rfl)
            · intro w' hs
              simp only [AllV, rdP, isV, forall_eq, rgPut, Act.put, List.setIfInBounds_toArray, List.set_cons_zero, List.set_cons_succ]
              clear hs
              first
                | (refine OpOk.off ?_ ?_ <;> rfl)
                | (refine OpOk.run ?_ (fun K hK => ?_)
                   · rfl
                   go_simp
                   refine hK.out _ _ (Grows.refl _) ?_
                   exact rfl)
            · intro w' hs
              simp only [AllV, rdP, isV, forall_eq, rgPut, Act.put, List.setIfInBounds_toArray, List.set_cons_zero, List.set_cons_succ]
              obtain ⟨f0, f1, f2, f3, f4, f5, f6, hbb, hrw⟩ := hs
              first
                | (refine OpOk.off ?_ ?_ <;> rfl)
                | (refine OpOk.run ?_ (fun K hK => ?_)
                   · rfl
                   go_simp
                   refine hK.out _ _ (Grows.refl _) ?_
                   exact rfl)
            · intro w' hs
              simp only [AllV, rdP, isV, forall_eq, rgPut, Act.put, List.setIfInBounds_toArray, List.set_cons_zero, List.set_cons_succ]
              obtain ⟨f0, f1, f2, f3, f4, f5, f6, hbb, hrw⟩ := hs
              first
                | (refine OpOk.off ?_ ?_ <;> rfl)
                | (refine OpOk.run ?_ (fun K hK => ?_)
                   · rfl
                   go_simp
                   refine hK.out _ _ (Grows.refl _) ?_
                   exact rfl)
            · intro w' hs
              simp only [AllV, rdP, isV, forall_eq, rgPut, Act.put, List.setIfInBounds_toArray, List.set_cons_zero, List.set_cons_succ]
              clear hs
              first
                | (refine OpOk.off ?_ ?_ <;> rfl)
                | (refine OpOk.run ?_ (fun K hK => ?_)
                   · rfl
                   go_simp
                   refine hK.out _ _ (Grows.refl _) ?_
                   exact rfl)
            · intro w' hs
              simp only [AllV, rdP, isV, forall_eq, rgPut, Act.put, List.setIfInBounds_toArray, List.set_cons_zero, List.set_cons_succ]
              obtain ⟨f0, f1, f2, f3, f4, f5, f6, hbb, hrw⟩ := hs
              first
                | (refine OpOk.off ?_ ?_ <;> rfl)
                | (refine OpOk.run ?_ (fun K hK => ?_)
                   · rfl
                   go_simp
                   refine hK.out _ _ (Grows.refl _) ?_
                   exact rfl)
            · intro w' hs
              simp only [AllV, rdP, isV, forall_eq, rgPut, Act.put, List.setIfInBounds_toArray, List.set_cons_zero, List.set_cons_succ]
              clear hs
              first
                | (refine OpOk.off ?_ ?_ <;> rfl)
                | (refine OpOk.run ?_ (fun K hK => ?_)
                   · rfl
                   go_simp
                   refine hK.out _ _ (Grows.refl _) ?_
                   exact rfl)
            · intro w' hs
              simp only [AllV, rdP, isV, forall_eq, rgPut, Act.put, List.setIfInBounds_toArray, List.set_cons_zero, List.set_cons_succ]
              clear hs
              first
                | (refine OpOk.off ?_ ?_ <;> rfl)
                | (refine OpOk.run ?_ (fun K hK => ?_)
                   · rfl
                   go_simp
                   refine hK.out _ _ (Grows.refl _) ?_
                   exact rfl)
            · intro w' hs
              simp only [AllV, rdP, isV, forall_eq, rgPut, Act.put, List.setIfInBounds_toArray, List.set_cons_zero, List.set_cons_succ]
              obtain ⟨f0, f1, f2, f3, f4, f5, f6, hbb, hrw⟩ := hs
              first
                | (refine OpOk.off ?_ ?_ <;> rfl)
                | (refine OpOk.run ?_ (fun K hK => ?_)
                   · rfl
                   go_simp
                   refine hK.out _ _ (Grows.refl _) ?_
                   exact rfl)
            · intro w' hs
              simp only [AllV, rdP, isV, forall_eq, rgPut, Act.put, List.setIfInBounds_toArray, List.set_cons_zero, List.set_cons_succ]
              obtain ⟨f0, f1, f2, f3, f4, f5, f6, hbb, hrw⟩ := hs
              first
                | (refine OpOk.off ?_ ?_ <;> rfl)
                | (refine OpOk.run ?_ (fun K hK => ?_)
                   · rfl
                   go_simp
                   refine hK.out _ _ (Grows.refl _) ?_
                   exact rfl)
            · intro w' hs
              simp only [AllV, rdP, isV, forall_eq, rgPut, Act.put, List.setIfInBounds_toArray, List.set_cons_zero, List.set_cons_succ]
              clear hs
              first
                | (refine OpOk.off ?_ ?_ <;> rfl)
                | (refine OpOk.run ?_ (fun K hK => ?_)
                   · rfl
                   go_simp
                   refine hK.out _ _ (Grows.refl _) ?_
                   exact rfl)
            · intro w' hs
              simp only [AllV, rdP, isV, forall_eq, rgPut, Act.put, List.setIfInBounds_toArray, List.set_cons_zero, List.set_cons_succ]
              clear hs
              first
                | (refine OpOk.off ?_ ?_ <;> rfl)
                | (refine OpOk.run ?_ (fun K hK => ?_)
                   · rfl
                   go_simp
                   refine hK.out _ _ (Grows.refl _) ?_
                   exact rfl)
          case hend =>
            intro w' hs
            simp only [AllV, rdP, isV, forall_eq, rgPut, Act.put, List.setIfInBounds_toArray, List.set_cons_zero, List.set_cons_succ]
            obtain ⟨f0, f1, f2, f3, f4, f5, f6, hbb, hrw⟩ := hs
            have HRn := Lib.hid ((HR2.out.drew).below (Below.refl _ _))
            clear f2 f3 f5 f6 HRn
            go_wp2
            go_roundw
            case rel => exact ⟨j + 1, HJ.out, by go_num, HG2, hrw, hbb⟩
            case measure => have := HJ.out; simp [intOf]; omega
        · have HNO := Lib.hid (HBAD.out x j HXE.out (by rw [← hMB.out, Bool.true_and]; exact decide_eq_false (fun e => hml (by have := HMD.out; have := HZ0.out; omega))))
          have hne : ((m : Int) != (m0 : Int)) = true := by simp; omega
          clear hml
          refine' wp_region_grows (by kernel_rfl) (fun w' => w'.cell? ⟨w.heap.size, 0, none⟩ = some (.int .u8 k) ∧ w'.cell? ⟨w.heap.size, 1, none⟩ = some (.slice (some ⟨b, off, none⟩) n cap) ∧ w'.cell? ⟨n4, 16, none⟩ = some (.slice s m c) ∧ w'.cell? ⟨b, off + 16, none⟩ = some (.slice s0 m0 c0) ∧ w.heap.size < w'.heap.size ∧ n4 < w'.heap.size ∧ b < w'.heap.size ∧ Hid (Below w.heap.size w w')) [isV _, isV _, isV _, isV _, isV _, isV _, isV _, isV _, isV _, isV _, isV _, isV _, isV _, isV _, isV _, isV _, isV _, isV _] 35 [[], [(0, some 12)], [], [(2, some 14)], [(1, some 13), (3, some 15)], [(4, some 16)], [(5, some 17)], [(6, some 18)], [(7, some 19), (6, some 18)], [(8, some 20), (6, some 18)], [(6, some 18)], [(10, some 22), (6, some 18)], [(11, some 23), (6, some 18)], [(12, some 24), (6, some 18)], [(13, some 25), (6, some 18)], [(14, some 26), (6, some 18)], [(9, some 21), (15, some 27), (6, some 18)], [(6, some 18), (16, some 28)]] [(0, some 12), (1, some 13), (2, some 14), (3, some 15), (4, some 16), (5, some 17), (6, some 18), (7, some 19), (8, some 20), (9, some 21), (10, some 22), (11, some 23), (12, some 24), (13, some 25), (14, some 26), (15, some 27), (16, some 28), (17, some 29)] rfl (by kernel_rfl) ⟨fun _ _ _ _ h => h, fun _ _ _ _ h => h, fun _ _ _ _ h => h, fun _ _ _ _ h => h, fun _ _ _ _ h => h, fun _ _ _ _ h => h, fun _ _ _ _ h => h, fun _ _ _ _ h => h, fun _ _ _ _ h => h, fun _ _ _ _ h => h, fun _ _ _ _ h => h, fun _ _ _ _ h => h, fun _ _ _ _ h => h, fun _ _ _ _ h => h, fun _ _ _ _ h => h, fun _ _ _ _ h => h, fun _ _ _ _ h => h, fun _ _ _ _ h => h, trivial⟩ (fun _ a a' _ e h => by cases a; cases a'; cases e; exact h) ?hS ?hsteps ?hend
          case hS =>
            intro w' hg
            have r := HR2.out.drew.below hg
            have x := HX4.out.drew.below hg
            have hbz := Lib.hid (HBr.out.drew.trans (hg.mono HBr.out.size))
            exact ⟨r.cell 0 _ rfl, r.cell 1 _ rfl, x.cell 16 _ HX16.out, (Below.cell hbz.out (p := ⟨b, off + 16, none⟩) HBLT.out).trans HC0.out, r.lt, x.lt, Nat.lt_of_lt_of_le HBLT.out hbz.out.size, hbz⟩
          case hsteps =>
            refine ⟨?_, ?_, ?_, ?_, ?_, ?_, ?_, ?_, ?_, ?_, ?_, ?_, ?_, ?_, ?_, ?_, ?_, ?_, trivial⟩
            · intro w' hs
              simp only [AllV, rgPut]
              clear hs
              first
                | (refine OpOk.off ?_ ?_ <;> rfl)
                | (refine OpOk.run ?_ (fun K hK => ?_)
                   · rfl
                   go_simp
                   refine hK.out _ _ (Grows.refl _) ?_
                   exact rfl)
            · intro w' hs
              simp only [AllV, rdP, isV, forall_eq, rgPut, Act.put, List.setIfInBounds_toArray, List.set_cons_zero, List.set_cons_succ]
              obtain ⟨f0, f1, f2, f3, f4, f5, f6, hbb⟩ := hs
              first
                | (refine OpOk.off ?_ ?_ <;> rfl)
                | (refine OpOk.run ?_ (fun K hK => ?_)
                   · rfl
                   go_simp
                   refine hK.out _ _ (Grows.refl _) ?_
                   exact rfl)
            · intro w' hs
              simp only [AllV, rgPut]
              clear hs
              first
                | (refine OpOk.off ?_ ?_ <;> rfl)
                | (refine OpOk.run ?_ (fun K hK => ?_)
                   · rfl
                   go_simp
                   refine hK.out _ _ (Grows.refl _) ?_
                   exact rfl)
            · intro w' hs
              simp only [AllV, rdP, isV, forall_eq, rgPut, Act.put, List.setIfInBounds_toArray, List.set_cons_zero, List.set_cons_succ]
              obtain ⟨f0, f1, f2, f3, f4, f5, f6, hbb⟩ := hs
              first
                | (refine OpOk.off ?_ ?_ <;> rfl)
                | (refine OpOk.run ?_ (fun K hK => ?_)
                   · rfl
                   go_simp
                   refine hK.out _ _ (Grows.refl _) ?_
                   exact rfl)
            · intro w' hs
              simp only [AllV, rdP, isV, forall_eq, rgPut, Act.put, List.setIfInBounds_toArray, List.set_cons_zero, List.set_cons_succ]
              obtain ⟨f0, f1, f2, f3, f4, f5, f6, hbb⟩ := hs
              first
                | (refine OpOk.off ?_ ?_ <;> rfl)
                | (refine OpOk.run ?_ (fun K hK => ?_)
                   · rfl
                   go_simp
                   go_at_call 41
                   refine (HMAY.out _ (HXB.out.below hbb.out)).mono ?_
                   rintro e w1 ⟨rfl, hb⟩
                   refine hK.out _ _ hb ?_
                   exact rfl
                  )
            · intro w' hs
              simp only [AllV, rdP, isV, forall_eq, rgPut, Act.put, List.setIfInBounds_toArray, List.set_cons_zero, List.set_cons_succ]
              clear hs
              first
                | (refine OpOk.off ?_ ?_ <;> rfl)
                | (refine OpOk.run ?_ (fun K hK => ?_)
                   · rfl
                   go_simp
                   refine hK.out _ _ (Grows.refl _) ?_
                   exact rfl)
            · intro w' hs
              simp only [AllV, rdP, isV, forall_eq, rgPut, Act.put, List.setIfInBounds_toArray, List.set_cons_zero, List.set_cons_succ]
              clear hs
              first
                | (refine OpOk.off ?_ ?_ <;> rfl)
                | (refine OpOk.run ?_ (fun K hK => ?_)
                   · rfl
                   go_simp
                   refine hK.out _ _ (Grows.refl _) ?_
                   exact rfl)
            · intro w' hs
              simp only [AllV, rdP, isV, forall_eq, rgPut, Act.put, List.setIfInBounds_toArray, List.set_cons_zero, List.set_cons_succ]
              clear hs
              first
                | (refine OpOk.off ?_ ?_ <;> rfl)
                | (refine OpOk.run ?_ (fun K hK => ?_)
                   · rfl
                   go_simp
                   refine hK.out _ _ (Grows.refl _) ?_
                   exact rfl)
            · intro w' hs
              simp only [AllV, rdP, isV, forall_eq, rgPut, Act.put, List.setIfInBounds_toArray, List.set_cons_zero, List.set_cons_succ]
              obtain ⟨f0, f1, f2, f3, f4, f5, f6, hbb⟩ := hs
              first
                | (refine OpOk.off ?_ ?_ <;> rfl)
                | (refine OpOk.run ?_ (fun K hK => ?_)
                   · rfl
                   go_simp
                   refine hK.out _ _ (Grows.refl _) ?_
                   exact rfl)
            · intro w' hs
              simp only [AllV, rdP, isV, forall_eq, rgPut, Act.put, List.setIfInBounds_toArray, List.set_cons_zero, List.set_cons_succ]
              obtain ⟨f0, f1, f2, f3, f4, f5, f6, hbb⟩ := hs
              first
                | (refine OpOk.off ?_ ?_ <;> rfl)
                | (refine OpOk.run ?_ (fun K hK => ?_)
                   · rfl
                   go_simp
                   refine hK.out _ _ (Grows.refl _) ?_
                   exact rfl)
            · intro w' hs
              simp only [AllV, rdP, isV, forall_eq, rgPut, Act.put, List.setIfInBounds_toArray, List.set_cons_zero, List.set_cons_succ]
              clear hs
              first
                | (refine OpOk.off ?_ ?_ <;> rfl)
                | (refine OpOk.run ?_ (fun K hK => ?_)
                   · rfl
                   go_simp
                   refine hK.out _ _ (Grows.refl _) ?_
                   exact rfl)
            · intro w' hs
              simp only [AllV, rdP, isV, forall_eq, rgPut, Act.put, List.setIfInBounds_toArray, List.set_cons_zero, List.set_cons_succ]
              obtain ⟨f0, f1, f2, f3, f4, f5, f6, hbb⟩ := hs
              first
                | (refine OpOk.off ?_ ?_ <;> rfl)
                | (refine OpOk.run ?_ (fun K hK => ?_)
                   · rfl
                   go_simp
                   refine hK.out _ _ (Grows.refl _) ?_
                   exact rfl)
            · intro w' hs
              simp only [AllV, rdP, isV, forall_eq, rgPut, Act.put, List.setIfInBounds_toArray, List.set_cons_zero, List.set_cons_succ]
              clear hs
              first
                | (refine OpOk.off ?_ ?_ <;> rfl)
                | (refine OpOk.run ?_ (fun K hK => ?_)
                   · rfl
                   go_simp
                   refine hK.out _ _ (Grows.refl _) ?_
                   exact rfl)
            · intro w' hs
              simp only [AllV, rdP, isV, forall_eq, rgPut, Act.put, List.setIfInBounds_toArray, List.set_cons_zero, List.set_cons_succ]
              clear hs
              first
                | (refine OpOk.off ?_ ?_ <;> rfl)
                | (refine OpOk.run ?_ (fun K hK => ?_)
                   · rfl
                   go_simp
                   refine hK.out _ _ (Grows.refl _) ?_
                   exact rfl)
            · intro w' hs
              simp only [AllV, rdP, isV, forall_eq, rgPut, Act.put, List.setIfInBounds_toArray, List.set_cons_zero, List.set_cons_succ]
              obtain ⟨f0, f1, f2, f3, f4, f5, f6, hbb⟩ := hs
              first
                | (refine OpOk.off ?_ ?_ <;> rfl)
                | (refine OpOk.run ?_ (fun K hK => ?_)
                   · rfl
                   go_simp
                   refine hK.out _ _ (Grows.refl _) ?_
                   exact rfl)
            · intro w' hs
              simp only [AllV, rdP, isV, forall_eq, rgPut, Act.put, List.setIfInBounds_toArray, List.set_cons_zero, List.set_cons_succ]
              obtain ⟨f0, f1, f2, f3, f4, f5, f6, hbb⟩ := hs
              first
                | (refine OpOk.off ?_ ?_ <;> rfl)
                | (refine OpOk.run ?_ (fun K hK => ?_)
                   · rfl
                   go_simp
                   refine hK.out _ _ (Grows.refl _) ?_
                   exact rfl)
            · intro w' hs
              simp only [AllV, rdP, isV, forall_eq, rgPut, Act.put, List.setIfInBounds_toArray, List.set_cons_zero, List.set_cons_succ]
              clear hs
              first
                | (refine OpOk.off ?_ ?_ <;> rfl)
                | (refine OpOk.run ?_ (fun K hK => ?_)
                   · rfl
                   go_simp
                   refine hK.out _ _ (Grows.refl _) ?_
                   exact rfl)
            · intro w' hs
              simp only [AllV, rdP, isV, forall_eq, rgPut, Act.put, List.setIfInBounds_toArray, List.set_cons_zero, List.set_cons_succ]
              clear hs
              first
                | (refine OpOk.off ?_ ?_ <;> rfl)
                | (refine OpOk.run ?_ (fun K hK => ?_)
                   · rfl
                   go_simp
                   refine hK.out _ _ (Grows.refl _) ?_
                   exact rfl)
          case hend =>
            intro w' hs
            simp only [AllV, rdP, isV, forall_eq, rgPut, Act.put, List.setIfInBounds_toArray, List.set_cons_zero, List.set_cons_succ]
            obtain ⟨f0, f1, f2, f3, f4, f5, f6, hbb⟩ := hs
            clear f0 f1 f2 f3 f4 f5 f6
            go_wp2
            go_ret
            rw [HNO.out]
            exact ⟨rfl, hbb.out⟩
    · obtain rfl : j = n := by omega
      have hdl : decide ((j : Int) < (j : Int)) = false := by simp
      have HE := Lib.hid (HGOOD.out (fun r x hr hx => hgood.out r x (by rw [hnn.out]; exact hr) hx))
      rw [← hnn.out] at HE
      have r1 := HR.out.cell 1 (.slice a j cap) rfl
      have rz := HR.out.lt
      go_wp2
      go_ret
      rw [HE.out, show decide ((0 : Int) < (j : Int)) = decide (0 < j) by simp]
      exact ⟨rfl, HB.out⟩
end Go.Proofs.Ytilanncobbdlfaa
