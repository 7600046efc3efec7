/-
  The contract of SameLists.
-/
import Derived.Test.YtilanncobbdlfaaSg16
namespace Go.Proofs.Ytilanncobbdlfaa
open Go Go.RowKit
set_option linter.unusedVariables false

theorem map_same {α β : Type} {f : α → β} {xs ys : List α} (hl : xs.length = ys.length) (h : ∀ (j : Nat) (x y : α), j < xs.length → xs[j]? = some x → ys[j]? = some y → f x = f y) : xs.map f = ys.map f := by
  apply List.ext_getElem?
  intro j
  rw [List.getElem?_map, List.getElem?_map]
  by_cases hj : j < xs.length
  · have hj2 : j < ys.length := by omega
    rw [List.getElem?_eq_getElem hj, List.getElem?_eq_getElem hj2]
    exact congrArg some (h j _ _ hj (List.getElem?_eq_getElem hj) (List.getElem?_eq_getElem hj2))
  · rw [List.getElem?_eq_none (by omega), List.getElem?_eq_none (by omega)]
theorem map_same_at {α β : Type} {f : α → β} {xs ys : List α} (h : xs.map f = ys.map f) {j : Nat} {x y : α} (hx : xs[j]? = some x) (hy : ys[j]? = some y) : f x = f y := by
  have := congrArg (·[j]?) h
  simp only [List.getElem?_map, hx, hy, Option.map_some, Option.some.injEq] at this
  exact this
theorem map_same_len {α β : Type} {f : α → β} {xs ys : List α} (h : xs.map f = ys.map f) : xs.length = ys.length := by
  have := congrArg List.length h
  simpa using this
/-- The items of two lists that are the same. -/
theorem li_its {x y : LiV} (h : x.li = y.li) : x.k = y.k ∧ x.i.map ItV.it = y.i.map ItV.it := by
  unfold LiV.li at h
  injection h with h1 h2
  exact ⟨h1, h2⟩
theorem it_parts {p q : ItV} (h : p.it = q.it) : p.o = q.o ∧ p.d = q.d := by
  unfold ItV.it at h
  injection h with h1 h2
  exact ⟨h1, h2⟩
theorem it_of {p q : ItV} (h1 : p.o = q.o) (h2 : p.d = q.d) : p.it = q.it := by unfold ItV.it; rw [h1, h2]

set_option maxRecDepth 100000 in
set_option maxHeartbeats 4000000 in
theorem sameLists_calls (v u : Value) (xs ys : List LiV) (w : World) (hv : Lis w v xs) (hu : Lis w u ys) (hn : xs.length ≤ 1000000000) (hn2 : ys.length ≤ 1000000000) (hi : ∀ x ∈ xs, x.i.length ≤ 1000000000) (hi2 : ∀ x ∈ ys, x.i.length ≤ 1000000000) :
    Calls Try.prog 18 #[v, u] w fun e w' => e = .returned (.bool (decide (xs.map LiV.li = ys.map LiV.li))) ∧ Below w.heap.size w w' := by
  have HV := Lib.hid hv
  have HU := Lib.hid hu
  have HI := Lib.hid hi
  have HI2 := Lib.hid hi2
  obtain ⟨a, cap, rfl, h1, h2⟩ := hv.open
  obtain ⟨a2, cap2, rfl, h3, h4⟩ := hu.open
  clear hv hu hi hi2
  obtain ⟨RB, hRB⟩ : ∃ B, Hid (B = decide (xs.map LiV.li = ys.map LiV.li)) := ⟨_, Lib.hid rfl⟩
  rw [← hRB.out]
  have HNO : Hid (¬ (xs.map LiV.li = ys.map LiV.li) → RB = false) := Lib.hid (fun h => by rw [hRB.out]; exact decide_eq_false h)
  obtain ⟨N, hN⟩ : ∃ n, Hid (n = xs.length) := ⟨_, Lib.hid rfl⟩
  obtain ⟨N2, hN2⟩ : ∃ n, Hid (n = ys.length) := ⟨_, Lib.hid rfl⟩
  rw [← hN.out] at HV h1 hn ⊢
  rw [← hN2.out] at HU h3 hn2 ⊢
  by_cases hNN : ¬ N = N2
  · have hne : ((N : Int) != (N2 : Int)) = true := by simp; omega
    have HF := Lib.hid (HNO.out (fun h => hNN (by rw [hN.out, hN2.out]; exact map_same_len h)))
    go_enter Try.func18, Try.ntmps18
    go_wp2
    go_ret
    rw [HF.out]
    exact ⟨rfl, Below.refl _ _⟩
  obtain rfl : N = N2 := Decidable.not_not.1 hNN
  clear hNN
  go_enter Try.func18, Try.ntmps18
  go_wp2
  go_loopw [5] (fun j_ wr => ∃ j : Nat, j ≤ N ∧ j_ = .int .i64 j ∧ Hid (∀ (r : Nat) (x y : LiV), r < j → xs[r]? = some x → ys[r]? = some y → x.li = y.li) ∧ Hid (Below w.heap.size w wr)) (fun j_ _ => N - (intOf j_).toNat)
  case atStart => exact ⟨0, Nat.zero_le _, rfl, Lib.hid (fun r x y hr => absurd hr (Nat.not_lt_zero _)), Lib.hid (Below.refl _ _)⟩
  case round =>
    obtain ⟨j, hj, rfl, hgood, HB⟩ := hrel
    obtain ⟨wo, hwo⟩ : ∃ wo : World, wo = wr := ⟨_, rfl⟩
    subst hwo
    by_cases hlt : j < N
    · obtain ⟨b, off, x, ia, n, ic, hx, ha, hrow, hxv, hm, hmc, hc, hits⟩ := HV.out.item j (by rw [← hN.out]; exact hlt)
      obtain ⟨b2, off2, y, ja, nn, jc, hy, ha2, hrow2, hyv, hm2, hmc2, hc2, hits2⟩ := HU.out.item j (by rw [← hN2.out]; exact hlt)
      subst ha
      subst ha2
      have hdl : decide ((j : Int) < (N : Int)) = true := by simp; omega
      have HX := Lib.hid hx
      have HY := Lib.hid hy
      have HA1 : Hid (w.cell? ⟨b, off + j * 2, none⟩ = some (.int .u8 x.k)) := Lib.hid (hrow 0 _ rfl)
      have HA2 : Hid (w.cell? ⟨b, off + j * 2 + 1, none⟩ = some (.slice ia n ic)) := Lib.hid (hrow 1 _ rfl)
      have HC1 : Hid (w.cell? ⟨b2, off2 + j * 2, none⟩ = some (.int .u8 y.k)) := Lib.hid (hrow2 0 _ rfl)
      have HC2 : Hid (w.cell? ⟨b2, off2 + j * 2 + 1, none⟩ = some (.slice ja nn jc)) := Lib.hid (hrow2 1 _ rfl)
      have HIT1 := Lib.hid hits
      have HIT2 := Lib.hid hits2
      have HN1 := Lib.hid hm
      have HN2 := Lib.hid hm2
      have hnb : n ≤ 1000000000 := by rw [hm]; exact HI.out x (List.mem_of_getElem? hx)
      have hnb2 : nn ≤ 1000000000 := by rw [hm2]; exact HI2.out y (List.mem_of_getElem? hy)
      obtain ⟨k1, hk1⟩ : ∃ k, Hid (k = x.k) := ⟨_, Lib.hid rfl⟩
      obtain ⟨k2, hk2⟩ : ∃ k, Hid (k = y.k) := ⟨_, Lib.hid rfl⟩
      rw [← hk1.out] at HA1
      rw [← hk2.out] at HC1
      clear hrow hrow2 hx hy hxv hyv hm hm2 hits hits2
      by_cases hkk : k1 = k2
      · subst hkk
        by_cases hnn : n = nn
        · subst hnn
          have hne : ((n : Int) != (n : Int)) = false := by simp
          go_wp2
          refine' wp_region_grows (by kernel_rfl) (fun w' => w'.cell? ⟨b, off + j * 2, none⟩ = some (.int .u8 k1) ∧ w'.cell? ⟨b, off + j * 2 + 1, none⟩ = some (.slice ia n ic) ∧ w'.cell? ⟨b2, off2 + j * 2, none⟩ = some (.int .u8 k1) ∧ w'.cell? ⟨b2, off2 + j * 2 + 1, none⟩ = some (.slice ja n jc) ∧ Hid (Below w.heap.size w w')) [isV _, isV _, isV _, isV _, isV _, isV _, isV _, isV _, isV _, isV _, isV _, isV _, isV _, isV _, isV _, isV _, isV _, isV _, isV _, isV _, isV _, isV _, isV _, isV _, isV _, isV _] 95 [[], [], [(0, some 18), (1, some 19)], [(2, some 20)], [(3, some 21)], [], [], [(5, some 23), (6, some 24)], [(7, some 25)], [(8, some 26)], [(4, some 22), (9, some 27)], [(10, some 28)], [(11, some 29)], [(11, some 29)], [(12, some 30), (13, some 31), (11, some 29)], [(14, some 32), (11, some 29)], [(15, some 33), (11, some 29)], [(16, some 34), (11, some 29)], [(11, some 29)], [(11, some 29)], [(18, some 36), (19, some 37), (11, some 29)], [(20, some 38), (11, some 29)], [(21, some 39), (11, some 29)], [(22, some 40), (11, some 29)], [(17, some 35), (23, some 41), (11, some 29)], [(11, some 29), (24, some 42)]] [(0, some 18), (1, some 19), (2, some 20), (3, some 21), (4, some 22), (5, some 23), (6, some 24), (7, some 25), (8, some 26), (9, some 27), (10, some 28), (11, some 29), (12, some 30), (13, some 31), (14, some 32), (15, some 33), (16, some 34), (17, some 35), (18, some 36), (19, some 37), (20, some 38), (21, some 39), (22, some 40), (23, some 41), (24, some 42), (25, some 43)] rfl (by kernel_rfl) ⟨fun _ _ _ _ h => h, fun _ _ _ _ h => h, fun _ _ _ _ h => h, fun _ _ _ _ h => h, fun _ _ _ _ h => h, fun _ _ _ _ h => h, fun _ _ _ _ h => h, fun _ _ _ _ h => h, fun _ _ _ _ h => h, fun _ _ _ _ h => h, fun _ _ _ _ h => h, fun _ _ _ _ h => h, fun _ _ _ _ h => h, fun _ _ _ _ h => h, fun _ _ _ _ h => h, fun _ _ _ _ h => h, fun _ _ _ _ h => h, fun _ _ _ _ h => h, fun _ _ _ _ h => h, fun _ _ _ _ h => h, fun _ _ _ _ h => h, fun _ _ _ _ h => h, fun _ _ _ _ h => h, fun _ _ _ _ h => h, fun _ _ _ _ h => h, fun _ _ _ _ h => h, trivial⟩ (fun _ a a' _ e h => by cases a; cases a'; cases e; exact h) ?hS ?hsteps ?hend
          case hS =>
            intro w' hg
            have hbz := Lib.hid (HB.out.drew.trans (hg.mono HB.out.size))
            have cc : ∀ (p : Addr) (v : Value), w.cell? p = some v → w'.cell? p = some v := fun p v h => (Below.cell hbz.out (lt_of_cell h)).trans h
            exact ⟨cc _ _ HA1.out, cc _ _ HA2.out, cc _ _ HC1.out, cc _ _ HC2.out, hbz⟩
          case hsteps =>
            refine ⟨?_, ?_, ?_, ?_, ?_, ?_, ?_, ?_, ?_, ?_, ?_, ?_, ?_, ?_, ?_, ?_, ?_, ?_, ?_, ?_, ?_, ?_, ?_, ?_, ?_, ?_, trivial⟩
            · intro w' hs
              simp only [AllV, rgPut]
              clear hs
              first
                | (refine OpOk.off ?_ ?_ <;> rfl)
                | (refine OpOk.run ?_ (fun K hK => ?_)
                   · rfl
                   go_simp
                   refine hK.out _ _ (Grows.refl _) ?_
                   exact rfl)
            · intro w' hs
              simp only [AllV, rgPut]
              clear hs
              first
                | (refine OpOk.off ?_ ?_ <;> rfl)
                | (refine OpOk.run ?_ (fun K hK => ?_)
                   · rfl
                   go_simp
                   refine hK.out _ _ (Grows.refl _) ?_
                   exact rfl)
            · intro w' hs
              simp only [AllV, rdP, isV, forall_eq, rgPut, Act.put, List.setIfInBounds_toArray, List.set_cons_zero, List.set_cons_succ]
              clear hs
              first
                | (refine OpOk.off ?_ ?_ <;> rfl)
                | (refine OpOk.run ?_ (fun K hK => ?_)
                   · rfl
                   go_simp
                   refine hK.out _ _ (Grows.refl _) ?_
                   exact rfl)
            · intro w' hs
              simp only [AllV, rdP, isV, forall_eq, rgPut, Act.put, List.setIfInBounds_toArray, List.set_cons_zero, List.set_cons_succ]
              clear hs
              first
                | (refine OpOk.off ?_ ?_ <;> rfl)
                | (refine OpOk.run ?_ (fun K hK => ?_)
                   · rfl
                   go_simp
                   refine hK.out _ _ (Grows.refl _) ?_
                   exact rfl)
            · intro w' hs
              simp only [AllV, rdP, isV, forall_eq, rgPut, Act.put, List.setIfInBounds_toArray, List.set_cons_zero, List.set_cons_succ]
              obtain ⟨f0, f1, f2, f3, hbb⟩ := hs
              first
                | (refine OpOk.off ?_ ?_ <;> rfl)
                | (refine OpOk.run ?_ (fun K hK => ?_)
                   · rfl
                   go_simp
                   refine hK.out _ _ (Grows.refl _) ?_
                   exact rfl)
            · intro w' hs
              simp only [AllV, rgPut]
              clear hs
              first
                | (refine OpOk.off ?_ ?_ <;> rfl)
                | (refine OpOk.run ?_ (fun K hK => ?_)
                   · rfl
                   go_simp
                   refine hK.out _ _ (Grows.refl _) ?_
                   exact rfl)
            · intro w' hs
              simp only [AllV, rgPut]
              clear hs
              first
                | (refine OpOk.off ?_ ?_ <;> rfl)
                | (refine OpOk.run ?_ (fun K hK => ?_)
                   · rfl
                   go_simp
                   refine hK.out _ _ (Grows.refl _) ?_
                   exact rfl)
            · intro w' hs
              simp only [AllV, rdP, isV, forall_eq, rgPut, Act.put, List.setIfInBounds_toArray, List.set_cons_zero, List.set_cons_succ]
              clear hs
              first
                | (refine OpOk.off ?_ ?_ <;> rfl)
                | (refine OpOk.run ?_ (fun K hK => ?_)
                   · rfl
                   go_simp
                   refine hK.out _ _ (Grows.refl _) ?_
                   exact rfl)
            · intro w' hs
              simp only [AllV, rdP, isV, forall_eq, rgPut, Act.put, List.setIfInBounds_toArray, List.set_cons_zero, List.set_cons_succ]
              clear hs
              first
                | (refine OpOk.off ?_ ?_ <;> rfl)
                | (refine OpOk.run ?_ (fun K hK => ?_)
                   · rfl
                   go_simp
                   refine hK.out _ _ (Grows.refl _) ?_
                   exact rfl)
            · intro w' hs
              simp only [AllV, rdP, isV, forall_eq, rgPut, Act.put, List.setIfInBounds_toArray, List.set_cons_zero, List.set_cons_succ]
              obtain ⟨f0, f1, f2, f3, hbb⟩ := hs
              first
                | (refine OpOk.off ?_ ?_ <;> rfl)
                | (refine OpOk.run ?_ (fun K hK => ?_)
                   · rfl
                   go_simp
                   refine hK.out _ _ (Grows.refl _) ?_
                   exact rfl)
            · intro w' hs
              simp only [AllV, rdP, isV, forall_eq, rgPut, Act.put, List.setIfInBounds_toArray, List.set_cons_zero, List.set_cons_succ]
              clear hs
              first
                | (refine OpOk.off ?_ ?_ <;> rfl)
                | (refine OpOk.run ?_ (fun K hK => ?_)
                   · rfl
                   go_simp
                   refine hK.out _ _ (Grows.refl _) ?_
                   exact rfl)
            · intro w' hs
              simp only [AllV, rdP, isV, forall_eq, rgPut, Act.put, List.setIfInBounds_toArray, List.set_cons_zero, List.set_cons_succ]
              clear hs
              first
                | (refine OpOk.off ?_ ?_ <;> rfl)
                | (refine OpOk.run ?_ (fun K hK => ?_)
                   · rfl
                   go_simp
                   refine hK.out _ _ (Grows.refl _) ?_
                   exact rfl)
            · intro w' hs
              simp only [AllV, rdP, isV, forall_eq, rgPut, Act.put, List.setIfInBounds_toArray, List.set_cons_zero, List.set_cons_succ]
              clear hs
              first
                | (refine OpOk.off ?_ ?_ <;> rfl)
                | (refine OpOk.run ?_ (fun K hK => ?_)
                   · rfl
                   go_simp
                   refine hK.out _ _ (Grows.refl _) ?_
                   exact rfl)
            · intro w' hs
              simp only [AllV, rdP, isV, forall_eq, rgPut, Act.put, List.setIfInBounds_toArray, List.set_cons_zero, List.set_cons_succ]
              clear hs
              first
                | (refine OpOk.off ?_ ?_ <;> rfl)
                | (refine OpOk.run ?_ (fun K hK => ?_)
                   · rfl
                   go_simp
                   refine hK.out _ _ (Grows.refl _) ?_
                   exact rfl)
            · intro w' hs
              simp only [AllV, rdP, isV, forall_eq, rgPut, Act.put, List.setIfInBounds_toArray, List.set_cons_zero, List.set_cons_succ]
              clear hs
              first
                | (refine OpOk.off ?_ ?_ <;> rfl)
                | (refine OpOk.run ?_ (fun K hK => ?_)
                   · rfl
                   go_simp
                   refine hK.out _ _ (Grows.refl _) ?_
                   exact rfl)
            · intro w' hs
              simp only [AllV, rdP, isV, forall_eq, rgPut, Act.put, List.setIfInBounds_toArray, List.set_cons_zero, List.set_cons_succ]
              clear hs
              first
                | (refine OpOk.off ?_ ?_ <;> rfl)
                | (refine OpOk.run ?_ (fun K hK => ?_)
                   · rfl
                   go_simp
                   refine hK.out _ _ (Grows.refl _) ?_
                   exact rfl)
            · intro w' hs
              simp only [AllV, rdP, isV, forall_eq, rgPut, Act.put, List.setIfInBounds_toArray, List.set_cons_zero, List.set_cons_succ]
              obtain ⟨f0, f1, f2, f3, hbb⟩ := hs
              first
                | (refine OpOk.off ?_ ?_ <;> rfl)
                | (refine OpOk.run ?_ (fun K hK => ?_)
                   · rfl
                   go_simp
                   refine hK.out _ _ (Grows.refl _) ?_
                   exact rfl)
            · intro w' hs
              simp only [AllV, rdP, isV, forall_eq, rgPut, Act.put, List.setIfInBounds_toArray, List.set_cons_zero, List.set_cons_succ]
              obtain ⟨f0, f1, f2, f3, hbb⟩ := hs
              first
                | (refine OpOk.off ?_ ?_ <;> rfl)
                | (refine OpOk.run ?_ (fun K hK => ?_)
                   · rfl
                   go_simp
                   refine hK.out _ _ (Grows.refl _) ?_
                   exact rfl)
            · intro w' hs
              simp only [AllV, rdP, isV, forall_eq, rgPut, Act.put, List.setIfInBounds_toArray, List.set_cons_zero, List.set_cons_succ]
              clear hs
              first
                | (refine OpOk.off ?_ ?_ <;> rfl)
                | (refine OpOk.run ?_ (fun K hK => ?_)
                   · rfl
                   go_simp
                   refine hK.out _ _ (Grows.refl _) ?_
                   exact rfl)
            · intro w' hs
              simp only [AllV, rdP, isV, forall_eq, rgPut, Act.put, List.setIfInBounds_toArray, List.set_cons_zero, List.set_cons_succ]
              clear hs
              first
                | (refine OpOk.off ?_ ?_ <;> rfl)
                | (refine OpOk.run ?_ (fun K hK => ?_)
                   · rfl
                   go_simp
                   refine hK.out _ _ (Grows.refl _) ?_
                   exact rfl)
            · intro w' hs
              simp only [AllV, rdP, isV, forall_eq, rgPut, Act.put, List.setIfInBounds_toArray, List.set_cons_zero, List.set_cons_succ]
              clear hs
              first
                | (refine OpOk.off ?_ ?_ <;> rfl)
                | (refine OpOk.run ?_ (fun K hK => ?_)
                   · rfl
                   go_simp
                   refine hK.out _ _ (Grows.refl _) ?_
                   exact rfl)
            · intro w' hs
              simp only [AllV, rdP, isV, forall_eq, rgPut, Act.put, List.setIfInBounds_toArray, List.set_cons_zero, List.set_cons_succ]
              clear hs
              first
                | (refine OpOk.off ?_ ?_ <;> rfl)
                | (refine OpOk.run ?_ (fun K hK => ?_)
                   · rfl
                   go_simp
                   refine hK.out _ _ (Grows.refl _) ?_
                   exact rfl)
            · intro w' hs
              simp only [AllV, rdP, isV, forall_eq, rgPut, Act.put, List.setIfInBounds_toArray, List.set_cons_zero, List.set_cons_succ]
              obtain ⟨f0, f1, f2, f3, hbb⟩ := hs
              first
                | (refine OpOk.off ?_ ?_ <;> rfl)
                | (refine OpOk.run ?_ (fun K hK => ?_)
                   · rfl
                   go_simp
                   refine hK.out _ _ (Grows.refl _) ?_
                   exact rfl)
            · intro w' hs
              simp only [AllV, rdP, isV, forall_eq, rgPut, Act.put, List.setIfInBounds_toArray, List.set_cons_zero, List.set_cons_succ]
              obtain ⟨f0, f1, f2, f3, hbb⟩ := hs
              first
                | (refine OpOk.off ?_ ?_ <;> rfl)
                | (refine OpOk.run ?_ (fun K hK => ?_)
                   · rfl
                   go_simp
                   refine hK.out _ _ (Grows.refl _) ?_
                   exact rfl)
            · intro w' hs
              simp only [AllV, rdP, isV, forall_eq, rgPut, Act.put, List.setIfInBounds_toArray, List.set_cons_zero, List.set_cons_succ]
              clear hs
              first
                | (refine OpOk.off ?_ ?_ <;> rfl)
                | (refine OpOk.run ?_ (fun K hK => ?_)
                   · rfl
                   go_simp
                   refine hK.out _ _ (Grows.refl _) ?_
                   exact rfl)
            · intro w' hs
              simp only [AllV, rdP, isV, forall_eq, rgPut, Act.put, List.setIfInBounds_toArray, List.set_cons_zero, List.set_cons_succ]
              clear hs
              first
                | (refine OpOk.off ?_ ?_ <;> rfl)
                | (refine OpOk.run ?_ (fun K hK => ?_)
                   · rfl
                   go_simp
                   refine hK.out _ _ (Grows.refl _) ?_
                   exact rfl)
          case hend =>
            intro w' hs
            simp only [AllV, rdP, isV, forall_eq, rgPut, Act.put, List.setIfInBounds_toArray, List.set_cons_zero, List.set_cons_succ]
            obtain ⟨f0, f1, f2, f3, hbb⟩ := hs
            clear f0 f1 f2 f3
            go_wp2
            go_loopw [6] (fun i_ wr => ∃ i : Nat, i ≤ n ∧ i_ = .int .i64 i ∧ Hid (∀ (r : Nat) (p q : ItV), r < i → x.i[r]? = some p → y.i[r]? = some q → p.it = q.it) ∧ Hid (Below w.heap.size w wr)) (fun i_ _ => n - (intOf i_).toNat)
            case atStart => exact ⟨0, Nat.zero_le _, rfl, Lib.hid (fun r p q hr => absurd hr (Nat.not_lt_zero _)), hbb⟩
            case round =>
              obtain ⟨i, hi, rfl, hgi, HBi⟩ := hrel
              obtain ⟨wi, hwi⟩ : ∃ wi : World, wi = wr := ⟨_, rfl⟩
              subst hwi
              have q2 := (HBi.out.cell (p := ⟨b, off + j * 2 + 1, none⟩) (lt_of_cell HA2.out)).trans HA2.out
              by_cases hlt3 : i < n
              · obtain ⟨ib, io, p, s1, m1, c1, hp, hia, hrp, hpv, hpm, hpmc, hpc, hpb, hpl, _, _⟩ := HIT1.out.item i (by rw [← HN1.out]; exact hlt3)
                obtain ⟨jb, jo, q, s2, m2, c2, hq, hja, hrq, hqv, hqm, hqmc, hqc, hqb, hql, _, _⟩ := HIT2.out.item i (by rw [← HN2.out]; exact hlt3)
                subst hia
                subst hja
                have hdl3 : decide ((i : Int) < (n : Int)) = true := by simp; omega
                have HP := Lib.hid hp
                have HQ := Lib.hid hq
                have HY1 : Hid (Byt w (.slice s1 m1 c1) p.d) := Lib.hid (by rw [← hpv]; exact hpb)
                have HY2 : Hid (Byt w (.slice s2 m2 c2) q.d) := Lib.hid (by rw [← hqv]; exact hqb)
                have HA3 : Hid (w.cell? ⟨ib, io + i * 17 + 16, none⟩ = some (.slice s1 m1 c1)) := Lib.hid (by
                  have := hrp 16 _ (itC_at16 p hpl)
                  rw [hpv] at this
                  exact this)
                have HC3 : Hid (w.cell? ⟨jb, jo + i * 17 + 16, none⟩ = some (.slice s2 m2 c2)) := Lib.hid (by
                  have := hrq 16 _ (itC_at16 q hql)
                  rw [hqv] at this
                  exact this)
                have HG1 := Lib.hid (byt_range (owner_in hrp hpl))
                have HG2 := Lib.hid (byt_range (owner_in hrq hql))
                have hrun := fun W => run_gid_neq p.o q.o hpl hql W
                obtain ⟨OB, hOB⟩ : ∃ B, Hid (B = !decide (p.o = q.o)) := ⟨_, Lib.hid rfl⟩
                have G1L : Hid ((p.o.map b8).length = 16) := Lib.hid (by simp [hpl])
                have G2L : Hid ((q.o.map b8).length = 16) := Lib.hid (by simp [hql])
                obtain ⟨G1, hG1⟩ : ∃ G, Hid (G = p.o.map b8) := ⟨_, Lib.hid rfl⟩
                obtain ⟨G2, hG2⟩ : ∃ G, Hid (G = q.o.map b8) := ⟨_, Lib.hid rfl⟩
                rw [← hG1.out] at G1L HG1
                rw [← hG2.out] at G2L HG2
                rw [← hOB.out, ← hG1.out, ← hG2.out] at hrun
                have HSM := Lib.hid (fun W (h1 : Byt W (.slice s1 m1 c1) p.d) (h2 : Byt W (.slice s2 m2 c2) q.d) => same_calls _ _ p.d q.d W h1 h2)
                obtain ⟨DB, hDB⟩ : ∃ B, Hid (B = decide (p.d = q.d)) := ⟨_, Lib.hid rfl⟩
                rw [← hDB.out] at HSM
                have HBAD : Hid (¬ (p.it = q.it) → RB = false) := Lib.hid (fun h => HNO.out (fun e => h (map_same_at (li_its (map_same_at e HX.out HY.out)).2 HP.out HQ.out)))
                clear hp hq hrp hrq hpv hqv hpm hqm hpb hqb hpl hql
                go_wp2
                clear q2
                cases OB with
                | true =>
                  have HF := Lib.hid (HBAD.out (fun e => by have := hOB.out; rw [decide_eq_true (it_parts e).1] at this; cases this))
                  refine' wp_region_grows (by kernel_rfl) (fun w' => w'.cell? ⟨b, off + j * 2 + 1, none⟩ = some (.slice (some ⟨ib, io, none⟩) n ic) ∧ w'.cell? ⟨b2, off2 + j * 2 + 1, none⟩ = some (.slice (some ⟨jb, jo, none⟩) n jc) ∧ w'.cell? ⟨ib, io + i * 17 + 16, none⟩ = some (.slice s1 m1 c1) ∧ w'.cell? ⟨jb, jo + i * 17 + 16, none⟩ = some (.slice s2 m2 c2) ∧ Hid (Below w.heap.size w w')) [isV _, isV _, isV _, isV _, isV _, isV _, isV _, isV _, isV _, isV _, isV _, isV _, isV _, isV _, isV _, isV _, isV _, isV _, isV _, isV _, isV _, isV _, isV _, isV _, isV _, isV _, isV _, isV _, isV _, isV _, isV _, isV _, isV _, isV _, isV _, isV _, isV _, isV _, isV _, isV _, isV _] 95 [[], [], [(0, some 54), (1, some 55)], [(2, some 56)], [(3, some 57)], [], [(4, some 58), (5, some 59)], [(6, some 60)], [(7, some 61)], [], [], [(9, some 63), (10, some 64)], [(11, some 65)], [(12, some 66)], [], [(13, some 67), (14, some 68)], [(15, some 69)], [(16, some 70)], [(8, some 62), (17, some 71)], [(18, some 72)], [(19, some 73)], [(19, some 73)], [(20, some 74), (21, some 75), (19, some 73)], [(22, some 76), (19, some 73)], [(23, some 77), (19, some 73)], [(19, some 73)], [(24, some 78), (25, some 79), (19, some 73)], [(26, some 80), (19, some 73)], [(27, some 81), (19, some 73)], [(19, some 73)], [(19, some 73)], [(29, some 83), (30, some 84), (19, some 73)], [(31, some 85), (19, some 73)], [(32, some 86), (19, some 73)], [(19, some 73)], [(33, some 87), (34, some 88), (19, some 73)], [(35, some 89), (19, some 73)], [(36, some 90), (19, some 73)], [(28, some 82), (37, some 91), (19, some 73)], [(38, some 92), (19, some 73)], [(19, some 73), (39, some 93)]] [(0, some 54), (1, some 55), (2, some 56), (3, some 57), (4, some 58), (5, some 59), (6, some 60), (7, some 61), (8, some 62), (9, some 63), (10, some 64), (11, some 65), (12, some 66), (13, some 67), (14, some 68), (15, some 69), (16, some 70), (17, some 71), (18, some 72), (19, some 73), (20, some 74), (21, some 75), (22, some 76), (23, some 77), (24, some 78), (25, some 79), (26, some 80), (27, some 81), (28, some 82), (29, some 83), (30, some 84), (31, some 85), (32, some 86), (33, some 87), (34, some 88), (35, some 89), (36, some 90), (37, some 91), (38, some 92), (39, some 93), (40, some 94)] rfl (by kernel_rfl) ⟨fun _ _ _ _ h => h, fun _ _ _ _ h => h, fun _ _ _ _ h => h, fun _ _ _ _ h => h, fun _ _ _ _ h => h, fun _ _ _ _ h => h, fun _ _ _ _ h => h, fun _ _ _ _ h => h, fun _ _ _ _ h => h, fun _ _ _ _ h => h, fun _ _ _ _ h => h, fun _ _ _ _ h => h, fun _ _ _ _ h => h, fun _ _ _ _ h => h, fun _ _ _ _ h => h, fun _ _ _ _ h => h, fun _ _ _ _ h => h, fun _ _ _ _ h => h, fun _ _ _ _ h => h, fun _ _ _ _ h => h, fun _ _ _ _ h => h, fun _ _ _ _ h => h, fun _ _ _ _ h => h, fun _ _ _ _ h => h, fun _ _ _ _ h => h, fun _ _ _ _ h => h, fun _ _ _ _ h => h, fun _ _ _ _ h => h, fun _ _ _ _ h => h, fun _ _ _ _ h => h, fun _ _ _ _ h => h, fun _ _ _ _ h => h, fun _ _ _ _ h => h, fun _ _ _ _ h => h, fun _ _ _ _ h => h, fun _ _ _ _ h => h, fun _ _ _ _ h => h, fun _ _ _ _ h => h, fun _ _ _ _ h => h, fun _ _ _ _ h => h, fun _ _ _ _ h => h, trivial⟩ (fun _ a a' _ e h => by cases a; cases a'; cases e; exact h) ?hS ?hsteps ?hend
                  case hS =>
                    intro w' hg
                    have hbz := Lib.hid (HBi.out.drew.trans (hg.mono HBi.out.size))
                    have cc : ∀ (p : Addr) (v : Value), w.cell? p = some v → w'.cell? p = some v := fun p v h => (Below.cell hbz.out (lt_of_cell h)).trans h
                    exact ⟨cc _ _ HA2.out, cc _ _ HC2.out, cc _ _ HA3.out, cc _ _ HC3.out, hbz⟩
                  case hsteps =>
                    refine ⟨?_, ?_, ?_, ?_, ?_, ?_, ?_, ?_, ?_, ?_, ?_, ?_, ?_, ?_, ?_, ?_, ?_, ?_, ?_, ?_, ?_, ?_, ?_, ?_, ?_, ?_, ?_, ?_, ?_, ?_, ?_, ?_, ?_, ?_, ?_, ?_, ?_, ?_, ?_, ?_, ?_, trivial⟩
                    · intro w' hs
                      simp only [AllV, rgPut]
                      clear hs
                      first
                        | (refine OpOk.off ?_ ?_ <;> rfl)
                        | (refine OpOk.run ?_ (fun K hK => ?_)
                           · rfl
                           go_simp
                           refine hK.out _ _ (Grows.refl _) ?_
                           exact rfl)
                    · intro w' hs
                      simp only [AllV, rgPut]
                      clear hs
                      first
                        | (refine OpOk.off ?_ ?_ <;> rfl)
                        | (refine OpOk.run ?_ (fun K hK => ?_)
                           · rfl
                           go_simp
                           refine hK.out _ _ (Grows.refl _) ?_
                           exact rfl)
                    · intro w' hs
                      simp only [AllV, rdP, isV, forall_eq, rgPut, Act.put, List.setIfInBounds_toArray, List.set_cons_zero, List.set_cons_succ]
                      clear hs
                      first
                        | (refine OpOk.off ?_ ?_ <;> rfl)
                        | (refine OpOk.run ?_ (fun K hK => ?_)
                           · rfl
                           go_simp
                           refine hK.out _ _ (Grows.refl _) ?_
                           exact rfl)
                    · intro w' hs
                      simp only [AllV, rdP, isV, forall_eq, rgPut, Act.put, List.setIfInBounds_toArray, List.set_cons_zero, List.set_cons_succ]
                      clear hs
                      first
                        | (refine OpOk.off ?_ ?_ <;> rfl)
                        | (refine OpOk.run ?_ (fun K hK => ?_)
                           · rfl
                           go_simp
                           refine hK.out _ _ (Grows.refl _) ?_
                           exact rfl)
                    · intro w' hs
                      simp only [AllV, rdP, isV, forall_eq, rgPut, Act.put, List.setIfInBounds_toArray, List.set_cons_zero, List.set_cons_succ]
                      obtain ⟨f0, f1, f2, f3, hbb⟩ := hs
                      first
                        | (refine OpOk.off ?_ ?_ <;> rfl)
                        | (refine OpOk.run ?_ (fun K hK => ?_)
                           · rfl
                           go_simp
                           refine hK.out _ _ (Grows.refl _) ?_
                           exact rfl)
                    · intro w' hs
                      simp only [AllV, rgPut]
                      clear hs
                      first
                        | (refine OpOk.off ?_ ?_ <;> rfl)
                        | (refine OpOk.run ?_ (fun K hK => ?_)
                           · rfl
                           go_simp
                           refine hK.out _ _ (Grows.refl _) ?_
                           exact rfl)
                    · intro w' hs
                      simp only [AllV, rdP, isV, forall_eq, rgPut, Act.put, List.setIfInBounds_toArray, List.set_cons_zero, List.set_cons_succ]
                      clear hs
                      first
                        | (refine OpOk.off ?_ ?_ <;> rfl)
                        | (refine OpOk.run ?_ (fun K hK => ?_)
                           · rfl
                           go_simp
                           refine hK.out _ _ (Grows.refl _) ?_
                           exact rfl)
                    · intro w' hs
                      simp only [AllV, rdP, isV, forall_eq, rgPut, Act.put, List.setIfInBounds_toArray, List.set_cons_zero, List.set_cons_succ]
                      clear hs
                      first
                        | (refine OpOk.off ?_ ?_ <;> rfl)
                        | (refine OpOk.run ?_ (fun K hK => ?_)
                           · rfl
                           go_simp
                           refine hK.out _ _ (Grows.refl _) ?_
                           exact rfl)
                    · -- 8: Op.load 47 t61
                      intro w' hs
                      simp only [AllV, rdP, isV, forall_eq, rgPut, Act.put, List.setIfInBounds_toArray, List.set_cons_zero, List.set_cons_succ]
                      obtain ⟨f0, f1, f2, f3, hbb⟩ := hs
                      refine OpOk.run ?_ (fun K hK => ?_)
                      · rfl
                      refine wp_load_mid 47 _ rfl ib (io + i * 17) rfl G1 _ (range_below HG1.out hbb.out) Try.underlying47 rfl (by rw [G1L.out]; kernel_rfl) ?_
                      refine hK.out _ _ (Grows.refl _) ?_
                      exact rfl
                    · intro w' hs
                      simp only [AllV, rgPut]
                      clear hs
                      first
                        | (refine OpOk.off ?_ ?_ <;> rfl)
                        | (refine OpOk.run ?_ (fun K hK => ?_)
                           · rfl
                           go_simp
                           refine hK.out _ _ (Grows.refl _) ?_
                           exact rfl)
                    · intro w' hs
                      simp only [AllV, rgPut]
                      clear hs
                      first
                        | (refine OpOk.off ?_ ?_ <;> rfl)
                        | (refine OpOk.run ?_ (fun K hK => ?_)
                           · rfl
                           go_simp
                           refine hK.out _ _ (Grows.refl _) ?_
                           exact rfl)
                    · intro w' hs
                      simp only [AllV, rdP, isV, forall_eq, rgPut, Act.put, List.setIfInBounds_toArray, List.set_cons_zero, List.set_cons_succ]
                      clear hs
                      first
                        | (refine OpOk.off ?_ ?_ <;> rfl)
                        | (refine OpOk.run ?_ (fun K hK => ?_)
                           · rfl
                           go_simp
                           refine hK.out _ _ (Grows.refl _) ?_
                           exact rfl)
                    · intro w' hs
                      simp only [AllV, rdP, isV, forall_eq, rgPut, Act.put, List.setIfInBounds_toArray, List.set_cons_zero, List.set_cons_succ]
                      clear hs
                      first
                        | (refine OpOk.off ?_ ?_ <;> rfl)
                        | (refine OpOk.run ?_ (fun K hK => ?_)
                           · rfl
                           go_simp
                           refine hK.out _ _ (Grows.refl _) ?_
                           exact rfl)
                    · intro w' hs
                      simp only [AllV, rdP, isV, forall_eq, rgPut, Act.put, List.setIfInBounds_toArray, List.set_cons_zero, List.set_cons_succ]
                      obtain ⟨f0, f1, f2, f3, hbb⟩ := hs
                      first
                        | (refine OpOk.off ?_ ?_ <;> rfl)
                        | (refine OpOk.run ?_ (fun K hK => ?_)
                           · rfl
                           go_simp
                           refine hK.out _ _ (Grows.refl _) ?_
                           exact rfl)
                    · intro w' hs
                      simp only [AllV, rgPut]
                      clear hs
                      first
                        | (refine OpOk.off ?_ ?_ <;> rfl)
                        | (refine OpOk.run ?_ (fun K hK => ?_)
                           · rfl
                           go_simp
                           refine hK.out _ _ (Grows.refl _) ?_
                           exact rfl)
                    · intro w' hs
                      simp only [AllV, rdP, isV, forall_eq, rgPut, Act.put, List.setIfInBounds_toArray, List.set_cons_zero, List.set_cons_succ]
                      clear hs
                      first
                        | (refine OpOk.off ?_ ?_ <;> rfl)
                        | (refine OpOk.run ?_ (fun K hK => ?_)
                           · rfl
                           go_simp
                           refine hK.out _ _ (Grows.refl _) ?_
                           exact rfl)
                    · intro w' hs
                      simp only [AllV, rdP, isV, forall_eq, rgPut, Act.put, List.setIfInBounds_toArray, List.set_cons_zero, List.set_cons_succ]
                      clear hs
                      first
                        | (refine OpOk.off ?_ ?_ <;> rfl)
                        | (refine OpOk.run ?_ (fun K hK => ?_)
                           · rfl
                           go_simp
                           refine hK.out _ _ (Grows.refl _) ?_
                           exact rfl)
                    · -- 17: Op.load 47 t70
                      intro w' hs
                      simp only [AllV, rdP, isV, forall_eq, rgPut, Act.put, List.setIfInBounds_toArray, List.set_cons_zero, List.set_cons_succ]
                      obtain ⟨f0, f1, f2, f3, hbb⟩ := hs
                      refine OpOk.run ?_ (fun K hK => ?_)
                      · rfl
                      refine wp_load_mid 47 _ rfl jb (jo + i * 17) rfl G2 _ (range_below HG2.out hbb.out) Try.underlying47 rfl (by rw [G2L.out]; kernel_rfl) ?_
                      refine hK.out _ _ (Grows.refl _) ?_
                      exact rfl
                    · intro w' hs
                      simp only [AllV, rdP, isV, forall_eq, rgPut, Act.put, List.setIfInBounds_toArray, List.set_cons_zero, List.set_cons_succ]
                      clear hs
                      first
                        | (refine OpOk.off ?_ ?_ <;> rfl)
                        | (refine OpOk.run ?_ (fun K hK => ?_)
                           · rfl
                           go_simp
                           refine hK.out _ _ (Grows.refl _) ?_
                           exact rfl)
                    · intro w' hs
                      simp only [AllV, rdP, isV, forall_eq, rgPut, Act.put, List.setIfInBounds_toArray, List.set_cons_zero, List.set_cons_succ]
                      clear hs
                      first
                        | (refine OpOk.off ?_ ?_ <;> rfl)
                        | (refine OpOk.run ?_ (fun K hK => ?_)
                           · rfl
                           go_simp
                           refine hK.out _ _ (Grows.refl _) ?_
                           exact rfl)
                    · intro w' hs
                      simp only [AllV, rdP, isV, forall_eq, rgPut, Act.put, List.setIfInBounds_toArray, List.set_cons_zero, List.set_cons_succ]
                      clear hs
                      first
                        | (refine OpOk.off ?_ ?_ <;> rfl)
                        | (refine OpOk.run ?_ (fun K hK => ?_)
                           · rfl
                           go_simp
                           refine hK.out _ _ (Grows.refl _) ?_
                           exact rfl)
                    · intro w' hs
                      simp only [AllV, rdP, isV, forall_eq, rgPut, Act.put, List.setIfInBounds_toArray, List.set_cons_zero, List.set_cons_succ]
                      clear hs
                      first
                        | (refine OpOk.off ?_ ?_ <;> rfl)
                        | (refine OpOk.run ?_ (fun K hK => ?_)
                           · rfl
                           go_simp
                           refine hK.out _ _ (Grows.refl _) ?_
                           exact rfl)
                    · intro w' hs
                      simp only [AllV, rdP, isV, forall_eq, rgPut, Act.put, List.setIfInBounds_toArray, List.set_cons_zero, List.set_cons_succ]
                      clear hs
                      first
                        | (refine OpOk.off ?_ ?_ <;> rfl)
                        | (refine OpOk.run ?_ (fun K hK => ?_)
                           · rfl
                           go_simp
                           refine hK.out _ _ (Grows.refl _) ?_
                           exact rfl)
                    · intro w' hs
                      simp only [AllV, rdP, isV, forall_eq, rgPut, Act.put, List.setIfInBounds_toArray, List.set_cons_zero, List.set_cons_succ]
                      clear hs
                      first
                        | (refine OpOk.off ?_ ?_ <;> rfl)
                        | (refine OpOk.run ?_ (fun K hK => ?_)
                           · rfl
                           go_simp
                           refine hK.out _ _ (Grows.refl _) ?_
                           exact rfl)
                    · intro w' hs
                      simp only [AllV, rdP, isV, forall_eq, rgPut, Act.put, List.setIfInBounds_toArray, List.set_cons_zero, List.set_cons_succ]
                      obtain ⟨f0, f1, f2, f3, hbb⟩ := hs
                      first
                        | (refine OpOk.off ?_ ?_ <;> rfl)
                        | (refine OpOk.run ?_ (fun K hK => ?_)
                           · rfl
                           go_simp
                           refine hK.out _ _ (Grows.refl _) ?_
                           exact rfl)
                    · intro w' hs
                      simp only [AllV, rdP, isV, forall_eq, rgPut, Act.put, List.setIfInBounds_toArray, List.set_cons_zero, List.set_cons_succ]
                      clear hs
                      first
                        | (refine OpOk.off ?_ ?_ <;> rfl)
                        | (refine OpOk.run ?_ (fun K hK => ?_)
                           · rfl
                           go_simp
                           refine hK.out _ _ (Grows.refl _) ?_
                           exact rfl)
                    · intro w' hs
                      simp only [AllV, rdP, isV, forall_eq, rgPut, Act.put, List.setIfInBounds_toArray, List.set_cons_zero, List.set_cons_succ]
                      clear hs
                      first
                        | (refine OpOk.off ?_ ?_ <;> rfl)
                        | (refine OpOk.run ?_ (fun K hK => ?_)
                           · rfl
                           go_simp
                           refine hK.out _ _ (Grows.refl _) ?_
                           exact rfl)
                    · intro w' hs
                      simp only [AllV, rdP, isV, forall_eq, rgPut, Act.put, List.setIfInBounds_toArray, List.set_cons_zero, List.set_cons_succ]
                      clear hs
                      first
                        | (refine OpOk.off ?_ ?_ <;> rfl)
                        | (refine OpOk.run ?_ (fun K hK => ?_)
                           · rfl
                           go_simp
                           refine hK.out _ _ (Grows.refl _) ?_
                           exact rfl)
                    · intro w' hs
                      simp only [AllV, rdP, isV, forall_eq, rgPut, Act.put, List.setIfInBounds_toArray, List.set_cons_zero, List.set_cons_succ]
                      obtain ⟨f0, f1, f2, f3, hbb⟩ := hs
                      first
                        | (refine OpOk.off ?_ ?_ <;> rfl)
                        | (refine OpOk.run ?_ (fun K hK => ?_)
                           · rfl
                           go_simp
                           refine hK.out _ _ (Grows.refl _) ?_
                           exact rfl)
                    · intro w' hs
                      simp only [AllV, rdP, isV, forall_eq, rgPut, Act.put, List.setIfInBounds_toArray, List.set_cons_zero, List.set_cons_succ]
                      clear hs
                      first
                        | (refine OpOk.off ?_ ?_ <;> rfl)
                        | (refine OpOk.run ?_ (fun K hK => ?_)
                           · rfl
                           go_simp
                           refine hK.out _ _ (Grows.refl _) ?_
                           exact rfl)
                    · intro w' hs
                      simp only [AllV, rdP, isV, forall_eq, rgPut, Act.put, List.setIfInBounds_toArray, List.set_cons_zero, List.set_cons_succ]
                      clear hs
                      first
                        | (refine OpOk.off ?_ ?_ <;> rfl)
                        | (refine OpOk.run ?_ (fun K hK => ?_)
                           · rfl
                           go_simp
                           refine hK.out _ _ (Grows.refl _) ?_
                           exact rfl)
                    · intro w' hs
                      simp only [AllV, rdP, isV, forall_eq, rgPut, Act.put, List.setIfInBounds_toArray, List.set_cons_zero, List.set_cons_succ]
                      clear hs
                      first
                        | (refine OpOk.off ?_ ?_ <;> rfl)
                        | (refine OpOk.run ?_ (fun K hK => ?_)
                           · rfl
                           go_simp
                           refine hK.out _ _ (Grows.refl _) ?_
                           exact rfl)
                    · intro w' hs
                      simp only [AllV, rdP, isV, forall_eq, rgPut, Act.put, List.setIfInBounds_toArray, List.set_cons_zero, List.set_cons_succ]
                      clear hs
                      first
                        | (refine OpOk.off ?_ ?_ <;> rfl)
                        | (refine OpOk.run ?_ (fun K hK => ?_)
                           · rfl
                           go_simp
                           refine hK.out _ _ (Grows.refl _) ?_
                           exact rfl)
                    · intro w' hs
                      simp only [AllV, rdP, isV, forall_eq, rgPut, Act.put, List.setIfInBounds_toArray, List.set_cons_zero, List.set_cons_succ]
                      obtain ⟨f0, f1, f2, f3, hbb⟩ := hs
                      first
                        | (refine OpOk.off ?_ ?_ <;> rfl)
                        | (refine OpOk.run ?_ (fun K hK => ?_)
                           · rfl
                           go_simp
                           refine hK.out _ _ (Grows.refl _) ?_
                           exact rfl)
                    · intro w' hs
                      simp only [AllV, rdP, isV, forall_eq, rgPut, Act.put, List.setIfInBounds_toArray, List.set_cons_zero, List.set_cons_succ]
                      clear hs
                      first
                        | (refine OpOk.off ?_ ?_ <;> rfl)
                        | (refine OpOk.run ?_ (fun K hK => ?_)
                           · rfl
                           go_simp
                           refine hK.out _ _ (Grows.refl _) ?_
                           exact rfl)
                    · intro w' hs
                      simp only [AllV, rdP, isV, forall_eq, rgPut, Act.put, List.setIfInBounds_toArray, List.set_cons_zero, List.set_cons_succ]
                      clear hs
                      first
                        | (refine OpOk.off ?_ ?_ <;> rfl)
                        | (refine OpOk.run ?_ (fun K hK => ?_)
                           · rfl
                           go_simp
                           refine hK.out _ _ (Grows.refl _) ?_
                           exact rfl)
                    · intro w' hs
                      simp only [AllV, rdP, isV, forall_eq, rgPut, Act.put, List.setIfInBounds_toArray, List.set_cons_zero, List.set_cons_succ]
                      clear hs
                      first
                        | (refine OpOk.off ?_ ?_ <;> rfl)
                        | (refine OpOk.run ?_ (fun K hK => ?_)
                           · rfl
                           go_simp
                           refine hK.out _ _ (Grows.refl _) ?_
                           exact rfl)
                    · intro w' hs
                      simp only [AllV, rdP, isV, forall_eq, rgPut, Act.put, List.setIfInBounds_toArray, List.set_cons_zero, List.set_cons_succ]
                      obtain ⟨f0, f1, f2, f3, hbb⟩ := hs
                      first
                        | (refine OpOk.off ?_ ?_ <;> rfl)
                        | (refine OpOk.run ?_ (fun K hK => ?_)
                           · rfl
                           go_simp
                           refine hK.out _ _ (Grows.refl _) ?_
                           exact rfl)
                    · intro w' hs
                      simp only [AllV, rdP, isV, forall_eq, rgPut, Act.put, List.setIfInBounds_toArray, List.set_cons_zero, List.set_cons_succ]
                      obtain ⟨f0, f1, f2, f3, hbb⟩ := hs
                      first
                        | (refine OpOk.off ?_ ?_ <;> rfl)
                        | (refine OpOk.run ?_ (fun K hK => ?_)
                           · rfl
                           go_simp
                           go_at_call 13
                           refine (HSM.out _ (HY1.out.below hbb.out) (HY2.out.below hbb.out)).mono ?_
                           rintro e w1 ⟨rfl, rfl⟩
                           refine hK.out _ _ (Grows.refl _) ?_
                           exact rfl
                          )
                    · intro w' hs
                      simp only [AllV, rdP, isV, forall_eq, rgPut, Act.put, List.setIfInBounds_toArray, List.set_cons_zero, List.set_cons_succ]
                      clear hs
                      first
                        | (refine OpOk.off ?_ ?_ <;> rfl)
                        | (refine OpOk.run ?_ (fun K hK => ?_)
                           · rfl
                           go_simp
                           refine hK.out _ _ (Grows.refl _) ?_
                           exact rfl)
                    · intro w' hs
                      simp only [AllV, rdP, isV, forall_eq, rgPut, Act.put, List.setIfInBounds_toArray, List.set_cons_zero, List.set_cons_succ]
                      clear hs
                      first
                        | (refine OpOk.off ?_ ?_ <;> rfl)
                        | (refine OpOk.run ?_ (fun K hK => ?_)
                           · rfl
                           go_simp
                           refine hK.out _ _ (Grows.refl _) ?_
                           exact rfl)
                  case hend =>
                    intro w' hs
                    simp only [AllV, rdP, isV, forall_eq, rgPut, Act.put, List.setIfInBounds_toArray, List.set_cons_zero, List.set_cons_succ]
                    obtain ⟨f0, f1, f2, f3, hbb⟩ := hs
                    clear f0 f1 f2 f3
                    go_wp2
                    go_ret
                    rw [HF.out]
                    exact ⟨rfl, hbb.out⟩
                | false =>
                  have HOO : Hid (p.o = q.o) := Lib.hid (by
                    have := hOB.out
                    cases e : decide (p.o = q.o) with
                    | true => exact of_decide_eq_true e
                    | false => rw [e] at this; cases this)
                  cases DB with
                  | false =>
                    have HF := Lib.hid (HBAD.out (fun e => by have := hDB.out; rw [decide_eq_true (it_parts e).2] at this; cases this))
                    refine' wp_region_grows (by kernel_rfl) (fun w' => w'.cell? ⟨b, off + j * 2 + 1, none⟩ = some (.slice (some ⟨ib, io, none⟩) n ic) ∧ w'.cell? ⟨b2, off2 + j * 2 + 1, none⟩ = some (.slice (some ⟨jb, jo, none⟩) n jc) ∧ w'.cell? ⟨ib, io + i * 17 + 16, none⟩ = some (.slice s1 m1 c1) ∧ w'.cell? ⟨jb, jo + i * 17 + 16, none⟩ = some (.slice s2 m2 c2) ∧ Hid (Below w.heap.size w w')) [isV _, isV _, isV _, isV _, isV _, isV _, isV _, isV _, isV _, isV _, isV _, isV _, isV _, isV _, isV _, isV _, isV _, isV _, isV _, isV _, isV _, isV _, isV _, isV _, isV _, isV _, isV _, isV _, isV _, isV _, isV _, isV _, isV _, isV _, isV _, isV _, isV _, isV _, isV _, isV _, isV _] 95 [[], [], [(0, some 54), (1, some 55)], [(2, some 56)], [(3, some 57)], [], [(4, some 58), (5, some 59)], [(6, some 60)], [(7, some 61)], [], [], [(9, some 63), (10, some 64)], [(11, some 65)], [(12, some 66)], [], [(13, some 67), (14, some 68)], [(15, some 69)], [(16, some 70)], [(8, some 62), (17, some 71)], [(18, some 72)], [(19, some 73)], [(19, some 73)], [(20, some 74), (21, some 75), (19, some 73)], [(22, some 76), (19, some 73)], [(23, some 77), (19, some 73)], [(19, some 73)], [(24, some 78), (25, some 79), (19, some 73)], [(26, some 80), (19, some 73)], [(27, some 81), (19, some 73)], [(19, some 73)], [(19, some 73)], [(29, some 83), (30, some 84), (19, some 73)], [(31, some 85), (19, some 73)], [(32, some 86), (19, some 73)], [(19, some 73)], [(33, some 87), (34, some 88), (19, some 73)], [(35, some 89), (19, some 73)], [(36, some 90), (19, some 73)], [(28, some 82), (37, some 91), (19, some 73)], [(38, some 92), (19, some 73)], [(19, some 73), (39, some 93)]] [(0, some 54), (1, some 55), (2, some 56), (3, some 57), (4, some 58), (5, some 59), (6, some 60), (7, some 61), (8, some 62), (9, some 63), (10, some 64), (11, some 65), (12, some 66), (13, some 67), (14, some 68), (15, some 69), (16, some 70), (17, some 71), (18, some 72), (19, some 73), (20, some 74), (21, some 75), (22, some 76), (23, some 77), (24, some 78), (25, some 79), (26, some 80), (27, some 81), (28, some 82), (29, some 83), (30, some 84), (31, some 85), (32, some 86), (33, some 87), (34, some 88), (35, some 89), (36, some 90), (37, some 91), (38, some 92), (39, some 93), (40, some 94)] rfl (by kernel_rfl) ⟨fun _ _ _ _ h => h, fun _ _ _ _ h => h, fun _ _ _ _ h => h, fun _ _ _ _ h => h, fun _ _ _ _ h => h, fun _ _ _ _ h => h, fun _ _ _ _ h => h, fun _ _ _ _ h => h, fun _ _ _ _ h => h, fun _ _ _ _ h => h, fun _ _ _ _ h => h, fun _ _ _ _ h => h, fun _ _ _ _ h => h, fun _ _ _ _ h => h, fun _ _ _ _ h => h, fun _ _ _ _ h => h, fun _ _ _ _ h => h, fun _ _ _ _ h => h, fun _ _ _ _ h => h, fun _ _ _ _ h => h, fun _ _ _ _ h => h, fun _ _ _ _ h => h, fun _ _ _ _ h => h, fun _ _ _ _ h => h, fun _ _ _ _ h => h, fun _ _ _ _ h => h, fun _ _ _ _ h => h, fun _ _ _ _ h => h, fun _ _ _ _ h => h, fun _ _ _ _ h => h, fun _ _ _ _ h => h, fun _ _ _ _ h => h, fun _ _ _ _ h => h, fun _ _ _ _ h => h, fun _ _ _ _ h => h, fun _ _ _ _ h => h, fun _ _ _ _ h => h, fun _ _ _ _ h => h, fun _ _ _ _ h => h, fun _ _ _ _ h => h, fun _ _ _ _ h => h, trivial⟩ (fun _ a a' _ e h => by cases a; cases a'; cases e; exact h) ?hS ?hsteps ?hend
                    case hS =>
                      intro w' hg
                      have hbz := Lib.hid (HBi.out.drew.trans (hg.mono HBi.out.size))
                      have cc : ∀ (p : Addr) (v : Value), w.cell? p = some v → w'.cell? p = some v := fun p v h => (Below.cell hbz.out (lt_of_cell h)).trans h
                      exact ⟨cc _ _ HA2.out, cc _ _ HC2.out, cc _ _ HA3.out, cc _ _ HC3.out, hbz⟩
                    case hsteps =>
                      refine ⟨?_, ?_, ?_, ?_, ?_, ?_, ?_, ?_, ?_, ?_, ?_, ?_, ?_, ?_, ?_, ?_, ?_, ?_, ?_, ?_, ?_, ?_, ?_, ?_, ?_, ?_, ?_, ?_, ?_, ?_, ?_, ?_, ?_, ?_, ?_, ?_, ?_, ?_, ?_, ?_, ?_, trivial⟩
                      · intro w' hs
                        simp only [AllV, rgPut]
                        clear hs
                        first
                          | (refine OpOk.off ?_ ?_ <;> rfl)
                          | (refine OpOk.run ?_ (fun K hK => ?_)
                             · rfl
                             go_simp
                             refine hK.out _ _ (Grows.refl _) ?_
                             exact rfl)
                      · intro w' hs
                        simp only [AllV, rgPut]
                        clear hs
                        first
                          | (refine OpOk.off ?_ ?_ <;> rfl)
                          | (refine OpOk.run ?_ (fun K hK => ?_)
                             · rfl
                             go_simp
                             refine hK.out _ _ (Grows.refl _) ?_
                             exact rfl)
                      · intro w' hs
                        simp only [AllV, rdP, isV, forall_eq, rgPut, Act.put, List.setIfInBounds_toArray, List.set_cons_zero, List.set_cons_succ]
                        clear hs
                        first
                          | (refine OpOk.off ?_ ?_ <;> rfl)
                          | (refine OpOk.run ?_ (fun K hK => ?_)
                             · rfl
                             go_simp
                             refine hK.out _ _ (Grows.refl _) ?_
                             exact rfl)
                      · intro w' hs
                        simp only [AllV, rdP, isV, forall_eq, rgPut, Act.put, List.setIfInBounds_toArray, List.set_cons_zero, List.set_cons_succ]
                        clear hs
                        first
                          | (refine OpOk.off ?_ ?_ <;> rfl)
                          | (refine OpOk.run ?_ (fun K hK => ?_)
                             · rfl
                             go_simp
                             refine hK.out _ _ (Grows.refl _) ?_
                             exact rfl)
                      · intro w' hs
                        simp only [AllV, rdP, isV, forall_eq, rgPut, Act.put, List.setIfInBounds_toArray, List.set_cons_zero, List.set_cons_succ]
                        obtain ⟨f0, f1, f2, f3, hbb⟩ := hs
                        first
                          | (refine OpOk.off ?_ ?_ <;> rfl)
                          | (refine OpOk.run ?_ (fun K hK => ?_)
                             · rfl
                             go_simp
                             refine hK.out _ _ (Grows.refl _) ?_
                             exact rfl)
                      · intro w' hs
                        simp only [AllV, rgPut]
                        clear hs
                        first
                          | (refine OpOk.off ?_ ?_ <;> rfl)
                          | (refine OpOk.run ?_ (fun K hK => ?_)
                             · rfl
                             go_simp
                             refine hK.out _ _ (Grows.refl _) ?_
                             exact rfl)
                      · intro w' hs
                        simp only [AllV, rdP, isV, forall_eq, rgPut, Act.put, List.setIfInBounds_toArray, List.set_cons_zero, List.set_cons_succ]
                        clear hs
                        first
                          | (refine OpOk.off ?_ ?_ <;> rfl)
                          | (refine OpOk.run ?_ (fun K hK => ?_)
                             · rfl
                             go_simp
                             refine hK.out _ _ (Grows.refl _) ?_
                             exact rfl)
                      · intro w' hs
                        simp only [AllV, rdP, isV, forall_eq, rgPut, Act.put, List.setIfInBounds_toArray, List.set_cons_zero, List.set_cons_succ]
                        clear hs
                        first
                          | (refine OpOk.off ?_ ?_ <;> rfl)
                          | (refine OpOk.run ?_ (fun K hK => ?_)
                             · rfl
                             go_simp
                             refine hK.out _ _ (Grows.refl _) ?_
                             exact rfl)
                      · -- 8: Op.load 47 t61
                        intro w' hs
                        simp only [AllV, rdP, isV, forall_eq, rgPut, Act.put, List.setIfInBounds_toArray, List.set_cons_zero, List.set_cons_succ]
                        obtain ⟨f0, f1, f2, f3, hbb⟩ := hs
                        refine OpOk.run ?_ (fun K hK => ?_)
                        · rfl
                        refine wp_load_mid 47 _ rfl ib (io + i * 17) rfl G1 _ (range_below HG1.out hbb.out) Try.underlying47 rfl (by rw [G1L.out]; kernel_rfl) ?_
                        refine hK.out _ _ (Grows.refl _) ?_
                        exact rfl
                      · intro w' hs
                        simp only [AllV, rgPut]
                        clear hs
                        first
                          | (refine OpOk.off ?_ ?_ <;> rfl)
                          | (refine OpOk.run ?_ (fun K hK => ?_)
                             · rfl
                             go_simp
                             refine hK.out _ _ (Grows.refl _) ?_
                             exact rfl)
                      · intro w' hs
                        simp only [AllV, rgPut]
                        clear hs
                        first
                          | (refine OpOk.off ?_ ?_ <;> rfl)
                          | (refine OpOk.run ?_ (fun K hK => ?_)
                             · rfl
                             go_simp
                             refine hK.out _ _ (Grows.refl _) ?_
                             exact rfl)
                      · intro w' hs
                        simp only [AllV, rdP, isV, forall_eq, rgPut, Act.put, List.setIfInBounds_toArray, List.set_cons_zero, List.set_cons_succ]
                        clear hs
                        first
                          | (refine OpOk.off ?_ ?_ <;> rfl)
                          | (refine OpOk.run ?_ (fun K hK => ?_)
                             · rfl
                             go_simp
                             refine hK.out _ _ (Grows.refl _) ?_
                             exact rfl)
                      · intro w' hs
                        simp only [AllV, rdP, isV, forall_eq, rgPut, Act.put, List.setIfInBounds_toArray, List.set_cons_zero, List.set_cons_succ]
                        clear hs
                        first
                          | (refine OpOk.off ?_ ?_ <;> rfl)
                          | (refine OpOk.run ?_ (fun K hK => ?_)
                             · rfl
                             go_simp
                             refine hK.out _ _ (Grows.refl _) ?_
                             exact rfl)
                      · intro w' hs
                        simp only [AllV, rdP, isV, forall_eq, rgPut, Act.put, List.setIfInBounds_toArray, List.set_cons_zero, List.set_cons_succ]
                        obtain ⟨f0, f1, f2, f3, hbb⟩ := hs
                        first
                          | (refine OpOk.off ?_ ?_ <;> rfl)
                          | (refine OpOk.run ?_ (fun K hK => ?_)
                             · rfl
                             go_simp
                             refine hK.out _ _ (Grows.refl _) ?_
                             exact rfl)
                      · intro w' hs
                        simp only [AllV, rgPut]
                        clear hs
                        first
                          | (refine OpOk.off ?_ ?_ <;> rfl)
                          | (refine OpOk.run ?_ (fun K hK => ?_)
                             · rfl
                             go_simp
                             refine hK.out _ _ (Grows.refl _) ?_
                             exact rfl)
                      · intro w' hs
                        simp only [AllV, rdP, isV, forall_eq, rgPut, Act.put, List.setIfInBounds_toArray, List.set_cons_zero, List.set_cons_succ]
                        clear hs
                        first
                          | (refine OpOk.off ?_ ?_ <;> rfl)
                          | (refine OpOk.run ?_ (fun K hK => ?_)
                             · rfl
                             go_simp
                             refine hK.out _ _ (Grows.refl _) ?_
                             exact rfl)
                      · intro w' hs
                        simp only [AllV, rdP, isV, forall_eq, rgPut, Act.put, List.setIfInBounds_toArray, List.set_cons_zero, List.set_cons_succ]
                        clear hs
                        first
                          | (refine OpOk.off ?_ ?_ <;> rfl)
                          | (refine OpOk.run ?_ (fun K hK => ?_)
                             · rfl
                             go_simp
                             refine hK.out _ _ (Grows.refl _) ?_
                             exact rfl)
                      · -- 17: Op.load 47 t70
                        intro w' hs
                        simp only [AllV, rdP, isV, forall_eq, rgPut, Act.put, List.setIfInBounds_toArray, List.set_cons_zero, List.set_cons_succ]
                        obtain ⟨f0, f1, f2, f3, hbb⟩ := hs
                        refine OpOk.run ?_ (fun K hK => ?_)
                        · rfl
                        refine wp_load_mid 47 _ rfl jb (jo + i * 17) rfl G2 _ (range_below HG2.out hbb.out) Try.underlying47 rfl (by rw [G2L.out]; kernel_rfl) ?_
                        refine hK.out _ _ (Grows.refl _) ?_
                        exact rfl
                      · intro w' hs
                        simp only [AllV, rdP, isV, forall_eq, rgPut, Act.put, List.setIfInBounds_toArray, List.set_cons_zero, List.set_cons_succ]
                        clear hs
                        first
                          | (refine OpOk.off ?_ ?_ <;> rfl)
                          | (refine OpOk.run ?_ (fun K hK => ?_)
                             · rfl
                             go_simp
                             refine hK.out _ _ (Grows.refl _) ?_
                             exact rfl)
                      · intro w' hs
                        simp only [AllV, rdP, isV, forall_eq, rgPut, Act.put, List.setIfInBounds_toArray, List.set_cons_zero, List.set_cons_succ]
                        clear hs
                        first
                          | (refine OpOk.off ?_ ?_ <;> rfl)
                          | (refine OpOk.run ?_ (fun K hK => ?_)
                             · rfl
                             go_simp
                             refine hK.out _ _ (Grows.refl _) ?_
                             exact rfl)
                      · intro w' hs
                        simp only [AllV, rdP, isV, forall_eq, rgPut, Act.put, List.setIfInBounds_toArray, List.set_cons_zero, List.set_cons_succ]
                        clear hs
                        first
                          | (refine OpOk.off ?_ ?_ <;> rfl)
                          | (refine OpOk.run ?_ (fun K hK => ?_)
                             · rfl
                             go_simp
                             refine hK.out _ _ (Grows.refl _) ?_
                             exact rfl)
                      · intro w' hs
                        simp only [AllV, rdP, isV, forall_eq, rgPut, Act.put, List.setIfInBounds_toArray, List.set_cons_zero, List.set_cons_succ]
                        clear hs
                        first
                          | (refine OpOk.off ?_ ?_ <;> rfl)
                          | (refine OpOk.run ?_ (fun K hK => ?_)
                             · rfl
                             go_simp
                             refine hK.out _ _ (Grows.refl _) ?_
                             exact rfl)
                      · intro w' hs
                        simp only [AllV, rdP, isV, forall_eq, rgPut, Act.put, List.setIfInBounds_toArray, List.set_cons_zero, List.set_cons_succ]
                        clear hs
                        first
                          | (refine OpOk.off ?_ ?_ <;> rfl)
                          | (refine OpOk.run ?_ (fun K hK => ?_)
                             · rfl
                             go_simp
                             refine hK.out _ _ (Grows.refl _) ?_
                             exact rfl)
                      · intro w' hs
                        simp only [AllV, rdP, isV, forall_eq, rgPut, Act.put, List.setIfInBounds_toArray, List.set_cons_zero, List.set_cons_succ]
                        clear hs
                        first
                          | (refine OpOk.off ?_ ?_ <;> rfl)
                          | (refine OpOk.run ?_ (fun K hK => ?_)
                             · rfl
                             go_simp
                             refine hK.out _ _ (Grows.refl _) ?_
                             exact rfl)
                      · intro w' hs
                        simp only [AllV, rdP, isV, forall_eq, rgPut, Act.put, List.setIfInBounds_toArray, List.set_cons_zero, List.set_cons_succ]
                        obtain ⟨f0, f1, f2, f3, hbb⟩ := hs
                        first
                          | (refine OpOk.off ?_ ?_ <;> rfl)
                          | (refine OpOk.run ?_ (fun K hK => ?_)
                             · rfl
                             go_simp
                             refine hK.out _ _ (Grows.refl _) ?_
                             exact rfl)
                      · intro w' hs
                        simp only [AllV, rdP, isV, forall_eq, rgPut, Act.put, List.setIfInBounds_toArray, List.set_cons_zero, List.set_cons_succ]
                        clear hs
                        first
                          | (refine OpOk.off ?_ ?_ <;> rfl)
                          | (refine OpOk.run ?_ (fun K hK => ?_)
                             · rfl
                             go_simp
                             refine hK.out _ _ (Grows.refl _) ?_
                             exact rfl)
                      · intro w' hs
                        simp only [AllV, rdP, isV, forall_eq, rgPut, Act.put, List.setIfInBounds_toArray, List.set_cons_zero, List.set_cons_succ]
                        clear hs
                        first
                          | (refine OpOk.off ?_ ?_ <;> rfl)
                          | (refine OpOk.run ?_ (fun K hK => ?_)
                             · rfl
                             go_simp
                             refine hK.out _ _ (Grows.refl _) ?_
                             exact rfl)
                      · intro w' hs
                        simp only [AllV, rdP, isV, forall_eq, rgPut, Act.put, List.setIfInBounds_toArray, List.set_cons_zero, List.set_cons_succ]
                        clear hs
                        first
                          | (refine OpOk.off ?_ ?_ <;> rfl)
                          | (refine OpOk.run ?_ (fun K hK => ?_)
                             · rfl
                             go_simp
                             refine hK.out _ _ (Grows.refl _) ?_
                             exact rfl)
                      · intro w' hs
                        simp only [AllV, rdP, isV, forall_eq, rgPut, Act.put, List.setIfInBounds_toArray, List.set_cons_zero, List.set_cons_succ]
                        obtain ⟨f0, f1, f2, f3, hbb⟩ := hs
                        first
                          | (refine OpOk.off ?_ ?_ <;> rfl)
                          | (refine OpOk.run ?_ (fun K hK => ?_)
                             · rfl
                             go_simp
                             refine hK.out _ _ (Grows.refl _) ?_
                             exact rfl)
                      · intro w' hs
                        simp only [AllV, rdP, isV, forall_eq, rgPut, Act.put, List.setIfInBounds_toArray, List.set_cons_zero, List.set_cons_succ]
                        clear hs
                        first
                          | (refine OpOk.off ?_ ?_ <;> rfl)
                          | (refine OpOk.run ?_ (fun K hK => ?_)
                             · rfl
                             go_simp
                             refine hK.out _ _ (Grows.refl _) ?_
                             exact rfl)
                      · intro w' hs
                        simp only [AllV, rdP, isV, forall_eq, rgPut, Act.put, List.setIfInBounds_toArray, List.set_cons_zero, List.set_cons_succ]
                        clear hs
                        first
                          | (refine OpOk.off ?_ ?_ <;> rfl)
                          | (refine OpOk.run ?_ (fun K hK => ?_)
                             · rfl
                             go_simp
                             refine hK.out _ _ (Grows.refl _) ?_
                             exact rfl)
                      · intro w' hs
                        simp only [AllV, rdP, isV, forall_eq, rgPut, Act.put, List.setIfInBounds_toArray, List.set_cons_zero, List.set_cons_succ]
                        clear hs
                        first
                          | (refine OpOk.off ?_ ?_ <;> rfl)
                          | (refine OpOk.run ?_ (fun K hK => ?_)
                             · rfl
                             go_simp
                             refine hK.out _ _ (Grows.refl _) ?_
                             exact rfl)
                      · intro w' hs
                        simp only [AllV, rdP, isV, forall_eq, rgPut, Act.put, List.setIfInBounds_toArray, List.set_cons_zero, List.set_cons_succ]
                        clear hs
                        first
                          | (refine OpOk.off ?_ ?_ <;> rfl)
                          | (refine OpOk.run ?_ (fun K hK => ?_)
                             · rfl
                             go_simp
                             refine hK.out _ _ (Grows.refl _) ?_
                             exact rfl)
                      · intro w' hs
                        simp only [AllV, rdP, isV, forall_eq, rgPut, Act.put, List.setIfInBounds_toArray, List.set_cons_zero, List.set_cons_succ]
                        obtain ⟨f0, f1, f2, f3, hbb⟩ := hs
                        first
                          | (refine OpOk.off ?_ ?_ <;> rfl)
                          | (refine OpOk.run ?_ (fun K hK => ?_)
                             · rfl
                             go_simp
                             refine hK.out _ _ (Grows.refl _) ?_
                             exact rfl)
                      · intro w' hs
                        simp only [AllV, rdP, isV, forall_eq, rgPut, Act.put, List.setIfInBounds_toArray, List.set_cons_zero, List.set_cons_succ]
                        clear hs
                        first
                          | (refine OpOk.off ?_ ?_ <;> rfl)
                          | (refine OpOk.run ?_ (fun K hK => ?_)
                             · rfl
                             go_simp
                             refine hK.out _ _ (Grows.refl _) ?_
                             exact rfl)
                      · intro w' hs
                        simp only [AllV, rdP, isV, forall_eq, rgPut, Act.put, List.setIfInBounds_toArray, List.set_cons_zero, List.set_cons_succ]
                        clear hs
                        first
                          | (refine OpOk.off ?_ ?_ <;> rfl)
                          | (refine OpOk.run ?_ (fun K hK => ?_)
                             · rfl
                             go_simp
                             refine hK.out _ _ (Grows.refl _) ?_
                             exact rfl)
                      · intro w' hs
                        simp only [AllV, rdP, isV, forall_eq, rgPut, Act.put, List.setIfInBounds_toArray, List.set_cons_zero, List.set_cons_succ]
                        clear hs
                        first
                          | (refine OpOk.off ?_ ?_ <;> rfl)
                          | (refine OpOk.run ?_ (fun K hK => ?_)
                             · rfl
                             go_simp
                             refine hK.out _ _ (Grows.refl _) ?_
                             exact rfl)
                      · intro w' hs
                        simp only [AllV, rdP, isV, forall_eq, rgPut, Act.put, List.setIfInBounds_toArray, List.set_cons_zero, List.set_cons_succ]
                        obtain ⟨f0, f1, f2, f3, hbb⟩ := hs
                        first
                          | (refine OpOk.off ?_ ?_ <;> rfl)
                          | (refine OpOk.run ?_ (fun K hK => ?_)
                             · rfl
                             go_simp
                             refine hK.out _ _ (Grows.refl _) ?_
                             exact rfl)
                      · intro w' hs
                        simp only [AllV, rdP, isV, forall_eq, rgPut, Act.put, List.setIfInBounds_toArray, List.set_cons_zero, List.set_cons_succ]
                        obtain ⟨f0, f1, f2, f3, hbb⟩ := hs
                        first
                          | (refine OpOk.off ?_ ?_ <;> rfl)
                          | (refine OpOk.run ?_ (fun K hK => ?_)
                             · rfl
                             go_simp
                             go_at_call 13
                             refine (HSM.out _ (HY1.out.below hbb.out) (HY2.out.below hbb.out)).mono ?_
                             rintro e w1 ⟨rfl, rfl⟩
                             refine hK.out _ _ (Grows.refl _) ?_
                             exact rfl
                            )
                      · intro w' hs
                        simp only [AllV, rdP, isV, forall_eq, rgPut, Act.put, List.setIfInBounds_toArray, List.set_cons_zero, List.set_cons_succ]
                        clear hs
                        first
                          | (refine OpOk.off ?_ ?_ <;> rfl)
                          | (refine OpOk.run ?_ (fun K hK => ?_)
                             · rfl
                             go_simp
                             refine hK.out _ _ (Grows.refl _) ?_
                             exact rfl)
                      · intro w' hs
                        simp only [AllV, rdP, isV, forall_eq, rgPut, Act.put, List.setIfInBounds_toArray, List.set_cons_zero, List.set_cons_succ]
                        clear hs
                        first
                          | (refine OpOk.off ?_ ?_ <;> rfl)
                          | (refine OpOk.run ?_ (fun K hK => ?_)
                             · rfl
                             go_simp
                             refine hK.out _ _ (Grows.refl _) ?_
                             exact rfl)
                    case hend =>
                      intro w' hs
                      simp only [AllV, rdP, isV, forall_eq, rgPut, Act.put, List.setIfInBounds_toArray, List.set_cons_zero, List.set_cons_succ]
                      obtain ⟨f0, f1, f2, f3, hbb⟩ := hs
                      clear f0 f1 f2 f3
                      go_wp2
                      go_ret
                      rw [HF.out]
                      exact ⟨rfl, hbb.out⟩
                  | true =>
                    have HII := Lib.hid (it_of HOO.out (of_decide_eq_true hDB.out.symm))
                    refine' wp_region_grows (by kernel_rfl) (fun w' => w'.cell? ⟨b, off + j * 2 + 1, none⟩ = some (.slice (some ⟨ib, io, none⟩) n ic) ∧ w'.cell? ⟨b2, off2 + j * 2 + 1, none⟩ = some (.slice (some ⟨jb, jo, none⟩) n jc) ∧ w'.cell? ⟨ib, io + i * 17 + 16, none⟩ = some (.slice s1 m1 c1) ∧ w'.cell? ⟨jb, jo + i * 17 + 16, none⟩ = some (.slice s2 m2 c2) ∧ Hid (Below w.heap.size w w')) [isV _, isV _, isV _, isV _, isV _, isV _, isV _, isV _, isV _, isV _, isV _, isV _, isV _, isV _, isV _, isV _, isV _, isV _, isV _, isV _, isV _, isV _, isV _, isV _, isV _, isV _, isV _, isV _, isV _, isV _, isV _, isV _, isV _, isV _, isV _, isV _, isV _, isV _, isV _, isV _, isV _] 95 [[], [], [(0, some 54), (1, some 55)], [(2, some 56)], [(3, some 57)], [], [(4, some 58), (5, some 59)], [(6, some 60)], [(7, some 61)], [], [], [(9, some 63), (10, some 64)], [(11, some 65)], [(12, some 66)], [], [(13, some 67), (14, some 68)], [(15, some 69)], [(16, some 70)], [(8, some 62), (17, some 71)], [(18, some 72)], [(19, some 73)], [(19, some 73)], [(20, some 74), (21, some 75), (19, some 73)], [(22, some 76), (19, some 73)], [(23, some 77), (19, some 73)], [(19, some 73)], [(24, some 78), (25, some 79), (19, some 73)], [(26, some 80), (19, some 73)], [(27, some 81), (19, some 73)], [(19, some 73)], [(19, some 73)], [(29, some 83), (30, some 84), (19, some 73)], [(31, some 85), (19, some 73)], [(32, some 86), (19, some 73)], [(19, some 73)], [(33, some 87), (34, some 88), (19, some 73)], [(35, some 89), (19, some 73)], [(36, some 90), (19, some 73)], [(28, some 82), (37, some 91), (19, some 73)], [(38, some 92), (19, some 73)], [(19, some 73), (39, some 93)]] [(0, some 54), (1, some 55), (2, some 56), (3, some 57), (4, some 58), (5, some 59), (6, some 60), (7, some 61), (8, some 62), (9, some 63), (10, some 64), (11, some 65), (12, some 66), (13, some 67), (14, some 68), (15, some 69), (16, some 70), (17, some 71), (18, some 72), (19, some 73), (20, some 74), (21, some 75), (22, some 76), (23, some 77), (24, some 78), (25, some 79), (26, some 80), (27, some 81), (28, some 82), (29, some 83), (30, some 84), (31, some 85), (32, some 86), (33, some 87), (34, some 88), (35, some 89), (36, some 90), (37, some 91), (38, some 92), (39, some 93), (40, some 94)] rfl (by kernel_rfl) ⟨fun _ _ _ _ h => h, fun _ _ _ _ h => h, fun _ _ _ _ h => h, fun _ _ _ _ h => h, fun _ _ _ _ h => h, fun _ _ _ _ h => h, fun _ _ _ _ h => h, fun _ _ _ _ h => h, fun _ _ _ _ h => h, fun _ _ _ _ h => h, fun _ _ _ _ h => h, fun _ _ _ _ h => h, fun _ _ _ _ h => h, fun _ _ _ _ h => h, fun _ _ _ _ h => h, fun _ _ _ _ h => h, fun _ _ _ _ h => h, fun _ _ _ _ h => h, fun _ _ _ _ h => h, fun _ _ _ _ h => h, fun _ _ _ _ h => h, fun _ _ _ _ h => h, fun _ _ _ _ h => h, fun _ _ _ _ h => h, fun _ _ _ _ h => h, fun _ _ _ _ h => h, fun _ _ _ _ h => h, fun _ _ _ _ h => h, fun _ _ _ _ h => h, fun _ _ _ _ h => h, fun _ _ _ _ h => h, fun _ _ _ _ h => h, fun _ _ _ _ h => h, fun _ _ _ _ h => h, fun _ _ _ _ h => h, fun _ _ _ _ h => h, fun _ _ _ _ h => h, fun _ _ _ _ h => h, fun _ _ _ _ h => h, fun _ _ _ _ h => h, fun _ _ _ _ h => h, trivial⟩ (fun _ a a' _ e h => by cases a; cases a'; cases e; exact h) ?hS ?hsteps ?hend
                    case hS =>
                      intro w' hg
                      have hbz := Lib.hid (HBi.out.drew.trans (hg.mono HBi.out.size))
                      have cc : ∀ (p : Addr) (v : Value), w.cell? p = some v → w'.cell? p = some v := fun p v h => (Below.cell hbz.out (lt_of_cell h)).trans h
                      exact ⟨cc _ _ HA2.out, cc _ _ HC2.out, cc _ _ HA3.out, cc _ _ HC3.out, hbz⟩
                    case hsteps =>
                      refine ⟨?_, ?_, ?_, ?_, ?_, ?_, ?_, ?_, ?_, ?_, ?_, ?_, ?_, ?_, ?_, ?_, ?_, ?_, ?_, ?_, ?_, ?_, ?_, ?_, ?_, ?_, ?_, ?_, ?_, ?_, ?_, ?_, ?_, ?_, ?_, ?_, ?_, ?_, ?_, ?_, ?_, trivial⟩
                      · intro w' hs
                        simp only [AllV, rgPut]
                        clear hs
                        first
                          | (refine OpOk.off ?_ ?_ <;> rfl)
                          | (refine OpOk.run ?_ (fun K hK => ?_)
                             · rfl
                             go_simp
                             refine hK.out _ _ (Grows.refl _) ?_
                             exact rfl)
                      · intro w' hs
                        simp only [AllV, rgPut]
                        clear hs
                        first
                          | (refine OpOk.off ?_ ?_ <;> rfl)
                          | (refine OpOk.run ?_ (fun K hK => ?_)
                             · rfl
                             go_simp
                             refine hK.out _ _ (Grows.refl _) ?_
                             exact rfl)
                      · intro w' hs
                        simp only [AllV, rdP, isV, forall_eq, rgPut, Act.put, List.setIfInBounds_toArray, List.set_cons_zero, List.set_cons_succ]
                        clear hs
                        first
                          | (refine OpOk.off ?_ ?_ <;> rfl)
                          | (refine OpOk.run ?_ (fun K hK => ?_)
                             · rfl
                             go_simp
                             refine hK.out _ _ (Grows.refl _) ?_
                             exact rfl)
                      · intro w' hs
                        simp only [AllV, rdP, isV, forall_eq, rgPut, Act.put, List.setIfInBounds_toArray, List.set_cons_zero, List.set_cons_succ]
                        clear hs
                        first
                          | (refine OpOk.off ?_ ?_ <;> rfl)
                          | (refine OpOk.run ?_ (fun K hK => ?_)
                             · rfl
                             go_simp
                             refine hK.out _ _ (Grows.refl _) ?_
                             exact rfl)
                      · intro w' hs
                        simp only [AllV, rdP, isV, forall_eq, rgPut, Act.put, List.setIfInBounds_toArray, List.set_cons_zero, List.set_cons_succ]
                        obtain ⟨f0, f1, f2, f3, hbb⟩ := hs
                        first
                          | (refine OpOk.off ?_ ?_ <;> rfl)
                          | (refine OpOk.run ?_ (fun K hK => ?_)
                             · rfl
                             go_simp
                             refine hK.out _ _ (Grows.refl _) ?_
                             exact rfl)
                      · intro w' hs
                        simp only [AllV, rgPut]
                        clear hs
                        first
                          | (refine OpOk.off ?_ ?_ <;> rfl)
                          | (refine OpOk.run ?_ (fun K hK => ?_)
                             · rfl
                             go_simp
                             refine hK.out _ _ (Grows.refl _) ?_
                             exact rfl)
                      · intro w' hs
                        simp only [AllV, rdP, isV, forall_eq, rgPut, Act.put, List.setIfInBounds_toArray, List.set_cons_zero, List.set_cons_succ]
                        clear hs
                        first
                          | (refine OpOk.off ?_ ?_ <;> rfl)
                          | (refine OpOk.run ?_ (fun K hK => ?_)
                             · rfl
                             go_simp
                             refine hK.out _ _ (Grows.refl _) ?_
                             exact rfl)
                      · intro w' hs
                        simp only [AllV, rdP, isV, forall_eq, rgPut, Act.put, List.setIfInBounds_toArray, List.set_cons_zero, List.set_cons_succ]
                        clear hs
                        first
                          | (refine OpOk.off ?_ ?_ <;> rfl)
                          | (refine OpOk.run ?_ (fun K hK => ?_)
                             · rfl
                             go_simp
                             refine hK.out _ _ (Grows.refl _) ?_
                             exact rfl)
                      · -- 8: Op.load 47 t61
                        intro w' hs
                        simp only [AllV, rdP, isV, forall_eq, rgPut, Act.put, List.setIfInBounds_toArray, List.set_cons_zero, List.set_cons_succ]
                        obtain ⟨f0, f1, f2, f3, hbb⟩ := hs
                        refine OpOk.run ?_ (fun K hK => ?_)
                        · rfl
                        refine wp_load_mid 47 _ rfl ib (io + i * 17) rfl G1 _ (range_below HG1.out hbb.out) Try.underlying47 rfl (by rw [G1L.out]; kernel_rfl) ?_
                        refine hK.out _ _ (Grows.refl _) ?_
                        exact rfl
                      · intro w' hs
                        simp only [AllV, rgPut]
                        clear hs
                        first
                          | (refine OpOk.off ?_ ?_ <;> rfl)
                          | (refine OpOk.run ?_ (fun K hK => ?_)
                             · rfl
                             go_simp
                             refine hK.out _ _ (Grows.refl _) ?_
                             exact rfl)
                      · intro w' hs
                        simp only [AllV, rgPut]
                        clear hs
                        first
                          | (refine OpOk.off ?_ ?_ <;> rfl)
                          | (refine OpOk.run ?_ (fun K hK => ?_)
                             · rfl
                             go_simp
                             refine hK.out _ _ (Grows.refl _) ?_
                             exact rfl)
                      · intro w' hs
                        simp only [AllV, rdP, isV, forall_eq, rgPut, Act.put, List.setIfInBounds_toArray, List.set_cons_zero, List.set_cons_succ]
                        clear hs
                        first
                          | (refine OpOk.off ?_ ?_ <;> rfl)
                          | (refine OpOk.run ?_ (fun K hK => ?_)
                             · rfl
                             go_simp
                             refine hK.out _ _ (Grows.refl _) ?_
                             exact rfl)
                      · intro w' hs
                        simp only [AllV, rdP, isV, forall_eq, rgPut, Act.put, List.setIfInBounds_toArray, List.set_cons_zero, List.set_cons_succ]
                        clear hs
                        first
                          | (refine OpOk.off ?_ ?_ <;> rfl)
                          | (refine OpOk.run ?_ (fun K hK => ?_)
                             · rfl
                             go_simp
                             refine hK.out _ _ (Grows.refl _) ?_
                             exact rfl)
                      · intro w' hs
                        simp only [AllV, rdP, isV, forall_eq, rgPut, Act.put, List.setIfInBounds_toArray, List.set_cons_zero, List.set_cons_succ]
                        obtain ⟨f0, f1, f2, f3, hbb⟩ := hs
                        first
                          | (refine OpOk.off ?_ ?_ <;> rfl)
                          | (refine OpOk.run ?_ (fun K hK => ?_)
                             · rfl
                             go_simp
                             refine hK.out _ _ (Grows.refl _) ?_
                             exact rfl)
                      · intro w' hs
                        simp only [AllV, rgPut]
                        clear hs
                        first
                          | (refine OpOk.off ?_ ?_ <;> rfl)
                          | (refine OpOk.run ?_ (fun K hK => ?_)
                             · rfl
                             go_simp
                             refine hK.out _ _ (Grows.refl _) ?_
                             exact rfl)
                      · intro w' hs
                        simp only [AllV, rdP, isV, forall_eq, rgPut, Act.put, List.setIfInBounds_toArray, List.set_cons_zero, List.set_cons_succ]
                        clear hs
                        first
                          | (refine OpOk.off ?_ ?_ <;> rfl)
                          | (refine OpOk.run ?_ (fun K hK => ?_)
                             · rfl
                             go_simp
                             refine hK.out _ _ (Grows.refl _) ?_
                             exact rfl)
                      · intro w' hs
                        simp only [AllV, rdP, isV, forall_eq, rgPut, Act.put, List.setIfInBounds_toArray, List.set_cons_zero, List.set_cons_succ]
                        clear hs
                        first
                          | (refine OpOk.off ?_ ?_ <;> rfl)
                          | (refine OpOk.run ?_ (fun K hK => ?_)
                             · rfl
                             go_simp
                             refine hK.out _ _ (Grows.refl _) ?_
                             exact rfl)
                      · -- 17: Op.load 47 t70
                        intro w' hs
                        simp only [AllV, rdP, isV, forall_eq, rgPut, Act.put, List.setIfInBounds_toArray, List.set_cons_zero, List.set_cons_succ]
                        obtain ⟨f0, f1, f2, f3, hbb⟩ := hs
                        refine OpOk.run ?_ (fun K hK => ?_)
                        · rfl
                        refine wp_load_mid 47 _ rfl jb (jo + i * 17) rfl G2 _ (range_below HG2.out hbb.out) Try.underlying47 rfl (by rw [G2L.out]; kernel_rfl) ?_
                        refine hK.out _ _ (Grows.refl _) ?_
                        exact rfl
                      · intro w' hs
                        simp only [AllV, rdP, isV, forall_eq, rgPut, Act.put, List.setIfInBounds_toArray, List.set_cons_zero, List.set_cons_succ]
                        clear hs
                        first
                          | (refine OpOk.off ?_ ?_ <;> rfl)
                          | (refine OpOk.run ?_ (fun K hK => ?_)
                             · rfl
                             go_simp
                             refine hK.out _ _ (Grows.refl _) ?_
                             exact rfl)
                      · intro w' hs
                        simp only [AllV, rdP, isV, forall_eq, rgPut, Act.put, List.setIfInBounds_toArray, List.set_cons_zero, List.set_cons_succ]
                        clear hs
                        first
                          | (refine OpOk.off ?_ ?_ <;> rfl)
                          | (refine OpOk.run ?_ (fun K hK => ?_)
                             · rfl
                             go_simp
                             refine hK.out _ _ (Grows.refl _) ?_
                             exact rfl)
                      · intro w' hs
                        simp only [AllV, rdP, isV, forall_eq, rgPut, Act.put, List.setIfInBounds_toArray, List.set_cons_zero, List.set_cons_succ]
                        clear hs
                        first
                          | (refine OpOk.off ?_ ?_ <;> rfl)
                          | (refine OpOk.run ?_ (fun K hK => ?_)
                             · rfl
                             go_simp
                             refine hK.out _ _ (Grows.refl _) ?_
                             exact rfl)
                      · intro w' hs
                        simp only [AllV, rdP, isV, forall_eq, rgPut, Act.put, List.setIfInBounds_toArray, List.set_cons_zero, List.set_cons_succ]
                        clear hs
                        first
                          | (refine OpOk.off ?_ ?_ <;> rfl)
                          | (refine OpOk.run ?_ (fun K hK => ?_)
                             · rfl
                             go_simp
                             refine hK.out _ _ (Grows.refl _) ?_
                             exact rfl)
                      · intro w' hs
                        simp only [AllV, rdP, isV, forall_eq, rgPut, Act.put, List.setIfInBounds_toArray, List.set_cons_zero, List.set_cons_succ]
                        clear hs
                        first
                          | (refine OpOk.off ?_ ?_ <;> rfl)
                          | (refine OpOk.run ?_ (fun K hK => ?_)
                             · rfl
                             go_simp
                             refine hK.out _ _ (Grows.refl _) ?_
                             exact rfl)
                      · intro w' hs
                        simp only [AllV, rdP, isV, forall_eq, rgPut, Act.put, List.setIfInBounds_toArray, List.set_cons_zero, List.set_cons_succ]
                        clear hs
                        first
                          | (refine OpOk.off ?_ ?_ <;> rfl)
                          | (refine OpOk.run ?_ (fun K hK => ?_)
                             · rfl
                             go_simp
                             refine hK.out _ _ (Grows.refl _) ?_
                             exact rfl)
                      · intro w' hs
                        simp only [AllV, rdP, isV, forall_eq, rgPut, Act.put, List.setIfInBounds_toArray, List.set_cons_zero, List.set_cons_succ]
                        obtain ⟨f0, f1, f2, f3, hbb⟩ := hs
                        first
                          | (refine OpOk.off ?_ ?_ <;> rfl)
                          | (refine OpOk.run ?_ (fun K hK => ?_)
                             · rfl
                             go_simp
                             refine hK.out _ _ (Grows.refl _) ?_
                             exact rfl)
                      · intro w' hs
                        simp only [AllV, rdP, isV, forall_eq, rgPut, Act.put, List.setIfInBounds_toArray, List.set_cons_zero, List.set_cons_succ]
                        clear hs
                        first
                          | (refine OpOk.off ?_ ?_ <;> rfl)
                          | (refine OpOk.run ?_ (fun K hK => ?_)
                             · rfl
                             go_simp
                             refine hK.out _ _ (Grows.refl _) ?_
                             exact rfl)
                      · intro w' hs
                        simp only [AllV, rdP, isV, forall_eq, rgPut, Act.put, List.setIfInBounds_toArray, List.set_cons_zero, List.set_cons_succ]
                        clear hs
                        first
                          | (refine OpOk.off ?_ ?_ <;> rfl)
                          | (refine OpOk.run ?_ (fun K hK => ?_)
                             · rfl
                             go_simp
                             refine hK.out _ _ (Grows.refl _) ?_
                             exact rfl)
                      · intro w' hs
                        simp only [AllV, rdP, isV, forall_eq, rgPut, Act.put, List.setIfInBounds_toArray, List.set_cons_zero, List.set_cons_succ]
                        clear hs
                        first
                          | (refine OpOk.off ?_ ?_ <;> rfl)
                          | (refine OpOk.run ?_ (fun K hK => ?_)
                             · rfl
                             go_simp
                             refine hK.out _ _ (Grows.refl _) ?_
                             exact rfl)
                      · intro w' hs
                        simp only [AllV, rdP, isV, forall_eq, rgPut, Act.put, List.setIfInBounds_toArray, List.set_cons_zero, List.set_cons_succ]
                        obtain ⟨f0, f1, f2, f3, hbb⟩ := hs
                        first
                          | (refine OpOk.off ?_ ?_ <;> rfl)
                          | (refine OpOk.run ?_ (fun K hK => ?_)
                             · rfl
                             go_simp
                             refine hK.out _ _ (Grows.refl _) ?_
                             exact rfl)
                      · intro w' hs
                        simp only [AllV, rdP, isV, forall_eq, rgPut, Act.put, List.setIfInBounds_toArray, List.set_cons_zero, List.set_cons_succ]
                        clear hs
                        first
                          | (refine OpOk.off ?_ ?_ <;> rfl)
                          | (refine OpOk.run ?_ (fun K hK => ?_)
                             · rfl
                             go_simp
                             refine hK.out _ _ (Grows.refl _) ?_
                             exact rfl)
                      · intro w' hs
                        simp only [AllV, rdP, isV, forall_eq, rgPut, Act.put, List.setIfInBounds_toArray, List.set_cons_zero, List.set_cons_succ]
                        clear hs
                        first
                          | (refine OpOk.off ?_ ?_ <;> rfl)
                          | (refine OpOk.run ?_ (fun K hK => ?_)
                             · rfl
                             go_simp
                             refine hK.out _ _ (Grows.refl _) ?_
                             exact rfl)
                      · intro w' hs
                        simp only [AllV, rdP, isV, forall_eq, rgPut, Act.put, List.setIfInBounds_toArray, List.set_cons_zero, List.set_cons_succ]
                        clear hs
                        first
                          | (refine OpOk.off ?_ ?_ <;> rfl)
                          | (refine OpOk.run ?_ (fun K hK => ?_)
                             · rfl
                             go_simp
                             refine hK.out _ _ (Grows.refl _) ?_
                             exact rfl)
                      · intro w' hs
                        simp only [AllV, rdP, isV, forall_eq, rgPut, Act.put, List.setIfInBounds_toArray, List.set_cons_zero, List.set_cons_succ]
                        clear hs
                        first
                          | (refine OpOk.off ?_ ?_ <;> rfl)
                          | (refine OpOk.run ?_ (fun K hK => ?_)
                             · rfl
                             go_simp
                             refine hK.out _ _ (Grows.refl _) ?_
                             exact rfl)
                      · intro w' hs
                        simp only [AllV, rdP, isV, forall_eq, rgPut, Act.put, List.setIfInBounds_toArray, List.set_cons_zero, List.set_cons_succ]
                        obtain ⟨f0, f1, f2, f3, hbb⟩ := hs
                        first
                          | (refine OpOk.off ?_ ?_ <;> rfl)
                          | (refine OpOk.run ?_ (fun K hK => ?_)
                             · rfl
                             go_simp
                             refine hK.out _ _ (Grows.refl _) ?_
                             exact rfl)
                      · intro w' hs
                        simp only [AllV, rdP, isV, forall_eq, rgPut, Act.put, List.setIfInBounds_toArray, List.set_cons_zero, List.set_cons_succ]
                        clear hs
                        first
                          | (refine OpOk.off ?_ ?_ <;> rfl)
                          | (refine OpOk.run ?_ (fun K hK => ?_)
                             · rfl
                             go_simp
                             refine hK.out _ _ (Grows.refl _) ?_
                             exact rfl)
                      · intro w' hs
                        simp only [AllV, rdP, isV, forall_eq, rgPut, Act.put, List.setIfInBounds_toArray, List.set_cons_zero, List.set_cons_succ]
                        clear hs
                        first
                          | (refine OpOk.off ?_ ?_ <;> rfl)
                          | (refine OpOk.run ?_ (fun K hK => ?_)
                             · rfl
                             go_simp
                             refine hK.out _ _ (Grows.refl _) ?_
                             exact rfl)
                      · intro w' hs
                        simp only [AllV, rdP, isV, forall_eq, rgPut, Act.put, List.setIfInBounds_toArray, List.set_cons_zero, List.set_cons_succ]
                        clear hs
                        first
                          | (refine OpOk.off ?_ ?_ <;> rfl)
                          | (refine OpOk.run ?_ (fun K hK => ?_)
                             · rfl
                             go_simp
                             refine hK.out _ _ (Grows.refl _) ?_
                             exact rfl)
                      · intro w' hs
                        simp only [AllV, rdP, isV, forall_eq, rgPut, Act.put, List.setIfInBounds_toArray, List.set_cons_zero, List.set_cons_succ]
                        obtain ⟨f0, f1, f2, f3, hbb⟩ := hs
                        first
                          | (refine OpOk.off ?_ ?_ <;> rfl)
                          | (refine OpOk.run ?_ (fun K hK => ?_)
                             · rfl
                             go_simp
                             refine hK.out _ _ (Grows.refl _) ?_
                             exact rfl)
                      · intro w' hs
                        simp only [AllV, rdP, isV, forall_eq, rgPut, Act.put, List.setIfInBounds_toArray, List.set_cons_zero, List.set_cons_succ]
                        obtain ⟨f0, f1, f2, f3, hbb⟩ := hs
                        first
                          | (refine OpOk.off ?_ ?_ <;> rfl)
                          | (refine OpOk.run ?_ (fun K hK => ?_)
                             · rfl
                             go_simp
                             go_at_call 13
                             refine (HSM.out _ (HY1.out.below hbb.out) (HY2.out.below hbb.out)).mono ?_
                             rintro e w1 ⟨rfl, rfl⟩
                             refine hK.out _ _ (Grows.refl _) ?_
                             exact rfl
                            )
                      · intro w' hs
                        simp only [AllV, rdP, isV, forall_eq, rgPut, Act.put, List.setIfInBounds_toArray, List.set_cons_zero, List.set_cons_succ]
                        clear hs
                        first
                          | (refine OpOk.off ?_ ?_ <;> rfl)
                          | (refine OpOk.run ?_ (fun K hK => ?_)
                             · rfl
                             go_simp
                             refine hK.out _ _ (Grows.refl _) ?_
                             exact rfl)
                      · intro w' hs
                        simp only [AllV, rdP, isV, forall_eq, rgPut, Act.put, List.setIfInBounds_toArray, List.set_cons_zero, List.set_cons_succ]
                        clear hs
                        first
                          | (refine OpOk.off ?_ ?_ <;> rfl)
                          | (refine OpOk.run ?_ (fun K hK => ?_)
                             · rfl
                             go_simp
                             refine hK.out _ _ (Grows.refl _) ?_
                             exact rfl)
                    case hend =>
                      intro w' hs
                      simp only [AllV, rdP, isV, forall_eq, rgPut, Act.put, List.setIfInBounds_toArray, List.set_cons_zero, List.set_cons_succ]
                      obtain ⟨f0, f1, f2, f3, hbb⟩ := hs
                      clear f0 f1 f2 f3
                      go_wp2
                      go_roundw
                      case rel => exact ⟨i + 1, hlt3, by go_num, Lib.hid (fun r p' q' hr hp' hq' => by
                          by_cases e : r = i
                          · subst e
                            rw [HP.out] at hp'
                            rw [HQ.out] at hq'
                            cases hp'
                            cases hq'
                            exact HII.out
                          · exact hgi.out r p' q' (by omega) hp' hq'), hbb⟩
                      case measure => simp [intOf]; omega
              · obtain rfl : i = n := by omega
                have hdl3 : decide ((i : Int) < (i : Int)) = false := by simp
                have HLI : Hid (x.li = y.li) := Lib.hid (by
                  have h1 : x.i.map ItV.it = y.i.map ItV.it := map_same (by rw [← HN1.out]; exact HN2.out) (fun r p q hr hp hq => hgi.out r p q (by rw [HN1.out]; exact hr) hp hq)
                  unfold LiV.li
                  rw [h1, ← hk1.out, ← hk2.out])
                go_wp2
                go_roundw
                case rel => exact ⟨j + 1, hlt, by go_num, Lib.hid (fun r x' y' hr hx' hy' => by
                    by_cases e : r = j
                    · subst e
                      rw [HX.out] at hx'
                      rw [HY.out] at hy'
                      cases hx'
                      cases hy'
                      exact HLI.out
                    · exact hgood.out r x' y' (by omega) hx' hy'), HBi⟩
                case measure => simp [intOf]; omega
        · have hne : ((n : Int) != (nn : Int)) = true := by simp; omega
          have HF := Lib.hid (HNO.out (fun h => hnn (by rw [HN1.out, HN2.out]; exact map_same_len (li_its (map_same_at h HX.out HY.out)).2)))
          clear hnn
          go_wp2
          refine' wp_region_grows (by kernel_rfl) (fun w' => w'.cell? ⟨b, off + j * 2, none⟩ = some (.int .u8 k1) ∧ w'.cell? ⟨b, off + j * 2 + 1, none⟩ = some (.slice ia n ic) ∧ w'.cell? ⟨b2, off2 + j * 2, none⟩ = some (.int .u8 k1) ∧ w'.cell? ⟨b2, off2 + j * 2 + 1, none⟩ = some (.slice ja nn jc) ∧ Hid (Below w.heap.size w w')) [isV _, isV _, isV _, isV _, isV _, isV _, isV _, isV _, isV _, isV _, isV _, isV _, isV _, isV _, isV _, isV _, isV _, isV _, isV _, isV _, isV _, isV _, isV _, isV _, isV _, isV _] 95 [[], [], [(0, some 18), (1, some 19)], [(2, some 20)], [(3, some 21)], [], [], [(5, some 23), (6, some 24)], [(7, some 25)], [(8, some 26)], [(4, some 22), (9, some 27)], [(10, some 28)], [(11, some 29)], [(11, some 29)], [(12, some 30), (13, some 31), (11, some 29)], [(14, some 32), (11, some 29)], [(15, some 33), (11, some 29)], [(16, some 34), (11, some 29)], [(11, some 29)], [(11, some 29)], [(18, some 36), (19, some 37), (11, some 29)], [(20, some 38), (11, some 29)], [(21, some 39), (11, some 29)], [(22, some 40), (11, some 29)], [(17, some 35), (23, some 41), (11, some 29)], [(11, some 29), (24, some 42)]] [(0, some 18), (1, some 19), (2, some 20), (3, some 21), (4, some 22), (5, some 23), (6, some 24), (7, some 25), (8, some 26), (9, some 27), (10, some 28), (11, some 29), (12, some 30), (13, some 31), (14, some 32), (15, some 33), (16, some 34), (17, some 35), (18, some 36), (19, some 37), (20, some 38), (21, some 39), (22, some 40), (23, some 41), (24, some 42), (25, some 43)] rfl (by kernel_rfl) ⟨fun _ _ _ _ h => h, fun _ _ _ _ h => h, fun _ _ _ _ h => h, fun _ _ _ _ h => h, fun _ _ _ _ h => h, fun _ _ _ _ h => h, fun _ _ _ _ h => h, fun _ _ _ _ h => h, fun _ _ _ _ h => h, fun _ _ _ _ h => h, fun _ _ _ _ h => h, fun _ _ _ _ h => h, fun _ _ _ _ h => h, fun _ _ _ _ h => h, fun _ _ _ _ h => h, fun _ _ _ _ h => h, fun _ _ _ _ h => h, fun _ _ _ _ h => h, fun _ _ _ _ h => h, fun _ _ _ _ h => h, fun _ _ _ _ h => h, fun _ _ _ _ h => h, fun _ _ _ _ h => h, fun _ _ _ _ h => h, fun _ _ _ _ h => h, fun _ _ _ _ h => h, trivial⟩ (fun _ a a' _ e h => by cases a; cases a'; cases e; exact h) ?hS ?hsteps ?hend
          case hS =>
            intro w' hg
            have hbz := Lib.hid (HB.out.drew.trans (hg.mono HB.out.size))
            have cc : ∀ (p : Addr) (v : Value), w.cell? p = some v → w'.cell? p = some v := fun p v h => (Below.cell hbz.out (lt_of_cell h)).trans h
            exact ⟨cc _ _ HA1.out, cc _ _ HA2.out, cc _ _ HC1.out, cc _ _ HC2.out, hbz⟩
          case hsteps =>
            refine ⟨?_, ?_, ?_, ?_, ?_, ?_, ?_, ?_, ?_, ?_, ?_, ?_, ?_, ?_, ?_, ?_, ?_, ?_, ?_, ?_, ?_, ?_, ?_, ?_, ?_, ?_, trivial⟩
            · intro w' hs
              simp only [AllV, rgPut]
              clear hs
              first
                | (refine OpOk.off ?_ ?_ <;> rfl)
                | (refine OpOk.run ?_ (fun K hK => ?_)
                   · rfl
                   go_simp
                   refine hK.out _ _ (Grows.refl _) ?_
                   exact rfl)
            · intro w' hs
              simp only [AllV, rgPut]
              clear hs
              first
                | (refine OpOk.off ?_ ?_ <;> rfl)
                | (refine OpOk.run ?_ (fun K hK => ?_)
                   · rfl
                   go_simp
                   refine hK.out _ _ (Grows.refl _) ?_
                   exact rfl)
            · intro w' hs
              simp only [AllV, rdP, isV, forall_eq, rgPut, Act.put, List.setIfInBounds_toArray, List.set_cons_zero, List.set_cons_succ]
              clear hs
              first
                | (refine OpOk.off ?_ ?_ <;> rfl)
                | (refine OpOk.run ?_ (fun K hK => ?_)
                   · rfl
                   go_simp
                   refine hK.out _ _ (Grows.refl _) ?_
                   exact rfl)
            · intro w' hs
              simp only [AllV, rdP, isV, forall_eq, rgPut, Act.put, List.setIfInBounds_toArray, List.set_cons_zero, List.set_cons_succ]
              clear hs
              first
                | (refine OpOk.off ?_ ?_ <;> rfl)
                | (refine OpOk.run ?_ (fun K hK => ?_)
                   · rfl
                   go_simp
                   refine hK.out _ _ (Grows.refl _) ?_
                   exact rfl)
            · intro w' hs
              simp only [AllV, rdP, isV, forall_eq, rgPut, Act.put, List.setIfInBounds_toArray, List.set_cons_zero, List.set_cons_succ]
              obtain ⟨f0, f1, f2, f3, hbb⟩ := hs
              first
                | (refine OpOk.off ?_ ?_ <;> rfl)
                | (refine OpOk.run ?_ (fun K hK => ?_)
                   · rfl
                   go_simp
                   refine hK.out _ _ (Grows.refl _) ?_
                   exact rfl)
            · intro w' hs
              simp only [AllV, rgPut]
              clear hs
              first
                | (refine OpOk.off ?_ ?_ <;> rfl)
                | (refine OpOk.run ?_ (fun K hK => ?_)
                   · rfl
                   go_simp
                   refine hK.out _ _ (Grows.refl _) ?_
                   exact rfl)
            · intro w' hs
              simp only [AllV, rgPut]
              clear hs
              first
                | (refine OpOk.off ?_ ?_ <;> rfl)
                | (refine OpOk.run ?_ (fun K hK => ?_)
                   · rfl
                   go_simp
                   refine hK.out _ _ (Grows.refl _) ?_
                   exact rfl)
            · intro w' hs
              simp only [AllV, rdP, isV, forall_eq, rgPut, Act.put, List.setIfInBounds_toArray, List.set_cons_zero, List.set_cons_succ]
              clear hs
              first
                | (refine OpOk.off ?_ ?_ <;> rfl)
                | (refine OpOk.run ?_ (fun K hK => ?_)
                   · rfl
                   go_simp
                   refine hK.out _ _ (Grows.refl _) ?_
                   exact rfl)
            · intro w' hs
              simp only [AllV, rdP, isV, forall_eq, rgPut, Act.put, List.setIfInBounds_toArray, List.set_cons_zero, List.set_cons_succ]
              clear hs
              first
                | (refine OpOk.off ?_ ?_ <;> rfl)
                | (refine OpOk.run ?_ (fun K hK => ?_)
                   · rfl
                   go_simp
                   refine hK.out _ _ (Grows.refl _) ?_
                   exact rfl)
            · intro w' hs
              simp only [AllV, rdP, isV, forall_eq, rgPut, Act.put, List.setIfInBounds_toArray, List.set_cons_zero, List.set_cons_succ]
              obtain ⟨f0, f1, f2, f3, hbb⟩ := hs
              first
                | (refine OpOk.off ?_ ?_ <;> rfl)
                | (refine OpOk.run ?_ (fun K hK => ?_)
                   · rfl
                   go_simp
                   refine hK.out _ _ (Grows.refl _) ?_
                   exact rfl)
            · intro w' hs
              simp only [AllV, rdP, isV, forall_eq, rgPut, Act.put, List.setIfInBounds_toArray, List.set_cons_zero, List.set_cons_succ]
              clear hs
              first
                | (refine OpOk.off ?_ ?_ <;> rfl)
                | (refine OpOk.run ?_ (fun K hK => ?_)
                   · rfl
                   go_simp
                   refine hK.out _ _ (Grows.refl _) ?_
                   exact rfl)
            · intro w' hs
              simp only [AllV, rdP, isV, forall_eq, rgPut, Act.put, List.setIfInBounds_toArray, List.set_cons_zero, List.set_cons_succ]
              clear hs
              first
                | (refine OpOk.off ?_ ?_ <;> rfl)
                | (refine OpOk.run ?_ (fun K hK => ?_)
                   · rfl
                   go_simp
                   refine hK.out _ _ (Grows.refl _) ?_
                   exact rfl)
            · intro w' hs
              simp only [AllV, rdP, isV, forall_eq, rgPut, Act.put, List.setIfInBounds_toArray, List.set_cons_zero, List.set_cons_succ]
              clear hs
              first
                | (refine OpOk.off ?_ ?_ <;> rfl)
                | (refine OpOk.run ?_ (fun K hK => ?_)
                   · rfl
                   go_simp
                   refine hK.out _ _ (Grows.refl _) ?_
                   exact rfl)
            · intro w' hs
              simp only [AllV, rdP, isV, forall_eq, rgPut, Act.put, List.setIfInBounds_toArray, List.set_cons_zero, List.set_cons_succ]
              clear hs
              first
                | (refine OpOk.off ?_ ?_ <;> rfl)
                | (refine OpOk.run ?_ (fun K hK => ?_)
                   · rfl
                   go_simp
                   refine hK.out _ _ (Grows.refl _) ?_
                   exact rfl)
            · intro w' hs
              simp only [AllV, rdP, isV, forall_eq, rgPut, Act.put, List.setIfInBounds_toArray, List.set_cons_zero, List.set_cons_succ]
              clear hs
              first
                | (refine OpOk.off ?_ ?_ <;> rfl)
                | (refine OpOk.run ?_ (fun K hK => ?_)
                   · rfl
                   go_simp
                   refine hK.out _ _ (Grows.refl _) ?_
                   exact rfl)
            · intro w' hs
              simp only [AllV, rdP, isV, forall_eq, rgPut, Act.put, List.setIfInBounds_toArray, List.set_cons_zero, List.set_cons_succ]
              clear hs
              first
                | (refine OpOk.off ?_ ?_ <;> rfl)
                | (refine OpOk.run ?_ (fun K hK => ?_)
                   · rfl
                   go_simp
                   refine hK.out _ _ (Grows.refl _) ?_
                   exact rfl)
            · intro w' hs
              simp only [AllV, rdP, isV, forall_eq, rgPut, Act.put, List.setIfInBounds_toArray, List.set_cons_zero, List.set_cons_succ]
              obtain ⟨f0, f1, f2, f3, hbb⟩ := hs
              first
                | (refine OpOk.off ?_ ?_ <;> rfl)
                | (refine OpOk.run ?_ (fun K hK => ?_)
                   · rfl
                   go_simp
                   refine hK.out _ _ (Grows.refl _) ?_
                   exact rfl)
            · intro w' hs
              simp only [AllV, rdP, isV, forall_eq, rgPut, Act.put, List.setIfInBounds_toArray, List.set_cons_zero, List.set_cons_succ]
              obtain ⟨f0, f1, f2, f3, hbb⟩ := hs
              first
                | (refine OpOk.off ?_ ?_ <;> rfl)
                | (refine OpOk.run ?_ (fun K hK => ?_)
                   · rfl
                   go_simp
                   refine hK.out _ _ (Grows.refl _) ?_
                   exact rfl)
            · intro w' hs
              simp only [AllV, rdP, isV, forall_eq, rgPut, Act.put, List.setIfInBounds_toArray, List.set_cons_zero, List.set_cons_succ]
              clear hs
              first
                | (refine OpOk.off ?_ ?_ <;> rfl)
                | (refine OpOk.run ?_ (fun K hK => ?_)
                   · rfl
                   go_simp
                   refine hK.out _ _ (Grows.refl _) ?_
                   exact rfl)
            · intro w' hs
              simp only [AllV, rdP, isV, forall_eq, rgPut, Act.put, List.setIfInBounds_toArray, List.set_cons_zero, List.set_cons_succ]
              clear hs
              first
                | (refine OpOk.off ?_ ?_ <;> rfl)
                | (refine OpOk.run ?_ (fun K hK => ?_)
                   · rfl
                   go_simp
                   refine hK.out _ _ (Grows.refl _) ?_
                   exact rfl)
            · intro w' hs
              simp only [AllV, rdP, isV, forall_eq, rgPut, Act.put, List.setIfInBounds_toArray, List.set_cons_zero, List.set_cons_succ]
              clear hs
              first
                | (refine OpOk.off ?_ ?_ <;> rfl)
                | (refine OpOk.run ?_ (fun K hK => ?_)
                   · rfl
                   go_simp
                   refine hK.out _ _ (Grows.refl _) ?_
                   exact rfl)
            · intro w' hs
              simp only [AllV, rdP, isV, forall_eq, rgPut, Act.put, List.setIfInBounds_toArray, List.set_cons_zero, List.set_cons_succ]
              clear hs
              first
                | (refine OpOk.off ?_ ?_ <;> rfl)
                | (refine OpOk.run ?_ (fun K hK => ?_)
                   · rfl
                   go_simp
                   refine hK.out _ _ (Grows.refl _) ?_
                   exact rfl)
            · intro w' hs
              simp only [AllV, rdP, isV, forall_eq, rgPut, Act.put, List.setIfInBounds_toArray, List.set_cons_zero, List.set_cons_succ]
              obtain ⟨f0, f1, f2, f3, hbb⟩ := hs
              first
                | (refine OpOk.off ?_ ?_ <;> rfl)
                | (refine OpOk.run ?_ (fun K hK => ?_)
                   · rfl
                   go_simp
                   refine hK.out _ _ (Grows.refl _) ?_
                   exact rfl)
            · intro w' hs
              simp only [AllV, rdP, isV, forall_eq, rgPut, Act.put, List.setIfInBounds_toArray, List.set_cons_zero, List.set_cons_succ]
              obtain ⟨f0, f1, f2, f3, hbb⟩ := hs
              first
                | (refine OpOk.off ?_ ?_ <;> rfl)
                | (refine OpOk.run ?_ (fun K hK => ?_)
                   · rfl
                   go_simp
                   refine hK.out _ _ (Grows.refl _) ?_
                   exact rfl)
            · intro w' hs
              simp only [AllV, rdP, isV, forall_eq, rgPut, Act.put, List.setIfInBounds_toArray, List.set_cons_zero, List.set_cons_succ]
              clear hs
              first
                | (refine OpOk.off ?_ ?_ <;> rfl)
                | (refine OpOk.run ?_ (fun K hK => ?_)
                   · rfl
                   go_simp
                   refine hK.out _ _ (Grows.refl _) ?_
                   exact rfl)
            · intro w' hs
              simp only [AllV, rdP, isV, forall_eq, rgPut, Act.put, List.setIfInBounds_toArray, List.set_cons_zero, List.set_cons_succ]
              clear hs
              first
                | (refine OpOk.off ?_ ?_ <;> rfl)
                | (refine OpOk.run ?_ (fun K hK => ?_)
                   · rfl
                   go_simp
                   refine hK.out _ _ (Grows.refl _) ?_
                   exact rfl)
          case hend =>
            intro w' hs
            simp only [AllV, rdP, isV, forall_eq, rgPut, Act.put, List.setIfInBounds_toArray, List.set_cons_zero, List.set_cons_succ]
            obtain ⟨f0, f1, f2, f3, hbb⟩ := hs
            clear f0 f1 f2 f3
            go_wp2
            go_ret
            rw [HF.out]
            exact ⟨rfl, hbb.out⟩
      · have HF := Lib.hid (HNO.out (fun h => hkk (by rw [hk1.out, hk2.out]; exact (li_its (map_same_at h HX.out HY.out)).1)))
        have hke : (k1 != k2) = true := by simp [hkk]
        clear hkk
        go_wp2
        refine' wp_region_grows (by kernel_rfl) (fun w' => w'.cell? ⟨b, off + j * 2, none⟩ = some (.int .u8 k1) ∧ w'.cell? ⟨b, off + j * 2 + 1, none⟩ = some (.slice ia n ic) ∧ w'.cell? ⟨b2, off2 + j * 2, none⟩ = some (.int .u8 k2) ∧ w'.cell? ⟨b2, off2 + j * 2 + 1, none⟩ = some (.slice ja nn jc) ∧ Hid (Below w.heap.size w w')) [isV _, isV _, isV _, isV _, isV _, isV _, isV _, isV _, isV _, isV _, isV _, isV _, isV _, isV _, isV _, isV _, isV _, isV _, isV _, isV _, isV _, isV _, isV _, isV _, isV _, isV _] 95 [[], [], [(0, some 18), (1, some 19)], [(2, some 20)], [(3, some 21)], [], [], [(5, some 23), (6, some 24)], [(7, some 25)], [(8, some 26)], [(4, some 22), (9, some 27)], [(10, some 28)], [(11, some 29)], [(11, some 29)], [(12, some 30), (13, some 31), (11, some 29)], [(14, some 32), (11, some 29)], [(15, some 33), (11, some 29)], [(16, some 34), (11, some 29)], [(11, some 29)], [(11, some 29)], [(18, some 36), (19, some 37), (11, some 29)], [(20, some 38), (11, some 29)], [(21, some 39), (11, some 29)], [(22, some 40), (11, some 29)], [(17, some 35), (23, some 41), (11, some 29)], [(11, some 29), (24, some 42)]] [(0, some 18), (1, some 19), (2, some 20), (3, some 21), (4, some 22), (5, some 23), (6, some 24), (7, some 25), (8, some 26), (9, some 27), (10, some 28), (11, some 29), (12, some 30), (13, some 31), (14, some 32), (15, some 33), (16, some 34), (17, some 35), (18, some 36), (19, some 37), (20, some 38), (21, some 39), (22, some 40), (23, some 41), (24, some 42), (25, some 43)] rfl (by kernel_rfl) ⟨fun _ _ _ _ h => h, fun _ _ _ _ h => h, fun _ _ _ _ h => h, fun _ _ _ _ h => h, fun _ _ _ _ h => h, fun _ _ _ _ h => h, fun _ _ _ _ h => h, fun _ _ _ _ h => h, fun _ _ _ _ h => h, fun _ _ _ _ h => h, fun _ _ _ _ h => h, fun _ _ _ _ h => h, fun _ _ _ _ h => h, fun _ _ _ _ h => h, fun _ _ _ _ h => h, fun _ _ _ _ h => h, fun _ _ _ _ h => h, fun _ _ _ _ h => h, fun _ _ _ _ h => h, fun _ _ _ _ h => h, fun _ _ _ _ h => h, fun _ _ _ _ h => h, fun _ _ _ _ h => h, fun _ _ _ _ h => h, fun _ _ _ _ h => h, fun _ _ _ _ h => h, trivial⟩ (fun _ a a' _ e h => by cases a; cases a'; cases e; exact h) ?hS ?hsteps ?hend
        case hS =>
          intro w' hg
          have hbz := Lib.hid (HB.out.drew.trans (hg.mono HB.out.size))
          have cc : ∀ (p : Addr) (v : Value), w.cell? p = some v → w'.cell? p = some v := fun p v h => (Below.cell hbz.out (lt_of_cell h)).trans h
          exact ⟨cc _ _ HA1.out, cc _ _ HA2.out, cc _ _ HC1.out, cc _ _ HC2.out, hbz⟩
        case hsteps =>
          refine ⟨?_, ?_, ?_, ?_, ?_, ?_, ?_, ?_, ?_, ?_, ?_, ?_, ?_, ?_, ?_, ?_, ?_, ?_, ?_, ?_, ?_, ?_, ?_, ?_, ?_, ?_, trivial⟩
          · intro w' hs
            simp only [AllV, rgPut]
            clear hs
            first
              | (refine OpOk.off ?_ ?_ <;> rfl)
              | (refine OpOk.run ?_ (fun K hK => ?_)
                 · rfl
                 go_simp
                 refine hK.out _ _ (Grows.refl _) ?_
                 exact rfl)
          · intro w' hs
            simp only [AllV, rgPut]
            clear hs
            first
              | (refine OpOk.off ?_ ?_ <;> rfl)
              | (refine OpOk.run ?_ (fun K hK => ?_)
                 · rfl
                 go_simp
                 refine hK.out _ _ (Grows.refl _) ?_
                 exact rfl)
          · intro w' hs
            simp only [AllV, rdP, isV, forall_eq, rgPut, Act.put, List.setIfInBounds_toArray, List.set_cons_zero, List.set_cons_succ]
            clear hs
            first
              | (refine OpOk.off ?_ ?_ <;> rfl)
              | (refine OpOk.run ?_ (fun K hK => ?_)
                 · rfl
                 go_simp
                 refine hK.out _ _ (Grows.refl _) ?_
                 exact rfl)
          · intro w' hs
            simp only [AllV, rdP, isV, forall_eq, rgPut, Act.put, List.setIfInBounds_toArray, List.set_cons_zero, List.set_cons_succ]
            clear hs
            first
              | (refine OpOk.off ?_ ?_ <;> rfl)
              | (refine OpOk.run ?_ (fun K hK => ?_)
                 · rfl
                 go_simp
                 refine hK.out _ _ (Grows.refl _) ?_
                 exact rfl)
          · intro w' hs
            simp only [AllV, rdP, isV, forall_eq, rgPut, Act.put, List.setIfInBounds_toArray, List.set_cons_zero, List.set_cons_succ]
            obtain ⟨f0, f1, f2, f3, hbb⟩ := hs
            first
              | (refine OpOk.off ?_ ?_ <;> rfl)
              | (refine OpOk.run ?_ (fun K hK => ?_)
                 · rfl
                 go_simp
                 refine hK.out _ _ (Grows.refl _) ?_
                 exact rfl)
          · intro w' hs
            simp only [AllV, rgPut]
            clear hs
            first
              | (refine OpOk.off ?_ ?_ <;> rfl)
              | (refine OpOk.run ?_ (fun K hK => ?_)
                 · rfl
                 go_simp
                 refine hK.out _ _ (Grows.refl _) ?_
                 exact rfl)
          · intro w' hs
            simp only [AllV, rgPut]
            clear hs
            first
              | (refine OpOk.off ?_ ?_ <;> rfl)
              | (refine OpOk.run ?_ (fun K hK => ?_)
                 · rfl
                 go_simp
                 refine hK.out _ _ (Grows.refl _) ?_
                 exact rfl)
          · intro w' hs
            simp only [AllV, rdP, isV, forall_eq, rgPut, Act.put, List.setIfInBounds_toArray, List.set_cons_zero, List.set_cons_succ]
            clear hs
            first
              | (refine OpOk.off ?_ ?_ <;> rfl)
              | (refine OpOk.run ?_ (fun K hK => ?_)
                 · rfl
                 go_simp
                 refine hK.out _ _ (Grows.refl _) ?_
                 exact rfl)
          · intro w' hs
            simp only [AllV, rdP, isV, forall_eq, rgPut, Act.put, List.setIfInBounds_toArray, List.set_cons_zero, List.set_cons_succ]
            clear hs
            first
              | (refine OpOk.off ?_ ?_ <;> rfl)
              | (refine OpOk.run ?_ (fun K hK => ?_)
                 · rfl
                 go_simp
                 refine hK.out _ _ (Grows.refl _) ?_
                 exact rfl)
          · intro w' hs
            simp only [AllV, rdP, isV, forall_eq, rgPut, Act.put, List.setIfInBounds_toArray, List.set_cons_zero, List.set_cons_succ]
            obtain ⟨f0, f1, f2, f3, hbb⟩ := hs
            first
              | (refine OpOk.off ?_ ?_ <;> rfl)
              | (refine OpOk.run ?_ (fun K hK => ?_)
                 · rfl
                 go_simp
                 refine hK.out _ _ (Grows.refl _) ?_
                 exact rfl)
          · intro w' hs
            simp only [AllV, rdP, isV, forall_eq, rgPut, Act.put, List.setIfInBounds_toArray, List.set_cons_zero, List.set_cons_succ]
            clear hs
            first
              | (refine OpOk.off ?_ ?_ <;> rfl)
              | (refine OpOk.run ?_ (fun K hK => ?_)
                 · rfl
                 go_simp
                 refine hK.out _ _ (Grows.refl _) ?_
                 exact rfl)
          · intro w' hs
            simp only [AllV, rdP, isV, forall_eq, rgPut, Act.put, List.setIfInBounds_toArray, List.set_cons_zero, List.set_cons_succ]
            clear hs
            first
              | (refine OpOk.off ?_ ?_ <;> rfl)
              | (refine OpOk.run ?_ (fun K hK => ?_)
                 · rfl
                 go_simp
                 refine hK.out _ _ (Grows.refl _) ?_
                 exact rfl)
          · intro w' hs
            simp only [AllV, rdP, isV, forall_eq, rgPut, Act.put, List.setIfInBounds_toArray, List.set_cons_zero, List.set_cons_succ]
            clear hs
            first
              | (refine OpOk.off ?_ ?_ <;> rfl)
              | (refine OpOk.run ?_ (fun K hK => ?_)
                 · rfl
                 go_simp
                 refine hK.out _ _ (Grows.refl _) ?_
                 exact rfl)
          · intro w' hs
            simp only [AllV, rdP, isV, forall_eq, rgPut, Act.put, List.setIfInBounds_toArray, List.set_cons_zero, List.set_cons_succ]
            clear hs
            first
              | (refine OpOk.off ?_ ?_ <;> rfl)
              | (refine OpOk.run ?_ (fun K hK => ?_)
                 · rfl
                 go_simp
                 refine hK.out _ _ (Grows.refl _) ?_
                 exact rfl)
          · intro w' hs
            simp only [AllV, rdP, isV, forall_eq, rgPut, Act.put, List.setIfInBounds_toArray, List.set_cons_zero, List.set_cons_succ]
            clear hs
            first
              | (refine OpOk.off ?_ ?_ <;> rfl)
              | (refine OpOk.run ?_ (fun K hK => ?_)
                 · rfl
                 go_simp
                 refine hK.out _ _ (Grows.refl _) ?_
                 exact rfl)
          · intro w' hs
            simp only [AllV, rdP, isV, forall_eq, rgPut, Act.put, List.setIfInBounds_toArray, List.set_cons_zero, List.set_cons_succ]
            clear hs
            first
              | (refine OpOk.off ?_ ?_ <;> rfl)
              | (refine OpOk.run ?_ (fun K hK => ?_)
                 · rfl
                 go_simp
                 refine hK.out _ _ (Grows.refl _) ?_
                 exact rfl)
          · intro w' hs
            simp only [AllV, rdP, isV, forall_eq, rgPut, Act.put, List.setIfInBounds_toArray, List.set_cons_zero, List.set_cons_succ]
            obtain ⟨f0, f1, f2, f3, hbb⟩ := hs
            first
              | (refine OpOk.off ?_ ?_ <;> rfl)
              | (refine OpOk.run ?_ (fun K hK => ?_)
                 · rfl
                 go_simp
                 refine hK.out _ _ (Grows.refl _) ?_
                 exact rfl)
          · intro w' hs
            simp only [AllV, rdP, isV, forall_eq, rgPut, Act.put, List.setIfInBounds_toArray, List.set_cons_zero, List.set_cons_succ]
            obtain ⟨f0, f1, f2, f3, hbb⟩ := hs
            first
              | (refine OpOk.off ?_ ?_ <;> rfl)
              | (refine OpOk.run ?_ (fun K hK => ?_)
                 · rfl
                 go_simp
                 refine hK.out _ _ (Grows.refl _) ?_
                 exact rfl)
          · intro w' hs
            simp only [AllV, rdP, isV, forall_eq, rgPut, Act.put, List.setIfInBounds_toArray, List.set_cons_zero, List.set_cons_succ]
            clear hs
            first
              | (refine OpOk.off ?_ ?_ <;> rfl)
              | (refine OpOk.run ?_ (fun K hK => ?_)
                 · rfl
                 go_simp
                 refine hK.out _ _ (Grows.refl _) ?_
                 exact rfl)
          · intro w' hs
            simp only [AllV, rdP, isV, forall_eq, rgPut, Act.put, List.setIfInBounds_toArray, List.set_cons_zero, List.set_cons_succ]
            clear hs
            first
              | (refine OpOk.off ?_ ?_ <;> rfl)
              | (refine OpOk.run ?_ (fun K hK => ?_)
                 · rfl
                 go_simp
                 refine hK.out _ _ (Grows.refl _) ?_
                 exact rfl)
          · intro w' hs
            simp only [AllV, rdP, isV, forall_eq, rgPut, Act.put, List.setIfInBounds_toArray, List.set_cons_zero, List.set_cons_succ]
            clear hs
            first
              | (refine OpOk.off ?_ ?_ <;> rfl)
              | (refine OpOk.run ?_ (fun K hK => ?_)
                 · rfl
                 go_simp
                 refine hK.out _ _ (Grows.refl _) ?_
                 exact rfl)
          · intro w' hs
            simp only [AllV, rdP, isV, forall_eq, rgPut, Act.put, List.setIfInBounds_toArray, List.set_cons_zero, List.set_cons_succ]
            clear hs
            first
              | (refine OpOk.off ?_ ?_ <;> rfl)
              | (refine OpOk.run ?_ (fun K hK => ?_)
                 · rfl
                 go_simp
                 refine hK.out _ _ (Grows.refl _) ?_
                 exact rfl)
          · intro w' hs
            simp only [AllV, rdP, isV, forall_eq, rgPut, Act.put, List.setIfInBounds_toArray, List.set_cons_zero, List.set_cons_succ]
            obtain ⟨f0, f1, f2, f3, hbb⟩ := hs
            first
              | (refine OpOk.off ?_ ?_ <;> rfl)
              | (refine OpOk.run ?_ (fun K hK => ?_)
                 · rfl
                 go_simp
                 refine hK.out _ _ (Grows.refl _) ?_
                 exact rfl)
          · intro w' hs
            simp only [AllV, rdP, isV, forall_eq, rgPut, Act.put, List.setIfInBounds_toArray, List.set_cons_zero, List.set_cons_succ]
            obtain ⟨f0, f1, f2, f3, hbb⟩ := hs
            first
              | (refine OpOk.off ?_ ?_ <;> rfl)
              | (refine OpOk.run ?_ (fun K hK => ?_)
                 · rfl
                 go_simp
                 refine hK.out _ _ (Grows.refl _) ?_
                 exact rfl)
          · intro w' hs
            simp only [AllV, rdP, isV, forall_eq, rgPut, Act.put, List.setIfInBounds_toArray, List.set_cons_zero, List.set_cons_succ]
            clear hs
            first
              | (refine OpOk.off ?_ ?_ <;> rfl)
              | (refine OpOk.run ?_ (fun K hK => ?_)
                 · rfl
                 go_simp
                 refine hK.out _ _ (Grows.refl _) ?_
                 exact rfl)
          · intro w' hs
            simp only [AllV, rdP, isV, forall_eq, rgPut, Act.put, List.setIfInBounds_toArray, List.set_cons_zero, List.set_cons_succ]
            clear hs
            first
              | (refine OpOk.off ?_ ?_ <;> rfl)
              | (refine OpOk.run ?_ (fun K hK => ?_)
                 · rfl
                 go_simp
                 refine hK.out _ _ (Grows.refl _) ?_
                 exact rfl)
        case hend =>
          intro w' hs
          simp only [AllV, rdP, isV, forall_eq, rgPut, Act.put, List.setIfInBounds_toArray, List.set_cons_zero, List.set_cons_succ]
          obtain ⟨f0, f1, f2, f3, hbb⟩ := hs
          clear f0 f1 f2 f3
          go_wp2
          go_ret
          rw [HF.out]
          exact ⟨rfl, hbb.out⟩
    · obtain rfl : j = N := by omega
      have hdl : decide ((j : Int) < (j : Int)) = false := by simp
      have HF : Hid (RB = true) := Lib.hid (by
        rw [hRB.out]
        exact decide_eq_true (map_same (by rw [← hN.out]; exact hN2.out) (fun r x y hr hx hy => hgood.out r x y (by rw [hN.out]; exact hr) hx hy)))
      go_wp2
      go_ret
      rw [HF.out]
      exact ⟨rfl, HB.out⟩
end Go.Proofs.Ytilanncobbdlfaa
