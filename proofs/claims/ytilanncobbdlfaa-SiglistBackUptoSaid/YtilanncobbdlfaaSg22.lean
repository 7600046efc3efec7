/-
  The contract of twins: the same lists, in memory of the call's own.
-/
import Derived.Test.YtilanncobbdlfaaSg21
namespace Go.Proofs.Ytilanncobbdlfaa
open Go Go.RowKit
set_option linter.unusedVariables false

theorem range_pre {w : World} {b o : Nat} {xs ys : List Value} (h : w.rangeAt b o (xs ++ ys)) : w.rangeAt b o xs := fun r v hr => h r v (by rw [List.getElem?_append_left (List.getElem?_eq_some_iff.1 hr).1]; exact hr)
/-- What stands in a list that the call has made lies below what is made next. -/
theorem OwnLis.below_next {w : World} {base n5 : Nat} {v : Value} {ys : List LiV} (h : OwnLis w base v ys) (hn : n5 = w.heap.size) : (∀ k, ownB v = some k → k < n5) ∧ ∀ y ∈ ys, (∀ k, ownB y.v = some k → k < n5) ∧ ∀ z ∈ y.i, ∀ k, ownB z.v = some k → k < n5 := by
  subst hn
  exact ⟨fun k hk => (Own.lt h.row k hk).2, fun y hy => ⟨fun k hk => (Own.lt (h.its y hy) k hk).2, fun z hz k hk => (Own.lt (h.byt y hy z hz) k hk).2⟩⟩

set_option maxRecDepth 100000 in
set_option maxHeartbeats 4000000 in
theorem twins_calls (v : Value) (xs : List LiV) (w : World) (hv : Lis w v xs) (hn : xs.length ≤ 1000000) (hi : ∀ x ∈ xs, x.i.length * 40 ≤ 140737488355328) (hd : ∀ x ∈ xs, ∀ y ∈ x.i, y.d.length ≤ 140737488355328) :
    Calls Try.prog 17 #[v] w fun e w' => ∃ v' ys, e = .returned v' ∧ ys.map LiV.li = xs.map LiV.li ∧ OwnLis w' w.heap.size v' ys ∧ Below w.heap.size w w' := by
  have HV := Lib.hid hv
  have HI := Lib.hid hi
  have HD := Lib.hid hd
  obtain ⟨a, cap, rfl, h1, h2⟩ := hv.open
  clear hv hi hd
  obtain ⟨N, hN⟩ : ∃ n, Hid (n = xs.length) := ⟨_, Lib.hid rfl⟩
  rw [← hN.out] at HV h1 hn ⊢
  go_enter Try.func17, Try.ntmps17
  go_wp2
  go_loopw [4, 3] (fun j_ o_ wr => ∃ (j : Nat) (ox : Option Addr) (on oc : Nat) (ys : List LiV), j ≤ N ∧ j_ = .int .i64 j ∧ o_ = .slice ox on oc ∧ Hid (ys.length = j) ∧ Hid (on = ys.length) ∧ Hid (ys.map LiV.li = (xs.take j).map LiV.li) ∧ Hid (OwnLis wr w.heap.size (.slice ox on oc) ys) ∧ Hid (Below w.heap.size w wr)) (fun j_ _ _ => N - (intOf j_).toNat)
  case atStart => exact ⟨0, none, 0, 0, [], Nat.zero_le _, rfl, rfl, Lib.hid rfl, Lib.hid rfl, Lib.hid rfl, Lib.hid (OwnLis.empty _ _ _), Lib.hid (Below.refl _ _)⟩
  case round =>
    obtain ⟨j, ox, on, oc, ys, hj, rfl, rfl, HYLN, HON, HYS, HO, HB⟩ := hrel
    obtain ⟨wo, hwo⟩ : ∃ wo : World, wo = wr := ⟨_, rfl⟩
    subst hwo
    by_cases hlt : j < N
    · obtain ⟨b, off, x, ia, n, ic, hx, ha, hrow, hxv, hm, hmc, hc, hits⟩ := HV.out.item j (by rw [← hN.out]; exact hlt)
      subst ha
      have hdl : decide ((j : Int) < (N : Int)) = true := by simp; omega
      have HX := Lib.hid hx
      have HKX := Lib.hid (HV.out.kind x (List.mem_of_getElem? hx))
      have HA1 : Hid (w.cell? ⟨b, off + j * 2, none⟩ = some (.int .u8 x.k)) := Lib.hid (hrow 0 _ rfl)
      have HA2 : Hid (w.cell? ⟨b, off + j * 2 + 1, none⟩ = some (.slice ia n ic)) := Lib.hid (hrow 1 _ rfl)
      have HITS := Lib.hid hits
      have HNI := Lib.hid hm
      have HMEM := Lib.hid (List.mem_of_getElem? hx)
      have HNB : Hid (n * 40 ≤ 140737488355328) := Lib.hid (by rw [hm]; exact HI.out x HMEM.out)
      obtain ⟨k, hk⟩ : ∃ k, Hid (k = x.k) := ⟨_, Lib.hid rfl⟩
      rw [← hk.out] at HA1 HKX
      clear hrow hx hxv hm hits
      obtain ⟨n5, hn5⟩ : ∃ m, Hid (m = wo.heap.size) := ⟨_, Lib.hid rfl⟩
      have HLT := Lib.hid (OwnLis.below_next HO.out hn5.out)
      have HLO : Hid (w.heap.size ≤ n5) := Lib.hid (by rw [hn5.out]; exact HB.out.size)
      have HR1 := Lib.hid (RowAt.new wo #[.int .u8 k, .slice none 0 0] 39 n5 hn5.out)
      have HB1 := Lib.hid (HB.out.alloc HB.out.size (.cells #[.int .u8 k, .slice none 0 0] 39))
      have HO1 := Lib.hid (OwnLis.alloc HO.out (.cells #[.int .u8 k, .slice none 0 0] 39))
      have q0 := (HB.out.cell (p := ⟨b, off + j * 2, none⟩) (lt_of_cell HA1.out)).trans HA1.out
      go_wp2_with (refine wpList_store_list rfl _ _ rfl wo #[.int .u8 0, .slice none 0 0] #[.int .u8 k, .slice none 0 0] rfl rfl (fun u hu => by simp at hu; rcases hu with rfl | rfl <;> rfl) rfl rfl ?_)
      rw [← hn5.out]
      clear q0
      go_loopw [6] (fun i_ wr => ∃ (i : Nat) (xa : Option Addr) (ca : Nat) (zs : List ItV), i ≤ n ∧ i_ = .int .i64 i ∧ Hid (i = zs.length) ∧ Hid (zs.map ItV.it = (x.i.take i).map ItV.it) ∧ Hid (RowAt wr n5 #[.int .u8 k, .slice xa i ca]) ∧ Hid (OwnIts wr (n5 + 1) (.slice xa i ca) zs) ∧ Hid (OwnLis wr w.heap.size (.slice ox on oc) ys) ∧ Hid (Below w.heap.size w wr)) (fun i_ _ => n - (intOf i_).toNat)
      case atStart => exact ⟨0, none, 0, [], Nat.zero_le _, rfl, Lib.hid rfl, Lib.hid rfl, HR1, Lib.hid (OwnIts.empty _ _ _), HO1, HB1⟩
      case round =>
        obtain ⟨i, xa, ca, zs, hi, rfl, HZL, HZE, HR5, HIT, HOL, HB5⟩ := hrel
        obtain ⟨wi, hwi⟩ : ∃ wi : World, wi = wr := ⟨_, rfl⟩
        subst hwi
        have HL1 := Lib.hid ((HB5.out.cell (p := ⟨b, off + j * 2 + 1, none⟩) (lt_of_cell HA2.out)).trans HA2.out)
        have q1 := HL1.out
        by_cases hlt3 : i < n
        · obtain ⟨ib, io, y, s, m, c, hy, hia, hry, hyv, hym, hymc, hyc, hyb, hyl, hyC, hy1⟩ := HITS.out.item i (by rw [← HNI.out]; exact hlt3)
          subst hia
          have hdl3 : decide ((i : Int) < (n : Int)) = true := by simp; omega
          have HYE := Lib.hid hy
          have HYL := Lib.hid hyl
          have HYB : Hid (Byt wi (.slice s m c) y.d) := Lib.hid (by rw [← hyv]; exact hyb.below HB5.out)
          have HYD := Lib.hid (HD.out x HMEM.out y (List.mem_of_getElem? hy))
          have HYO : Hid (wi.rangeAt ib (io + i * 17) (y.o.map b8)) := Lib.hid (range_pre (range_below hry HB5.out))
          have HY1 : Hid (wi.cell? ⟨ib, io + i * 17 + 16, none⟩ = some (.slice s m c)) := Lib.hid (by
            have := hry 16 _ (itC_at16 y hyl)
            rw [hyv] at this
            exact (HB5.out.cell (p := ⟨ib, io + i * 17 + 16, none⟩) (lt_of_cell this)).trans this)
          have HX1 := Lib.hid (HR5.out.cell 1 (.slice xa i ca) rfl)
          clear hry hy hyv hyb hyl hyC hy1 hym
          go_wp2_with fail
          clear q1
          obtain ⟨RS, hRS⟩ : ∃ R : List (Value → World → Prop), R = [isV (.pointer (some ⟨n5, 1, none⟩)), isV (.slice xa i ca), isV (.slice (some ⟨b, off, none⟩) N cap), isV (.int .i64 (j : Int)), isV (.pointer (some ⟨b, off + j * 2, none⟩)), isV (.pointer (some ⟨b, off + j * 2 + 1, none⟩)), isV (.slice (some ⟨ib, io, none⟩) n ic), isV (.int .i64 (i : Int)), isV (.pointer (some ⟨ib, io + i * 17, none⟩)), isV (.pointer (some ⟨ib, io + i * 17, none⟩)), isV (.agg (y.o.map b8).toArray), isV (.slice (some ⟨b, off, none⟩) N cap), isV (.int .i64 (j : Int)), isV (.pointer (some ⟨b, off + j * 2, none⟩)), isV (.pointer (some ⟨b, off + j * 2 + 1, none⟩)), isV (.slice (some ⟨ib, io, none⟩) n ic), isV (.int .i64 (i : Int)), isV (.pointer (some ⟨ib, io + i * 17, none⟩)), isV (.pointer (some ⟨ib, io + i * 17 + 16, none⟩)), isV (.slice s m c), fun v w' => ∃ x m c, v = .slice x m c ∧ OwnB w' wi.heap.size (.slice x m c) y.d, fun v w' => ∃ x m c, v = .agg (y.o.map b8 ++ [Value.slice x m c]).toArray ∧ OwnB w' wi.heap.size (.slice x m c) y.d, fun v w' => ∃ b x m c, v = .slice (some ⟨b, 0, none⟩) 1 1 ∧ Rd w' 17 v 1 (y.o.map b8 ++ [Value.slice x m c]) ∧ OwnB w' wi.heap.size (.slice x m c) y.d, fun _ _ => True, isV (.pointer (some ⟨n5, 1, none⟩)), fun _ _ => True] := ⟨_, rfl⟩
          have HST : StableL Grows RS := by rw [hRS]; exact ⟨fun _ _ _ _ h => h, fun _ _ _ _ h => h, fun _ _ _ _ h => h, fun _ _ _ _ h => h, fun _ _ _ _ h => h, fun _ _ _ _ h => h, fun _ _ _ _ h => h, fun _ _ _ _ h => h, fun _ _ _ _ h => h, fun _ _ _ _ h => h, fun _ _ _ _ h => h, fun _ _ _ _ h => h, fun _ _ _ _ h => h, fun _ _ _ _ h => h, fun _ _ _ _ h => h, fun _ _ _ _ h => h, fun _ _ _ _ h => h, fun _ _ _ _ h => h, fun _ _ _ _ h => h, fun _ _ _ _ h => h, fun _ _ _ hg ⟨x, m, c, e, h⟩ => ⟨x, m, c, e, OwnB.below h hg⟩, fun _ _ _ hg ⟨x, m, c, e, h⟩ => ⟨x, m, c, e, OwnB.below h hg⟩, fun _ _ _ hg ⟨b, x, m, c, e, h, h2⟩ => ⟨b, x, m, c, e, Rd.below h hg (Nat.le_refl _), OwnB.below h2 hg⟩, fun _ _ _ _ h => h, fun _ _ _ _ h => h, fun _ _ _ _ h => h, trivial⟩
          refine' wp_region_tail (by kernel_rfl) Grows (fun w' => Hid (Below wi.heap.size wi w')) (rdP RS) (TwT w n5 k (.slice xa i ca) (.slice ox on oc) ys (x.i.take (i + 1))) (TwC w n5 k (.slice ox on oc) ys (x.i.take (i + 1))) 23 25 24 59 [[], [(0, some 29)], [], [], [(2, some 31), (3, some 32)], [(4, some 33)], [(5, some 34)], [], [(6, some 35), (7, some 36)], [(8, some 37)], [(9, some 38)], [], [], [(11, some 40), (12, some 41)], [(13, some 42)], [(14, some 43)], [], [(15, some 44), (16, some 45)], [(17, some 46)], [(18, some 47)], [(19, some 48)], [(10, some 39), (20, some 49)], [(21, some 50)], [(1, some 30), (22, some 51)], [], [(24, some 53), (23, some 52)]] [(0, some 29), (1, some 30), (2, some 31), (3, some 32), (4, some 33), (5, some 34), (6, some 35), (7, some 36), (8, some 37), (9, some 38), (10, some 39), (11, some 40), (12, some 41), (13, some 42), (14, some 43), (15, some 44), (16, some 45), (17, some 46), (18, some 47), (19, some 48), (20, some 49), (21, some 50), (22, some 51), (23, some 52), (24, some 53), (25, none)] rfl (by kernel_rfl) (by kernel_rfl) Grows.refl Grows.trans HST.at (by rw [hRS]; exact fun _ _ _ h => h) (fun _ a a' _ e h => by cases a; cases a'; cases e; exact h) ?hS ?hsteps ?hfree ?hz ?hs ?hend
          case hS => exact fun w' hg => Lib.hid ((Below.refl _ _).drew.trans hg)
          case hsteps =>
            rw [hRS]
            refine ⟨?_, ?_, ?_, ?_, ?_, ?_, ?_, ?_, ?_, ?_, ?_, ?_, ?_, ?_, ?_, ?_, ?_, ?_, ?_, ?_, ?_, ?_, ?_, ?_, ?_, ?_, trivial⟩
            · intro _ _ _
              intro w' hs
              simp only [AllV, rdP, isV, forall_eq, rgPut, Act.put, List.setIfInBounds_toArray, List.set_cons_zero, List.set_cons_succ]
              have cc : ∀ (p : Addr) (u : Value), wi.cell? p = some u → w'.cell? p = some u := fun p u h => (Below.cell hs.out (lt_of_cell h)).trans h
              have f1 := cc _ _ HX1.out
              have f2 := cc _ _ HL1.out
              have f3 := cc _ _ HY1.out
              clear cc hs
              refine OpOk.run ?_ (fun K hK => ?_)
              · rfl
              go_simp
              refine hK.out _ _ (Grows.refl _) ?_
              exact rfl
            · intro _ _ _
              intro w' hs
              simp only [AllV, rdP, isV, forall_eq, rgPut, Act.put, List.setIfInBounds_toArray, List.set_cons_zero, List.set_cons_succ]
              have cc : ∀ (p : Addr) (u : Value), wi.cell? p = some u → w'.cell? p = some u := fun p u h => (Below.cell hs.out (lt_of_cell h)).trans h
              have f1 := cc _ _ HX1.out
              have f2 := cc _ _ HL1.out
              have f3 := cc _ _ HY1.out
              clear cc hs
              refine OpOk.run ?_ (fun K hK => ?_)
              · rfl
              go_simp
              refine hK.out _ _ (Grows.refl _) ?_
              exact rfl
            · intro _ _ _
              intro w' hs
              simp only [AllV, rdP, isV, forall_eq, rgPut, Act.put, List.setIfInBounds_toArray, List.set_cons_zero, List.set_cons_succ]
              have cc : ∀ (p : Addr) (u : Value), wi.cell? p = some u → w'.cell? p = some u := fun p u h => (Below.cell hs.out (lt_of_cell h)).trans h
              have f1 := cc _ _ HX1.out
              have f2 := cc _ _ HL1.out
              have f3 := cc _ _ HY1.out
              clear cc hs
              refine OpOk.run ?_ (fun K hK => ?_)
              · rfl
              go_simp
              refine hK.out _ _ (Grows.refl _) ?_
              exact rfl
            · intro _ _ _
              intro w' hs
              simp only [AllV, rdP, isV, forall_eq, rgPut, Act.put, List.setIfInBounds_toArray, List.set_cons_zero, List.set_cons_succ]
              have cc : ∀ (p : Addr) (u : Value), wi.cell? p = some u → w'.cell? p = some u := fun p u h => (Below.cell hs.out (lt_of_cell h)).trans h
              have f1 := cc _ _ HX1.out
              have f2 := cc _ _ HL1.out
              have f3 := cc _ _ HY1.out
              clear cc hs
              refine OpOk.run ?_ (fun K hK => ?_)
              · rfl
              go_simp
              refine hK.out _ _ (Grows.refl _) ?_
              exact rfl
            · intro _ _ _
              intro w' hs
              simp only [AllV, rdP, isV, forall_eq, rgPut, Act.put, List.setIfInBounds_toArray, List.set_cons_zero, List.set_cons_succ]
              have cc : ∀ (p : Addr) (u : Value), wi.cell? p = some u → w'.cell? p = some u := fun p u h => (Below.cell hs.out (lt_of_cell h)).trans h
              have f1 := cc _ _ HX1.out
              have f2 := cc _ _ HL1.out
              have f3 := cc _ _ HY1.out
              clear cc hs
              refine OpOk.run ?_ (fun K hK => ?_)
              · rfl
              go_simp
              refine hK.out _ _ (Grows.refl _) ?_
              exact rfl
            · intro _ _ _
              intro w' hs
              simp only [AllV, rdP, isV, forall_eq, rgPut, Act.put, List.setIfInBounds_toArray, List.set_cons_zero, List.set_cons_succ]
              have cc : ∀ (p : Addr) (u : Value), wi.cell? p = some u → w'.cell? p = some u := fun p u h => (Below.cell hs.out (lt_of_cell h)).trans h
              have f1 := cc _ _ HX1.out
              have f2 := cc _ _ HL1.out
              have f3 := cc _ _ HY1.out
              clear cc hs
              refine OpOk.run ?_ (fun K hK => ?_)
              · rfl
              go_simp
              refine hK.out _ _ (Grows.refl _) ?_
              exact rfl
            · intro _ _ _
              intro w' hs
              simp only [AllV, rdP, isV, forall_eq, rgPut, Act.put, List.setIfInBounds_toArray, List.set_cons_zero, List.set_cons_succ]
              have cc : ∀ (p : Addr) (u : Value), wi.cell? p = some u → w'.cell? p = some u := fun p u h => (Below.cell hs.out (lt_of_cell h)).trans h
              have f1 := cc _ _ HX1.out
              have f2 := cc _ _ HL1.out
              have f3 := cc _ _ HY1.out
              clear cc hs
              refine OpOk.run ?_ (fun K hK => ?_)
              · rfl
              go_simp
              refine hK.out _ _ (Grows.refl _) ?_
              exact rfl
            · intro _ _ _
              intro w' hs
              simp only [AllV, rdP, isV, forall_eq, rgPut, Act.put, List.setIfInBounds_toArray, List.set_cons_zero, List.set_cons_succ]
              have cc : ∀ (p : Addr) (u : Value), wi.cell? p = some u → w'.cell? p = some u := fun p u h => (Below.cell hs.out (lt_of_cell h)).trans h
              have f1 := cc _ _ HX1.out
              have f2 := cc _ _ HL1.out
              have f3 := cc _ _ HY1.out
              clear cc hs
              refine OpOk.run ?_ (fun K hK => ?_)
              · rfl
              go_simp
              refine hK.out _ _ (Grows.refl _) ?_
              exact rfl
            · intro _ _ _
              intro w' hs
              simp only [AllV, rdP, isV, forall_eq, rgPut, Act.put, List.setIfInBounds_toArray, List.set_cons_zero, List.set_cons_succ]
              have cc : ∀ (p : Addr) (u : Value), wi.cell? p = some u → w'.cell? p = some u := fun p u h => (Below.cell hs.out (lt_of_cell h)).trans h
              have f1 := cc _ _ HX1.out
              have f2 := cc _ _ HL1.out
              have f3 := cc _ _ HY1.out
              clear cc hs
              refine OpOk.run ?_ (fun K hK => ?_)
              · rfl
              go_simp
              refine hK.out _ _ (Grows.refl _) ?_
              exact rfl
            · intro _ _ _
              intro w' hs
              simp only [AllV, rdP, isV, forall_eq, rgPut, Act.put, List.setIfInBounds_toArray, List.set_cons_zero, List.set_cons_succ]
              have cc : ∀ (p : Addr) (u : Value), wi.cell? p = some u → w'.cell? p = some u := fun p u h => (Below.cell hs.out (lt_of_cell h)).trans h
              have f1 := cc _ _ HX1.out
              have f2 := cc _ _ HL1.out
              have f3 := cc _ _ HY1.out
              clear cc hs
              refine OpOk.run ?_ (fun K hK => ?_)
              · rfl
              go_simp
              refine hK.out _ _ (Grows.refl _) ?_
              exact rfl
            · intro _ _ _
              intro w' hs
              simp only [AllV, rdP, isV, forall_eq, rgPut, Act.put, List.setIfInBounds_toArray, List.set_cons_zero, List.set_cons_succ]
              refine OpOk.run ?_ (fun K hK => ?_)
              · rfl
              refine wp_load_mid 47 _ rfl ib (io + i * 17) rfl (y.o.map b8) _ (range_below HYO.out hs.out) Try.underlying47 rfl (by rw [List.length_map, HYL.out]; kernel_rfl) ?_
              refine hK.out _ _ (Grows.refl _) ?_
              exact rfl
            · intro _ _ _
              intro w' hs
              simp only [AllV, rdP, isV, forall_eq, rgPut, Act.put, List.setIfInBounds_toArray, List.set_cons_zero, List.set_cons_succ]
              have cc : ∀ (p : Addr) (u : Value), wi.cell? p = some u → w'.cell? p = some u := fun p u h => (Below.cell hs.out (lt_of_cell h)).trans h
              have f1 := cc _ _ HX1.out
              have f2 := cc _ _ HL1.out
              have f3 := cc _ _ HY1.out
              clear cc hs
              refine OpOk.run ?_ (fun K hK => ?_)
              · rfl
              go_simp
              refine hK.out _ _ (Grows.refl _) ?_
              exact rfl
            · intro _ _ _
              intro w' hs
              simp only [AllV, rdP, isV, forall_eq, rgPut, Act.put, List.setIfInBounds_toArray, List.set_cons_zero, List.set_cons_succ]
              have cc : ∀ (p : Addr) (u : Value), wi.cell? p = some u → w'.cell? p = some u := fun p u h => (Below.cell hs.out (lt_of_cell h)).trans h
              have f1 := cc _ _ HX1.out
              have f2 := cc _ _ HL1.out
              have f3 := cc _ _ HY1.out
              clear cc hs
              refine OpOk.run ?_ (fun K hK => ?_)
              · rfl
              go_simp
              refine hK.out _ _ (Grows.refl _) ?_
              exact rfl
            · intro _ _ _
              intro w' hs
              simp only [AllV, rdP, isV, forall_eq, rgPut, Act.put, List.setIfInBounds_toArray, List.set_cons_zero, List.set_cons_succ]
              have cc : ∀ (p : Addr) (u : Value), wi.cell? p = some u → w'.cell? p = some u := fun p u h => (Below.cell hs.out (lt_of_cell h)).trans h
              have f1 := cc _ _ HX1.out
              have f2 := cc _ _ HL1.out
              have f3 := cc _ _ HY1.out
              clear cc hs
              refine OpOk.run ?_ (fun K hK => ?_)
              · rfl
              go_simp
              refine hK.out _ _ (Grows.refl _) ?_
              exact rfl
            · intro _ _ _
              intro w' hs
              simp only [AllV, rdP, isV, forall_eq, rgPut, Act.put, List.setIfInBounds_toArray, List.set_cons_zero, List.set_cons_succ]
              have cc : ∀ (p : Addr) (u : Value), wi.cell? p = some u → w'.cell? p = some u := fun p u h => (Below.cell hs.out (lt_of_cell h)).trans h
              have f1 := cc _ _ HX1.out
              have f2 := cc _ _ HL1.out
              have f3 := cc _ _ HY1.out
              clear cc hs
              refine OpOk.run ?_ (fun K hK => ?_)
              · rfl
              go_simp
              refine hK.out _ _ (Grows.refl _) ?_
              exact rfl
            · intro _ _ _
              intro w' hs
              simp only [AllV, rdP, isV, forall_eq, rgPut, Act.put, List.setIfInBounds_toArray, List.set_cons_zero, List.set_cons_succ]
              have cc : ∀ (p : Addr) (u : Value), wi.cell? p = some u → w'.cell? p = some u := fun p u h => (Below.cell hs.out (lt_of_cell h)).trans h
              have f1 := cc _ _ HX1.out
              have f2 := cc _ _ HL1.out
              have f3 := cc _ _ HY1.out
              clear cc hs
              refine OpOk.run ?_ (fun K hK => ?_)
              · rfl
              go_simp
              refine hK.out _ _ (Grows.refl _) ?_
              exact rfl
            · intro _ _ _
              intro w' hs
              simp only [AllV, rdP, isV, forall_eq, rgPut, Act.put, List.setIfInBounds_toArray, List.set_cons_zero, List.set_cons_succ]
              have cc : ∀ (p : Addr) (u : Value), wi.cell? p = some u → w'.cell? p = some u := fun p u h => (Below.cell hs.out (lt_of_cell h)).trans h
              have f1 := cc _ _ HX1.out
              have f2 := cc _ _ HL1.out
              have f3 := cc _ _ HY1.out
              clear cc hs
              refine OpOk.run ?_ (fun K hK => ?_)
              · rfl
              go_simp
              refine hK.out _ _ (Grows.refl _) ?_
              exact rfl
            · intro _ _ _
              intro w' hs
              simp only [AllV, rdP, isV, forall_eq, rgPut, Act.put, List.setIfInBounds_toArray, List.set_cons_zero, List.set_cons_succ]
              have cc : ∀ (p : Addr) (u : Value), wi.cell? p = some u → w'.cell? p = some u := fun p u h => (Below.cell hs.out (lt_of_cell h)).trans h
              have f1 := cc _ _ HX1.out
              have f2 := cc _ _ HL1.out
              have f3 := cc _ _ HY1.out
              clear cc hs
              refine OpOk.run ?_ (fun K hK => ?_)
              · rfl
              go_simp
              refine hK.out _ _ (Grows.refl _) ?_
              exact rfl
            · intro _ _ _
              intro w' hs
              simp only [AllV, rdP, isV, forall_eq, rgPut, Act.put, List.setIfInBounds_toArray, List.set_cons_zero, List.set_cons_succ]
              have cc : ∀ (p : Addr) (u : Value), wi.cell? p = some u → w'.cell? p = some u := fun p u h => (Below.cell hs.out (lt_of_cell h)).trans h
              have f1 := cc _ _ HX1.out
              have f2 := cc _ _ HL1.out
              have f3 := cc _ _ HY1.out
              clear cc hs
              refine OpOk.run ?_ (fun K hK => ?_)
              · rfl
              go_simp
              refine hK.out _ _ (Grows.refl _) ?_
              exact rfl
            · intro _ _ _
              intro w' hs
              simp only [AllV, rdP, isV, forall_eq, rgPut, Act.put, List.setIfInBounds_toArray, List.set_cons_zero, List.set_cons_succ]
              have cc : ∀ (p : Addr) (u : Value), wi.cell? p = some u → w'.cell? p = some u := fun p u h => (Below.cell hs.out (lt_of_cell h)).trans h
              have f1 := cc _ _ HX1.out
              have f2 := cc _ _ HL1.out
              have f3 := cc _ _ HY1.out
              clear cc hs
              refine OpOk.run ?_ (fun K hK => ?_)
              · rfl
              go_simp
              refine hK.out _ _ (Grows.refl _) ?_
              exact rfl
            · intro _ _ _
              intro w' hs
              simp only [AllV, rdP, isV, forall_eq, rgPut, Act.put, List.setIfInBounds_toArray, List.set_cons_zero, List.set_cons_succ]
              refine OpOk.run ?_ (fun K hK => ?_)
              · rfl
              go_simp
              go_at_call 10
              refine (twin_calls _ y.d _ (HYB.out.below hs.out) HYD.out).mono ?_
              rintro e w1 ⟨v1, rfl, ho, hb⟩
              obtain ⟨x, c1, rfl, _, _⟩ := Own.shape ho
              refine hK.out _ _ hb ?_
              exact ⟨_, _, _, rfl, OwnB.mono ho hs.out.size⟩
            · intro _ _ _
              intro w' hs
              simp only [AllV, rdP, isV, forall_eq, rgPut, Act.put, List.setIfInBounds_toArray, List.set_cons_zero, List.set_cons_succ]
              intro v hv
              obtain ⟨x, m, c1, rfl, ho⟩ := hv
              refine OpOk.run ?_ (fun K hK => ?_)
              · rfl
              refine wp_build_item _ _ rfl y.o HYL.out x m c1 rfl rfl ?_
              refine hK.out _ _ (Grows.refl _) ?_
              exact ⟨_, _, _, rfl, ho⟩
            · intro _ _ _
              intro w' hs
              simp only [AllV, rdP, isV, forall_eq, rgPut, Act.put, List.setIfInBounds_toArray, List.set_cons_zero, List.set_cons_succ]
              intro v hv
              obtain ⟨x, m, c1, rfl, ho⟩ := hv
              refine OpOk.run ?_ (fun K hK => ?_)
              · rfl
              refine wp_bslice_item _ rfl (y.o.map b8 ++ [Value.slice x m c1]) (by simp [HYL.out]) rfl ?_
              refine hK.out _ _ ((Below.refl _ _).alloc (Nat.le_refl _) _) ?_
              exact ⟨w'.heap.size, x, m, c1, rfl, rd_item (by simp [HYL.out]), OwnB.alloc ho _⟩
            · intro h1 h2 h3; exact absurd rfl h1
            · intro h1 h2 h3; exact absurd rfl h3
            · intro h1 h2 h3; exact absurd rfl h2
          case hfree =>
            intro o ho' w'
            have e1 : some _ = some o := ho'
            cases e1
            rw [hRS]
            refine OpOk.run ?_ (fun K hK => ?_)
            · rfl
            go_simp
            refine hK.out _ _ rfl ?_
            exact rfl
          case hz =>
            intro o ns ho' hns w' hs
            have e1 : some _ = some o := ho'
            have e2 : some _ = some ns := hns
            cases e1
            cases e2
            rw [hRS]
            simp only [AllV, rdP, isV, forall_eq, rgPut, Act.put, List.setIfInBounds_toArray, List.set_cons_zero, List.set_cons_succ]
            rintro v ⟨bb, x1, m1, c1, rfl, hrd, ho⟩
            refine OpOk.run ?_ (fun K hK => ?_)
            · rfl
            have HIx := Lib.hid (HIT.out.below hs.out)
            refine op2_append_item _ _ rfl (n5 + 1) (.slice xa i ca) i (itsC zs) rfl (by have h := HIx.out.row; rw [← HZL.out] at h; exact h) (.slice (some ⟨bb, 0, none⟩) 1 1) (y.o.map b8 ++ [Value.slice x1 m1 c1]) rfl hrd (item_oneCell y.o x1 m1 c1) (by have := HNB.out; omega) (by have := hs.out.size; have := HR5.out.lt; omega) ?_
            intro v' w2 ho2 hg2 _
            refine hK.out _ _ trivial ?_
            have hs5 := HR5.out.lt
            exact tw_append HR5.out HIT.out HZL.out HZE.out HOL.out HLT.out HLO.out HB5.out hs.out ho ho2 hg2 HYE.out HYL.out
          case hs =>
            intro o ns ho' hns w' v u hT hu vals hv1 hv2
            have e1 : some _ = some o := ho'
            have e2 : some _ = some ns := hns
            cases e1
            cases e2
            rw [hRS] at hu
            have hu2 : u = (.pointer (some ⟨n5, 1, none⟩)) := hu
            subst hu2
            clear hu
            simp only [List.map_cons, List.map_nil, hv1, hv2, rgPut, Act.put, List.setIfInBounds_toArray, List.set_cons_zero, List.set_cons_succ]
            obtain ⟨xb, nb, cb, rfl⟩ := hT.shape
            have rc := hT.cell
            have rf := hT.free
            refine OpOk.run ?_ (fun K hK => ?_)
            · rfl
            go_simp
            refine hK.out undef _ trivial ?_
            exact hT.store
          case hend =>
            intro w' hC vals
            clear HST hRS
            simp only [List.map_cons, List.map_nil, rgPut, Act.put, List.setIfInBounds_toArray, List.set_cons_zero, List.set_cons_succ]
            obtain ⟨⟨xa2, na2, ca2, zs2, hr2, hl2, he2, hi2⟩, ho2, hb2⟩ := hC
            have hna : na2 = i + 1 := by
              rw [hl2]
              have := congrArg List.length he2
              rw [List.length_map, List.length_map, List.length_take] at this
              have := HNI.out
              omega
            subst hna
            have HR9 := Lib.hid hr2
            have HL9 := Lib.hid hl2
            have HE9 := Lib.hid he2
            have HI9 := Lib.hid hi2
            have HO9 := Lib.hid ho2
            have HB9 := Lib.hid hb2
            clear hr2 hl2 he2 hi2 ho2 hb2
            go_wp2
            go_roundw
            case rel => exact ⟨i + 1, xa2, ca2, zs2, hlt3, by go_num, HL9, HE9, HR9, HI9, HO9, HB9⟩
            case measure => simp [intOf]; omega
        · obtain rfl : i = n := by omega
          obtain ⟨n, hn2⟩ : ∃ n : Nat, n = i := ⟨_, rfl⟩
          subst hn2
          have hdl3 : decide ((n : Int) < (n : Int)) = false := by simp
          have HBA := Lib.hid (HB5.out.alloc HB5.out.size (.cells #[.int .u8 k, .slice xa n ca] 39))
          have HOA := Lib.hid (HOL.out.alloc (.cells #[.int .u8 k, .slice xa n ca] 39))
          have HOWA := Lib.hid (HIT.out.alloc (.cells #[.int .u8 k, .slice xa n ca] 39))
          have HRA : Hid (Rd (wi.alloc (.cells #[.int .u8 k, .slice xa n ca] 39)) 2 (.slice (some ⟨wi.heap.size, 0, none⟩) 1 1) 1 [.int .u8 k, .slice xa n ca]) := Lib.hid (rd_one (w := wi) (X := [.int .u8 k, .slice xa n ca]) (t := 39))
          have HPT : Hid (∀ y ∈ ys, ∀ q, ownB y.v = some q → ownB (.slice xa n ca) ≠ some q) := Lib.hid (fun y hy q hq e => by
            have h3 := (HLT.out.2 y hy).1 q hq
            have h4 := (Own.lt HIT.out.row q e).1
            omega)
          have HLI : Hid ((⟨k, zs, .slice xa n ca⟩ : LiV).li = x.li) := Lib.hid (by
            show (⟨k, zs.map ItV.it⟩ : Li) = ⟨x.k, x.i.map ItV.it⟩
            rw [HZE.out, hk.out, HNI.out, List.take_length])
          go_wp2_with (first
            | (refine wpList_load_mid rfl 39 _ rfl n5 0 rfl [.int .u8 k, .slice xa n ca] _ HR5.out.range Try.underlying39 rfl (by kernel_rfl) ?_)
            | (at_builtin; refine wpList_append_list rfl _ _ rfl w.heap.size (.slice ox on oc) ys.length (lisC ys) rfl HOA.out.row (.slice (some ⟨wi.heap.size, 0, none⟩) 1 1) [.int .u8 k, .slice xa n ca] rfl HRA.out (by intro u hu; simp only [List.mem_cons, List.not_mem_nil, or_false] at hu; rcases hu with hu | hu <;> (rw [hu]; rfl)) (by have := HYLN.out; omega) HBA.out.size ?_; intro v3 w3 ho3 hg3 _; obtain ⟨x3, c3, rfl, _, _⟩ := Own.shape ho3; have HB3 := Lib.hid (HBA.out.grown hg3 HBA.out.size (fun q hq => (Own.lt HOA.out.row q hq).1)); have HO3 := Lib.hid (OwnLis.snoc (x := ⟨k, zs, .slice xa n ca⟩) HOA.out ho3 hg3 HKX.out (HOWA.out.mono (by have := HLO.out; omega)) HPT.out); clear ho3 hg3))
          go_roundw
          case rel =>
            refine ⟨j + 1, x3, ys.length + 1, c3, ys ++ [⟨k, zs, .slice xa n ca⟩], hlt, by go_num, rfl, Lib.hid (by rw [List.length_append, HYLN.out]; rfl), Lib.hid (by rw [List.length_append]; rfl), Lib.hid ?_, HO3, HB3⟩
            rw [List.map_append, take_at HX.out, List.map_append, HYS.out, List.map_singleton, List.map_singleton, HLI.out]
          case measure => simp [intOf]; omega
    · obtain rfl : j = N := by omega
      have hdl : decide ((j : Int) < (j : Int)) = false := by simp
      have HE : Hid (ys.map LiV.li = xs.map LiV.li) := Lib.hid (by rw [HYS.out, hN.out, List.take_length])
      go_wp2
      go_ret
      exact ⟨_, ys, rfl, HE.out, HO.out, HB.out⟩
end Go.Proofs.Ytilanncobbdlfaa
