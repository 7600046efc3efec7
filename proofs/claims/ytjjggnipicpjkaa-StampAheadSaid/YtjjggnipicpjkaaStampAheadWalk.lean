/-
  The walk of the law StampAhead.
-/
import Derived.Test.YtjjggnipicpjkaaStWorks
import Derived.Test.YtjjggnipicpjkaaRow
import Derived.Test.YtjjggnipicpjkaaText
namespace Go.Proofs.Ytjjggnipicpjkaa
open Go Go.RowKit

theorem sOf_less (l m : List UInt8) : Op.bytesLess (sOf l).toList (sOf m).toList = Op.bytesLess l m := by
  rw [ByteArray.toList_eq, ByteArray.toList_eq]; simp [sOf]

theorem right_any (t : Tm) (b : Bool) (h : rightB t = b) (ht : t.Fit) (w : World) :
    Calls Try.prog 23 #[.agg #[.int .u16 t.y, .int .u8 t.mo, .int .u8 t.d, .int .u8 t.h, .int .u8 t.mi, .int .u8 t.s]] w fun e w' => e = .returned (.bool b) ∧ Below w.heap.size w w' := by rw [← h]; exact right_calls t w ht
theorem less_any (t u : Tm) (b : Bool) (h : lessB t u = b) (ht : t.Fit) (hu : u.Fit) (w : World) :
    Calls Try.prog 22 #[.agg #[.int .u16 t.y, .int .u8 t.mo, .int .u8 t.d, .int .u8 t.h, .int .u8 t.mi, .int .u8 t.s], .agg #[.int .u16 u.y, .int .u8 u.mo, .int .u8 u.d, .int .u8 u.h, .int .u8 u.mi, .int .u8 u.s]] w fun e w' => e = .returned (.bool b) ∧ Below w.heap.size w w' := by rw [← h]; exact less_calls t u w ht hu
theorem text_any (t : Tm) (X : List UInt8) (h : X = txL t) (ht : t.Fit) (hr : rightB t = true) (w : World) :
    Calls Try.prog 24 #[.agg #[.int .u16 t.y, .int .u8 t.mo, .int .u8 t.d, .int .u8 t.h, .int .u8 t.mi, .int .u8 t.s]] w fun e w' => ∃ v', e = .returned v' ∧ OwnB w' w.heap.size v' X ∧ Below w.heap.size w w' := by rw [h]; exact text_calls t w ht hr

set_option maxRecDepth 100000 in
set_option maxHeartbeats 4000000 in
theorem stampAhead_no (t u : Tm) (w : World) (ht : t.Fit) (hu : u.Fit) (hn : rightB t = false ∨ (rightB t = true ∧ rightB u = false)) :
    Calls Try.prog 7 #[tmV t, tmV u] w fun e w' => e = .returned (.bool true) ∧ Below w.heap.size w w' := by
  have hB0 : Hid (Below w.heap.size w ((w.alloc (.cells #[.int .u16 t.y, .int .u8 t.mo, .int .u8 t.d, .int .u8 t.h, .int .u8 t.mi, .int .u8 t.s] 25)).alloc (.cells #[.int .u16 u.y, .int .u8 u.mo, .int .u8 u.d, .int .u8 u.h, .int .u8 u.mi, .int .u8 u.s] 25))) := Lib.hid (((Below.refl _ _).alloc (Nat.le_refl _) _).alloc (by simp) _)
  unfold tmV
  rcases hn with r1 | ⟨r1, r2⟩
  · have HT := Lib.hid (fun W => right_any t _ r1 ht W)
    clear r1 ht hu
    go_enter Try.func7, Try.ntmps7
    go_wp2_with (first
      | (go_at_call 23; refine (HT.out _).mono ?_; rintro e w1 ⟨rfl, hb1⟩; have HB1 := Lib.hid (hB0.out.trans (hb1.mono hB0.out.size)); clear hb1)
      | (go_at_call 13; refine (works_calls _).mono ?_; rintro e w3 ⟨rfl, hb3⟩; have HB3 := Lib.hid (HB1.out.trans (hb3.mono HB1.out.size)); clear hb3))
    go_ret
    exact ⟨rfl, HB3.out⟩
  · have HT := Lib.hid (fun W => right_any t _ r1 ht W)
    have HU := Lib.hid (fun W => right_any u _ r2 hu W)
    clear r1 r2 ht hu
    go_enter Try.func7, Try.ntmps7
    go_wp2_with fail
    refine (HT.out _).mono ?_
    rintro e w1 ⟨rfl, hb1⟩
    have HB1 := Lib.hid (hB0.out.trans (hb1.mono hB0.out.size))
    have cu1 : ∀ o, w1.cell? ⟨w.heap.size + 1, o, none⟩ = _ := fun o => hb1.cell (p := ⟨w.heap.size + 1, o, none⟩) (by simp)
    clear hb1
    go_wp2_with fail
    refine (HU.out _).mono ?_
    rintro e w2 ⟨rfl, hb2⟩
    have HB2 := Lib.hid (HB1.out.trans (hb2.mono HB1.out.size))
    clear hb2
    go_wp2_with (go_at_call 13; refine (works_calls _).mono ?_; rintro e w3 ⟨rfl, hb3⟩; have HB3 := Lib.hid (HB2.out.trans (hb3.mono HB2.out.size)); clear hb3)
    go_ret
    exact ⟨rfl, HB3.out⟩

set_option maxRecDepth 100000 in
set_option maxHeartbeats 4000000 in
theorem stampAhead_yes (t u : Tm) (w : World) (ht : t.Fit) (hu : u.Fit) (r1 : rightB t = true) (r2 : rightB u = true) :
    Calls Try.prog 7 #[tmV t, tmV u] w fun e w' => e = .returned (.bool true) ∧ Below w.heap.size w w' := by
  have hB0 : Hid (Below w.heap.size w ((w.alloc (.cells #[.int .u16 t.y, .int .u8 t.mo, .int .u8 t.d, .int .u8 t.h, .int .u8 t.mi, .int .u8 t.s] 25)).alloc (.cells #[.int .u16 u.y, .int .u8 u.mo, .int .u8 u.d, .int .u8 u.h, .int .u8 u.mi, .int .u8 u.s] 25))) := Lib.hid (((Below.refl _ _).alloc (Nat.le_refl _) _).alloc (by simp) _)
  have HT := Lib.hid (fun W => right_any t _ r1 ht W)
  have HU0 := Lib.hid (fun W => right_any u _ r2 hu W)
  obtain ⟨L, hL⟩ : ∃ L, Hid (L = lessB t u) := ⟨_, Lib.hid rfl⟩
  obtain ⟨X, hX⟩ : ∃ X, Hid (X = txL t) := ⟨_, Lib.hid rfl⟩
  obtain ⟨U, hU⟩ : ∃ U, Hid (U = txL u) := ⟨_, Lib.hid rfl⟩
  have HL := Lib.hid (fun W => less_any t u L hL.out.symm ht hu W)
  have HX := Lib.hid (fun W => text_any t X hX.out ht r1 W)
  have HU := Lib.hid (fun W => text_any u U hU.out hu r2 W)
  have HLT : Hid (Op.bytesLess (sOf X).toList (sOf U).toList = L) := Lib.hid (by rw [sOf_less, hX.out, hU.out, hL.out]; exact less_tx t u ht hu r1 r2)
  have ct0 := Lib.hid ((RowAt.new w #[.int .u16 t.y, .int .u8 t.mo, .int .u8 t.d, .int .u8 t.h, .int .u8 t.mi, .int .u8 t.s] 25 w.heap.size rfl).alloc (.cells #[.int .u16 u.y, .int .u8 u.mo, .int .u8 u.d, .int .u8 u.h, .int .u8 u.mi, .int .u8 u.s] 25))
  have cu0 := Lib.hid (RowAt.new (w.alloc (.cells #[.int .u16 t.y, .int .u8 t.mo, .int .u8 t.d, .int .u8 t.h, .int .u8 t.mi, .int .u8 t.s] 25)) #[.int .u16 u.y, .int .u8 u.mo, .int .u8 u.d, .int .u8 u.h, .int .u8 u.mi, .int .u8 u.s] 25 (w.heap.size + 1) (by simp))
  clear r1 r2 ht hu
  unfold tmV
  go_enter Try.func7, Try.ntmps7
  go_wp2_with fail
  refine (HT.out _).mono ?_
  rintro e w1 ⟨rfl, hb1⟩
  have HB1 := Lib.hid (hB0.out.trans (hb1.mono hB0.out.size))
  have ct1 := Lib.hid (ct0.out.below hb1)
  have cu1 := Lib.hid (cu0.out.below hb1)
  have cu1a := cu1.out.cell
  have hz1 : w.heap.size + 2 ≤ w1.heap.size := by have := hb1.size; simp at this; omega
  clear hb1 ct0 cu0
  have k0 := cu1a 0 _ rfl
  have k1 := cu1a 1 _ rfl
  have k2 := cu1a 2 _ rfl
  have k3 := cu1a 3 _ rfl
  have k4 := cu1a 4 _ rfl
  have k5 := cu1a 5 _ rfl
  clear cu1a
  go_wp2_with fail
  refine (HU0.out _).mono ?_
  rintro e w2 ⟨rfl, hb2⟩
  have HB2 := Lib.hid (HB1.out.trans (hb2.mono HB1.out.size))
  have ct2 := Lib.hid (ct1.out.below hb2)
  have cu2 := Lib.hid (cu1.out.below hb2)
  have hz2 : w.heap.size + 2 ≤ w2.heap.size := by have := hb2.size; omega
  clear hb2 cu1 ct1 k0 k1 k2 k3 k4 k5
  go_wp2_with fail
  refine' wp_region_grows (by kernel_rfl) (fun w' => w'.cell? ⟨w.heap.size, 0, none⟩ = some (.int .u16 t.y) ∧ w'.cell? ⟨w.heap.size, 1, none⟩ = some (.int .u8 t.mo) ∧ w'.cell? ⟨w.heap.size, 2, none⟩ = some (.int .u8 t.d) ∧ w'.cell? ⟨w.heap.size, 3, none⟩ = some (.int .u8 t.h) ∧ w'.cell? ⟨w.heap.size, 4, none⟩ = some (.int .u8 t.mi) ∧ w'.cell? ⟨w.heap.size, 5, none⟩ = some (.int .u8 t.s) ∧ w'.cell? ⟨w.heap.size + 1, 0, none⟩ = some (.int .u16 u.y) ∧ w'.cell? ⟨w.heap.size + 1, 1, none⟩ = some (.int .u8 u.mo) ∧ w'.cell? ⟨w.heap.size + 1, 2, none⟩ = some (.int .u8 u.d) ∧ w'.cell? ⟨w.heap.size + 1, 3, none⟩ = some (.int .u8 u.h) ∧ w'.cell? ⟨w.heap.size + 1, 4, none⟩ = some (.int .u8 u.mi) ∧ w'.cell? ⟨w.heap.size + 1, 5, none⟩ = some (.int .u8 u.s) ∧ w.heap.size ≤ w'.heap.size ∧ Hid (Below w.heap.size w w')) [isV _, isV _, isV _, isV _, fun v w' => OwnB w' w.heap.size v X, isV _, isV _, fun v w' => OwnB w' w.heap.size v U, isV _, isV (.bool L), isV _, isV _, isV _, isV _, isV _] 28 [[], [], [(0, some 14), (1, some 15)], [], [(3, some 17)], [(4, some 18)], [], [(6, some 20)], [(7, some 21)], [(5, some 19), (8, some 22)], [(2, some 16), (9, some 23)], [(10, some 24)], [(11, some 25)], [(11, some 25), (12, some 26)], [(13, some 27)]] [(0, some 14), (1, some 15), (2, some 16), (3, some 17), (4, some 18), (5, some 19), (6, some 20), (7, some 21), (8, some 22), (9, some 23), (10, some 24), (11, some 25), (12, some 26), (13, some 27), (14, some 4)] rfl (by kernel_rfl) ⟨fun _ _ _ _ h => h, fun _ _ _ _ h => h, fun _ _ _ _ h => h, fun _ _ _ _ h => h, fun _ _ _ hg h => OwnB.below h hg, fun _ _ _ _ h => h, fun _ _ _ _ h => h, fun _ _ _ hg h => OwnB.below h hg, fun _ _ _ _ h => h, fun _ _ _ _ h => h, fun _ _ _ _ h => h, fun _ _ _ _ h => h, fun _ _ _ _ h => h, fun _ _ _ _ h => h, fun _ _ _ _ h => h, trivial⟩ (fun _ a a' _ e h => by cases a; cases a'; cases e; exact h) ?hS ?hsteps ?hend
  case hS =>
    intro w' hg
    have hz : w2.heap.size ≤ w'.heap.size := hg.size
    refine ⟨Grows.cell hg (ct2.out.cell 0 _ rfl), Grows.cell hg (ct2.out.cell 1 _ rfl), Grows.cell hg (ct2.out.cell 2 _ rfl), Grows.cell hg (ct2.out.cell 3 _ rfl), Grows.cell hg (ct2.out.cell 4 _ rfl), Grows.cell hg (ct2.out.cell 5 _ rfl), Grows.cell hg (cu2.out.cell 0 _ rfl), Grows.cell hg (cu2.out.cell 1 _ rfl), Grows.cell hg (cu2.out.cell 2 _ rfl), Grows.cell hg (cu2.out.cell 3 _ rfl), Grows.cell hg (cu2.out.cell 4 _ rfl), Grows.cell hg (cu2.out.cell 5 _ rfl), by omega, Lib.hid (HB2.out.drew.trans (hg.mono (by show _ ≤ w2.heap.size; omega)))⟩
  case hsteps =>
    refine ⟨?_, ?_, ?_, ?_, ?_, ?_, ?_, ?_, ?_, ?_, ?_, ?_, ?_, ?_, ?_, trivial⟩
    · intro w' hs
      simp only [AllV, rgPut]
      obtain ⟨c0, c1, c2, c3, c4, c5, c6, c7, c8, c9, c10, c11, hzz, hbb⟩ := hs
      first
        | (refine OpOk.off ?_ ?_ <;> rfl)
        | (refine OpOk.run ?_ (fun K hK => ?_)
           · rfl
           go_simp
           refine hK.out _ _ (Grows.refl _) ?_
           exact rfl)
    · intro w' hs
      simp only [AllV, rgPut]
      obtain ⟨c0, c1, c2, c3, c4, c5, c6, c7, c8, c9, c10, c11, hzz, hbb⟩ := hs
      first
        | (refine OpOk.off ?_ ?_ <;> rfl)
        | (refine OpOk.run ?_ (fun K hK => ?_)
           · rfl
           go_simp
           refine hK.out _ _ (Grows.refl _) ?_
           exact rfl)
    · intro w' hs
      simp only [AllV, rdP, isV, forall_eq, rgPut, Act.put, List.setIfInBounds_toArray, List.set_cons_zero, List.set_cons_succ]
      obtain ⟨c0, c1, c2, c3, c4, c5, c6, c7, c8, c9, c10, c11, hzz, hbb⟩ := hs
      first
        | (refine OpOk.off ?_ ?_ <;> rfl)
        | (refine OpOk.run ?_ (fun K hK => ?_)
           · rfl
           go_simp
           go_at_call 22
           refine (HL.out _).mono ?_
           rintro e w1 ⟨rfl, hb⟩
           refine hK.out _ _ hb ?_
           exact rfl
          )
    · intro w' hs
      simp only [AllV, rgPut]
      obtain ⟨c0, c1, c2, c3, c4, c5, c6, c7, c8, c9, c10, c11, hzz, hbb⟩ := hs
      first
        | (refine OpOk.off ?_ ?_ <;> rfl)
        | (refine OpOk.run ?_ (fun K hK => ?_)
           · rfl
           go_simp
           refine hK.out _ _ (Grows.refl _) ?_
           exact rfl)
    · intro w' hs
      simp only [AllV, rdP, isV, forall_eq, rgPut, Act.put, List.setIfInBounds_toArray, List.set_cons_zero, List.set_cons_succ]
      obtain ⟨c0, c1, c2, c3, c4, c5, c6, c7, c8, c9, c10, c11, hzz, hbb⟩ := hs
      first
        | (refine OpOk.off ?_ ?_ <;> rfl)
        | (refine OpOk.run ?_ (fun K hK => ?_)
           · rfl
           go_simp
           go_at_call 24
           refine (HX.out _).mono ?_
           rintro e w1 ⟨v1, rfl, ho, hb⟩
           refine hK.out _ _ hb ?_
           exact OwnB.mono ho hzz
          )
    · -- 5: Op.convert 22 9 t18
      intro w' hs
      simp only [AllV, rdP, rgPut, Act.put, List.setIfInBounds_toArray, List.set_cons_zero, List.set_cons_succ]
      clear hs
      intro v hv
      have hc := run_tostring (P := Try.prog) hv.byt 22 9 5 Try.underlying22 Try.underlying5 Try.underlying9
      refine OpOk.run ?_ (fun K hK => ?_)
      · rfl
      go_simp
      refine hK.out _ _ (Grows.refl _) ?_
      exact rfl
    · intro w' hs
      simp only [AllV, rgPut]
      obtain ⟨c0, c1, c2, c3, c4, c5, c6, c7, c8, c9, c10, c11, hzz, hbb⟩ := hs
      first
        | (refine OpOk.off ?_ ?_ <;> rfl)
        | (refine OpOk.run ?_ (fun K hK => ?_)
           · rfl
           go_simp
           refine hK.out _ _ (Grows.refl _) ?_
           exact rfl)
    · intro w' hs
      simp only [AllV, rdP, isV, forall_eq, rgPut, Act.put, List.setIfInBounds_toArray, List.set_cons_zero, List.set_cons_succ]
      obtain ⟨c0, c1, c2, c3, c4, c5, c6, c7, c8, c9, c10, c11, hzz, hbb⟩ := hs
      first
        | (refine OpOk.off ?_ ?_ <;> rfl)
        | (refine OpOk.run ?_ (fun K hK => ?_)
           · rfl
           go_simp
           go_at_call 24
           refine (HU.out _).mono ?_
           rintro e w1 ⟨v1, rfl, ho, hb⟩
           refine hK.out _ _ hb ?_
           exact OwnB.mono ho hzz
          )
    · -- 8: Op.convert 22 9 t21
      intro w' hs
      simp only [AllV, rdP, rgPut, Act.put, List.setIfInBounds_toArray, List.set_cons_zero, List.set_cons_succ]
      clear hs
      intro v hv
      have hc := run_tostring (P := Try.prog) hv.byt 22 9 5 Try.underlying22 Try.underlying5 Try.underlying9
      refine OpOk.run ?_ (fun K hK => ?_)
      · rfl
      go_simp
      refine hK.out _ _ (Grows.refl _) ?_
      exact rfl
    · -- 9: Op.binOp BinOp.lss 9 t19 t22 9
      intro w' hs
      simp only [AllV, rdP, isV, forall_eq, rgPut, Act.put, List.setIfInBounds_toArray, List.set_cons_zero, List.set_cons_succ]
      clear hs
      refine OpOk.run ?_ (fun K hK => ?_)
      · rfl
      go_simp
      refine hK.out _ _ (Grows.refl _) ?_
      exact congrArg Value.bool HLT.out
    · intro w' hs
      simp only [AllV, rdP, isV, forall_eq, rgPut, Act.put, List.setIfInBounds_toArray, List.set_cons_zero, List.set_cons_succ]
      clear hs
      first
        | (refine OpOk.off ?_ ?_ <;> rfl)
        | (refine OpOk.run ?_ (fun K hK => ?_)
           · rfl
           go_simp
           refine hK.out _ _ (Grows.refl _) ?_
           exact rfl)
    · intro w' hs
      simp only [AllV, rdP, isV, forall_eq, rgPut, Act.put, List.setIfInBounds_toArray, List.set_cons_zero, List.set_cons_succ]
      clear hs
      first
        | (refine OpOk.off ?_ ?_ <;> rfl)
        | (refine OpOk.run ?_ (fun K hK => ?_)
           · rfl
           go_simp
           refine hK.out _ _ (Grows.refl _) ?_
           exact rfl)
    · intro w' hs
      simp only [AllV, rdP, isV, forall_eq, rgPut, Act.put, List.setIfInBounds_toArray, List.set_cons_zero, List.set_cons_succ]
      obtain ⟨c0, c1, c2, c3, c4, c5, c6, c7, c8, c9, c10, c11, hzz, hbb⟩ := hs
      first
        | (refine OpOk.off ?_ ?_ <;> rfl)
        | (refine OpOk.run ?_ (fun K hK => ?_)
           · rfl
           go_simp
           go_at_call 13
           refine (works_calls _).mono ?_
           rintro e w1 ⟨rfl, hb⟩
           refine hK.out _ _ hb ?_
           exact rfl
          )
    · intro w' hs
      simp only [AllV, rdP, isV, forall_eq, rgPut, Act.put, List.setIfInBounds_toArray, List.set_cons_zero, List.set_cons_succ]
      clear hs
      first
        | (refine OpOk.off ?_ ?_ <;> rfl)
        | (refine OpOk.run ?_ (fun K hK => ?_)
           · rfl
           go_simp
           refine hK.out _ _ (Grows.refl _) ?_
           exact rfl)
    · intro w' hs
      simp only [AllV, rdP, isV, forall_eq, rgPut, Act.put, List.setIfInBounds_toArray, List.set_cons_zero, List.set_cons_succ]
      clear hs
      first
        | (refine OpOk.off ?_ ?_ <;> rfl)
        | (refine OpOk.run ?_ (fun K hK => ?_)
           · rfl
           go_simp
           refine hK.out _ _ (Grows.refl _) ?_
           exact rfl)
  case hend =>
    intro w' hs
    simp only [AllV, rdP, isV, forall_eq, rgPut, Act.put, List.setIfInBounds_toArray, List.set_cons_zero, List.set_cons_succ]
    intro v18 h18 v21 h21
    go_wp2
    go_ret
    exact ⟨rfl, hs.2.2.2.2.2.2.2.2.2.2.2.2.2.out⟩

theorem stampAhead_walk (t u : Tm) (w : World) (ht : t.Fit) (hu : u.Fit) :
    Calls Try.prog 7 #[tmV t, tmV u] w fun e w' => e = .returned (.bool true) ∧ Below w.heap.size w w' := by
  cases r1 : rightB t with
  | false => exact stampAhead_no t u w ht hu (.inl r1)
  | true =>
    cases r2 : rightB u with
    | false => exact stampAhead_no t u w ht hu (.inr ⟨r1, r2⟩)
    | true => exact stampAhead_yes t u w ht hu r1 r2
end Go.Proofs.Ytjjggnipicpjkaa
