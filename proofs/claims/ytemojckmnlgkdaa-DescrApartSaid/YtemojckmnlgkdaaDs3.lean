/-
  The contracts of descr's Text and of the document's own.
-/
import Derived.Test.YtemojckmnlgkdaaDs2
import Derived.Test.YtemojckmnlgkdaaOct10
import Derived.Deep.RegionHeld3
namespace Go.Proofs.Ytemojckmnlgkdaa
open Go Go.RowKit
set_option linter.unusedVariables false

/-- Sixteen bytes as a value. -/
def gidV (g : List UInt8) : Value := .agg (g.map b8).toArray

set_option maxRecDepth 100000 in
set_option maxHeartbeats 4000000 in
theorem text_calls (nm g : List UInt8) (a : Nat) (t : Tm) (ht : t.Fit) (q : Value) (d : List UInt8) (w : World) (hg : g.length = 16) (hn : nm.length ≤ 1000000) (ha : a < 4294967296) (hq : Byt w q d) (hd : d.length ≤ 100000000) :
    Calls Try.prog 14 #[.string (sOf nm), gidV g, .int .u32 (a : Int), tmV t, q] w fun e w' => ∃ v', e = .returned v' ∧ OwnB w' w.heap.size v' (dsX nm g a t d) ∧ Below w.heap.size w w' := by
  have HW := Lib.hid (fun W => wide_calls nm W (by omega))
  have HT := Lib.hid (fun W => write_calls t W ht)
  have HL := Lib.hid (wrL_length t)
  have HLW := Lib.hid (wideL_length_le nm)
  have HQ := Lib.hid hq
  obtain ⟨ad, cd, rfl, d1, d2⟩ := hq.shut
  clear hq
  obtain ⟨nd, hnd⟩ : ∃ n, Hid (n = d.length) := ⟨_, Lib.hid rfl⟩
  rw [← hnd.out] at d1 hd HQ ⊢
  have HF : Hid (dsX nm g a t d = wideL nm ++ g ++ lowN a 4 ++ wrL t ++ d) := Lib.hid (by unfold dsX; simp)
  obtain ⟨F, hF⟩ : ∃ L, Hid (L = dsX nm g a t d) := ⟨_, Lib.hid rfl⟩
  rw [← hF.out] at HF ⊢
  obtain ⟨TW, hTW⟩ : ∃ L, Hid (L = wrL t) := ⟨_, Lib.hid rfl⟩
  rw [← hTW.out] at HT HL HF
  obtain ⟨LW, hLW⟩ : ∃ L, Hid (L = wideL nm) := ⟨_, Lib.hid rfl⟩
  rw [← hLW.out] at HW HF HLW
  obtain ⟨S, hS⟩ : ∃ S, Hid (S = sOf nm) := ⟨_, Lib.hid rfl⟩
  rw [← hS.out] at HW ⊢
  obtain ⟨y, mo, dd, h, mi, s⟩ := t
  unfold tmV at HT ⊢
  simp only at HT ⊢
  obtain ⟨G, hG⟩ : ∃ G, Hid (G = (g.map b8).toArray) := ⟨_, Lib.hid rfl⟩
  unfold gidV
  rw [← hG.out]
  have HB0 := Lib.hid (((Below.refl w.heap.size w).alloc (Nat.le_refl _) (.cells G 27)).alloc (by simp) (.cells #[.int .u16 y, .int .u8 mo, .int .u8 dd, .int .u8 h, .int .u8 mi, .int .u8 s] 25))
  have R0 := Lib.hid (RowAt.new (w.alloc (.cells G 27)) #[.int .u16 y, .int .u8 mo, .int .u8 dd, .int .u8 h, .int .u8 mi, .int .u8 s] 25 (w.heap.size + 1) (by simp))
  have HG0 := Lib.hid ((by
    have := Byt.made w g G 27 (0, 0) (by rw [hG.out]) (by rw [hg]; unfold maxLen; decide)
    rw [hg] at this
    exact this : Byt (w.alloc (.cells G 27)) (.slice (some ⟨w.heap.size, 0, none⟩) 16 16) g).below ((Below.refl _ _).alloc (Nat.le_refl _) (.cells #[.int .u16 y, .int .u8 mo, .int .u8 dd, .int .u8 h, .int .u8 mi, .int .u8 s] 25)))
  go_enter Try.func14, Try.ntmps14
  go_wp2
  go_region_held3 (fun w' => w.heap.size + 1 < w'.heap.size) (first | omega | (simp <;> omega) | go_keep)
    (first
      | (go_at_call 32; refine (HW.out _).mono ?_; rintro e w1 ⟨v1, rfl, ho, hb⟩; have HB1 := Lib.hid (HB0.out.drew.trans (hb.mono HB0.out.size)); have R1 := Lib.hid (R0.out.drew.below hb); have HG1 := Lib.hid ((HG0.out.below (Below.refl _ _).drew).below hb); have HO1 := Lib.hid (ho.mono (show w.heap.size + 2 ≤ _ by simp)); have hz1 : w.heap.size + 1 < w1.heap.size := R1.out.lt; clear ho hb)
      | (refine wanted_if2 rfl ?_; refine op2_append_byt _ _ rfl (w.heap.size + 2) _ LW rfl HO1.out _ g rfl HG1.out (by have := HLW.out; omega) hz1 ?_; intro v2 w2 ho2 hg2 _ _; have HO2 := Lib.hid ho2; have HB2 := Lib.hid (HB1.out.grown hg2 HB1.out.size (fun j hj => by have := (Own.lt HO1.out j hj).1; omega)); have R2 := Lib.hid (R1.out.grown hg2 (fun e => by have := (Own.lt HO1.out _ e).1; omega)); have hz2 : w.heap.size + 1 < w2.heap.size := R2.out.lt; clear ho2 hg2))
  have HPUT : Hid (∀ v W, Byt W v (LW ++ g) → Calls Try.prog 25 #[v, .int .u64 (a : Int), .int .i64 4] W fun e w' => ∃ v', e = .returned v' ∧ OwnB w' W.heap.size v' (LW ++ g ++ lowN a 4) ∧ Below W.heap.size W w') := Lib.hid (fun v W h => by
    have := put_calls v (LW ++ g) a 4 W h (by omega) (by rw [List.length_append]; have := HLW.out; omega)
    unfold putL at this
    rw [show sizedB 4 = true by decide, if_pos rfl] at this
    exact this)
  have HLEN := Lib.hid (show sumL [LW ++ g ++ lowN a 4, TW, d] ≤ 1000000000 by
    have e1 := HL.out
    have e2 := HLW.out
    have e3 := hnd.out
    simp only [sumL, List.map_cons, List.map_nil, List.sum_cons, List.sum_nil, List.length_append, lowN_length]
    omega)
  have m1 : IntKind.u64.wrap (a : Int) = (a : Int) := IntWalk.u64_in _ (by omega)
  obtain ⟨F4, hF4⟩ : ∃ F, Hid (F = LW ++ g ++ lowN a 4) := ⟨_, Lib.hid rfl⟩
  rw [← hF4.out] at HPUT HLEN HF
  have HFE : Hid ([F4, TW, d].flatten = F) := Lib.hid (by rw [HF.out]; simp)
  go_wp2_with fail
  refine' wp_region_grows (by kernel_rfl) (fun w' => w'.cell? ⟨w.heap.size + 1, 0, none⟩ = some (.int .u16 y) ∧ w'.cell? ⟨w.heap.size + 1, 1, none⟩ = some (.int .u8 mo) ∧ w'.cell? ⟨w.heap.size + 1, 2, none⟩ = some (.int .u8 dd) ∧ w'.cell? ⟨w.heap.size + 1, 3, none⟩ = some (.int .u8 h) ∧ w'.cell? ⟨w.heap.size + 1, 4, none⟩ = some (.int .u8 mi) ∧ w'.cell? ⟨w.heap.size + 1, 5, none⟩ = some (.int .u8 s) ∧ w.heap.size + 1 < w'.heap.size ∧ Hid (Below w.heap.size w w') ∧ Hid (OwnB w' (w.heap.size + 2) v2 (LW ++ g)) ∧ Hid (Byt w' (.slice ad nd cd) d)) [isV _, isV _, isV _, fun v w' => Byt w' v F4, isV _, fun v w' => Byt w' v TW, isV _, fun v w' => Byts w' v [F4, TW, d], fun v w' => OwnB w' w.heap.size v ([F4, TW, d].flatten), fun v w' => OwnB w' w.heap.size v ([F4, TW, d].flatten)] 25 [[], [], [(1, some 17)], [(0, some 16), (2, some 18)], [], [(4, some 20)], [], [(3, some 19), (5, some 21), (6, some 22)], [(7, some 23)], [(8, some 24)]] [(0, some 16), (1, some 17), (2, some 18), (3, some 19), (4, some 20), (5, some 21), (6, some 22), (7, some 23), (8, some 24), (9, some 10)] rfl (by kernel_rfl) ⟨fun _ _ _ _ h => h, fun _ _ _ _ h => h, fun _ _ _ _ h => h, fun _ _ _ hg h => Byt.below h hg, fun _ _ _ _ h => h, fun _ _ _ hg h => Byt.below h hg, fun _ _ _ _ h => h, fun _ _ _ hg h => Byts.below h hg, fun _ _ _ hg h => OwnB.below h hg, fun _ _ _ hg h => OwnB.below h hg, trivial⟩ (fun _ a a' _ e h => by cases a; cases a'; cases e; exact h) ?hS ?hsteps ?hend
  case hS =>
    intro w' hgr
    have r := Lib.hid (R2.out.drew.below hgr)
    exact ⟨r.out.cell 0 _ rfl, r.out.cell 1 _ rfl, r.out.cell 2 _ rfl, r.out.cell 3 _ rfl, r.out.cell 4 _ rfl, r.out.cell 5 _ rfl, r.out.lt, Lib.hid (HB2.out.drew.trans (hgr.mono HB2.out.size)), Lib.hid ((OwnB.below HO2.out (Below.refl _ _).drew).below hgr), Lib.hid (((HQ.out.below HB2.out).below (Below.refl _ _).drew).below hgr)⟩
  case hsteps =>
    refine ⟨?_, ?_, ?_, ?_, ?_, ?_, ?_, ?_, ?_, ?_, trivial⟩
    · intro w' hs
      simp only [AllV, rgPut]
      clear hs
      first
        | (refine OpOk.off ?_ ?_ <;> rfl)
        | (refine OpOk.run ?_ (fun K hK => ?_)
           · rfl
           go_simp
           refine hK.out _ _ (Grows.refl _) ?_
           exact rfl)
    · intro w' hs
      simp only [AllV, rgPut]
      clear hs
      first
        | (refine OpOk.off ?_ ?_ <;> rfl)
        | (refine OpOk.run ?_ (fun K hK => ?_)
           · rfl
           go_simp
           refine hK.out _ _ (Grows.refl _) ?_
           exact rfl)
    · intro w' hs
      simp only [AllV, rdP, isV, forall_eq, rgPut, Act.put, List.setIfInBounds_toArray, List.set_cons_zero, List.set_cons_succ]
      obtain ⟨c0, c1, c2, c3, c4, c5, hzz, hbb, hown, hqq⟩ := hs
      first
        | (refine OpOk.off ?_ ?_ <;> rfl)
        | (refine OpOk.run ?_ (fun K hK => ?_)
           · rfl
           go_simp
           refine hK.out _ _ (Grows.refl _) ?_
           exact rfl)
    · intro w' hs
      simp only [AllV, rdP, isV, forall_eq, rgPut, Act.put, List.setIfInBounds_toArray, List.set_cons_zero, List.set_cons_succ]
      obtain ⟨c0, c1, c2, c3, c4, c5, hzz, hbb, hown, hqq⟩ := hs
      first
        | (refine OpOk.off ?_ ?_ <;> rfl)
        | (refine OpOk.run ?_ (fun K hK => ?_)
           · rfl
           go_simp
           go_at_call 25
           refine (HPUT.out _ _ hown.out.byt).mono ?_
           rintro e w1 ⟨v1, rfl, ho, hb⟩
           refine hK.out _ _ hb ?_
           exact ho.byt
          )
    · intro w' hs
      simp only [AllV, rgPut]
      obtain ⟨c0, c1, c2, c3, c4, c5, hzz, hbb, hown, hqq⟩ := hs
      first
        | (refine OpOk.off ?_ ?_ <;> rfl)
        | (refine OpOk.run ?_ (fun K hK => ?_)
           · rfl
           go_simp
           refine hK.out _ _ (Grows.refl _) ?_
           exact rfl)
    · intro w' hs
      simp only [AllV, rdP, isV, forall_eq, rgPut, Act.put, List.setIfInBounds_toArray, List.set_cons_zero, List.set_cons_succ]
      obtain ⟨c0, c1, c2, c3, c4, c5, hzz, hbb, hown, hqq⟩ := hs
      first
        | (refine OpOk.off ?_ ?_ <;> rfl)
        | (refine OpOk.run ?_ (fun K hK => ?_)
           · rfl
           go_simp
           go_at_call 26
           refine (HT.out _).mono ?_
           rintro e w1 ⟨v1, rfl, ho, hb⟩
           refine hK.out _ _ hb ?_
           exact ho.byt
          )
    · intro w' hs
      simp only [AllV, rgPut]
      clear hs
      first
        | (refine OpOk.off ?_ ?_ <;> rfl)
        | (refine OpOk.run ?_ (fun K hK => ?_)
           · rfl
           go_simp
           refine hK.out _ _ (Grows.refl _) ?_
           exact rfl)
    · -- 7: Op.buildSlice 66 3 #[(0, t19), (1, t21), (2, t22)]
      intro w' hs
      simp only [AllV, rdP, rgPut, Act.put, List.setIfInBounds_toArray, List.set_cons_zero, List.set_cons_succ]
      obtain ⟨c0, c1, c2, c3, c4, c5, hzz, hbb, hown, hqq⟩ := hs
      intro v19 h19 v21 h21
      obtain ⟨x19, q19, e19, _, _⟩ := h19.shut
      subst e19
      obtain ⟨x21, q21, e21, _, _⟩ := h21.shut
      subst e21
      simp only [isV, forall_eq]
      refine OpOk.run ?_ (fun K hK => ?_)
      · rfl
      go_simp
      refine hK.out _ _ ((Below.refl _ _).alloc (Nat.le_refl _) _) ?_
      exact Byts.made3 w' _ _ _ _ _ _ _ _ rfl h19 h21 hqq.out
    · -- 8: Op.call { value (Operand.func 27), args := #[t23], argTypes 
      intro w' hs
      simp only [AllV, rdP, rgPut, Act.put, List.setIfInBounds_toArray, List.set_cons_zero, List.set_cons_succ]
      obtain ⟨c0, c1, c2, c3, c4, c5, hzz, hbb, hown, hqq⟩ := hs
      intro v23 h23
      refine OpOk.run ?_ (fun K hK => ?_)
      · rfl
      go_simp
      go_at_call 27
      refine (concat_calls _ [F4, TW, d] _ h23 (by simp) HLEN.out).mono ?_
      rintro e w1 ⟨v1, rfl, ho, hb⟩
      refine hK.out _ _ hb ?_
      exact OwnB.mono ho (Nat.le_of_lt (Nat.lt_of_succ_lt hzz))
    · -- 9: Op.assign t24
      intro w' hs
      simp only [AllV, rdP, rgPut, Act.put, List.setIfInBounds_toArray, List.set_cons_zero, List.set_cons_succ]
      intro v24 h24
      refine OpOk.run ?_ (fun K hK => ?_)
      · rfl
      go_simp
      refine hK.out _ _ (Grows.refl _) ?_
      exact h24
  case hend =>
    intro w' hs
    simp only [AllV, rdP, isV, forall_eq, rgPut, Act.put, List.setIfInBounds_toArray, List.set_cons_zero, List.set_cons_succ]
    intro v19 h19 v21 h21 v23 h23 v24 h24 v10 h10
    clear h19 h21 h23 h24
    obtain ⟨c0, c1, c2, c3, c4, c5, hzz, hbb, hown, hqq⟩ := hs
    rw [HFE.out] at h10
    have H10 := Lib.hid h10
    clear h10 c0 c1 c2 c3 c4 c5
    go_wp2
    go_ret
    exact ⟨_, rfl, H10.out, hbb.out⟩

set_option maxRecDepth 100000 in
set_option maxHeartbeats 4000000 in
theorem refText_calls (nm g : List UInt8) (a : Nat) (t : Tm) (ht : t.Fit) (q : Value) (d : List UInt8) (w : World) (hg : g.length = 16) (hn : nm.length ≤ 1000000) (ha : a < 4294967296) (hq : Byt w q d) (hd : d.length ≤ 100000000) :
    Calls Try.prog 15 #[.string (sOf nm), gidV g, .int .u32 (a : Int), tmV t, q] w fun e w' => ∃ v', e = .returned v' ∧ OwnB w' w.heap.size v' (dsX nm g a t d) ∧ Below w.heap.size w w' := by
  have HW := Lib.hid (fun W => refWide_calls nm W (by omega))
  have HT := Lib.hid (fun W => refWrite_calls t W ht)
  have HL := Lib.hid (wrL_length t)
  have HLW := Lib.hid (wideL_length_le nm)
  have HQ := Lib.hid hq
  obtain ⟨ad, cd, rfl, d1, d2⟩ := hq.shut
  clear hq
  obtain ⟨nd, hnd⟩ : ∃ n, Hid (n = d.length) := ⟨_, Lib.hid rfl⟩
  rw [← hnd.out] at d1 hd HQ ⊢
  have HF : Hid (dsX nm g a t d = wideL nm ++ g ++ lowN a 4 ++ wrL t ++ d) := Lib.hid (by unfold dsX; simp)
  obtain ⟨F, hF⟩ : ∃ L, Hid (L = dsX nm g a t d) := ⟨_, Lib.hid rfl⟩
  rw [← hF.out] at HF ⊢
  obtain ⟨TW, hTW⟩ : ∃ L, Hid (L = wrL t) := ⟨_, Lib.hid rfl⟩
  rw [← hTW.out] at HT HL HF
  obtain ⟨LW, hLW⟩ : ∃ L, Hid (L = wideL nm) := ⟨_, Lib.hid rfl⟩
  rw [← hLW.out] at HW HF HLW
  obtain ⟨S, hS⟩ : ∃ S, Hid (S = sOf nm) := ⟨_, Lib.hid rfl⟩
  rw [← hS.out] at HW ⊢
  obtain ⟨y, mo, dd, h, mi, s⟩ := t
  unfold tmV at HT ⊢
  simp only at HT ⊢
  obtain ⟨G, hG⟩ : ∃ G, Hid (G = (g.map b8).toArray) := ⟨_, Lib.hid rfl⟩
  unfold gidV
  rw [← hG.out]
  have HB0 := Lib.hid (((Below.refl w.heap.size w).alloc (Nat.le_refl _) (.cells G 27)).alloc (by simp) (.cells #[.int .u16 y, .int .u8 mo, .int .u8 dd, .int .u8 h, .int .u8 mi, .int .u8 s] 25))
  have R0 := Lib.hid (RowAt.new (w.alloc (.cells G 27)) #[.int .u16 y, .int .u8 mo, .int .u8 dd, .int .u8 h, .int .u8 mi, .int .u8 s] 25 (w.heap.size + 1) (by simp))
  have HG0 := Lib.hid ((by
    have := Byt.made w g G 27 (0, 0) (by rw [hG.out]) (by rw [hg]; unfold maxLen; decide)
    rw [hg] at this
    exact this : Byt (w.alloc (.cells G 27)) (.slice (some ⟨w.heap.size, 0, none⟩) 16 16) g).below ((Below.refl _ _).alloc (Nat.le_refl _) (.cells #[.int .u16 y, .int .u8 mo, .int .u8 dd, .int .u8 h, .int .u8 mi, .int .u8 s] 25)))
  have HPUT : Hid (∀ v W, Byt W v (LW ++ g) → Calls Try.prog 30 #[v, .int .u64 (a : Int), .int .i64 4] W fun e w' => ∃ v', e = .returned v' ∧ OwnB w' W.heap.size v' (LW ++ g ++ lowN a 4) ∧ Below W.heap.size W w') := Lib.hid (fun v W h => by
    have := refPut_calls v (LW ++ g) a 4 W h (by omega) (by rw [List.length_append]; have := HLW.out; omega)
    unfold putL at this
    rw [show sizedB 4 = true by decide, if_pos rfl] at this
    exact this)
  have m1 : IntKind.u64.wrap (a : Int) = (a : Int) := IntWalk.u64_in _ (by omega)
  obtain ⟨F4, hF4⟩ : ∃ F, Hid (F = LW ++ g ++ lowN a 4) := ⟨_, Lib.hid rfl⟩
  rw [← hF4.out] at HPUT HF
  have HL4 : Hid (F4.length ≤ 3000000) := Lib.hid (by
    have e2 := HLW.out
    rw [hF4.out]
    simp only [List.length_append, lowN_length]
    omega)
  have hHW : Hid (∀ W : World, (W.alloc (.cells #[] 5)).heap.size = W.heap.size + 1) := Lib.hid (fun W => by simp)
  go_enter Try.func15, Try.ntmps15
  go_wp2_with fail
  refine (HW.out _).mono ?_
  rintro e w1 ⟨v1, rfl, ho, hb⟩
  have HBe := Lib.hid (HB0.out.alloc HB0.out.size (.cells #[] 5))
  have HB1 := Lib.hid (HBe.out.trans (hb.mono HBe.out.size))
  have R1 := Lib.hid ((R0.out.alloc (.cells #[] 5)).below hb)
  have HG1 := Lib.hid ((HG0.out.below ((Below.refl _ _).alloc (Nat.le_refl _) (.cells #[] 5))).below hb)
  have HO1 := Lib.hid ho.byt
  have hz1 := R1.out.lt
  clear ho hb
  go_wp2_with (first
    | (at_builtin; refine wpList_append_byt rfl _ _ rfl (w.heap.size + 2) (.slice (some ⟨_, 0, none⟩) 0 0) [] rfl (OwnB.empty _ _ _) v1 LW rfl HO1.out (by have := HLW.out; simp; omega) hz1 ?_; intro v2 w2 ho2 hg2 _; rw [List.nil_append] at ho2; have HO2 := Lib.hid ho2; have HB2 := Lib.hid (HB1.out.grown hg2 HB1.out.size (fun j hj => by simp [ownB] at hj)); have R2 := Lib.hid (R1.out.grown hg2 (fun e => by simp [ownB] at e)); have HG2 := Lib.hid (HG1.out.below ((Below.refl _ _).grown hg2 (Nat.le_refl _) (fun j hj => by simp [ownB] at hj))); clear ho2 hg2)
    | (at_builtin; refine wpList_append_byt rfl _ _ rfl (w.heap.size + 2) _ LW rfl HO2.out _ g rfl HG2.out (by have := HLW.out; omega) R2.out.lt ?_; intro v3 w3 ho3 hg3 _; have HO3 := Lib.hid ho3.byt; have HB3 := Lib.hid (HB2.out.grown hg3 HB2.out.size (fun j hj => by have := (Own.lt HO2.out j hj).1; omega)); have R3 := Lib.hid (R2.out.grown hg3 (fun e => by have := (Own.lt HO2.out _ e).1; omega)); clear ho3 hg3))
  refine (HPUT.out _ _ HO3.out).mono ?_
  rintro e w4 ⟨v4, rfl, ho, hb⟩
  have HB4 := Lib.hid (HB3.out.trans (hb.mono HB3.out.size))
  have R4 := Lib.hid (R3.out.below hb)
  have HO4 := Lib.hid (ho.mono (show w.heap.size + 2 ≤ _ from R3.out.lt))
  have k0 := R4.out.cell 0 _ rfl
  have k1 := R4.out.cell 1 _ rfl
  have k2 := R4.out.cell 2 _ rfl
  have k3 := R4.out.cell 3 _ rfl
  have k4 := R4.out.cell 4 _ rfl
  have k5 := R4.out.cell 5 _ rfl
  clear ho hb
  go_wp2_with fail
  refine (HT.out _).mono ?_
  rintro e w5 ⟨v5, rfl, ho, hb⟩
  have HB5 := Lib.hid (HB4.out.trans (hb.mono HB4.out.size))
  have R5 := Lib.hid (R4.out.below hb)
  have HO5 := Lib.hid (HO4.out.below hb)
  have HT5 := Lib.hid ho.byt
  clear ho hb k0 k1 k2 k3 k4 k5
  go_wp2_with (first
    | (at_builtin; refine wpList_append_byt rfl _ _ rfl (w.heap.size + 2) _ F4 rfl HO5.out _ TW rfl HT5.out (by have := HL4.out; have := HL.out; omega) R5.out.lt ?_; intro v6 w6 ho6 hg6 _; have HO6 := Lib.hid ho6; have HB6 := Lib.hid (HB5.out.grown hg6 HB5.out.size (fun j hj => by have := (Own.lt HO5.out j hj).1; omega)); have R6 := Lib.hid (R5.out.grown hg6 (fun e => by have := (Own.lt HO5.out _ e).1; omega)); clear ho6 hg6)
    | (at_builtin; refine wpList_append_byt rfl _ _ rfl (w.heap.size + 2) _ (F4 ++ TW) rfl HO6.out _ d rfl (HQ.out.below HB6.out) (by have := HL4.out; have := HL.out; have := hnd.out; rw [List.length_append]; omega) R6.out.lt ?_; intro v7 w7 ho7 hg7 _; have HO7 := Lib.hid ho7; have HB7 := Lib.hid (HB6.out.grown hg7 HB6.out.size (fun j hj => by have := (Own.lt HO6.out j hj).1; omega)); clear ho7 hg7))
  go_ret
  have e : F4 ++ TW ++ d = F := HF.out.symm
  rw [e] at HO7
  exact ⟨_, rfl, HO7.out.mono (by omega), HB7.out⟩
end Go.Proofs.Ytemojckmnlgkdaa
