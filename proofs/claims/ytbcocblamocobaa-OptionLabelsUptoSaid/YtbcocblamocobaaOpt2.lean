/-
  The contracts of option's Write and of the document's own.
-/
import Derived.Test.YtbcocblamocobaaOpt1
import Derived.Test.YtbcocblamocobaaConcat
import Derived.Test.YtbcocblamocobaaOct6
namespace Go.Proofs.Ytbcocblamocobaa
open Go Go.RowKit

theorem wr_len (o : Opt) : (wideL o.s).length ≤ 2 * o.s.length := wideL_length_le o.s
theorem wide_all (s : List UInt8) : ((wideL s).length = 2 * s.length ↔ s.all letB = true) := by
  unfold wideL
  split
  · rename_i h; rw [dbl_length]; simp [h]
  · rename_i h
    constructor
    · intro e
      have : s = [] := List.eq_nil_of_length_eq_zero (by simp only [List.length_nil] at e; omega)
      subst this; rfl
    · intro h2; exact absurd h2 h
/-- The tests of Write, passed. -/
theorem wr_ok (o : Opt) (h : wrOk o = true) : (((wideL o.s).length : Int) != 2 * (o.s.length : Int)) = false ∧ decide ((65535 : Int) < (o.p.length : Int)) = false := by
  unfold wrOk at h
  rw [Bool.and_eq_true, decide_eq_true_iff] at h
  have := (wide_all o.s).2 h.1
  exact ⟨by rw [bne_eq_false_iff_eq]; omega, by simp; omega⟩
/-- The tests of Write, by the first that fails. -/
theorem wr_no (o : Opt) (h : wrOk o = false) : ((((wideL o.s).length : Int) != 2 * (o.s.length : Int)) = true) ∨ ((((wideL o.s).length : Int) != 2 * (o.s.length : Int)) = false ∧ decide ((65535 : Int) < (o.p.length : Int)) = true) := by
  by_cases hs : o.s.all letB = true
  · have := (wide_all o.s).2 hs
    right
    refine ⟨by rw [bne_eq_false_iff_eq]; omega, ?_⟩
    unfold wrOk at h
    rw [hs, Bool.true_and, decide_eq_false_iff_not] at h
    simp; omega
  · left
    rw [bne_iff_ne]
    intro e
    exact hs ((wide_all o.s).1 (by omega))
theorem wr_flat (o : Opt) (h : wrOk o = true) : (lowN o.a 4 ++ lowN o.p.length 2) ++ (wideL o.s ++ ([0, 0] ++ (o.p ++ o.d))) = wrO o := by
  unfold wrOk at h
  rw [Bool.and_eq_true] at h
  unfold wrO wideL
  rw [h.1, if_pos rfl, List.append_assoc]
def wrR (o : Opt) : List UInt8 := if wrOk o then wrO o else []
def wrE (o : Opt) : Int := if wrOk o then 0 else 1

/-- A new row of slices. -/
theorem Byts.made (w : World) (us : List Value) (ls : List (List UInt8)) (e : TypeId) (n b : Nat) (hb : b = w.heap.size) (hn : n = ls.length) (h : us.length = ls.length) (h1 : ∀ i, i < ls.length → Byt w (us.getD i (.slice none 0 0)) (ls.getD i [])) (hl : n ≤ 1000) :
    Byts (w.alloc (.cells us.toArray e)) (.slice (some ⟨b, 0, none⟩) n n) ls := by
  subst hn hb
  refine ⟨some ⟨w.heap.size, 0, none⟩, ls.length, rfl, Nat.le_refl _, by unfold maxLen; omega, fun i hi => ⟨w.heap.size, 0, us.getD i (.slice none 0 0), rfl, ?_, (h1 i hi).below ((Below.refl _ _).alloc (Nat.le_refl _) _)⟩⟩
  rw [Nat.zero_add, cell_of_row _ w.heap.size i _ e (0, 0) (heap_alloc_new w _)]
  have : i < us.length := by omega
  simp [List.getD, this]
theorem Byts.made5 (w : World) (u0 u1 u2 u3 u4 : Value) (l0 l1 l2 l3 l4 : List UInt8) (e : TypeId) (b : Nat) (hb : b = w.heap.size) (h0 : Byt w u0 l0) (h1 : Byt w u1 l1) (h2 : Byt w u2 l2) (h3 : Byt w u3 l3) (h4 : Byt w u4 l4) :
    Byts (w.alloc (.cells #[u0, u1, u2, u3, u4] e)) (.slice (some ⟨b, 0, none⟩) 5 5) [l0, l1, l2, l3, l4] :=
  Byts.made w [u0, u1, u2, u3, u4] [l0, l1, l2, l3, l4] e 5 b hb rfl rfl (fun i hi => by
    have : i = 0 ∨ i = 1 ∨ i = 2 ∨ i = 3 ∨ i = 4 := by simp at hi; omega
    rcases this with rfl | rfl | rfl | rfl | rfl <;> assumption) (by omega)

set_option maxRecDepth 100000 in
set_option maxHeartbeats 1000000 in
theorem optWrite_calls (o : Opt) (p d : Value) (w : World) (ha : o.a < 4294967296) (hp : Byt w p o.p) (hd : Byt w d o.d) (hs : o.s.length ≤ 100000000) (hP : o.p.length ≤ 100000000) (hD : o.d.length ≤ 100000000) :
    Calls Try.prog 12 #[optV o.a o.s p d] w fun e w' => ∃ v', e = .returned (.tuple #[v', .int .i64 (if wrOk o then 0 else 1)]) ∧ OwnB w' w.heap.size v' (if wrOk o then wrO o else []) ∧ Below w.heap.size w w' := by
  have HP := Lib.hid hp
  have HD := Lib.hid hd
  obtain ⟨ap, cp, rfl, p1, p2⟩ := hp.shut
  obtain ⟨ad, cd, rfl, d1, d2⟩ := hd.shut
  clear hp hd
  have HW := Lib.hid (fun W => own_shape W.heap.size _ W (wide_calls o.s W (by omega)))
  have hLW := Lib.hid (wr_len o)
  have HOK := Lib.hid (wr_ok o)
  have HNO := Lib.hid (wr_no o)
  have HFL : Hid (wrOk o = true → (lowN o.a 4 ++ lowN o.p.length 2) ++ (wideL o.s ++ ([0, 0] ++ (o.p ++ o.d))) = wrO o) := Lib.hid (wr_flat o)
  have HLS := Lib.hid (wrO_length o)
  obtain ⟨a, s, P, D⟩ := o
  simp only at ha hs hP hD p1 p2 d1 d2 HW hLW HOK HNO HFL HLS HP HD ⊢
  obtain ⟨LW, hW⟩ : ∃ L, Hid (L = wideL s) := ⟨_, Lib.hid rfl⟩
  obtain ⟨S, hS⟩ : ∃ S, Hid (S = sOf s) := ⟨_, Lib.hid rfl⟩
  have hsz : Hid (S.size = s.length) := Lib.hid (by rw [hS.out, sOf_size])
  obtain ⟨np, hnp⟩ : ∃ n, Hid (n = P.length) := ⟨_, Lib.hid rfl⟩
  obtain ⟨nd, hnd⟩ : ∃ n, Hid (n = D.length) := ⟨_, Lib.hid rfl⟩
  obtain ⟨n4, hn4⟩ : ∃ n, Hid (n = LW.length) := ⟨_, Lib.hid rfl⟩
  obtain ⟨B, hB⟩ : ∃ B, Hid (B = wrOk ⟨a, s, P, D⟩) := ⟨_, Lib.hid rfl⟩
  rw [← hW.out] at HW hLW HFL HOK HNO
  rw [← hn4.out] at HW hLW HOK HNO
  rw [← hnp.out] at p1 HOK HNO HP HFL HLS
  rw [← hB.out] at HOK HNO HFL ⊢
  rw [← hnd.out] at d1 HD HLS
  rw [← hsz.out] at HOK HNO hLW
  unfold optV
  rw [← hnp.out, ← hnd.out, ← hS.out]
  rw [← hS.out] at HW
  have hSb : S.size ≤ 100000000 := by rw [hsz.out]; exact hs
  have hnpb : np ≤ 100000000 := by rw [hnp.out]; exact hP
  have hndb : nd ≤ 100000000 := by rw [hnd.out]; exact hD
  have h4b : n4 ≤ 2 * S.size := hLW.out
  have hB0 : Hid (Below w.heap.size w (w.alloc (.cells #[.int .u32 (a : Int), .string S, .slice ap np cp, .slice ad nd cd] 25))) := Lib.hid ((Below.refl _ _).alloc (Nat.le_refl _) _)
  have R0 := Lib.hid (RowAt.new w #[.int .u32 (a : Int), .string S, .slice ap np cp, .slice ad nd cd] 25 w.heap.size rfl)
  cases B with
  | false =>
    have HNX := HNO.out rfl
    clear HFL HOK
    rcases HNX with q1 | ⟨q1, q2⟩
    all_goals
      go_enter Try.func12, Try.ntmps12
      go_wp2_with fail
      refine (HW.out _).mono ?_
      rintro e w2 ⟨x4, c4, rfl, ho, hb⟩
      have HB2 := Lib.hid (hB0.out.trans (hb.mono hB0.out.size))
      have R2 := Lib.hid (R0.out.below hb)
      have k1 := R2.out.cell 1 (.string S) rfl
      have k2 := R2.out.cell 2 (.slice ap np cp) rfl
      clear hb ho
      go_wp2
      go_ret2
      exact ⟨_, rfl, OwnB.empty _ _ _, HB2.out⟩
  | true =>
    obtain ⟨q1, q2⟩ := HOK.out rfl
    have HF := Lib.hid (HFL.out rfl)
    clear HFL HOK HNO
    have HP1 : Hid (∀ W, Calls Try.prog 23 #[.slice none 0 0, .int .u64 (a : Int), .int .i64 4] W fun e w' => ∃ v', e = .returned v' ∧ OwnB w' W.heap.size v' (lowN a 4) ∧ Below W.heap.size W w') := Lib.hid (fun W => by
      have := put_calls (.slice none 0 0) [] a 4 W (Byt.nil _) (by omega) (by decide)
      unfold putL at this
      rw [show sizedB 4 = true by decide, if_pos rfl] at this
      exact this)
    have HP2 : Hid (∀ v W, Byt W v (lowN a 4) → Calls Try.prog 23 #[v, .int .u64 (np : Int), .int .i64 2] W fun e w' => ∃ v', e = .returned v' ∧ OwnB w' W.heap.size v' (lowN a 4 ++ lowN np 2) ∧ Below W.heap.size W w') := Lib.hid (fun v W h => by
      have := put_calls v (lowN a 4) np 2 W h (by omega) (by rw [lowN_length]; decide)
      unfold putL at this
      rw [show sizedB 2 = true by decide, if_pos rfl] at this
      exact this)
    obtain ⟨F4, hF4⟩ : ∃ F, Hid (F = lowN a 4) := ⟨_, Lib.hid rfl⟩
    obtain ⟨F6, hF6⟩ : ∃ F, Hid (F = F4 ++ lowN np 2) := ⟨_, Lib.hid rfl⟩
    rw [← hF4.out] at HP1 HP2 HF
    rw [← hF6.out] at HP2 HF
    have m1 : IntKind.u64.wrap (a : Int) = (a : Int) := IntWalk.u64_in _ (by omega)
    have m2 : IntKind.u64.wrap (np : Int) = (np : Int) := IntWalk.u64_in _ (by omega)
    go_enter Try.func12, Try.ntmps12
    go_wp2_with fail
    refine (HW.out _).mono ?_
    rintro e w2 ⟨x4, c4, rfl, ho, hb⟩
    have HB2 := Lib.hid (hB0.out.trans (hb.mono hB0.out.size))
    have R2 := Lib.hid (R0.out.below hb)
    have HO2 := Lib.hid (ho.mono hB0.out.size)
    have k1 := R2.out.cell 1 (.string S) rfl
    have k2 := R2.out.cell 2 (.slice ap np cp) rfl
    clear hb ho
    go_wp2_with fail
    clear k1 k2
    refine' wp_region_grows (by kernel_rfl) (fun w' => w'.cell? ⟨w.heap.size, 0, none⟩ = some (.int .u32 (a : Int)) ∧ w'.cell? ⟨w.heap.size, 2, none⟩ = some (.slice ap np cp) ∧ w.heap.size ≤ w'.heap.size ∧ Hid (Below w.heap.size w w') ∧ Hid (RowAt w' w.heap.size #[.int .u32 (a : Int), .string S, .slice ap np cp, .slice ad nd cd]) ∧ Hid (OwnB w' w.heap.size (.slice x4 n4 c4) LW)) [isV _, isV _, isV _, fun v w' => OwnB w' w.heap.size v F4, isV _, isV _, isV _, isV _, fun v w' => OwnB w' w.heap.size v F6, fun v w' => OwnB w' w.heap.size v F6] 40 [[], [(0, some 22)], [(1, some 23)], [(2, some 24)], [], [(4, some 26)], [(5, some 27)], [(6, some 28)], [(3, some 25), (7, some 29)], [(8, some 30)]] [(0, some 22), (1, some 23), (2, some 24), (3, some 25), (4, some 26), (5, some 27), (6, some 28), (7, some 29), (8, some 30), (9, some 5)] rfl (by kernel_rfl) ⟨fun _ _ _ _ h => h, fun _ _ _ _ h => h, fun _ _ _ _ h => h, fun _ _ _ hg h => OwnB.below h hg, fun _ _ _ _ h => h, fun _ _ _ _ h => h, fun _ _ _ _ h => h, fun _ _ _ _ h => h, fun _ _ _ hg h => OwnB.below h hg, fun _ _ _ hg h => OwnB.below h hg, trivial⟩ (fun _ a a' _ e h => by cases a; cases a'; cases e; exact h) ?hS ?hsteps ?hend
    case hS =>
      intro w' hg
      have r := Lib.hid (R2.out.drew.below hg)
      exact ⟨r.out.cell 0 _ rfl, r.out.cell 2 _ rfl, Nat.le_trans HB2.out.size hg.size, Lib.hid (HB2.out.drew.trans (hg.mono HB2.out.size)), r, Lib.hid ((OwnB.below HO2.out (Below.refl _ _).drew).below hg)⟩
    case hsteps =>
      refine ⟨?_, ?_, ?_, ?_, ?_, ?_, ?_, ?_, ?_, ?_, trivial⟩
      · intro w' hs
        simp only [AllV, rgPut]
        clear hs
        first
          | (refine OpOk.off ?_ ?_ <;> rfl)
          | (refine OpOk.run ?_ (fun K hK => ?_)
             · rfl
             go_simp
             refine hK.out _ _ (Grows.refl _) ?_
             exact rfl)
      · intro w' hs
        simp only [AllV, rdP, isV, forall_eq, rgPut, Act.put, List.setIfInBounds_toArray, List.set_cons_zero, List.set_cons_succ]
        obtain ⟨c0, c2, hzz, hbb, hrow, hown⟩ := hs
        first
          | (refine OpOk.off ?_ ?_ <;> rfl)
          | (refine OpOk.run ?_ (fun K hK => ?_)
             · rfl
             go_simp
             refine hK.out _ _ (Grows.refl _) ?_
             exact rfl)
      · intro w' hs
        simp only [AllV, rdP, isV, forall_eq, rgPut, Act.put, List.setIfInBounds_toArray, List.set_cons_zero, List.set_cons_succ]
        obtain ⟨c0, c2, hzz, hbb, hrow, hown⟩ := hs
        first
          | (refine OpOk.off ?_ ?_ <;> rfl)
          | (refine OpOk.run ?_ (fun K hK => ?_)
             · rfl
             go_simp
             refine hK.out _ _ (Grows.refl _) ?_
             exact rfl)
      · intro w' hs
        simp only [AllV, rdP, isV, forall_eq, rgPut, Act.put, List.setIfInBounds_toArray, List.set_cons_zero, List.set_cons_succ]
        obtain ⟨c0, c2, hzz, hbb, hrow, hown⟩ := hs
        first
          | (refine OpOk.off ?_ ?_ <;> rfl)
          | (refine OpOk.run ?_ (fun K hK => ?_)
             · rfl
             go_simp
             go_at_call 23
             refine (HP1.out _).mono ?_
             rintro e w1 ⟨v1, rfl, ho, hb⟩
             refine hK.out _ _ hb ?_
             exact OwnB.mono ho hzz
            )
      · intro w' hs
        simp only [AllV, rgPut]
        clear hs
        first
          | (refine OpOk.off ?_ ?_ <;> rfl)
          | (refine OpOk.run ?_ (fun K hK => ?_)
             · rfl
             go_simp
             refine hK.out _ _ (Grows.refl _) ?_
             exact rfl)
      · intro w' hs
        simp only [AllV, rdP, isV, forall_eq, rgPut, Act.put, List.setIfInBounds_toArray, List.set_cons_zero, List.set_cons_succ]
        obtain ⟨c0, c2, hzz, hbb, hrow, hown⟩ := hs
        first
          | (refine OpOk.off ?_ ?_ <;> rfl)
          | (refine OpOk.run ?_ (fun K hK => ?_)
             · rfl
             go_simp
             refine hK.out _ _ (Grows.refl _) ?_
             exact rfl)
      · intro w' hs
        simp only [AllV, rdP, isV, forall_eq, rgPut, Act.put, List.setIfInBounds_toArray, List.set_cons_zero, List.set_cons_succ]
        obtain ⟨c0, c2, hzz, hbb, hrow, hown⟩ := hs
        first
          | (refine OpOk.off ?_ ?_ <;> rfl)
          | (refine OpOk.run ?_ (fun K hK => ?_)
             · rfl
             go_simp
             refine hK.out _ _ (Grows.refl _) ?_
             exact rfl)
      · intro w' hs
        simp only [AllV, rdP, isV, forall_eq, rgPut, Act.put, List.setIfInBounds_toArray, List.set_cons_zero, List.set_cons_succ]
        obtain ⟨c0, c2, hzz, hbb, hrow, hown⟩ := hs
        first
          | (refine OpOk.off ?_ ?_ <;> rfl)
          | (refine OpOk.run ?_ (fun K hK => ?_)
             · rfl
             go_simp
             refine hK.out _ _ (Grows.refl _) ?_
             exact rfl)
      · -- 8: Op.call { value (Operand.func 23), args := #[t25, t29, const
        intro w' hs
        simp only [AllV, rdP, rgPut, Act.put, List.setIfInBounds_toArray, List.set_cons_zero, List.set_cons_succ]
        obtain ⟨c0, c2, hzz, hbb, hrow, hown⟩ := hs
        intro v25 h25
        simp only [isV, forall_eq]
        refine OpOk.run ?_ (fun K hK => ?_)
        · rfl
        go_simp
        go_at_call 23
        refine (HP2.out _ _ h25.byt).mono ?_
        rintro e w1 ⟨v1, rfl, ho, hb⟩
        refine hK.out _ _ hb ?_
        exact OwnB.mono ho hzz
      · -- 9: Op.assign t30
        intro w' hs
        simp only [AllV, rdP, rgPut, Act.put, List.setIfInBounds_toArray, List.set_cons_zero, List.set_cons_succ]
        intro v30 h30
        refine OpOk.run ?_ (fun K hK => ?_)
        · rfl
        go_simp
        refine hK.out _ _ (Grows.refl _) ?_
        exact h30
    case hend =>
      intro w' hs
      simp only [AllV, rdP, isV, forall_eq, rgPut, Act.put, List.setIfInBounds_toArray, List.set_cons_zero, List.set_cons_succ]
      intro v25 h25 v30 h30 v5 h5
      obtain ⟨x5, c5, rfl, _, _⟩ := Own.shape h5
      obtain ⟨_, _, _, hbb, hrow, hown⟩ := hs
      have k2 := hrow.out.cell 2 (.slice ap np cp) rfl
      have k3 := hrow.out.cell 3 (.slice ad nd cd) rfl
      have kz := hrow.out.lt
      have HZ := Lib.hid (Byt.two w' 0 0 0 0 5 rfl rfl)
      have H5 := Lib.hid h5
      clear h25 h30 h5
      have hbz := Lib.hid ((Below.refl w'.heap.size w').alloc (Nat.le_refl _) (.cells #[.int .u8 0, .int .u8 0] 5))
      have HBS := Lib.hid (Byts.made5 (w'.alloc (.cells #[.int .u8 0, .int .u8 0] 5)) _ _ _ _ _ F6 LW [0, 0] P D 23 (w'.heap.size + 1) (by simp) (H5.out.byt.below hbz.out) (hown.out.byt.below hbz.out) HZ.out ((Byt.below HP.out hbb.out).below hbz.out) ((Byt.below HD.out hbb.out).below hbz.out))
      have HLN := Lib.hid (show sumL [F6, LW, [0, 0], P, D] ≤ 1000000000 by
        have e6 : F6.length = 6 := by rw [hF6.out, List.length_append, hF4.out, lowN_length, lowN_length]
        have e4 := hn4.out
        have ep := hnp.out
        have ed := hnd.out
        simp only [sumL, List.map_cons, List.map_nil, List.sum_cons, List.sum_nil, List.length_cons, List.length_nil]
        omega)
      go_wp2_with fail
      refine (concat_calls _ [F6, LW, [0, 0], P, D] _ HBS.out (by simp) HLN.out).mono ?_
      rintro e w3 ⟨v3, rfl, ho, hb⟩
      have HO3 := Lib.hid ho
      have HB3 := Lib.hid (((hbb.out.alloc hbb.out.size (.cells #[.int .u8 0, .int .u8 0] 5)).alloc (by have := hbb.out.size; simp; omega) _).trans (hb.mono (by have := hbb.out.size; simp; omega)))
      clear ho hb
      go_wp2
      go_ret2
      refine ⟨_, rfl, ?_, HB3.out⟩
      have e : [F6, LW, [0, 0], P, D].flatten = wrO ⟨a, s, P, D⟩ := by
        rw [← HF.out]; simp
      rw [e] at HO3
      exact HO3.out.mono (by have := hbb.out.size; simp; omega)

set_option maxRecDepth 100000 in
set_option maxHeartbeats 1000000 in
theorem refOptWrite_calls (o : Opt) (p d : Value) (w : World) (ha : o.a < 4294967296) (hp : Byt w p o.p) (hd : Byt w d o.d) (hs : o.s.length ≤ 100000000) (hP : o.p.length ≤ 100000000) (hD : o.d.length ≤ 100000000) :
    Calls Try.prog 13 #[optV o.a o.s p d] w fun e w' => ∃ v', e = .returned (.tuple #[v', .int .i64 (if wrOk o then 0 else 1)]) ∧ OwnB w' w.heap.size v' (if wrOk o then wrO o else []) ∧ Below w.heap.size w w' := by
  have HP := Lib.hid hp
  have HD := Lib.hid hd
  obtain ⟨ap, cp, rfl, p1, p2⟩ := hp.shut
  obtain ⟨ad, cd, rfl, d1, d2⟩ := hd.shut
  clear hp hd
  have HW := Lib.hid (fun W => own_shape W.heap.size _ W (refWide_calls o.s W (by omega)))
  have hLW := Lib.hid (wr_len o)
  have HOK := Lib.hid (wr_ok o)
  have HNO := Lib.hid (wr_no o)
  have HFL : Hid (wrOk o = true → (lowN o.a 4 ++ lowN o.p.length 2) ++ (wideL o.s ++ ([0, 0] ++ (o.p ++ o.d))) = wrO o) := Lib.hid (wr_flat o)
  have HLS := Lib.hid (wrO_length o)
  obtain ⟨a, s, P, D⟩ := o
  simp only at ha hs hP hD p1 p2 d1 d2 HW hLW HOK HNO HFL HLS HP HD ⊢
  obtain ⟨LW, hW⟩ : ∃ L, Hid (L = wideL s) := ⟨_, Lib.hid rfl⟩
  obtain ⟨S, hS⟩ : ∃ S, Hid (S = sOf s) := ⟨_, Lib.hid rfl⟩
  have hsz : Hid (S.size = s.length) := Lib.hid (by rw [hS.out, sOf_size])
  obtain ⟨np, hnp⟩ : ∃ n, Hid (n = P.length) := ⟨_, Lib.hid rfl⟩
  obtain ⟨nd, hnd⟩ : ∃ n, Hid (n = D.length) := ⟨_, Lib.hid rfl⟩
  obtain ⟨n4, hn4⟩ : ∃ n, Hid (n = LW.length) := ⟨_, Lib.hid rfl⟩
  obtain ⟨B, hB⟩ : ∃ B, Hid (B = wrOk ⟨a, s, P, D⟩) := ⟨_, Lib.hid rfl⟩
  rw [← hW.out] at HW hLW HFL HOK HNO
  rw [← hn4.out] at HW hLW HOK HNO
  rw [← hnp.out] at p1 HOK HNO HP HFL HLS
  rw [← hB.out] at HOK HNO HFL ⊢
  rw [← hnd.out] at d1 HD HLS
  rw [← hsz.out] at HOK HNO hLW
  unfold optV
  rw [← hnp.out, ← hnd.out, ← hS.out]
  rw [← hS.out] at HW
  have hSb : S.size ≤ 100000000 := by rw [hsz.out]; exact hs
  have hnpb : np ≤ 100000000 := by rw [hnp.out]; exact hP
  have hndb : nd ≤ 100000000 := by rw [hnd.out]; exact hD
  have h4b : n4 ≤ 2 * S.size := hLW.out
  have hB0 : Hid (Below w.heap.size w (w.alloc (.cells #[.int .u32 (a : Int), .string S, .slice ap np cp, .slice ad nd cd] 25))) := Lib.hid ((Below.refl _ _).alloc (Nat.le_refl _) _)
  have R0 := Lib.hid (RowAt.new w #[.int .u32 (a : Int), .string S, .slice ap np cp, .slice ad nd cd] 25 w.heap.size rfl)
  cases B with
  | false =>
    have HNX := HNO.out rfl
    clear HFL HOK
    rcases HNX with q1 | ⟨q1, q2⟩
    all_goals
      go_enter Try.func13, Try.ntmps13
      go_wp2_with fail
      refine (HW.out _).mono ?_
      rintro e w2 ⟨x4, c4, rfl, ho, hb⟩
      have HB2 := Lib.hid (hB0.out.trans (hb.mono hB0.out.size))
      have R2 := Lib.hid (R0.out.below hb)
      have k1 := R2.out.cell 1 (.string S) rfl
      have k2 := R2.out.cell 2 (.slice ap np cp) rfl
      clear hb ho
      go_wp2
      go_ret2
      exact ⟨_, rfl, OwnB.empty _ _ _, HB2.out⟩
  | true =>
    obtain ⟨q1, q2⟩ := HOK.out rfl
    have HF := Lib.hid (HFL.out rfl)
    clear HFL HOK HNO
    have HP1 : Hid (∀ W, Calls Try.prog 26 #[.slice none 0 0, .int .u64 (a : Int), .int .i64 4] W fun e w' => ∃ v', e = .returned v' ∧ OwnB w' W.heap.size v' (lowN a 4) ∧ Below W.heap.size W w') := Lib.hid (fun W => by
      have := refPut_calls (.slice none 0 0) [] a 4 W (Byt.nil _) (by omega) (by decide)
      unfold putL at this
      rw [show sizedB 4 = true by decide, if_pos rfl] at this
      exact this)
    have HP2 : Hid (∀ v W, Byt W v (lowN a 4) → Calls Try.prog 26 #[v, .int .u64 (np : Int), .int .i64 2] W fun e w' => ∃ v', e = .returned v' ∧ OwnB w' W.heap.size v' (lowN a 4 ++ lowN np 2) ∧ Below W.heap.size W w') := Lib.hid (fun v W h => by
      have := refPut_calls v (lowN a 4) np 2 W h (by omega) (by rw [lowN_length]; decide)
      unfold putL at this
      rw [show sizedB 2 = true by decide, if_pos rfl] at this
      exact this)
    obtain ⟨F4, hF4⟩ : ∃ F, Hid (F = lowN a 4) := ⟨_, Lib.hid rfl⟩
    obtain ⟨F6, hF6⟩ : ∃ F, Hid (F = F4 ++ lowN np 2) := ⟨_, Lib.hid rfl⟩
    rw [← hF4.out] at HP1 HP2 HF
    rw [← hF6.out] at HP2 HF
    have e6 : F6.length = 6 := by rw [hF6.out, List.length_append, hF4.out, lowN_length, lowN_length]
    have HE6 := Lib.hid e6
    clear e6
    have m1 : IntKind.u64.wrap (a : Int) = (a : Int) := IntWalk.u64_in _ (by omega)
    have m2 : IntKind.u64.wrap (np : Int) = (np : Int) := IntWalk.u64_in _ (by omega)
    go_enter Try.func13, Try.ntmps13
    go_wp2_with fail
    refine (HW.out _).mono ?_
    rintro e w2 ⟨x4, c4, rfl, ho, hb⟩
    have HB2 := Lib.hid (hB0.out.trans (hb.mono hB0.out.size))
    have R2 := Lib.hid (R0.out.below hb)
    have HL2 := Lib.hid ho.byt
    have k0 := R2.out.cell 0 (.int .u32 (a : Int)) rfl
    have k1 := R2.out.cell 1 (.string S) rfl
    have k2 := R2.out.cell 2 (.slice ap np cp) rfl
    clear hb ho
    go_wp2_with fail
    refine (HP1.out _).mono ?_
    rintro e w3 ⟨v3, rfl, ho, hb⟩
    have HB3 := Lib.hid (HB2.out.trans (hb.mono HB2.out.size))
    have R3 := Lib.hid (R2.out.below hb)
    have HL3 := Lib.hid (HL2.out.below hb)
    have HO3 := Lib.hid ho.byt
    clear hb ho k0 k1 k2
    have k2 := R3.out.cell 2 (.slice ap np cp) rfl
    go_wp2_with (first
      | (go_at_call 26; refine (HP2.out _ _ HO3.out).mono ?_; rintro e w4 ⟨v4, rfl, ho, hb⟩; have HB4 := Lib.hid (HB3.out.trans (hb.mono HB3.out.size)); have R4 := Lib.hid (R3.out.below hb); have HL4 := Lib.hid (HL3.out.below hb); have HA0 := Lib.hid (ho.mono (show w.heap.size + 1 ≤ w3.heap.size from R3.out.lt)); clear hb ho k2)
      | (at_builtin; refine wpList_append_byt rfl _ _ rfl (w.heap.size + 1) _ F6 rfl HA0.out _ LW rfl HL4.out (by have := HE6.out; have := hn4.out; omega) R4.out.lt ?_; intro v5 w5 ho5 hg _; have HB5 := Lib.hid (HB4.out.grown hg HB4.out.size (fun j hj => by have := (Own.lt HA0.out j hj).1; omega)); have R5 := Lib.hid (R4.out.grown hg (fun e => by have := (Own.lt HA0.out w.heap.size e).1; omega)); have HA1 := Lib.hid ho5; have k2 := R5.out.cell 2 (.slice ap np cp) rfl; have kz := R5.out.lt; clear ho5 hg)
      | (at_builtin; refine wpList_append_byt rfl _ _ rfl (w.heap.size + 1) _ (F6 ++ LW) rfl (HA1.out.alloc _) _ [0, 0] rfl (Byt.two w5 0 0 0 0 _ rfl rfl) (by have := HE6.out; have := hn4.out; rw [List.length_append]; simp only [List.length_cons, List.length_nil]; omega) (by have := R5.out.lt; simp; omega) ?_; intro v6 w6 ho6 hg _; have HB6 := Lib.hid ((HB5.out.alloc HB5.out.size _).grown hg (by have := HB5.out.size; simp; omega) (fun j hj => by have := (Own.lt HA1.out j hj).1; omega)); have R6 := Lib.hid ((R5.out.alloc _).grown hg (fun e => by have := (Own.lt HA1.out w.heap.size e).1; omega)); have HA2 := Lib.hid ho6; clear ho6 hg k2 kz; have k2 := R6.out.cell 2 (.slice ap np cp) rfl)
      | (at_builtin; refine wpList_append_byt rfl _ _ rfl (w.heap.size + 1) _ (F6 ++ LW ++ [0, 0]) rfl HA2.out _ P rfl (Byt.below HP.out HB6.out) (by have := HE6.out; have := hn4.out; have := hnp.out; simp only [List.length_append, List.length_cons, List.length_nil]; omega) R6.out.lt ?_; intro v7 w7 ho7 hg _; have HB7 := Lib.hid (HB6.out.grown hg HB6.out.size (fun j hj => by have := (Own.lt HA2.out j hj).1; omega)); have R7 := Lib.hid (R6.out.grown hg (fun e => by have := (Own.lt HA2.out w.heap.size e).1; omega)); have HA3 := Lib.hid ho7; clear ho7 hg k2; have k3 := R7.out.cell 3 (.slice ad nd cd) rfl)
      | (at_builtin; refine wpList_append_byt rfl _ _ rfl (w.heap.size + 1) _ (F6 ++ LW ++ [0, 0] ++ P) rfl HA3.out _ D rfl (Byt.below HD.out HB7.out) (by have := HE6.out; have := hn4.out; have := hnp.out; have := hnd.out; simp only [List.length_append, List.length_cons, List.length_nil]; omega) R7.out.lt ?_; intro v8 w8 ho8 hg _; have HB8 := Lib.hid (HB7.out.grown hg HB7.out.size (fun j hj => by have := (Own.lt HA3.out j hj).1; omega)); have HA4 := Lib.hid ho8; clear ho8 hg k3))
    go_ret2
    refine ⟨_, rfl, ?_, HB8.out⟩
    have e : F6 ++ LW ++ [0, 0] ++ P ++ D = wrO ⟨a, s, P, D⟩ := by
      rw [← HF.out]; simp
    rw [e] at HA4
    exact HA4.out.mono (by omega)
end Go.Proofs.Ytbcocblamocobaa
