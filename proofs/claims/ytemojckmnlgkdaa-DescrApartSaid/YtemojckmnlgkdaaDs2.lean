/-
  The contracts of the document's own ahead and Write.
-/
import Derived.Test.YtemojckmnlgkdaaDs1
namespace Go.Proofs.Ytemojckmnlgkdaa
open Go Go.RowKit
set_option linter.unusedVariables false

set_option maxHeartbeats 1000000 in
theorem refAhead_calls (w : World) : Calls Try.prog 31 #[] w fun e w' => e = .returned (.slice (some ⟨w.heap.size, 0, none⟩) 20 20) ∧ Byt w' (.slice (some ⟨w.heap.size, 0, none⟩) 20 20) ahd ∧ Below w.heap.size w w' := by
  have HA := Lib.hid (Byt.made w ahd #[.int .u8 0, .int .u8 2, .int .u8 241, .int .u8 14, .int .u8 157, .int .u8 210, .int .u8 175, .int .u8 74, .int .u8 223, .int .u8 104, .int .u8 238, .int .u8 73, .int .u8 138, .int .u8 169, .int .u8 52, .int .u8 125, .int .u8 55, .int .u8 86, .int .u8 101, .int .u8 167] 5 (0, 0) rfl (by unfold maxLen; decide))
  rw [ahd_length] at HA
  go_enter Try.func31, Try.ntmps31
  go_wp2
  go_ret
  exact ⟨rfl, HA.out, (Below.refl _ _).alloc (Nat.le_refl _) _⟩

set_option maxRecDepth 100000 in
set_option maxHeartbeats 4000000 in
theorem refDsWrite_calls (t : Tm) (ht : t.Fit) (p q : Value) (b d : List UInt8) (w : World) (hp : Byt w p b) (hq : Byt w q d) (hb : b.length ≤ 100000000) (hd : d.length ≤ 100000000) :
    Calls Try.prog 13 #[tmV t, p, q] w fun e w' => ∃ v', e = .returned (.tuple #[v', .int .i64 (wrE t b.length)]) ∧ OwnB w' w.heap.size v' (wrR t b d) ∧ Below w.heap.size w w' := by
  have hw := wr_ways t b.length
  have HNO := Lib.hid (wr_no t b d)
  have HYES := Lib.hid (wr_yes t b d)
  have HR := Lib.hid (fun W => refRight_calls t W ht)
  have HW := Lib.hid (fun W => refWrite_calls t W ht)
  have HL := Lib.hid (wrL_length t)
  have HF : Hid (dsW t b d = (wrL t ++ lowN (24 + b.length) 4) ++ (ahd ++ (b ++ d))) := Lib.hid (by unfold dsW; rw [List.append_assoc])
  have HP := Lib.hid hp
  have HQ := Lib.hid hq
  obtain ⟨ap, cp, rfl, p1, p2⟩ := hp.shut
  obtain ⟨ad, cd, rfl, d1, d2⟩ := hq.shut
  clear hp hq
  obtain ⟨nb, hnb⟩ : ∃ n, Hid (n = b.length) := ⟨_, Lib.hid rfl⟩
  obtain ⟨nd, hnd⟩ : ∃ n, Hid (n = d.length) := ⟨_, Lib.hid rfl⟩
  rw [← hnb.out] at hw HNO HYES HF p1 hb HP ⊢
  rw [← hnd.out] at d1 hd HQ ⊢
  obtain ⟨LW, hLW⟩ : ∃ L, Hid (L = wrL t) := ⟨_, Lib.hid rfl⟩
  rw [← hLW.out] at HW HL HF
  obtain ⟨R, hR⟩ : ∃ L, Hid (L = wrR t b d) := ⟨_, Lib.hid rfl⟩
  obtain ⟨F, hF⟩ : ∃ L, Hid (L = dsW t b d) := ⟨_, Lib.hid rfl⟩
  obtain ⟨E, hE⟩ : ∃ L, Hid (L = wrE t nb) := ⟨_, Lib.hid rfl⟩
  rw [← hR.out, ← hE.out] at HNO HYES
  rw [← hF.out] at HF HYES
  rw [← hR.out, ← hE.out]
  obtain ⟨y, mo, dd, h, mi, s⟩ := t
  unfold tmV at HR HW ⊢
  simp only at HR HW ⊢
  have HB0 := Lib.hid ((Below.refl w.heap.size w).alloc (Nat.le_refl _) (.cells #[.int .u16 y, .int .u8 mo, .int .u8 dd, .int .u8 h, .int .u8 mi, .int .u8 s] 25))
  have R0 := Lib.hid (RowAt.new w #[.int .u16 y, .int .u8 mo, .int .u8 dd, .int .u8 h, .int .u8 mi, .int .u8 s] 25 w.heap.size rfl)
  rcases hw with ⟨q1, hx⟩ | ⟨q1, q0, ⟨q2, hx⟩ | ⟨q2, ⟨q3, hx⟩ | ⟨q3, hx⟩⟩⟩
  · have hr := HNO.out hx
    rw [hr.1, hr.2]
    clear hr hx
    rw [q1] at HR
    clear q1
    go_enter Try.func13, Try.ntmps13
    go_wp2_with fail
    refine (HR.out _).mono ?_
    rintro e w2 ⟨rfl, hb⟩
    have HB2 := Lib.hid (HB0.out.trans (hb.mono HB0.out.size))
    clear hb
    go_wp2
    go_ret2
    exact ⟨_, rfl, OwnB.empty _ _ _, HB2.out⟩
  all_goals
    rw [q1] at HR
    have heq := neq0 y mo dd h mi s q0
    clear q1 q0
    have hr := Lib.hid hx
    clear hx
    go_enter Try.func13, Try.ntmps13
    go_wp2_with fail
    refine (HR.out _).mono ?_
    rintro e w2 ⟨rfl, hb⟩
    have HB2 := Lib.hid (HB0.out.trans (hb.mono HB0.out.size))
    have R2 := Lib.hid (R0.out.below hb)
    have k0 := R2.out.cell 0 _ rfl
    have k1 := R2.out.cell 1 _ rfl
    have k2 := R2.out.cell 2 _ rfl
    have k3 := R2.out.cell 3 _ rfl
    have k4 := R2.out.cell 4 _ rfl
    have k5 := R2.out.cell 5 _ rfl
    have kz := R2.out.lt
    clear hb
  · go_wp2
    go_ret2
    have hr := HNO.out hr.out
    rw [hr.1, hr.2]
    exact ⟨_, rfl, OwnB.empty _ _ _, HB2.out⟩
  · go_wp2
    go_ret2
    have hr := HNO.out hr.out
    rw [hr.1, hr.2]
    exact ⟨_, rfl, OwnB.empty _ _ _, HB2.out⟩
  · have HPUT : Hid (∀ v W, Byt W v LW → Calls Try.prog 30 #[v, .int .u64 (24 + (nb : Int)), .int .i64 4] W fun e w' => ∃ x c, e = .returned (.slice x 20 c) ∧ OwnB w' W.heap.size (.slice x 20 c) (LW ++ lowN (24 + nb) 4) ∧ Below W.heap.size W w') := Lib.hid (fun v W h => by
      have := refPut_calls v LW (24 + nb) 4 W h (by omega) (by rw [HL.out]; decide)
      unfold putL at this
      rw [show sizedB 4 = true by decide, if_pos rfl] at this
      have e : (LW ++ lowN (24 + nb) (4 : Int).toNat).length = 20 := by rw [List.length_append, lowN_length, HL.out]; rfl
      have := own_shape _ _ _ this
      rw [e] at this
      exact this)
    have m1 : IntKind.u64.wrap (24 + (nb : Int)) = 24 + (nb : Int) := IntWalk.u64_in _ (by omega)
    obtain ⟨F4, hF4⟩ : ∃ F, Hid (F = LW ++ lowN (24 + nb) 4) := ⟨_, Lib.hid rfl⟩
    have HL4 : Hid (F4.length = 20) := Lib.hid (by rw [hF4.out, List.length_append, lowN_length, HL.out])
    rw [← hF4.out] at HPUT HF
    have HB3 := Lib.hid (HB2.out.alloc HB2.out.size (.cells #[] 5))
    go_wp2_with fail
    refine (HW.out _).mono ?_
    rintro e w3 ⟨v3, rfl, ho, hb⟩
    have HB4 := Lib.hid (HB3.out.trans (hb.mono HB3.out.size))
    have HO3 := Lib.hid ho.byt
    clear hb ho k0 k1 k2 k3 k4 k5
    go_wp2_with (first
      | (at_builtin; refine wpList_append_byt rfl _ _ rfl w.heap.size (.slice (some ⟨w2.heap.size, 0, none⟩) 0 0) [] rfl (OwnB.empty _ _ _) v3 LW rfl HO3.out (by have := HL.out; simp; omega) HB4.out.size ?_; intro v4 w4 ho4 hg _; have HB5 := Lib.hid (HB4.out.grown hg HB4.out.size (fun k hk => by simp [ownB] at hk)); have HO4 := Lib.hid ho4.byt; clear ho4 hg))
    rw [List.nil_append] at HO4
    go_wp2_with fail
    refine (HPUT.out _ _ HO4.out).mono ?_
    rintro e w5 ⟨x5, c5, rfl, ho, hb⟩
    have HB6 := Lib.hid (HB5.out.trans (hb.mono HB5.out.size))
    have HA0 := Lib.hid (ho.mono HB5.out.size)
    clear hb ho
    go_wp2_with (first
      | (go_at_call 31; refine (refAhead_calls _).mono ?_; rintro e w6 ⟨rfl, ha, hb⟩; have HB7 := Lib.hid (HB6.out.trans (hb.mono HB6.out.size)); have HA1 := Lib.hid (HA0.out.below hb); have HAH := Lib.hid ha; clear hb ha)
      | (at_builtin; refine wpList_append_byt rfl _ _ rfl w.heap.size _ F4 rfl HA1.out _ ahd rfl HAH.out (by have := HL4.out; rw [ahd_length]; omega) HB7.out.size ?_; intro v7 w7 ho7 hg _; have HB8 := Lib.hid (HB7.out.grown hg HB7.out.size (fun j hj => (Own.lt HA1.out j hj).1)); have HA2 := Lib.hid ho7; clear ho7 hg)
      | (at_builtin; refine wpList_append_byt rfl _ _ rfl w.heap.size _ (F4 ++ ahd) rfl HA2.out _ b rfl (Byt.below HP.out HB8.out) (by have := HL4.out; have := hnb.out; rw [List.length_append, ahd_length]; omega) HB8.out.size ?_; intro v8 w8 ho8 hg _; have HB9 := Lib.hid (HB8.out.grown hg HB8.out.size (fun j hj => (Own.lt HA2.out j hj).1)); have HA3 := Lib.hid ho8; clear ho8 hg)
      | (at_builtin; refine wpList_append_byt rfl _ _ rfl w.heap.size _ (F4 ++ ahd ++ b) rfl HA3.out _ d rfl (Byt.below HQ.out HB9.out) (by have := HL4.out; have := hnb.out; have := hnd.out; rw [List.length_append, List.length_append, ahd_length]; omega) HB9.out.size ?_; intro v9 w9 ho9 hg _; have HBA := Lib.hid (HB9.out.grown hg HB9.out.size (fun j hj => (Own.lt HA3.out j hj).1)); have HA4 := Lib.hid ho9; clear ho9 hg))
    go_ret2
    have hr := HYES.out hr.out
    have e : F4 ++ ahd ++ b ++ d = F := by rw [HF.out]; simp
    rw [e] at HA4
    rw [hr.1, hr.2]
    exact ⟨_, rfl, HA4.out, HBA.out⟩
end Go.Proofs.Ytemojckmnlgkdaa
