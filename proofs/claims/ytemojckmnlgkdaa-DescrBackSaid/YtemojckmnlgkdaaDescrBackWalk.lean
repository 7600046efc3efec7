/-
  The walk of the law DescrBack.
-/
import Derived.Test.YtemojckmnlgkdaaDsWorks
import Derived.Test.YtemojckmnlgkdaaSit
namespace Go.Proofs.Ytemojckmnlgkdaa
open Go Go.RowKit
set_option linter.unusedVariables false

set_option maxRecDepth 100000 in
set_option maxHeartbeats 4000000 in
theorem descrBack_big1 (v p q : Value) (t : Tm) (l b d : List UInt8) (w : World) (ht : t.Fit) (hv : Byt w v l) (hp : Byt w p b) (hq : Byt w q d) (h1 : 262144 < l.length) :
    Calls Try.prog 4 #[v, tmV t, p, q] w fun e w' => e = .returned (.bool true) ∧ Below w.heap.size w w' := by
  have HV := Lib.hid hv
  obtain ⟨xv, cv, rfl, hv1, hv2⟩ := hv.shut
  clear hv
  obtain ⟨nv, hnv⟩ : ∃ n, Hid (n = l.length) := ⟨_, Lib.hid rfl⟩
  rw [← hnv.out] at HV hv1 ⊢
  have HP := Lib.hid hp
  obtain ⟨xp, cp, rfl, hp1, hp2⟩ := hp.shut
  clear hp
  obtain ⟨np, hnp⟩ : ∃ n, Hid (n = b.length) := ⟨_, Lib.hid rfl⟩
  rw [← hnp.out] at HP hp1 ⊢
  have HD := Lib.hid hq
  obtain ⟨xd, cd, rfl, hq1, hq2⟩ := hq.shut
  clear hq
  obtain ⟨nd, hnd⟩ : ∃ n, Hid (n = d.length) := ⟨_, Lib.hid rfl⟩
  rw [← hnd.out] at HD hq1 ⊢
  have d1 : decide ((262144 : Int) < (nv : Int)) = true := by have := hnv.out; simp; omega
  obtain ⟨y, mo, dd, hh, mi, se⟩ := t
  unfold tmV
  simp only
  have HB_0 := Lib.hid (Below.refl w.heap.size w)
  have HB_1 := Lib.hid (HB_0.out.alloc HB_0.out.size (.cells #[.int .u16 y, .int .u8 mo, .int .u8 dd, .int .u8 hh, .int .u8 mi, .int .u8 se] 25))
  have RT_1 := Lib.hid (RowAt.new w #[.int .u16 y, .int .u8 mo, .int .u8 dd, .int .u8 hh, .int .u8 mi, .int .u8 se] 25 (w.heap.size) (by first | rfl | simp))
  go_enter Try.func4, Try.ntmps4
  go_wp2_with fail
  refine (works_calls _).mono ?_
  rintro e wz ⟨rfl, hb⟩
  have HBz := Lib.hid (HB_1.out.trans (hb.mono HB_1.out.size))
  clear hb
  go_wp2
  go_ret
  exact ⟨rfl, HBz.out⟩

set_option maxRecDepth 100000 in
set_option maxHeartbeats 4000000 in
theorem descrBack_big2 (v p q : Value) (t : Tm) (l b d : List UInt8) (w : World) (ht : t.Fit) (hv : Byt w v l) (hp : Byt w p b) (hq : Byt w q d) (h1 : l.length ≤ 262144) (h2 : 262144 < b.length) :
    Calls Try.prog 4 #[v, tmV t, p, q] w fun e w' => e = .returned (.bool true) ∧ Below w.heap.size w w' := by
  have HV := Lib.hid hv
  obtain ⟨xv, cv, rfl, hv1, hv2⟩ := hv.shut
  clear hv
  obtain ⟨nv, hnv⟩ : ∃ n, Hid (n = l.length) := ⟨_, Lib.hid rfl⟩
  rw [← hnv.out] at HV hv1 ⊢
  have HP := Lib.hid hp
  obtain ⟨xp, cp, rfl, hp1, hp2⟩ := hp.shut
  clear hp
  obtain ⟨np, hnp⟩ : ∃ n, Hid (n = b.length) := ⟨_, Lib.hid rfl⟩
  rw [← hnp.out] at HP hp1 ⊢
  have HD := Lib.hid hq
  obtain ⟨xd, cd, rfl, hq1, hq2⟩ := hq.shut
  clear hq
  obtain ⟨nd, hnd⟩ : ∃ n, Hid (n = d.length) := ⟨_, Lib.hid rfl⟩
  rw [← hnd.out] at HD hq1 ⊢
  have d1 : decide ((262144 : Int) < (nv : Int)) = false := by have := hnv.out; simp; omega
  have d2 : decide ((262144 : Int) < (np : Int)) = true := by have := hnp.out; simp; omega
  obtain ⟨y, mo, dd, hh, mi, se⟩ := t
  unfold tmV
  simp only
  have HB_0 := Lib.hid (Below.refl w.heap.size w)
  have HB_1 := Lib.hid (HB_0.out.alloc HB_0.out.size (.cells #[.int .u16 y, .int .u8 mo, .int .u8 dd, .int .u8 hh, .int .u8 mi, .int .u8 se] 25))
  have RT_1 := Lib.hid (RowAt.new w #[.int .u16 y, .int .u8 mo, .int .u8 dd, .int .u8 hh, .int .u8 mi, .int .u8 se] 25 (w.heap.size) (by first | rfl | simp))
  go_enter Try.func4, Try.ntmps4
  go_wp2_with fail
  refine (works_calls _).mono ?_
  rintro e wz ⟨rfl, hb⟩
  have HBz := Lib.hid (HB_1.out.trans (hb.mono HB_1.out.size))
  clear hb
  go_wp2
  go_ret
  exact ⟨rfl, HBz.out⟩

set_option maxRecDepth 100000 in
set_option maxHeartbeats 4000000 in
theorem descrBack_big3 (v p q : Value) (t : Tm) (l b d : List UInt8) (w : World) (ht : t.Fit) (hv : Byt w v l) (hp : Byt w p b) (hq : Byt w q d) (h1 : l.length ≤ 262144) (h2 : b.length ≤ 262144) (h3 : 262144 < d.length) :
    Calls Try.prog 4 #[v, tmV t, p, q] w fun e w' => e = .returned (.bool true) ∧ Below w.heap.size w w' := by
  have HV := Lib.hid hv
  obtain ⟨xv, cv, rfl, hv1, hv2⟩ := hv.shut
  clear hv
  obtain ⟨nv, hnv⟩ : ∃ n, Hid (n = l.length) := ⟨_, Lib.hid rfl⟩
  rw [← hnv.out] at HV hv1 ⊢
  have HP := Lib.hid hp
  obtain ⟨xp, cp, rfl, hp1, hp2⟩ := hp.shut
  clear hp
  obtain ⟨np, hnp⟩ : ∃ n, Hid (n = b.length) := ⟨_, Lib.hid rfl⟩
  rw [← hnp.out] at HP hp1 ⊢
  have HD := Lib.hid hq
  obtain ⟨xd, cd, rfl, hq1, hq2⟩ := hq.shut
  clear hq
  obtain ⟨nd, hnd⟩ : ∃ n, Hid (n = d.length) := ⟨_, Lib.hid rfl⟩
  rw [← hnd.out] at HD hq1 ⊢
  have d1 : decide ((262144 : Int) < (nv : Int)) = false := by have := hnv.out; simp; omega
  have d2 : decide ((262144 : Int) < (np : Int)) = false := by have := hnp.out; simp; omega
  have d3 : decide ((262144 : Int) < (nd : Int)) = true := by have := hnd.out; simp; omega
  obtain ⟨y, mo, dd, hh, mi, se⟩ := t
  unfold tmV
  simp only
  have HB_0 := Lib.hid (Below.refl w.heap.size w)
  have HB_1 := Lib.hid (HB_0.out.alloc HB_0.out.size (.cells #[.int .u16 y, .int .u8 mo, .int .u8 dd, .int .u8 hh, .int .u8 mi, .int .u8 se] 25))
  have RT_1 := Lib.hid (RowAt.new w #[.int .u16 y, .int .u8 mo, .int .u8 dd, .int .u8 hh, .int .u8 mi, .int .u8 se] 25 (w.heap.size) (by first | rfl | simp))
  go_enter Try.func4, Try.ntmps4
  go_wp2_with fail
  refine (works_calls _).mono ?_
  rintro e wz ⟨rfl, hb⟩
  have HBz := Lib.hid (HB_1.out.trans (hb.mono HB_1.out.size))
  clear hb
  go_wp2
  go_ret
  exact ⟨rfl, HBz.out⟩

set_option maxRecDepth 100000 in
set_option maxHeartbeats 4000000 in
theorem descrBack_main (v p q : Value) (t : Tm) (l b d : List UInt8) (w : World) (ht : t.Fit) (hv : Byt w v l) (hp : Byt w p b) (hq : Byt w q d) (h1 : l.length ≤ 262144) (h2 : b.length ≤ 262144) (h3 : d.length ≤ 262144) :
    Calls Try.prog 4 #[v, tmV t, p, q] w fun e w' => e = .returned (.bool true) ∧ Below w.heap.size w w' := by
  have HV := Lib.hid hv
  obtain ⟨xv, cv, rfl, hv1, hv2⟩ := hv.shut
  clear hv
  obtain ⟨nv, hnv⟩ : ∃ n, Hid (n = l.length) := ⟨_, Lib.hid rfl⟩
  rw [← hnv.out] at HV hv1 ⊢
  have HP := Lib.hid hp
  obtain ⟨xp, cp, rfl, hp1, hp2⟩ := hp.shut
  clear hp
  obtain ⟨np, hnp⟩ : ∃ n, Hid (n = b.length) := ⟨_, Lib.hid rfl⟩
  rw [← hnp.out] at HP hp1 ⊢
  have HD := Lib.hid hq
  obtain ⟨xd, cd, rfl, hq1, hq2⟩ := hq.shut
  clear hq
  obtain ⟨nd, hnd⟩ : ∃ n, Hid (n = d.length) := ⟨_, Lib.hid rfl⟩
  rw [← hnd.out] at HD hq1 ⊢
  have d1 : decide ((262144 : Int) < (nv : Int)) = false := by have := hnv.out; simp; omega
  have d2 : decide ((262144 : Int) < (np : Int)) = false := by have := hnp.out; simp; omega
  have d3 : decide ((262144 : Int) < (nd : Int)) = false := by have := hnd.out; simp; omega
  have HLV : Hid (l.length ≤ 262144) := Lib.hid h1
  obtain ⟨Fw, hFw⟩ : ∃ F, Hid (F = wrR t b d) := ⟨_, Lib.hid rfl⟩
  obtain ⟨E, hE⟩ : ∃ E, Hid (E = wrE t b.length) := ⟨_, Lib.hid rfl⟩
  obtain ⟨n, hn⟩ : ∃ n, Hid (n = Fw.length) := ⟨_, Lib.hid rfl⟩
  have HWR := Lib.hid (fun p' q' W (h1 : Byt W p' b) (h2 : Byt W q' d) => write_form (dsWrite_calls t ht p' q' b d W h1 h2 (by omega) (by omega)) Fw hFw.out E hE.out n hn.out)
  have HRR : Hid (dsB t b.length = true → Fw = dsW t b d ∧ E = 0 ∧ n = 40 + b.length + d.length) := Lib.hid (fun h => by
    have h2 := wr_yes t b d h
    exact ⟨hFw.out.trans h2.1, hE.out.trans h2.2, by rw [hn.out, hFw.out, h2.1, dsW_length]⟩)
  have HRN : Hid (dsB t b.length = false → n = 0 ∧ E = 1) := Lib.hid (fun h => by
    have h2 := wr_no t b d h
    exact ⟨by rw [hn.out, hFw.out, h2.1]; rfl, hE.out.trans h2.2⟩)
  have HRB : Hid (dsB t b.length = true → ∀ v W, Byt W v Fw → Calls Try.prog 9 #[v] W fun e w' => ∃ x1 c1 x2 c2, e = .returned (.tuple #[tmV t, .slice x1 np c1, .slice x2 nd c2, .int .i64 0]) ∧ OwnB w' W.heap.size (.slice x1 np c1) b ∧ OwnB w' W.heap.size (.slice x2 nd c2) d ∧ Below W.heap.size W w') := Lib.hid (fun h v W hv => by
    have hr := wrR_read t ht b d h
    have h2 := wr_yes t b d h
    have h3 : Fw = dsW t b d := hFw.out.trans h2.1
    rw [← h3] at hr
    exact read_form (dsRead_calls v Fw W hv (by rw [h3, dsW_length]; omega)) t hr.1.symm _ hr.2.1.symm _ hr.2.2.1.symm 0 hr.2.2.2.symm np nd hnp.out hnd.out)
  have HEQ := Lib.hid (fun W => run_tm_eq t t W)
  have HR1 := Lib.hid (fun v W (h : Byt W v l) => dsRead_calls v l W h (by omega))
  have HDB : Hid (b.length ≤ 262144 ∧ d.length ≤ 262144) := Lib.hid ⟨h2, h3⟩
  clear h1 h2 h3
  have HETT : Hid (eqT t t = true) := Lib.hid ((eqT_iff t t).2 rfl)
  rw [HETT.out] at HEQ
  obtain ⟨BB, hBB⟩ : ∃ B, Hid (dsB t b.length = B) := ⟨_, Lib.hid rfl⟩
  rw [hBB.out] at HRR HRN HRB
  obtain ⟨y, mo, dd, hh, mi, se⟩ := t
  unfold tmV at HWR HRB HEQ ⊢
  simp only at HWR HRB HEQ ⊢
  have HB_0 := Lib.hid (Below.refl w.heap.size w)
  have HB_1 := Lib.hid (HB_0.out.alloc HB_0.out.size (.cells #[.int .u16 y, .int .u8 mo, .int .u8 dd, .int .u8 hh, .int .u8 mi, .int .u8 se] 25))
  have V_1 := Lib.hid (Byt.below HV.out ((Below.refl _ _).alloc (Nat.le_refl _) (.cells #[.int .u16 y, .int .u8 mo, .int .u8 dd, .int .u8 hh, .int .u8 mi, .int .u8 se] 25)))
  have P_1 := Lib.hid (Byt.below HP.out ((Below.refl _ _).alloc (Nat.le_refl _) (.cells #[.int .u16 y, .int .u8 mo, .int .u8 dd, .int .u8 hh, .int .u8 mi, .int .u8 se] 25)))
  have Q_1 := Lib.hid (Byt.below HD.out ((Below.refl _ _).alloc (Nat.le_refl _) (.cells #[.int .u16 y, .int .u8 mo, .int .u8 dd, .int .u8 hh, .int .u8 mi, .int .u8 se] 25)))
  have RT_1 := Lib.hid (RowAt.new w #[.int .u16 y, .int .u8 mo, .int .u8 dd, .int .u8 hh, .int .u8 mi, .int .u8 se] 25 (w.heap.size) (by first | rfl | simp))
  go_enter Try.func4, Try.ntmps4
  go_wp2_with fail
  refine (twin_calls _ l _ V_1.out (by have := HLV.out; omega)).mono ?_
  rintro e w2 ⟨v1, rfl, ho, hb⟩
  have HB_2 := Lib.hid (HB_1.out.trans (hb.mono HB_1.out.size))
  have V_2 := Lib.hid (Byt.below V_1.out hb)
  have P_2 := Lib.hid (Byt.below P_1.out hb)
  have Q_2 := Lib.hid (Byt.below Q_1.out hb)
  have RT_2 := Lib.hid (RowAt.below RT_1.out hb)
  have O_2 := Lib.hid ho.byt
  clear ho
  clear hb
  have hr := HR1.out _ _ O_2.out
  cases hd : dsR l
  · skip
    obtain ⟨r1, r2, r3, r4⟩ := res_no l hd
    have hr2 := read_form hr tm0 r1.symm [] r2.symm [] r3.symm 9 r4.symm 0 0 rfl rfl
    have HZ0 : Hid (tmV tm0 = (.agg #[.int .u16 0, .int .u8 0, .int .u8 0, .int .u8 0, .int .u8 0, .int .u8 0])) := Lib.hid rfl
    rw [HZ0.out] at hr2
    clear hr r1 r2 r3 r4
    go_wp2_with fail
    refine (hr2).mono ?_
    rintro e w3 ⟨x2, c2, x3, c3, rfl, ho1, ho2, hb⟩
    have HB_3 := Lib.hid (HB_2.out.trans (hb.mono HB_2.out.size))
    have V_3 := Lib.hid (Byt.below V_2.out hb)
    have P_3 := Lib.hid (Byt.below P_2.out hb)
    have Q_3 := Lib.hid (Byt.below Q_2.out hb)
    have RT_3 := Lib.hid (RowAt.below RT_2.out hb)
    clear hr2 ho1 ho2
    clear hb
    have HB_4 := Lib.hid (HB_3.out.alloc HB_3.out.size (.cells #[.int .u16 0, .int .u8 0, .int .u8 0, .int .u8 0, .int .u8 0, .int .u8 0] 25))
    have V_4 := Lib.hid (Byt.below V_3.out ((Below.refl _ _).alloc (Nat.le_refl _) (.cells #[.int .u16 0, .int .u8 0, .int .u8 0, .int .u8 0, .int .u8 0, .int .u8 0] 25)))
    have P_4 := Lib.hid (Byt.below P_3.out ((Below.refl _ _).alloc (Nat.le_refl _) (.cells #[.int .u16 0, .int .u8 0, .int .u8 0, .int .u8 0, .int .u8 0, .int .u8 0] 25)))
    have Q_4 := Lib.hid (Byt.below Q_3.out ((Below.refl _ _).alloc (Nat.le_refl _) (.cells #[.int .u16 0, .int .u8 0, .int .u8 0, .int .u8 0, .int .u8 0, .int .u8 0] 25)))
    have RT_4 := Lib.hid (RowAt.alloc RT_3.out (.cells #[.int .u16 0, .int .u8 0, .int .u8 0, .int .u8 0, .int .u8 0, .int .u8 0] 25))
    have R9_4 := Lib.hid (RowAt.new w3 #[.int .u16 0, .int .u8 0, .int .u8 0, .int .u8 0, .int .u8 0, .int .u8 0] 25 (w3.heap.size) (by first | rfl | simp))
    have R9c0 := R9_4.out.cell 0 (.int .u16 0) rfl
    have R9c1 := R9_4.out.cell 1 (.int .u8 0) rfl
    have R9c2 := R9_4.out.cell 2 (.int .u8 0) rfl
    have R9c3 := R9_4.out.cell 3 (.int .u8 0) rfl
    have R9c4 := R9_4.out.cell 4 (.int .u8 0) rfl
    have R9c5 := R9_4.out.cell 5 (.int .u8 0) rfl
    have R9z := R9_4.out.lt
    have hnz : ∀ W : World, (binOp .neq 25 (.agg #[.int .u16 0, .int .u8 0, .int .u8 0, .int .u8 0, .int .u8 0, .int .u8 0]) (.agg #[.int .u16 0, .int .u8 0, .int .u8 0, .int .u8 0, .int .u8 0, .int .u8 0])).run Try.prog W = .ok (.bool false) W := fun W => run_tm_neq tm0 tm0 W
    go_wp2_with fail
    clear R9c0 R9c1 R9c2 R9c3 R9c4 R9c5 R9z hnz
    refine' wp_region_grows (by kernel_rfl) (fun w' => Hid (RowAt w' w.heap.size #[.int .u16 y, .int .u8 mo, .int .u8 dd, .int .u8 hh, .int .u8 mi, .int .u8 se]) ∧ Hid (Below w.heap.size w w') ∧ Hid (Byt w' (.slice xp np cp) b) ∧ Hid (Byt w' (.slice xd nd cd) d)) [isV _, isV _, fun v w' => Byt w' v b, isV _, fun v w' => Byt w' v d, fun v w' => ∃ x c, v = .tuple #[.slice x n c, .int .i64 E] ∧ OwnB w' w.heap.size (.slice x n c) Fw, fun v w' => ∃ x c, v = .tuple #[.slice x n c, .int .i64 E] ∧ OwnB w' w.heap.size (.slice x n c) Fw, fun v w' => ∃ x c, v = .slice x n c ∧ OwnB w' w.heap.size (.slice x n c) Fw, isV (.int .i64 E), fun v w' => ∃ x c, v = .slice x n c ∧ OwnB w' w.heap.size (.slice x n c) Fw, isV (.int .i64 E)] 116 [[], [], [(1, some 74)], [], [(3, some 76)], [(0, some 73), (2, some 75), (4, some 77)], [(5, some 78)], [(6, some 72)], [(6, some 72)], [(7, some 79)], [(8, some 80)]] [(0, some 73), (1, some 74), (2, some 75), (3, some 76), (4, some 77), (5, some 78), (6, some 72), (7, some 79), (8, some 80), (9, some 15), (10, some 12)] rfl (by kernel_rfl) ⟨fun _ _ _ _ h => h, fun _ _ _ _ h => h, fun _ _ _ hg h => Byt.below h hg, fun _ _ _ _ h => h, fun _ _ _ hg h => Byt.below h hg, fun _ _ _ hg ⟨x, c, e, h⟩ => ⟨x, c, e, OwnB.below h hg⟩, fun _ _ _ hg ⟨x, c, e, h⟩ => ⟨x, c, e, OwnB.below h hg⟩, fun _ _ _ hg ⟨x, c, e, h⟩ => ⟨x, c, e, OwnB.below h hg⟩, fun _ _ _ _ h => h, fun _ _ _ hg ⟨x, c, e, h⟩ => ⟨x, c, e, OwnB.below h hg⟩, fun _ _ _ _ h => h, trivial⟩ (fun _ a a' _ e h => by cases a; cases a'; cases e; exact h) ?hS ?hsteps ?hend
    case hS =>
      intro w' hg
      exact ⟨Lib.hid ((RT_4.out.drew).below hg), Lib.hid (HB_4.out.drew.trans (hg.mono HB_4.out.size)), Lib.hid ((P_4.out.below (Below.refl _ _).drew).below hg), Lib.hid ((Q_4.out.below (Below.refl _ _).drew).below hg)⟩
    case hsteps =>
      refine ⟨?_, ?_, ?_, ?_, ?_, ?_, ?_, ?_, ?_, ?_, ?_, trivial⟩
      · -- 0: Op.load 25 t5
        intro w' hs
        simp only [AllV, rgPut]
        obtain ⟨hrow, hbb, hp, hq⟩ := hs
        have r0 := hrow.out.cell 0 (.int .u16 y) rfl
        have r1 := hrow.out.cell 1 (.int .u8 mo) rfl
        have r2 := hrow.out.cell 2 (.int .u8 dd) rfl
        have r3 := hrow.out.cell 3 (.int .u8 hh) rfl
        have r4 := hrow.out.cell 4 (.int .u8 mi) rfl
        have r5 := hrow.out.cell 5 (.int .u8 se) rfl
        have rz := hrow.out.lt
        refine OpOk.run ?_ (fun K hK => ?_)
        · rfl
        go_simp
        refine hK.out _ _ (Grows.refl _) ?_
        exact rfl
      · intro w' hs
        simp only [AllV, rgPut]
        clear hs
        first
          | (refine OpOk.off ?_ ?_ <;> rfl)
          | (refine OpOk.run ?_ (fun K hK => ?_)
             · rfl
             go_simp
             refine hK.out _ _ (Grows.refl _) ?_
             exact rfl)
      · intro w' hs
        simp only [AllV, rdP, isV, forall_eq, rgPut, Act.put, List.setIfInBounds_toArray, List.set_cons_zero, List.set_cons_succ]
        obtain ⟨hrow, hbb, hp, hq⟩ := hs
        first
          | (refine OpOk.off ?_ ?_ <;> rfl)
          | (refine OpOk.run ?_ (fun K hK => ?_)
             · rfl
             go_simp
             go_at_call 8
             refine (twin_calls _ _ _ hp.out (by have := HDB.out; omega)).mono ?_
             rintro e w1 ⟨v1, rfl, ho, hb⟩
             refine hK.out _ _ hb ?_
             exact ho.byt
            )
      · intro w' hs
        simp only [AllV, rgPut]
        clear hs
        first
          | (refine OpOk.off ?_ ?_ <;> rfl)
          | (refine OpOk.run ?_ (fun K hK => ?_)
             · rfl
             go_simp
             refine hK.out _ _ (Grows.refl _) ?_
             exact rfl)
      · intro w' hs
        simp only [AllV, rdP, isV, forall_eq, rgPut, Act.put, List.setIfInBounds_toArray, List.set_cons_zero, List.set_cons_succ]
        obtain ⟨hrow, hbb, hp, hq⟩ := hs
        first
          | (refine OpOk.off ?_ ?_ <;> rfl)
          | (refine OpOk.run ?_ (fun K hK => ?_)
             · rfl
             go_simp
             go_at_call 8
             refine (twin_calls _ _ _ hq.out (by have := HDB.out; omega)).mono ?_
             rintro e w1 ⟨v1, rfl, ho, hb⟩
             refine hK.out _ _ hb ?_
             exact ho.byt
            )
      · -- 5: Op.call { value (Operand.func 12), args := #[t73, t75, t77],
        intro w' hs
        simp only [AllV, rdP, rgPut, Act.put, List.setIfInBounds_toArray, List.set_cons_zero, List.set_cons_succ]
        obtain ⟨hrow, hbb, hp, hq⟩ := hs
        intro v0 e0
        cases e0
        intro v1 h1 v2 h2
        refine OpOk.run ?_ (fun K hK => ?_)
        · rfl
        go_simp
        go_at_call 12
        refine (HWR.out _ _ _ h1 h2).mono ?_
        rintro e w1 ⟨x, c, rfl, ho, hb⟩
        refine hK.out _ _ hb ?_
        exact ⟨x, c, rfl, ho.mono hbb.out.size⟩
      · -- 6: Op.move t78
        intro w' hs
        simp only [AllV, rdP, rgPut, Act.put, List.setIfInBounds_toArray, List.set_cons_zero, List.set_cons_succ]
        intro v hv
        refine OpOk.run ?_ (fun K hK => ?_)
        · rfl
        go_simp
        refine hK.out _ _ (Grows.refl _) ?_
        exact hv
      · -- 7: Op.extract t72 0
        intro w' hs
        simp only [AllV, rdP, rgPut, Act.put, List.setIfInBounds_toArray, List.set_cons_zero, List.set_cons_succ]
        rintro v ⟨x, c, rfl, ho⟩
        refine OpOk.run ?_ (fun K hK => ?_)
        · rfl
        go_simp
        refine hK.out _ _ (Grows.refl _) ?_
        exact ⟨x, c, rfl, ho⟩
      · -- 8: Op.extract t72 1
        intro w' hs
        simp only [AllV, rdP, rgPut, Act.put, List.setIfInBounds_toArray, List.set_cons_zero, List.set_cons_succ]
        rintro v ⟨x, c, rfl, ho⟩
        refine OpOk.run ?_ (fun K hK => ?_)
        · rfl
        go_simp
        refine hK.out _ _ (Grows.refl _) ?_
        exact rfl
      · -- 9: Op.assign t79
        intro w' hs
        simp only [AllV, rdP, rgPut, Act.put, List.setIfInBounds_toArray, List.set_cons_zero, List.set_cons_succ]
        intro v hv
        refine OpOk.run ?_ (fun K hK => ?_)
        · rfl
        go_simp
        refine hK.out _ _ (Grows.refl _) ?_
        exact hv
      · -- 10: Op.assign t80
        intro w' hs
        simp only [AllV, rdP, rgPut, Act.put, List.setIfInBounds_toArray, List.set_cons_zero, List.set_cons_succ]
        intro v hv
        refine OpOk.run ?_ (fun K hK => ?_)
        · rfl
        go_simp
        refine hK.out _ _ (Grows.refl _) ?_
        exact hv
    case hend =>
      intro w' hs
      simp only [AllV, rdP, rgPut, Act.put, List.setIfInBounds_toArray, List.set_cons_zero, List.set_cons_succ]
      intro a0 b0 a1 b1 a2 b2 a3 b3 a4 b4 a5 b5 a6 b6 a7 b7 a8 b8 a9 b9 a10 b10
      clear b0 b1 b2 b3 b4 b5 b6 b7 b8
      obtain ⟨xw, cw, rfl, hw⟩ := b9
      cases b10
      obtain ⟨hrow, hbb, hp, hq⟩ := hs
      have HB_5 := hbb
      have RT_5 := hrow
      have P_5 := hp
      have Q_5 := hq
      have OW_5 := Lib.hid hw
      clear hbb hrow hp hq hw
      cases BB
      · have hz := HRN.out rfl
        obtain ⟨hz1, hz2⟩ := hz
        subst hz1
        subst hz2
        go_wp2_with fail
        refine (works_calls _).mono ?_
        rintro e wz ⟨rfl, hb⟩
        have HBz := Lib.hid (HB_5.out.trans (hb.mono HB_5.out.size))
        clear hb
        go_wp2
        go_ret
        exact ⟨rfl, HBz.out⟩
      · have hz := HRR.out rfl
        obtain ⟨hz1, hz2, hz3⟩ := hz
        subst hz2
        clear hz1 hz3
        have HB1 := HRB.out rfl
        have HB2 := Lib.hid HB1
        clear HB1
        go_wp2_with fail
        refine (HB2.out _ _ OW_5.out.byt).mono ?_
        rintro e w6 ⟨x5, c5, x6, c6, rfl, ho1, ho2, hb⟩
        have HB_6 := Lib.hid (HB_5.out.trans (hb.mono HB_5.out.size))
        have RT_6 := Lib.hid (RowAt.below RT_5.out hb)
        have P_6 := Lib.hid (Byt.below P_5.out hb)
        have Q_6 := Lib.hid (Byt.below Q_5.out hb)
        have OB_6 := Lib.hid ho1.byt
        have OD_6 := Lib.hid ho2.byt
        clear ho1 ho2
        clear hb
        have HB_7 := Lib.hid (HB_6.out.alloc HB_6.out.size (.cells #[.int .u16 y, .int .u8 mo, .int .u8 dd, .int .u8 hh, .int .u8 mi, .int .u8 se] 25))
        have RT_7 := Lib.hid (RowAt.alloc RT_6.out (.cells #[.int .u16 y, .int .u8 mo, .int .u8 dd, .int .u8 hh, .int .u8 mi, .int .u8 se] 25))
        have P_7 := Lib.hid (Byt.below P_6.out ((Below.refl _ _).alloc (Nat.le_refl _) (.cells #[.int .u16 y, .int .u8 mo, .int .u8 dd, .int .u8 hh, .int .u8 mi, .int .u8 se] 25)))
        have Q_7 := Lib.hid (Byt.below Q_6.out ((Below.refl _ _).alloc (Nat.le_refl _) (.cells #[.int .u16 y, .int .u8 mo, .int .u8 dd, .int .u8 hh, .int .u8 mi, .int .u8 se] 25)))
        have OB_7 := Lib.hid (Byt.below OB_6.out ((Below.refl _ _).alloc (Nat.le_refl _) (.cells #[.int .u16 y, .int .u8 mo, .int .u8 dd, .int .u8 hh, .int .u8 mi, .int .u8 se] 25)))
        have OD_7 := Lib.hid (Byt.below OD_6.out ((Below.refl _ _).alloc (Nat.le_refl _) (.cells #[.int .u16 y, .int .u8 mo, .int .u8 dd, .int .u8 hh, .int .u8 mi, .int .u8 se] 25)))
        have RS_7 := Lib.hid (RowAt.new w6 #[.int .u16 y, .int .u8 mo, .int .u8 dd, .int .u8 hh, .int .u8 mi, .int .u8 se] 25 (w6.heap.size) (by first | rfl | simp))
        have RTc0 := RT_7.out.cell 0 (.int .u16 y) rfl
        have RTc1 := RT_7.out.cell 1 (.int .u8 mo) rfl
        have RTc2 := RT_7.out.cell 2 (.int .u8 dd) rfl
        have RTc3 := RT_7.out.cell 3 (.int .u8 hh) rfl
        have RTc4 := RT_7.out.cell 4 (.int .u8 mi) rfl
        have RTc5 := RT_7.out.cell 5 (.int .u8 se) rfl
        have RTz := RT_7.out.lt
        have RSc0 := RS_7.out.cell 0 (.int .u16 y) rfl
        have RSc1 := RS_7.out.cell 1 (.int .u8 mo) rfl
        have RSc2 := RS_7.out.cell 2 (.int .u8 dd) rfl
        have RSc3 := RS_7.out.cell 3 (.int .u8 hh) rfl
        have RSc4 := RS_7.out.cell 4 (.int .u8 mi) rfl
        have RSc5 := RS_7.out.cell 5 (.int .u8 se) rfl
        have RSz := RS_7.out.lt
        have heq := HEQ.out
        go_wp2_with fail
        refine (same_form b b true (decide_eq_true rfl) _ _ _ OB_7.out P_7.out).mono ?_
        rintro e w' ⟨rfl, rfl⟩
        go_wp2_with fail
        refine (same_form d d true (decide_eq_true rfl) _ _ _ OD_7.out Q_7.out).mono ?_
        rintro e w' ⟨rfl, rfl⟩
        go_wp2_with fail
        refine (works_calls _).mono ?_
        rintro e wz ⟨rfl, hb⟩
        have HBz := Lib.hid (HB_7.out.trans (hb.mono HB_7.out.size))
        clear hb RTc0 RTc1 RTc2 RTc3 RTc4 RTc5 RTz RSc0 RSc1 RSc2 RSc3 RSc4 RSc5 RSz heq
        go_wp2
        go_ret
        exact ⟨rfl, HBz.out⟩
  · skip
    obtain ⟨r1, r2, r3, r4⟩ := res_yes l hd
    obtain ⟨g1, g2, g3⟩ := dsW_R l hd
    have hgw := wr_yes _ _ (dsDt l) g1
    obtain ⟨n2, hn2⟩ : ∃ n, Hid (n = (dsBl l).length) := ⟨_, Lib.hid rfl⟩
    obtain ⟨n3, hn3⟩ : ∃ n, Hid (n = (dsDt l).length) := ⟨_, Lib.hid rfl⟩
    have hr2 := read_form hr _ r1.symm _ r2.symm _ r3.symm 0 r4.symm n2 n3 hn2.out hn3.out
    have hl2 : (dsBl l).length ≤ 100000000 := by unfold dsBl; rw [List.length_take, List.length_drop]; have := HLV.out; have := hnv.out; omega
    have hl3 : (dsDt l).length ≤ 100000000 := by unfold dsDt; rw [List.length_drop]; have := HLV.out; have := hnv.out; omega
    have HW2 := Lib.hid (fun p' q' W (h1 : Byt W p' (dsBl l)) (h2 : Byt W q' (dsDt l)) => write_form (dsWrite_calls (rdT (l.take 16)) (rdT_fit _) p' q' _ _ W h1 h2 hl2 hl3) l (by rw [hgw.1, g2]) 0 hgw.2.symm nv hnv.out)
    obtain ⟨⟨y2, mo2, dd2, hh2, mi2, se2⟩, hTT⟩ : ∃ T, Hid (T = rdT (l.take 16)) := ⟨_, Lib.hid rfl⟩
    rw [← hTT.out] at hr2 HW2
    unfold tmV at hr2 HW2
    simp only at hr2 HW2
    clear hr r1 r2 r3 r4 g1 g2 g3 hgw hl2 hl3
    go_wp2_with fail
    refine (hr2).mono ?_
    rintro e w3 ⟨x2, c2, x3, c3, rfl, ho1, ho2, hb⟩
    have HB_3 := Lib.hid (HB_2.out.trans (hb.mono HB_2.out.size))
    have V_3 := Lib.hid (Byt.below V_2.out hb)
    have P_3 := Lib.hid (Byt.below P_2.out hb)
    have Q_3 := Lib.hid (Byt.below Q_2.out hb)
    have RT_3 := Lib.hid (RowAt.below RT_2.out hb)
    have OB_3 := Lib.hid ho1.byt
    have OD_3 := Lib.hid ho2.byt
    clear hr2 ho1 ho2
    clear hb
    have HB_4 := Lib.hid (HB_3.out.alloc HB_3.out.size (.cells #[.int .u16 y2, .int .u8 mo2, .int .u8 dd2, .int .u8 hh2, .int .u8 mi2, .int .u8 se2] 25))
    have V_4 := Lib.hid (Byt.below V_3.out ((Below.refl _ _).alloc (Nat.le_refl _) (.cells #[.int .u16 y2, .int .u8 mo2, .int .u8 dd2, .int .u8 hh2, .int .u8 mi2, .int .u8 se2] 25)))
    have P_4 := Lib.hid (Byt.below P_3.out ((Below.refl _ _).alloc (Nat.le_refl _) (.cells #[.int .u16 y2, .int .u8 mo2, .int .u8 dd2, .int .u8 hh2, .int .u8 mi2, .int .u8 se2] 25)))
    have Q_4 := Lib.hid (Byt.below Q_3.out ((Below.refl _ _).alloc (Nat.le_refl _) (.cells #[.int .u16 y2, .int .u8 mo2, .int .u8 dd2, .int .u8 hh2, .int .u8 mi2, .int .u8 se2] 25)))
    have RT_4 := Lib.hid (RowAt.alloc RT_3.out (.cells #[.int .u16 y2, .int .u8 mo2, .int .u8 dd2, .int .u8 hh2, .int .u8 mi2, .int .u8 se2] 25))
    have OB_4 := Lib.hid (Byt.below OB_3.out ((Below.refl _ _).alloc (Nat.le_refl _) (.cells #[.int .u16 y2, .int .u8 mo2, .int .u8 dd2, .int .u8 hh2, .int .u8 mi2, .int .u8 se2] 25)))
    have OD_4 := Lib.hid (Byt.below OD_3.out ((Below.refl _ _).alloc (Nat.le_refl _) (.cells #[.int .u16 y2, .int .u8 mo2, .int .u8 dd2, .int .u8 hh2, .int .u8 mi2, .int .u8 se2] 25)))
    have R9_4 := Lib.hid (RowAt.new w3 #[.int .u16 y2, .int .u8 mo2, .int .u8 dd2, .int .u8 hh2, .int .u8 mi2, .int .u8 se2] 25 (w3.heap.size) (by first | rfl | simp))
    have R9c0 := R9_4.out.cell 0 (.int .u16 y2) rfl
    have R9c1 := R9_4.out.cell 1 (.int .u8 mo2) rfl
    have R9c2 := R9_4.out.cell 2 (.int .u8 dd2) rfl
    have R9c3 := R9_4.out.cell 3 (.int .u8 hh2) rfl
    have R9c4 := R9_4.out.cell 4 (.int .u8 mi2) rfl
    have R9c5 := R9_4.out.cell 5 (.int .u8 se2) rfl
    have R9z := R9_4.out.lt
    go_wp2_with fail
    refine (HW2.out _ _ _ OB_4.out OD_4.out).mono ?_
    rintro e w5 ⟨x4, c4, rfl, ho, hb⟩
    have HB_5 := Lib.hid (HB_4.out.trans (hb.mono HB_4.out.size))
    have V_5 := Lib.hid (Byt.below V_4.out hb)
    have P_5 := Lib.hid (Byt.below P_4.out hb)
    have Q_5 := Lib.hid (Byt.below Q_4.out hb)
    have RT_5 := Lib.hid (RowAt.below RT_4.out hb)
    have O4_5 := Lib.hid ho.byt
    clear ho
    clear hb R9c0 R9c1 R9c2 R9c3 R9c4 R9c5 R9z
    go_wp2_with fail
    refine (same_form l l true (decide_eq_true rfl) _ _ _ O4_5.out V_5.out).mono ?_
    rintro e w' ⟨rfl, rfl⟩
    go_wp2_with fail
    refine' wp_region_grows (by kernel_rfl) (fun w' => Hid (RowAt w' w.heap.size #[.int .u16 y, .int .u8 mo, .int .u8 dd, .int .u8 hh, .int .u8 mi, .int .u8 se]) ∧ Hid (Below w.heap.size w w') ∧ Hid (Byt w' (.slice xp np cp) b) ∧ Hid (Byt w' (.slice xd nd cd) d)) [isV _, isV _, fun v w' => Byt w' v b, isV _, fun v w' => Byt w' v d, fun v w' => ∃ x c, v = .tuple #[.slice x n c, .int .i64 E] ∧ OwnB w' w.heap.size (.slice x n c) Fw, fun v w' => ∃ x c, v = .tuple #[.slice x n c, .int .i64 E] ∧ OwnB w' w.heap.size (.slice x n c) Fw, fun v w' => ∃ x c, v = .slice x n c ∧ OwnB w' w.heap.size (.slice x n c) Fw, isV (.int .i64 E), fun v w' => ∃ x c, v = .slice x n c ∧ OwnB w' w.heap.size (.slice x n c) Fw, isV (.int .i64 E)] 116 [[], [], [(1, some 74)], [], [(3, some 76)], [(0, some 73), (2, some 75), (4, some 77)], [(5, some 78)], [(6, some 72)], [(6, some 72)], [(7, some 79)], [(8, some 80)]] [(0, some 73), (1, some 74), (2, some 75), (3, some 76), (4, some 77), (5, some 78), (6, some 72), (7, some 79), (8, some 80), (9, some 15), (10, some 12)] rfl (by kernel_rfl) ⟨fun _ _ _ _ h => h, fun _ _ _ _ h => h, fun _ _ _ hg h => Byt.below h hg, fun _ _ _ _ h => h, fun _ _ _ hg h => Byt.below h hg, fun _ _ _ hg ⟨x, c, e, h⟩ => ⟨x, c, e, OwnB.below h hg⟩, fun _ _ _ hg ⟨x, c, e, h⟩ => ⟨x, c, e, OwnB.below h hg⟩, fun _ _ _ hg ⟨x, c, e, h⟩ => ⟨x, c, e, OwnB.below h hg⟩, fun _ _ _ _ h => h, fun _ _ _ hg ⟨x, c, e, h⟩ => ⟨x, c, e, OwnB.below h hg⟩, fun _ _ _ _ h => h, trivial⟩ (fun _ a a' _ e h => by cases a; cases a'; cases e; exact h) ?hS ?hsteps ?hend
    case hS =>
      intro w' hg
      exact ⟨Lib.hid ((RT_5.out.drew).below hg), Lib.hid (HB_5.out.drew.trans (hg.mono HB_5.out.size)), Lib.hid ((P_5.out.below (Below.refl _ _).drew).below hg), Lib.hid ((Q_5.out.below (Below.refl _ _).drew).below hg)⟩
    case hsteps =>
      refine ⟨?_, ?_, ?_, ?_, ?_, ?_, ?_, ?_, ?_, ?_, ?_, trivial⟩
      · -- 0: Op.load 25 t5
        intro w' hs
        simp only [AllV, rgPut]
        obtain ⟨hrow, hbb, hp, hq⟩ := hs
        have r0 := hrow.out.cell 0 (.int .u16 y) rfl
        have r1 := hrow.out.cell 1 (.int .u8 mo) rfl
        have r2 := hrow.out.cell 2 (.int .u8 dd) rfl
        have r3 := hrow.out.cell 3 (.int .u8 hh) rfl
        have r4 := hrow.out.cell 4 (.int .u8 mi) rfl
        have r5 := hrow.out.cell 5 (.int .u8 se) rfl
        have rz := hrow.out.lt
        refine OpOk.run ?_ (fun K hK => ?_)
        · rfl
        go_simp
        refine hK.out _ _ (Grows.refl _) ?_
        exact rfl
      · intro w' hs
        simp only [AllV, rgPut]
        clear hs
        first
          | (refine OpOk.off ?_ ?_ <;> rfl)
          | (refine OpOk.run ?_ (fun K hK => ?_)
             · rfl
             go_simp
             refine hK.out _ _ (Grows.refl _) ?_
             exact rfl)
      · intro w' hs
        simp only [AllV, rdP, isV, forall_eq, rgPut, Act.put, List.setIfInBounds_toArray, List.set_cons_zero, List.set_cons_succ]
        obtain ⟨hrow, hbb, hp, hq⟩ := hs
        first
          | (refine OpOk.off ?_ ?_ <;> rfl)
          | (refine OpOk.run ?_ (fun K hK => ?_)
             · rfl
             go_simp
             go_at_call 8
             refine (twin_calls _ _ _ hp.out (by have := HDB.out; omega)).mono ?_
             rintro e w1 ⟨v1, rfl, ho, hb⟩
             refine hK.out _ _ hb ?_
             exact ho.byt
            )
      · intro w' hs
        simp only [AllV, rgPut]
        clear hs
        first
          | (refine OpOk.off ?_ ?_ <;> rfl)
          | (refine OpOk.run ?_ (fun K hK => ?_)
             · rfl
             go_simp
             refine hK.out _ _ (Grows.refl _) ?_
             exact rfl)
      · intro w' hs
        simp only [AllV, rdP, isV, forall_eq, rgPut, Act.put, List.setIfInBounds_toArray, List.set_cons_zero, List.set_cons_succ]
        obtain ⟨hrow, hbb, hp, hq⟩ := hs
        first
          | (refine OpOk.off ?_ ?_ <;> rfl)
          | (refine OpOk.run ?_ (fun K hK => ?_)
             · rfl
             go_simp
             go_at_call 8
             refine (twin_calls _ _ _ hq.out (by have := HDB.out; omega)).mono ?_
             rintro e w1 ⟨v1, rfl, ho, hb⟩
             refine hK.out _ _ hb ?_
             exact ho.byt
            )
      · -- 5: Op.call { value (Operand.func 12), args := #[t73, t75, t77],
        intro w' hs
        simp only [AllV, rdP, rgPut, Act.put, List.setIfInBounds_toArray, List.set_cons_zero, List.set_cons_succ]
        obtain ⟨hrow, hbb, hp, hq⟩ := hs
        intro v0 e0
        cases e0
        intro v1 h1 v2 h2
        refine OpOk.run ?_ (fun K hK => ?_)
        · rfl
        go_simp
        go_at_call 12
        refine (HWR.out _ _ _ h1 h2).mono ?_
        rintro e w1 ⟨x, c, rfl, ho, hb⟩
        refine hK.out _ _ hb ?_
        exact ⟨x, c, rfl, ho.mono hbb.out.size⟩
      · -- 6: Op.move t78
        intro w' hs
        simp only [AllV, rdP, rgPut, Act.put, List.setIfInBounds_toArray, List.set_cons_zero, List.set_cons_succ]
        intro v hv
        refine OpOk.run ?_ (fun K hK => ?_)
        · rfl
        go_simp
        refine hK.out _ _ (Grows.refl _) ?_
        exact hv
      · -- 7: Op.extract t72 0
        intro w' hs
        simp only [AllV, rdP, rgPut, Act.put, List.setIfInBounds_toArray, List.set_cons_zero, List.set_cons_succ]
        rintro v ⟨x, c, rfl, ho⟩
        refine OpOk.run ?_ (fun K hK => ?_)
        · rfl
        go_simp
        refine hK.out _ _ (Grows.refl _) ?_
        exact ⟨x, c, rfl, ho⟩
      · -- 8: Op.extract t72 1
        intro w' hs
        simp only [AllV, rdP, rgPut, Act.put, List.setIfInBounds_toArray, List.set_cons_zero, List.set_cons_succ]
        rintro v ⟨x, c, rfl, ho⟩
        refine OpOk.run ?_ (fun K hK => ?_)
        · rfl
        go_simp
        refine hK.out _ _ (Grows.refl _) ?_
        exact rfl
      · -- 9: Op.assign t79
        intro w' hs
        simp only [AllV, rdP, rgPut, Act.put, List.setIfInBounds_toArray, List.set_cons_zero, List.set_cons_succ]
        intro v hv
        refine OpOk.run ?_ (fun K hK => ?_)
        · rfl
        go_simp
        refine hK.out _ _ (Grows.refl _) ?_
        exact hv
      · -- 10: Op.assign t80
        intro w' hs
        simp only [AllV, rdP, rgPut, Act.put, List.setIfInBounds_toArray, List.set_cons_zero, List.set_cons_succ]
        intro v hv
        refine OpOk.run ?_ (fun K hK => ?_)
        · rfl
        go_simp
        refine hK.out _ _ (Grows.refl _) ?_
        exact hv
    case hend =>
      intro w' hs
      simp only [AllV, rdP, rgPut, Act.put, List.setIfInBounds_toArray, List.set_cons_zero, List.set_cons_succ]
      intro a0 b0 a1 b1 a2 b2 a3 b3 a4 b4 a5 b5 a6 b6 a7 b7 a8 b8 a9 b9 a10 b10
      clear b0 b1 b2 b3 b4 b5 b6 b7 b8
      obtain ⟨xw, cw, rfl, hw⟩ := b9
      cases b10
      obtain ⟨hrow, hbb, hp, hq⟩ := hs
      have HB_6 := hbb
      have RT_6 := hrow
      have P_6 := hp
      have Q_6 := hq
      have OW_6 := Lib.hid hw
      clear hbb hrow hp hq hw
      cases BB
      · have hz := HRN.out rfl
        obtain ⟨hz1, hz2⟩ := hz
        subst hz1
        subst hz2
        go_wp2_with fail
        refine (works_calls _).mono ?_
        rintro e wz ⟨rfl, hb⟩
        have HBz := Lib.hid (HB_6.out.trans (hb.mono HB_6.out.size))
        clear hb
        go_wp2
        go_ret
        exact ⟨rfl, HBz.out⟩
      · have hz := HRR.out rfl
        obtain ⟨hz1, hz2, hz3⟩ := hz
        subst hz2
        clear hz1 hz3
        have HB1 := HRB.out rfl
        have HB2 := Lib.hid HB1
        clear HB1
        go_wp2_with fail
        refine (HB2.out _ _ OW_6.out.byt).mono ?_
        rintro e w7 ⟨x5, c5, x6, c6, rfl, ho1, ho2, hb⟩
        have HB_7 := Lib.hid (HB_6.out.trans (hb.mono HB_6.out.size))
        have RT_7 := Lib.hid (RowAt.below RT_6.out hb)
        have P_7 := Lib.hid (Byt.below P_6.out hb)
        have Q_7 := Lib.hid (Byt.below Q_6.out hb)
        have OB_7 := Lib.hid ho1.byt
        have OD_7 := Lib.hid ho2.byt
        clear ho1 ho2
        clear hb
        have HB_8 := Lib.hid (HB_7.out.alloc HB_7.out.size (.cells #[.int .u16 y, .int .u8 mo, .int .u8 dd, .int .u8 hh, .int .u8 mi, .int .u8 se] 25))
        have RT_8 := Lib.hid (RowAt.alloc RT_7.out (.cells #[.int .u16 y, .int .u8 mo, .int .u8 dd, .int .u8 hh, .int .u8 mi, .int .u8 se] 25))
        have P_8 := Lib.hid (Byt.below P_7.out ((Below.refl _ _).alloc (Nat.le_refl _) (.cells #[.int .u16 y, .int .u8 mo, .int .u8 dd, .int .u8 hh, .int .u8 mi, .int .u8 se] 25)))
        have Q_8 := Lib.hid (Byt.below Q_7.out ((Below.refl _ _).alloc (Nat.le_refl _) (.cells #[.int .u16 y, .int .u8 mo, .int .u8 dd, .int .u8 hh, .int .u8 mi, .int .u8 se] 25)))
        have OB_8 := Lib.hid (Byt.below OB_7.out ((Below.refl _ _).alloc (Nat.le_refl _) (.cells #[.int .u16 y, .int .u8 mo, .int .u8 dd, .int .u8 hh, .int .u8 mi, .int .u8 se] 25)))
        have OD_8 := Lib.hid (Byt.below OD_7.out ((Below.refl _ _).alloc (Nat.le_refl _) (.cells #[.int .u16 y, .int .u8 mo, .int .u8 dd, .int .u8 hh, .int .u8 mi, .int .u8 se] 25)))
        have RS_8 := Lib.hid (RowAt.new w7 #[.int .u16 y, .int .u8 mo, .int .u8 dd, .int .u8 hh, .int .u8 mi, .int .u8 se] 25 (w7.heap.size) (by first | rfl | simp))
        have RTc0 := RT_8.out.cell 0 (.int .u16 y) rfl
        have RTc1 := RT_8.out.cell 1 (.int .u8 mo) rfl
        have RTc2 := RT_8.out.cell 2 (.int .u8 dd) rfl
        have RTc3 := RT_8.out.cell 3 (.int .u8 hh) rfl
        have RTc4 := RT_8.out.cell 4 (.int .u8 mi) rfl
        have RTc5 := RT_8.out.cell 5 (.int .u8 se) rfl
        have RTz := RT_8.out.lt
        have RSc0 := RS_8.out.cell 0 (.int .u16 y) rfl
        have RSc1 := RS_8.out.cell 1 (.int .u8 mo) rfl
        have RSc2 := RS_8.out.cell 2 (.int .u8 dd) rfl
        have RSc3 := RS_8.out.cell 3 (.int .u8 hh) rfl
        have RSc4 := RS_8.out.cell 4 (.int .u8 mi) rfl
        have RSc5 := RS_8.out.cell 5 (.int .u8 se) rfl
        have RSz := RS_8.out.lt
        have heq := HEQ.out
        go_wp2_with fail
        refine (same_form b b true (decide_eq_true rfl) _ _ _ OB_8.out P_8.out).mono ?_
        rintro e w' ⟨rfl, rfl⟩
        go_wp2_with fail
        refine (same_form d d true (decide_eq_true rfl) _ _ _ OD_8.out Q_8.out).mono ?_
        rintro e w' ⟨rfl, rfl⟩
        go_wp2_with fail
        refine (works_calls _).mono ?_
        rintro e wz ⟨rfl, hb⟩
        have HBz := Lib.hid (HB_8.out.trans (hb.mono HB_8.out.size))
        clear hb RTc0 RTc1 RTc2 RTc3 RTc4 RTc5 RTz RSc0 RSc1 RSc2 RSc3 RSc4 RSc5 RSz heq
        go_wp2
        go_ret
        exact ⟨rfl, HBz.out⟩

theorem descrBack_walk (v : Value) (l : List UInt8) (t : Tm) (p : Value) (b : List UInt8) (q : Value) (d : List UInt8) (w : World) (hv : Byt w v l) (ht : t.Fit) (hp : Byt w p b) (hq : Byt w q d) :
    Calls Try.prog 4 #[v, tmV t, p, q] w fun e w' => e = .returned (.bool true) ∧ Below w.heap.size w w' := by
  by_cases h1 : l.length ≤ 262144
  · by_cases h2 : b.length ≤ 262144
    · by_cases h3 : d.length ≤ 262144
      · exact descrBack_main v p q t l b d w ht hv hp hq h1 h2 h3
      · exact descrBack_big3 v p q t l b d w ht hv hp hq h1 h2 (by omega)
    · exact descrBack_big2 v p q t l b d w ht hv hp hq h1 (by omega)
  · exact descrBack_big1 v p q t l b d w ht hv hp hq (by omega)
end Go.Proofs.Ytemojckmnlgkdaa
