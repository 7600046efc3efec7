/-
  The walk of the law OptionBack.
-/
import Derived.Test.YtbcocblamocobaaOptForms
import Derived.OpenShut
namespace Go.Proofs.Ytbcocblamocobaa
open Go Go.RowKit
set_option linter.unusedVariables false

set_option maxRecDepth 100000 in
set_option maxHeartbeats 4000000 in
theorem optionBack_large (o : Opt) (p d v : Value) (b : List UInt8) (cut : Int) (w : World) (hp : Byt w p o.p) (hd : Byt w d o.d) (hs : o.s.length ≤ 9223372036854775807) (hv : Byt w v b) (hlg : lgB o.s o.d = true) :
    Calls Try.prog 5 #[optV o.a o.s p d, v, .int .i64 cut] w fun e w' => e = .returned (.bool true) ∧ Below w.heap.size w w' := by
  have HP0 := Lib.hid hp
  have HD0 := Lib.hid hd
  obtain ⟨xp, cp, rfl, p1, p2⟩ := hp.shut
  obtain ⟨xd, cd, rfl, d1, d2⟩ := hd.shut
  clear hp hd
  obtain ⟨S, hS⟩ : ∃ S, Hid (S = sOf o.s) := ⟨_, Lib.hid rfl⟩
  obtain ⟨np, hnp⟩ : ∃ n, Hid (n = o.p.length) := ⟨_, Lib.hid rfl⟩
  obtain ⟨nd, hnd⟩ : ∃ n, Hid (n = o.d.length) := ⟨_, Lib.hid rfl⟩
  have HLG := Lib.hid (fun W (h1 : Byt W (.slice xp o.p.length cp) o.p) (h2 : Byt W (.slice xd o.d.length cd) o.d) => large_any o _ _ _ hlg W h1 h2 hs)
  unfold optV at HLG ⊢
  rw [← hS.out, ← hnp.out, ← hnd.out] at HLG ⊢
  rw [← hnp.out] at HP0 p1
  rw [← hnd.out] at HD0 d1
  have HV0 := Lib.hid hv
  obtain ⟨xv, cv, rfl, hv1, hv2⟩ := hv.shut
  clear hv
  obtain ⟨nv, hnv⟩ : ∃ n, Hid (n = b.length) := ⟨_, Lib.hid rfl⟩
  rw [← hnv.out] at HV0 hv1 ⊢
  have HB0 : Hid (Below w.heap.size w (w.alloc (.cells #[.int .u32 (o.a : Int), .string S, .slice xp np cp, .slice xd nd cd] 25))) := Lib.hid ((Below.refl _ _).alloc (Nat.le_refl _) _)
  have R0 := Lib.hid (RowAt.new w #[.int .u32 (o.a : Int), .string S, .slice xp np cp, .slice xd nd cd] 25 w.heap.size rfl)
  have P0 := Lib.hid (HP0.out.below ((Below.refl _ _).alloc (Nat.le_refl _) (.cells #[.int .u32 (o.a : Int), .string S, .slice xp np cp, .slice xd nd cd] 25)))
  have D0 := Lib.hid (HD0.out.below ((Below.refl _ _).alloc (Nat.le_refl _) (.cells #[.int .u32 (o.a : Int), .string S, .slice xp np cp, .slice xd nd cd] 25)))
  have V0 := Lib.hid (HV0.out.below ((Below.refl _ _).alloc (Nat.le_refl _) (.cells #[.int .u32 (o.a : Int), .string S, .slice xp np cp, .slice xd nd cd] 25)))
  go_enter Try.func5, Try.ntmps5
  go_wp2_with fail
  refine (HLG.out _ P0.out D0.out).mono ?_
  rintro e w1 ⟨rfl, hb⟩
  have HB_1 := Lib.hid (HB0.out.trans (hb.mono HB0.out.size))
  have R_1 := Lib.hid (RowAt.below R0.out hb)
  have P_1 := Lib.hid (Byt.below P0.out hb)
  have D_1 := Lib.hid (Byt.below D0.out hb)
  have V_1 := Lib.hid (Byt.below V0.out hb)
  clear hb
  have Rc0 := R_1.out.cell 0 (.int .u32 (o.a : Int)) rfl
  have Rc1 := R_1.out.cell 1 (.string S) rfl
  have Rc2 := R_1.out.cell 2 (.slice xp np cp) rfl
  have Rc3 := R_1.out.cell 3 (.slice xd nd cd) rfl
  have Rz := R_1.out.lt
  go_wp2_with fail
  refine (works_calls _).mono ?_
  rintro e wz ⟨rfl, hb⟩
  have HBz := Lib.hid (HB_1.out.trans (hb.mono HB_1.out.size))
  clear hb Rc0 Rc1 Rc2 Rc3 Rz
  go_wp2
  go_ret
  exact ⟨rfl, HBz.out⟩

set_option maxRecDepth 100000 in
set_option maxHeartbeats 4000000 in
theorem optionBack_path (o : Opt) (p d v : Value) (b : List UInt8) (cut : Int) (w : World) (hp : Byt w p o.p) (hd : Byt w d o.d) (hs : o.s.length ≤ 9223372036854775807) (hv : Byt w v b) (hlg : lgB o.s o.d = false) (hl : 4096 < o.p.length) :
    Calls Try.prog 5 #[optV o.a o.s p d, v, .int .i64 cut] w fun e w' => e = .returned (.bool true) ∧ Below w.heap.size w w' := by
  have HP0 := Lib.hid hp
  have HD0 := Lib.hid hd
  obtain ⟨xp, cp, rfl, p1, p2⟩ := hp.shut
  obtain ⟨xd, cd, rfl, d1, d2⟩ := hd.shut
  clear hp hd
  obtain ⟨S, hS⟩ : ∃ S, Hid (S = sOf o.s) := ⟨_, Lib.hid rfl⟩
  obtain ⟨np, hnp⟩ : ∃ n, Hid (n = o.p.length) := ⟨_, Lib.hid rfl⟩
  obtain ⟨nd, hnd⟩ : ∃ n, Hid (n = o.d.length) := ⟨_, Lib.hid rfl⟩
  have HLG := Lib.hid (fun W (h1 : Byt W (.slice xp o.p.length cp) o.p) (h2 : Byt W (.slice xd o.d.length cd) o.d) => large_any o _ _ _ hlg W h1 h2 hs)
  unfold optV at HLG ⊢
  rw [← hS.out, ← hnp.out, ← hnd.out] at HLG ⊢
  rw [← hnp.out] at HP0 p1
  rw [← hnd.out] at HD0 d1
  have HV0 := Lib.hid hv
  obtain ⟨xv, cv, rfl, hv1, hv2⟩ := hv.shut
  clear hv
  obtain ⟨nv, hnv⟩ : ∃ n, Hid (n = b.length) := ⟨_, Lib.hid rfl⟩
  rw [← hnv.out] at HV0 hv1 ⊢
  have hq : decide ((4096 : Int) < (np : Int)) = true := by have := hnp.out; simp; omega
  clear hl
  have HB0 : Hid (Below w.heap.size w (w.alloc (.cells #[.int .u32 (o.a : Int), .string S, .slice xp np cp, .slice xd nd cd] 25))) := Lib.hid ((Below.refl _ _).alloc (Nat.le_refl _) _)
  have R0 := Lib.hid (RowAt.new w #[.int .u32 (o.a : Int), .string S, .slice xp np cp, .slice xd nd cd] 25 w.heap.size rfl)
  have P0 := Lib.hid (HP0.out.below ((Below.refl _ _).alloc (Nat.le_refl _) (.cells #[.int .u32 (o.a : Int), .string S, .slice xp np cp, .slice xd nd cd] 25)))
  have D0 := Lib.hid (HD0.out.below ((Below.refl _ _).alloc (Nat.le_refl _) (.cells #[.int .u32 (o.a : Int), .string S, .slice xp np cp, .slice xd nd cd] 25)))
  have V0 := Lib.hid (HV0.out.below ((Below.refl _ _).alloc (Nat.le_refl _) (.cells #[.int .u32 (o.a : Int), .string S, .slice xp np cp, .slice xd nd cd] 25)))
  go_enter Try.func5, Try.ntmps5
  go_wp2_with fail
  refine (HLG.out _ P0.out D0.out).mono ?_
  rintro e w1 ⟨rfl, hb⟩
  have HB_1 := Lib.hid (HB0.out.trans (hb.mono HB0.out.size))
  have R_1 := Lib.hid (RowAt.below R0.out hb)
  have P_1 := Lib.hid (Byt.below P0.out hb)
  have D_1 := Lib.hid (Byt.below D0.out hb)
  have V_1 := Lib.hid (Byt.below V0.out hb)
  clear hb
  have Rc0 := R_1.out.cell 0 (.int .u32 (o.a : Int)) rfl
  have Rc1 := R_1.out.cell 1 (.string S) rfl
  have Rc2 := R_1.out.cell 2 (.slice xp np cp) rfl
  have Rc3 := R_1.out.cell 3 (.slice xd nd cd) rfl
  have Rz := R_1.out.lt
  go_wp2_with fail
  refine (works_calls _).mono ?_
  rintro e wz ⟨rfl, hb⟩
  have HBz := Lib.hid (HB_1.out.trans (hb.mono HB_1.out.size))
  clear hb Rc0 Rc1 Rc2 Rc3 Rz
  go_wp2
  go_ret
  exact ⟨rfl, HBz.out⟩

set_option maxRecDepth 100000 in
set_option maxHeartbeats 4000000 in
theorem optionBack_text (o : Opt) (p d v : Value) (b : List UInt8) (cut : Int) (w : World) (hp : Byt w p o.p) (hd : Byt w d o.d) (hs : o.s.length ≤ 9223372036854775807) (hv : Byt w v b) (hlg : lgB o.s o.d = false) (hl : o.p.length ≤ 4096) (hl2 : 4096 < b.length) :
    Calls Try.prog 5 #[optV o.a o.s p d, v, .int .i64 cut] w fun e w' => e = .returned (.bool true) ∧ Below w.heap.size w w' := by
  have HP0 := Lib.hid hp
  have HD0 := Lib.hid hd
  obtain ⟨xp, cp, rfl, p1, p2⟩ := hp.shut
  obtain ⟨xd, cd, rfl, d1, d2⟩ := hd.shut
  clear hp hd
  obtain ⟨S, hS⟩ : ∃ S, Hid (S = sOf o.s) := ⟨_, Lib.hid rfl⟩
  obtain ⟨np, hnp⟩ : ∃ n, Hid (n = o.p.length) := ⟨_, Lib.hid rfl⟩
  obtain ⟨nd, hnd⟩ : ∃ n, Hid (n = o.d.length) := ⟨_, Lib.hid rfl⟩
  have HLG := Lib.hid (fun W (h1 : Byt W (.slice xp o.p.length cp) o.p) (h2 : Byt W (.slice xd o.d.length cd) o.d) => large_any o _ _ _ hlg W h1 h2 hs)
  unfold optV at HLG ⊢
  rw [← hS.out, ← hnp.out, ← hnd.out] at HLG ⊢
  rw [← hnp.out] at HP0 p1
  rw [← hnd.out] at HD0 d1
  have HV0 := Lib.hid hv
  obtain ⟨xv, cv, rfl, hv1, hv2⟩ := hv.shut
  clear hv
  obtain ⟨nv, hnv⟩ : ∃ n, Hid (n = b.length) := ⟨_, Lib.hid rfl⟩
  rw [← hnv.out] at HV0 hv1 ⊢
  have hq : decide ((4096 : Int) < (np : Int)) = false := by have := hnp.out; simp; omega
  have hq2 : decide ((4096 : Int) < (nv : Int)) = true := by have := hnv.out; simp; omega
  clear hl hl2
  have HB0 : Hid (Below w.heap.size w (w.alloc (.cells #[.int .u32 (o.a : Int), .string S, .slice xp np cp, .slice xd nd cd] 25))) := Lib.hid ((Below.refl _ _).alloc (Nat.le_refl _) _)
  have R0 := Lib.hid (RowAt.new w #[.int .u32 (o.a : Int), .string S, .slice xp np cp, .slice xd nd cd] 25 w.heap.size rfl)
  have P0 := Lib.hid (HP0.out.below ((Below.refl _ _).alloc (Nat.le_refl _) (.cells #[.int .u32 (o.a : Int), .string S, .slice xp np cp, .slice xd nd cd] 25)))
  have D0 := Lib.hid (HD0.out.below ((Below.refl _ _).alloc (Nat.le_refl _) (.cells #[.int .u32 (o.a : Int), .string S, .slice xp np cp, .slice xd nd cd] 25)))
  have V0 := Lib.hid (HV0.out.below ((Below.refl _ _).alloc (Nat.le_refl _) (.cells #[.int .u32 (o.a : Int), .string S, .slice xp np cp, .slice xd nd cd] 25)))
  go_enter Try.func5, Try.ntmps5
  go_wp2_with fail
  refine (HLG.out _ P0.out D0.out).mono ?_
  rintro e w1 ⟨rfl, hb⟩
  have HB_1 := Lib.hid (HB0.out.trans (hb.mono HB0.out.size))
  have R_1 := Lib.hid (RowAt.below R0.out hb)
  have P_1 := Lib.hid (Byt.below P0.out hb)
  have D_1 := Lib.hid (Byt.below D0.out hb)
  have V_1 := Lib.hid (Byt.below V0.out hb)
  clear hb
  have Rc0 := R_1.out.cell 0 (.int .u32 (o.a : Int)) rfl
  have Rc1 := R_1.out.cell 1 (.string S) rfl
  have Rc2 := R_1.out.cell 2 (.slice xp np cp) rfl
  have Rc3 := R_1.out.cell 3 (.slice xd nd cd) rfl
  have Rz := R_1.out.lt
  go_wp2_with fail
  refine (works_calls _).mono ?_
  rintro e wz ⟨rfl, hb⟩
  have HBz := Lib.hid (HB_1.out.trans (hb.mono HB_1.out.size))
  clear hb Rc0 Rc1 Rc2 Rc3 Rz
  go_wp2
  go_ret
  exact ⟨rfl, HBz.out⟩

set_option maxRecDepth 100000 in
set_option maxHeartbeats 4000000 in
theorem optionBack_no_none (o : Opt) (p d v : Value) (b : List UInt8) (cut : Int) (w : World) (ha : o.a < 4294967296) (hp : Byt w p o.p) (hd : Byt w d o.d) (hs : o.s.length ≤ 9223372036854775807) (hv : Byt w v b) (hcut : I64 cut) (hlg : lgB o.s o.d = false) (hl : o.p.length ≤ 4096) (hl2 : b.length ≤ 4096) (hw : wrOk o = false) (hb : rdO b = none) :
    Calls Try.prog 5 #[optV o.a o.s p d, v, .int .i64 cut] w fun e w' => e = .returned (.bool true) ∧ Below w.heap.size w w' := by
  have HP0 := Lib.hid hp
  have HD0 := Lib.hid hd
  obtain ⟨xp, cp, rfl, p1, p2⟩ := hp.shut
  obtain ⟨xd, cd, rfl, d1, d2⟩ := hd.shut
  clear hp hd
  obtain ⟨S, hS⟩ : ∃ S, Hid (S = sOf o.s) := ⟨_, Lib.hid rfl⟩
  obtain ⟨np, hnp⟩ : ∃ n, Hid (n = o.p.length) := ⟨_, Lib.hid rfl⟩
  obtain ⟨nd, hnd⟩ : ∃ n, Hid (n = o.d.length) := ⟨_, Lib.hid rfl⟩
  have HLG := Lib.hid (fun W (h1 : Byt W (.slice xp o.p.length cp) o.p) (h2 : Byt W (.slice xd o.d.length cd) o.d) => large_any o _ _ _ hlg W h1 h2 hs)
  unfold optV at HLG ⊢
  rw [← hS.out, ← hnp.out, ← hnd.out] at HLG ⊢
  rw [← hnp.out] at HP0 p1
  rw [← hnd.out] at HD0 d1
  have HV0 := Lib.hid hv
  obtain ⟨xv, cv, rfl, hv1, hv2⟩ := hv.shut
  clear hv
  obtain ⟨nv, hnv⟩ : ∃ n, Hid (n = b.length) := ⟨_, Lib.hid rfl⟩
  rw [← hnv.out] at HV0 hv1 ⊢
  have hq : decide ((4096 : Int) < (np : Int)) = false := by have := hnp.out; simp; omega
  have hq2 : decide ((4096 : Int) < (nv : Int)) = false := by have := hnv.out; simp; omega
  have hlb := lg_no _ _ hlg
  obtain ⟨LW, hLW⟩ : ∃ L, Hid (L = if wrOk o then wrO o else []) := ⟨_, Lib.hid rfl⟩
  have HW := Lib.hid (fun W (h1 : Byt W (.slice xp np cp) o.p) (h2 : Byt W (.slice xd nd cd) o.d) => write_form optWrite_calls o S hS.out _ rfl LW 1 hLW.out (by rw [hw]; rfl) _ _ W ha h1 h2 (by omega) (by omega) (by omega))
  obtain ⟨nw, hnw⟩ : ∃ n, Hid (n = LW.length) := ⟨_, Lib.hid rfl⟩
  rw [← hnw.out] at HW
  have HRB := Lib.hid (fun v W (h : Byt W v b) => read_none_form b hb v W h (by omega))
  clear hlb hl hl2 hw hb
  have HB0 : Hid (Below w.heap.size w (w.alloc (.cells #[.int .u32 (o.a : Int), .string S, .slice xp np cp, .slice xd nd cd] 25))) := Lib.hid ((Below.refl _ _).alloc (Nat.le_refl _) _)
  have R0 := Lib.hid (RowAt.new w #[.int .u32 (o.a : Int), .string S, .slice xp np cp, .slice xd nd cd] 25 w.heap.size rfl)
  have P0 := Lib.hid (HP0.out.below ((Below.refl _ _).alloc (Nat.le_refl _) (.cells #[.int .u32 (o.a : Int), .string S, .slice xp np cp, .slice xd nd cd] 25)))
  have D0 := Lib.hid (HD0.out.below ((Below.refl _ _).alloc (Nat.le_refl _) (.cells #[.int .u32 (o.a : Int), .string S, .slice xp np cp, .slice xd nd cd] 25)))
  have V0 := Lib.hid (HV0.out.below ((Below.refl _ _).alloc (Nat.le_refl _) (.cells #[.int .u32 (o.a : Int), .string S, .slice xp np cp, .slice xd nd cd] 25)))
  go_enter Try.func5, Try.ntmps5
  go_wp2_with fail
  refine (HLG.out _ P0.out D0.out).mono ?_
  rintro e w1 ⟨rfl, hb⟩
  have HB_1 := Lib.hid (HB0.out.trans (hb.mono HB0.out.size))
  have R_1 := Lib.hid (RowAt.below R0.out hb)
  have P_1 := Lib.hid (Byt.below P0.out hb)
  have D_1 := Lib.hid (Byt.below D0.out hb)
  have V_1 := Lib.hid (Byt.below V0.out hb)
  clear hb
  have Rc0 := R_1.out.cell 0 (.int .u32 (o.a : Int)) rfl
  have Rc1 := R_1.out.cell 1 (.string S) rfl
  have Rc2 := R_1.out.cell 2 (.slice xp np cp) rfl
  have Rc3 := R_1.out.cell 3 (.slice xd nd cd) rfl
  have Rz := R_1.out.lt
  go_wp2_with fail
  refine (HW.out _ P_1.out D_1.out).mono ?_
  rintro e w2 ⟨x3, c3, rfl, ho, hb⟩
  have HB_2 := Lib.hid (HB_1.out.trans (hb.mono HB_1.out.size))
  have R_2 := Lib.hid (RowAt.below R_1.out hb)
  have P_2 := Lib.hid (Byt.below P_1.out hb)
  have D_2 := Lib.hid (Byt.below D_1.out hb)
  have V_2 := Lib.hid (Byt.below V_1.out hb)
  have W_2 := Lib.hid (ho.byt)
  clear ho
  clear hb Rc0 Rc1 Rc2 Rc3 Rz
  go_wp2_with fail
  refine (HRB.out _ _ V_2.out).mono ?_
  rintro e w3 ⟨a8, s8, x8, n8, c8, x9, n9, c9, rfl, hb⟩
  have HB_3 := Lib.hid (HB_2.out.trans (hb.mono HB_2.out.size))
  have R_3 := Lib.hid (RowAt.below R_2.out hb)
  have P_3 := Lib.hid (Byt.below P_2.out hb)
  have D_3 := Lib.hid (Byt.below D_2.out hb)
  have V_3 := Lib.hid (Byt.below V_2.out hb)
  clear hb
  have HB_4 := Lib.hid (HB_3.out.alloc HB_3.out.size (.cells #[.int .u32 (a8 : Int), .string s8, .slice x8 n8 c8, .slice x9 n9 c9] 25))
  have R_4 := Lib.hid (RowAt.alloc R_3.out (.cells #[.int .u32 (a8 : Int), .string s8, .slice x8 n8 c8, .slice x9 n9 c9] 25))
  have P_4 := Lib.hid (Byt.below P_3.out ((Below.refl _ _).alloc (Nat.le_refl _) (.cells #[.int .u32 (a8 : Int), .string s8, .slice x8 n8 c8, .slice x9 n9 c9] 25)))
  have D_4 := Lib.hid (Byt.below D_3.out ((Below.refl _ _).alloc (Nat.le_refl _) (.cells #[.int .u32 (a8 : Int), .string s8, .slice x8 n8 c8, .slice x9 n9 c9] 25)))
  have V_4 := Lib.hid (Byt.below V_3.out ((Below.refl _ _).alloc (Nat.le_refl _) (.cells #[.int .u32 (a8 : Int), .string s8, .slice x8 n8 c8, .slice x9 n9 c9] 25)))
  go_wp2_with fail
  refine (works_calls _).mono ?_
  rintro e wz ⟨rfl, hb⟩
  have HBz := Lib.hid (HB_4.out.trans (hb.mono HB_4.out.size))
  clear hb
  go_wp2
  go_ret
  exact ⟨rfl, HBz.out⟩

set_option maxRecDepth 100000 in
set_option maxHeartbeats 4000000 in
theorem optionBack_no_some (o : Opt) (p d v : Value) (b : List UInt8) (cut : Int) (w : World) (ha : o.a < 4294967296) (hp : Byt w p o.p) (hd : Byt w d o.d) (hs : o.s.length ≤ 9223372036854775807) (hv : Byt w v b) (hcut : I64 cut) (hlg : lgB o.s o.d = false) (hl : o.p.length ≤ 4096) (hl2 : b.length ≤ 4096) (hw : wrOk o = false) (q2 : Opt) (hb : rdO b = some q2) :
    Calls Try.prog 5 #[optV o.a o.s p d, v, .int .i64 cut] w fun e w' => e = .returned (.bool true) ∧ Below w.heap.size w w' := by
  have HP0 := Lib.hid hp
  have HD0 := Lib.hid hd
  obtain ⟨xp, cp, rfl, p1, p2⟩ := hp.shut
  obtain ⟨xd, cd, rfl, d1, d2⟩ := hd.shut
  clear hp hd
  obtain ⟨S, hS⟩ : ∃ S, Hid (S = sOf o.s) := ⟨_, Lib.hid rfl⟩
  obtain ⟨np, hnp⟩ : ∃ n, Hid (n = o.p.length) := ⟨_, Lib.hid rfl⟩
  obtain ⟨nd, hnd⟩ : ∃ n, Hid (n = o.d.length) := ⟨_, Lib.hid rfl⟩
  have HLG := Lib.hid (fun W (h1 : Byt W (.slice xp o.p.length cp) o.p) (h2 : Byt W (.slice xd o.d.length cd) o.d) => large_any o _ _ _ hlg W h1 h2 hs)
  unfold optV at HLG ⊢
  rw [← hS.out, ← hnp.out, ← hnd.out] at HLG ⊢
  rw [← hnp.out] at HP0 p1
  rw [← hnd.out] at HD0 d1
  have HV0 := Lib.hid hv
  obtain ⟨xv, cv, rfl, hv1, hv2⟩ := hv.shut
  clear hv
  obtain ⟨nv, hnv⟩ : ∃ n, Hid (n = b.length) := ⟨_, Lib.hid rfl⟩
  rw [← hnv.out] at HV0 hv1 ⊢
  have hq : decide ((4096 : Int) < (np : Int)) = false := by have := hnp.out; simp; omega
  have hq2 : decide ((4096 : Int) < (nv : Int)) = false := by have := hnv.out; simp; omega
  have hlb := lg_no _ _ hlg
  obtain ⟨LW, hLW⟩ : ∃ L, Hid (L = if wrOk o then wrO o else []) := ⟨_, Lib.hid rfl⟩
  have HW := Lib.hid (fun W (h1 : Byt W (.slice xp np cp) o.p) (h2 : Byt W (.slice xd nd cd) o.d) => write_form optWrite_calls o S hS.out _ rfl LW 1 hLW.out (by rw [hw]; rfl) _ _ W ha h1 h2 (by omega) (by omega) (by omega))
  obtain ⟨nw, hnw⟩ : ∃ n, Hid (n = LW.length) := ⟨_, Lib.hid rfl⟩
  rw [← hnw.out] at HW
  obtain ⟨S2, hS2⟩ : ∃ S, Hid (S = sOf q2.s) := ⟨_, Lib.hid rfl⟩
  obtain ⟨n2, hn2⟩ : ∃ n, Hid (n = q2.p.length) := ⟨_, Lib.hid rfl⟩
  obtain ⟨m2, hm2⟩ : ∃ n, Hid (n = q2.d.length) := ⟨_, Lib.hid rfl⟩
  have hwr := wr_rd b q2 hb
  have hbl : 8 + 2 * q2.s.length + q2.p.length + q2.d.length = b.length := by rw [← wrO_length, hwr.2.1]
  have HRB := Lib.hid (fun v W (h : Byt W v b) => read_some_form q2 b hb S2 hS2.out n2 m2 hn2.out hm2.out v W h (by omega))
  have HWB : Hid (∀ x1 c1 x2 c2 W, Byt W (.slice x1 n2 c1) q2.p → Byt W (.slice x2 m2 c2) q2.d → _) := Lib.hid (fun x1 c1 x2 c2 W (h1 : Byt W (.slice x1 n2 c1) q2.p) (h2 : Byt W (.slice x2 m2 c2) q2.d) => write_form optWrite_calls q2 S2 hS2.out true hwr.1 b 0 (by rw [if_pos rfl]; exact hwr.2.1.symm) rfl _ _ W hwr.2.2 h1 h2 (by omega) (by omega) (by omega))
  rw [← hnv.out] at HWB
  clear hwr hbl
  clear hlb hl hl2 hw hb
  have HB0 : Hid (Below w.heap.size w (w.alloc (.cells #[.int .u32 (o.a : Int), .string S, .slice xp np cp, .slice xd nd cd] 25))) := Lib.hid ((Below.refl _ _).alloc (Nat.le_refl _) _)
  have R0 := Lib.hid (RowAt.new w #[.int .u32 (o.a : Int), .string S, .slice xp np cp, .slice xd nd cd] 25 w.heap.size rfl)
  have P0 := Lib.hid (HP0.out.below ((Below.refl _ _).alloc (Nat.le_refl _) (.cells #[.int .u32 (o.a : Int), .string S, .slice xp np cp, .slice xd nd cd] 25)))
  have D0 := Lib.hid (HD0.out.below ((Below.refl _ _).alloc (Nat.le_refl _) (.cells #[.int .u32 (o.a : Int), .string S, .slice xp np cp, .slice xd nd cd] 25)))
  have V0 := Lib.hid (HV0.out.below ((Below.refl _ _).alloc (Nat.le_refl _) (.cells #[.int .u32 (o.a : Int), .string S, .slice xp np cp, .slice xd nd cd] 25)))
  go_enter Try.func5, Try.ntmps5
  go_wp2_with fail
  refine (HLG.out _ P0.out D0.out).mono ?_
  rintro e w1 ⟨rfl, hb⟩
  have HB_1 := Lib.hid (HB0.out.trans (hb.mono HB0.out.size))
  have R_1 := Lib.hid (RowAt.below R0.out hb)
  have P_1 := Lib.hid (Byt.below P0.out hb)
  have D_1 := Lib.hid (Byt.below D0.out hb)
  have V_1 := Lib.hid (Byt.below V0.out hb)
  clear hb
  have Rc0 := R_1.out.cell 0 (.int .u32 (o.a : Int)) rfl
  have Rc1 := R_1.out.cell 1 (.string S) rfl
  have Rc2 := R_1.out.cell 2 (.slice xp np cp) rfl
  have Rc3 := R_1.out.cell 3 (.slice xd nd cd) rfl
  have Rz := R_1.out.lt
  go_wp2_with fail
  refine (HW.out _ P_1.out D_1.out).mono ?_
  rintro e w2 ⟨x3, c3, rfl, ho, hb⟩
  have HB_2 := Lib.hid (HB_1.out.trans (hb.mono HB_1.out.size))
  have R_2 := Lib.hid (RowAt.below R_1.out hb)
  have P_2 := Lib.hid (Byt.below P_1.out hb)
  have D_2 := Lib.hid (Byt.below D_1.out hb)
  have V_2 := Lib.hid (Byt.below V_1.out hb)
  have W_2 := Lib.hid (ho.byt)
  clear ho
  clear hb Rc0 Rc1 Rc2 Rc3 Rz
  go_wp2_with fail
  refine (HRB.out _ _ V_2.out).mono ?_
  rintro e w3 ⟨x8, c8, x9, c9, rfl, ho4, ho5, hb⟩
  have HB_3 := Lib.hid (HB_2.out.trans (hb.mono HB_2.out.size))
  have R_3 := Lib.hid (RowAt.below R_2.out hb)
  have P_3 := Lib.hid (Byt.below P_2.out hb)
  have D_3 := Lib.hid (Byt.below D_2.out hb)
  have V_3 := Lib.hid (Byt.below V_2.out hb)
  have P3_3 := Lib.hid ho4
  have D3_3 := Lib.hid ho5
  clear ho4 ho5
  clear hb
  have HB_4 := Lib.hid (HB_3.out.alloc HB_3.out.size (.cells #[.int .u32 (q2.a : Int), .string S2, .slice x8 n2 c8, .slice x9 m2 c9] 25))
  have R_4 := Lib.hid (RowAt.alloc R_3.out (.cells #[.int .u32 (q2.a : Int), .string S2, .slice x8 n2 c8, .slice x9 m2 c9] 25))
  have P_4 := Lib.hid (Byt.below P_3.out ((Below.refl _ _).alloc (Nat.le_refl _) (.cells #[.int .u32 (q2.a : Int), .string S2, .slice x8 n2 c8, .slice x9 m2 c9] 25)))
  have D_4 := Lib.hid (Byt.below D_3.out ((Below.refl _ _).alloc (Nat.le_refl _) (.cells #[.int .u32 (q2.a : Int), .string S2, .slice x8 n2 c8, .slice x9 m2 c9] 25)))
  have V_4 := Lib.hid (Byt.below V_3.out ((Below.refl _ _).alloc (Nat.le_refl _) (.cells #[.int .u32 (q2.a : Int), .string S2, .slice x8 n2 c8, .slice x9 m2 c9] 25)))
  have P3_4 := Lib.hid (Byt.below P3_3.out ((Below.refl _ _).alloc (Nat.le_refl _) (.cells #[.int .u32 (q2.a : Int), .string S2, .slice x8 n2 c8, .slice x9 m2 c9] 25)))
  have D3_4 := Lib.hid (Byt.below D3_3.out ((Below.refl _ _).alloc (Nat.le_refl _) (.cells #[.int .u32 (q2.a : Int), .string S2, .slice x8 n2 c8, .slice x9 m2 c9] 25)))
  have R3_4 := Lib.hid (RowAt.new w3 #[.int .u32 (q2.a : Int), .string S2, .slice x8 n2 c8, .slice x9 m2 c9] 25 (w3.heap.size) (by first | rfl | simp))
  have R3c0 := R3_4.out.cell 0 (.int .u32 (q2.a : Int)) rfl
  have R3c1 := R3_4.out.cell 1 (.string S2) rfl
  have R3c2 := R3_4.out.cell 2 (.slice x8 n2 c8) rfl
  have R3c3 := R3_4.out.cell 3 (.slice x9 m2 c9) rfl
  have R3z := R3_4.out.lt
  go_wp2_with fail
  refine (HWB.out _ _ _ _ _ P3_4.out D3_4.out).mono ?_
  rintro e w5 ⟨xa, ca, rfl, ho, hb⟩
  have HB_5 := Lib.hid (HB_4.out.trans (hb.mono HB_4.out.size))
  have R_5 := Lib.hid (RowAt.below R_4.out hb)
  have P_5 := Lib.hid (Byt.below P_4.out hb)
  have D_5 := Lib.hid (Byt.below D_4.out hb)
  have V_5 := Lib.hid (Byt.below V_4.out hb)
  have P3_5 := Lib.hid (Byt.below P3_4.out hb)
  have D3_5 := Lib.hid (Byt.below D3_4.out hb)
  have R3_5 := Lib.hid (RowAt.below R3_4.out hb)
  have A_5 := Lib.hid (ho.byt)
  clear ho
  clear hb R3c0 R3c1 R3c2 R3c3 R3z
  have HEQ := Lib.hid (eqBytes_calls _ _ b b _ A_5.out V_5.out)
  rw [decide_eq_true rfl] at HEQ
  go_wp2_with fail
  refine (HEQ.out).mono ?_
  rintro e w' ⟨rfl, rfl⟩
  go_wp2_with fail
  refine (works_calls _).mono ?_
  rintro e wz ⟨rfl, hb⟩
  have HBz := Lib.hid (HB_5.out.trans (hb.mono HB_5.out.size))
  clear hb
  go_wp2
  go_ret
  exact ⟨rfl, HBz.out⟩

set_option maxRecDepth 100000 in
set_option maxHeartbeats 4000000 in
theorem optionBack_low_none (o : Opt) (p d v : Value) (b : List UInt8) (cut : Int) (w : World) (ha : o.a < 4294967296) (hp : Byt w p o.p) (hd : Byt w d o.d) (hs : o.s.length ≤ 9223372036854775807) (hv : Byt w v b) (hcut : I64 cut) (hlg : lgB o.s o.d = false) (hl : o.p.length ≤ 4096) (hl2 : b.length ≤ 4096) (hw : wrOk o = true) (hc : cut < 0) (hb : rdO b = none) :
    Calls Try.prog 5 #[optV o.a o.s p d, v, .int .i64 cut] w fun e w' => e = .returned (.bool true) ∧ Below w.heap.size w w' := by
  have HP0 := Lib.hid hp
  have HD0 := Lib.hid hd
  obtain ⟨xp, cp, rfl, p1, p2⟩ := hp.shut
  obtain ⟨xd, cd, rfl, d1, d2⟩ := hd.shut
  clear hp hd
  obtain ⟨S, hS⟩ : ∃ S, Hid (S = sOf o.s) := ⟨_, Lib.hid rfl⟩
  obtain ⟨np, hnp⟩ : ∃ n, Hid (n = o.p.length) := ⟨_, Lib.hid rfl⟩
  obtain ⟨nd, hnd⟩ : ∃ n, Hid (n = o.d.length) := ⟨_, Lib.hid rfl⟩
  have HLG := Lib.hid (fun W (h1 : Byt W (.slice xp o.p.length cp) o.p) (h2 : Byt W (.slice xd o.d.length cd) o.d) => large_any o _ _ _ hlg W h1 h2 hs)
  unfold optV at HLG ⊢
  rw [← hS.out, ← hnp.out, ← hnd.out] at HLG ⊢
  rw [← hnp.out] at HP0 p1
  rw [← hnd.out] at HD0 d1
  have HV0 := Lib.hid hv
  obtain ⟨xv, cv, rfl, hv1, hv2⟩ := hv.shut
  clear hv
  obtain ⟨nv, hnv⟩ : ∃ n, Hid (n = b.length) := ⟨_, Lib.hid rfl⟩
  rw [← hnv.out] at HV0 hv1 ⊢
  have hq : decide ((4096 : Int) < (np : Int)) = false := by have := hnp.out; simp; omega
  have hq2 : decide ((4096 : Int) < (nv : Int)) = false := by have := hnv.out; simp; omega
  have hlb := lg_no _ _ hlg
  obtain ⟨LW, hLW⟩ : ∃ L, Hid (L = if wrOk o then wrO o else []) := ⟨_, Lib.hid rfl⟩
  have HW := Lib.hid (fun W (h1 : Byt W (.slice xp np cp) o.p) (h2 : Byt W (.slice xd nd cd) o.d) => write_form optWrite_calls o S hS.out _ rfl LW 0 hLW.out (by rw [hw]; rfl) _ _ W ha h1 h2 (by omega) (by omega) (by omega))
  have hLW2 : LW = wrO o := by rw [hLW.out, hw]; rfl
  have hLW3 : LW.length ≤ 1000000000 := by rw [hLW2, wrO_length]; omega
  have HRD := Lib.hid (fun v W (h : Byt W v LW) => read_some_form o LW (by rw [hLW2]; exact rd_wr o ha hw) S hS.out np nd hnp.out hnd.out v W h hLW3)
  have hll : (LW.length : Int) = 8 + 2 * (o.s.length : Int) + (np : Int) + (nd : Int) := by rw [hLW2, wrO_length, hnp.out, hnd.out]; omega
  obtain ⟨nw, hnw⟩ : ∃ n, Hid (n = LW.length) := ⟨_, Lib.hid rfl⟩
  rw [← hnw.out] at HW
  rw [← hnw.out] at hll
  have hnwb : nw ≤ 1000000000 := by rw [hnw.out]; exact hLW3
  have t1 : decide ((0 : Int) ≤ cut) = false := by simp; omega
  have HRB := Lib.hid (fun v W (h : Byt W v b) => read_none_form b hb v W h (by omega))
  clear hlb hl hl2 hw hb hll hLW2 hLW3 hnwb hc
  have HB0 : Hid (Below w.heap.size w (w.alloc (.cells #[.int .u32 (o.a : Int), .string S, .slice xp np cp, .slice xd nd cd] 25))) := Lib.hid ((Below.refl _ _).alloc (Nat.le_refl _) _)
  have R0 := Lib.hid (RowAt.new w #[.int .u32 (o.a : Int), .string S, .slice xp np cp, .slice xd nd cd] 25 w.heap.size rfl)
  have P0 := Lib.hid (HP0.out.below ((Below.refl _ _).alloc (Nat.le_refl _) (.cells #[.int .u32 (o.a : Int), .string S, .slice xp np cp, .slice xd nd cd] 25)))
  have D0 := Lib.hid (HD0.out.below ((Below.refl _ _).alloc (Nat.le_refl _) (.cells #[.int .u32 (o.a : Int), .string S, .slice xp np cp, .slice xd nd cd] 25)))
  have V0 := Lib.hid (HV0.out.below ((Below.refl _ _).alloc (Nat.le_refl _) (.cells #[.int .u32 (o.a : Int), .string S, .slice xp np cp, .slice xd nd cd] 25)))
  go_enter Try.func5, Try.ntmps5
  go_wp2_with fail
  refine (HLG.out _ P0.out D0.out).mono ?_
  rintro e w1 ⟨rfl, hb⟩
  have HB_1 := Lib.hid (HB0.out.trans (hb.mono HB0.out.size))
  have R_1 := Lib.hid (RowAt.below R0.out hb)
  have P_1 := Lib.hid (Byt.below P0.out hb)
  have D_1 := Lib.hid (Byt.below D0.out hb)
  have V_1 := Lib.hid (Byt.below V0.out hb)
  clear hb
  have Rc0 := R_1.out.cell 0 (.int .u32 (o.a : Int)) rfl
  have Rc1 := R_1.out.cell 1 (.string S) rfl
  have Rc2 := R_1.out.cell 2 (.slice xp np cp) rfl
  have Rc3 := R_1.out.cell 3 (.slice xd nd cd) rfl
  have Rz := R_1.out.lt
  go_wp2_with fail
  refine (HW.out _ P_1.out D_1.out).mono ?_
  rintro e w2 ⟨x3, c3, rfl, ho, hb⟩
  have HB_2 := Lib.hid (HB_1.out.trans (hb.mono HB_1.out.size))
  have R_2 := Lib.hid (RowAt.below R_1.out hb)
  have P_2 := Lib.hid (Byt.below P_1.out hb)
  have D_2 := Lib.hid (Byt.below D_1.out hb)
  have V_2 := Lib.hid (Byt.below V_1.out hb)
  have W_2 := Lib.hid (ho.byt)
  clear ho
  clear hb Rc0 Rc1 Rc2 Rc3 Rz
  have Rc0 := R_2.out.cell 0 (.int .u32 (o.a : Int)) rfl
  have Rc1 := R_2.out.cell 1 (.string S) rfl
  have Rc2 := R_2.out.cell 2 (.slice xp np cp) rfl
  have Rc3 := R_2.out.cell 3 (.slice xd nd cd) rfl
  have Rz := R_2.out.lt
  go_wp2_with fail
  refine (HRD.out _ _ W_2.out).mono ?_
  rintro e w3 ⟨x4, c4, x5, c5, rfl, ho4, ho5, hb⟩
  have HB_3 := Lib.hid (HB_2.out.trans (hb.mono HB_2.out.size))
  have R_3 := Lib.hid (RowAt.below R_2.out hb)
  have P_3 := Lib.hid (Byt.below P_2.out hb)
  have D_3 := Lib.hid (Byt.below D_2.out hb)
  have V_3 := Lib.hid (Byt.below V_2.out hb)
  have W_3 := Lib.hid (Byt.below W_2.out hb)
  have P2_3 := Lib.hid ho4
  have D2_3 := Lib.hid ho5
  clear ho4 ho5
  clear hb Rc0 Rc1 Rc2 Rc3 Rz
  have HB_4 := Lib.hid (HB_3.out.alloc HB_3.out.size (.cells #[.int .u32 (o.a : Int), .string S, .slice x4 np c4, .slice x5 nd c5] 25))
  have R_4 := Lib.hid (RowAt.alloc R_3.out (.cells #[.int .u32 (o.a : Int), .string S, .slice x4 np c4, .slice x5 nd c5] 25))
  have P_4 := Lib.hid (Byt.below P_3.out ((Below.refl _ _).alloc (Nat.le_refl _) (.cells #[.int .u32 (o.a : Int), .string S, .slice x4 np c4, .slice x5 nd c5] 25)))
  have D_4 := Lib.hid (Byt.below D_3.out ((Below.refl _ _).alloc (Nat.le_refl _) (.cells #[.int .u32 (o.a : Int), .string S, .slice x4 np c4, .slice x5 nd c5] 25)))
  have V_4 := Lib.hid (Byt.below V_3.out ((Below.refl _ _).alloc (Nat.le_refl _) (.cells #[.int .u32 (o.a : Int), .string S, .slice x4 np c4, .slice x5 nd c5] 25)))
  have W_4 := Lib.hid (Byt.below W_3.out ((Below.refl _ _).alloc (Nat.le_refl _) (.cells #[.int .u32 (o.a : Int), .string S, .slice x4 np c4, .slice x5 nd c5] 25)))
  have P2_4 := Lib.hid (Byt.below P2_3.out ((Below.refl _ _).alloc (Nat.le_refl _) (.cells #[.int .u32 (o.a : Int), .string S, .slice x4 np c4, .slice x5 nd c5] 25)))
  have D2_4 := Lib.hid (Byt.below D2_3.out ((Below.refl _ _).alloc (Nat.le_refl _) (.cells #[.int .u32 (o.a : Int), .string S, .slice x4 np c4, .slice x5 nd c5] 25)))
  have R2_4 := Lib.hid (RowAt.new w3 #[.int .u32 (o.a : Int), .string S, .slice x4 np c4, .slice x5 nd c5] 25 (w3.heap.size) (by first | rfl | simp))
  have Rc0 := R_4.out.cell 0 (.int .u32 (o.a : Int)) rfl
  have Rc1 := R_4.out.cell 1 (.string S) rfl
  have Rc2 := R_4.out.cell 2 (.slice xp np cp) rfl
  have Rc3 := R_4.out.cell 3 (.slice xd nd cd) rfl
  have Rz := R_4.out.lt
  have R2c0 := R2_4.out.cell 0 (.int .u32 (o.a : Int)) rfl
  have R2c1 := R2_4.out.cell 1 (.string S) rfl
  have R2c2 := R2_4.out.cell 2 (.slice x4 np c4) rfl
  have R2c3 := R2_4.out.cell 3 (.slice x5 nd c5) rfl
  have R2z := R2_4.out.lt
  have HS := Lib.hid (same_calls o.a o.s o.p o.d _ _ _ _ _ P_4.out D_4.out P2_4.out D2_4.out)
  unfold optV at HS
  rw [← hS.out] at HS
  go_wp2_with fail
  refine (HS.out).mono ?_
  rintro e w5 ⟨rfl, hb⟩
  have HB_5 := Lib.hid (HB_4.out.trans (hb.mono HB_4.out.size))
  have R_5 := Lib.hid (RowAt.below R_4.out hb)
  have P_5 := Lib.hid (Byt.below P_4.out hb)
  have D_5 := Lib.hid (Byt.below D_4.out hb)
  have V_5 := Lib.hid (Byt.below V_4.out hb)
  have W_5 := Lib.hid (Byt.below W_4.out hb)
  have P2_5 := Lib.hid (Byt.below P2_4.out hb)
  have D2_5 := Lib.hid (Byt.below D2_4.out hb)
  have R2_5 := Lib.hid (RowAt.below R2_4.out hb)
  clear hb Rc0 Rc1 Rc2 Rc3 Rz R2c0 R2c1 R2c2 R2c3 R2z
  clear HS
  have Rc0 := R_5.out.cell 0 (.int .u32 (o.a : Int)) rfl
  have Rc1 := R_5.out.cell 1 (.string S) rfl
  have Rc2 := R_5.out.cell 2 (.slice xp np cp) rfl
  have Rc3 := R_5.out.cell 3 (.slice xd nd cd) rfl
  have Rz := R_5.out.lt
  go_wp2_with fail
  refine (HRB.out _ _ V_5.out).mono ?_
  rintro e w6 ⟨a8, s8, x8, n8, c8, x9, n9, c9, rfl, hb⟩
  have HB_6 := Lib.hid (HB_5.out.trans (hb.mono HB_5.out.size))
  have R_6 := Lib.hid (RowAt.below R_5.out hb)
  have P_6 := Lib.hid (Byt.below P_5.out hb)
  have D_6 := Lib.hid (Byt.below D_5.out hb)
  have V_6 := Lib.hid (Byt.below V_5.out hb)
  clear hb Rc0 Rc1 Rc2 Rc3 Rz
  have HB_7 := Lib.hid (HB_6.out.alloc HB_6.out.size (.cells #[.int .u32 (a8 : Int), .string s8, .slice x8 n8 c8, .slice x9 n9 c9] 25))
  have R_7 := Lib.hid (RowAt.alloc R_6.out (.cells #[.int .u32 (a8 : Int), .string s8, .slice x8 n8 c8, .slice x9 n9 c9] 25))
  have P_7 := Lib.hid (Byt.below P_6.out ((Below.refl _ _).alloc (Nat.le_refl _) (.cells #[.int .u32 (a8 : Int), .string s8, .slice x8 n8 c8, .slice x9 n9 c9] 25)))
  have D_7 := Lib.hid (Byt.below D_6.out ((Below.refl _ _).alloc (Nat.le_refl _) (.cells #[.int .u32 (a8 : Int), .string s8, .slice x8 n8 c8, .slice x9 n9 c9] 25)))
  have V_7 := Lib.hid (Byt.below V_6.out ((Below.refl _ _).alloc (Nat.le_refl _) (.cells #[.int .u32 (a8 : Int), .string s8, .slice x8 n8 c8, .slice x9 n9 c9] 25)))
  go_wp2_with fail
  refine (works_calls _).mono ?_
  rintro e wz ⟨rfl, hb⟩
  have HBz := Lib.hid (HB_7.out.trans (hb.mono HB_7.out.size))
  clear hb
  go_wp2
  go_ret
  exact ⟨rfl, HBz.out⟩

set_option maxRecDepth 100000 in
set_option maxHeartbeats 4000000 in
theorem optionBack_low_some (o : Opt) (p d v : Value) (b : List UInt8) (cut : Int) (w : World) (ha : o.a < 4294967296) (hp : Byt w p o.p) (hd : Byt w d o.d) (hs : o.s.length ≤ 9223372036854775807) (hv : Byt w v b) (hcut : I64 cut) (hlg : lgB o.s o.d = false) (hl : o.p.length ≤ 4096) (hl2 : b.length ≤ 4096) (hw : wrOk o = true) (hc : cut < 0) (q2 : Opt) (hb : rdO b = some q2) :
    Calls Try.prog 5 #[optV o.a o.s p d, v, .int .i64 cut] w fun e w' => e = .returned (.bool true) ∧ Below w.heap.size w w' := by
  have HP0 := Lib.hid hp
  have HD0 := Lib.hid hd
  obtain ⟨xp, cp, rfl, p1, p2⟩ := hp.shut
  obtain ⟨xd, cd, rfl, d1, d2⟩ := hd.shut
  clear hp hd
  obtain ⟨S, hS⟩ : ∃ S, Hid (S = sOf o.s) := ⟨_, Lib.hid rfl⟩
  obtain ⟨np, hnp⟩ : ∃ n, Hid (n = o.p.length) := ⟨_, Lib.hid rfl⟩
  obtain ⟨nd, hnd⟩ : ∃ n, Hid (n = o.d.length) := ⟨_, Lib.hid rfl⟩
  have HLG := Lib.hid (fun W (h1 : Byt W (.slice xp o.p.length cp) o.p) (h2 : Byt W (.slice xd o.d.length cd) o.d) => large_any o _ _ _ hlg W h1 h2 hs)
  unfold optV at HLG ⊢
  rw [← hS.out, ← hnp.out, ← hnd.out] at HLG ⊢
  rw [← hnp.out] at HP0 p1
  rw [← hnd.out] at HD0 d1
  have HV0 := Lib.hid hv
  obtain ⟨xv, cv, rfl, hv1, hv2⟩ := hv.shut
  clear hv
  obtain ⟨nv, hnv⟩ : ∃ n, Hid (n = b.length) := ⟨_, Lib.hid rfl⟩
  rw [← hnv.out] at HV0 hv1 ⊢
  have hq : decide ((4096 : Int) < (np : Int)) = false := by have := hnp.out; simp; omega
  have hq2 : decide ((4096 : Int) < (nv : Int)) = false := by have := hnv.out; simp; omega
  have hlb := lg_no _ _ hlg
  obtain ⟨LW, hLW⟩ : ∃ L, Hid (L = if wrOk o then wrO o else []) := ⟨_, Lib.hid rfl⟩
  have HW := Lib.hid (fun W (h1 : Byt W (.slice xp np cp) o.p) (h2 : Byt W (.slice xd nd cd) o.d) => write_form optWrite_calls o S hS.out _ rfl LW 0 hLW.out (by rw [hw]; rfl) _ _ W ha h1 h2 (by omega) (by omega) (by omega))
  have hLW2 : LW = wrO o := by rw [hLW.out, hw]; rfl
  have hLW3 : LW.length ≤ 1000000000 := by rw [hLW2, wrO_length]; omega
  have HRD := Lib.hid (fun v W (h : Byt W v LW) => read_some_form o LW (by rw [hLW2]; exact rd_wr o ha hw) S hS.out np nd hnp.out hnd.out v W h hLW3)
  have hll : (LW.length : Int) = 8 + 2 * (o.s.length : Int) + (np : Int) + (nd : Int) := by rw [hLW2, wrO_length, hnp.out, hnd.out]; omega
  obtain ⟨nw, hnw⟩ : ∃ n, Hid (n = LW.length) := ⟨_, Lib.hid rfl⟩
  rw [← hnw.out] at HW
  rw [← hnw.out] at hll
  have hnwb : nw ≤ 1000000000 := by rw [hnw.out]; exact hLW3
  have t1 : decide ((0 : Int) ≤ cut) = false := by simp; omega
  obtain ⟨S2, hS2⟩ : ∃ S, Hid (S = sOf q2.s) := ⟨_, Lib.hid rfl⟩
  obtain ⟨n2, hn2⟩ : ∃ n, Hid (n = q2.p.length) := ⟨_, Lib.hid rfl⟩
  obtain ⟨m2, hm2⟩ : ∃ n, Hid (n = q2.d.length) := ⟨_, Lib.hid rfl⟩
  have hwr := wr_rd b q2 hb
  have hbl : 8 + 2 * q2.s.length + q2.p.length + q2.d.length = b.length := by rw [← wrO_length, hwr.2.1]
  have HRB := Lib.hid (fun v W (h : Byt W v b) => read_some_form q2 b hb S2 hS2.out n2 m2 hn2.out hm2.out v W h (by omega))
  have HWB : Hid (∀ x1 c1 x2 c2 W, Byt W (.slice x1 n2 c1) q2.p → Byt W (.slice x2 m2 c2) q2.d → _) := Lib.hid (fun x1 c1 x2 c2 W (h1 : Byt W (.slice x1 n2 c1) q2.p) (h2 : Byt W (.slice x2 m2 c2) q2.d) => write_form optWrite_calls q2 S2 hS2.out true hwr.1 b 0 (by rw [if_pos rfl]; exact hwr.2.1.symm) rfl _ _ W hwr.2.2 h1 h2 (by omega) (by omega) (by omega))
  rw [← hnv.out] at HWB
  clear hwr hbl
  clear hlb hl hl2 hw hb hll hLW2 hLW3 hnwb hc
  have HB0 : Hid (Below w.heap.size w (w.alloc (.cells #[.int .u32 (o.a : Int), .string S, .slice xp np cp, .slice xd nd cd] 25))) := Lib.hid ((Below.refl _ _).alloc (Nat.le_refl _) _)
  have R0 := Lib.hid (RowAt.new w #[.int .u32 (o.a : Int), .string S, .slice xp np cp, .slice xd nd cd] 25 w.heap.size rfl)
  have P0 := Lib.hid (HP0.out.below ((Below.refl _ _).alloc (Nat.le_refl _) (.cells #[.int .u32 (o.a : Int), .string S, .slice xp np cp, .slice xd nd cd] 25)))
  have D0 := Lib.hid (HD0.out.below ((Below.refl _ _).alloc (Nat.le_refl _) (.cells #[.int .u32 (o.a : Int), .string S, .slice xp np cp, .slice xd nd cd] 25)))
  have V0 := Lib.hid (HV0.out.below ((Below.refl _ _).alloc (Nat.le_refl _) (.cells #[.int .u32 (o.a : Int), .string S, .slice xp np cp, .slice xd nd cd] 25)))
  go_enter Try.func5, Try.ntmps5
  go_wp2_with fail
  refine (HLG.out _ P0.out D0.out).mono ?_
  rintro e w1 ⟨rfl, hb⟩
  have HB_1 := Lib.hid (HB0.out.trans (hb.mono HB0.out.size))
  have R_1 := Lib.hid (RowAt.below R0.out hb)
  have P_1 := Lib.hid (Byt.below P0.out hb)
  have D_1 := Lib.hid (Byt.below D0.out hb)
  have V_1 := Lib.hid (Byt.below V0.out hb)
  clear hb
  have Rc0 := R_1.out.cell 0 (.int .u32 (o.a : Int)) rfl
  have Rc1 := R_1.out.cell 1 (.string S) rfl
  have Rc2 := R_1.out.cell 2 (.slice xp np cp) rfl
  have Rc3 := R_1.out.cell 3 (.slice xd nd cd) rfl
  have Rz := R_1.out.lt
  go_wp2_with fail
  refine (HW.out _ P_1.out D_1.out).mono ?_
  rintro e w2 ⟨x3, c3, rfl, ho, hb⟩
  have HB_2 := Lib.hid (HB_1.out.trans (hb.mono HB_1.out.size))
  have R_2 := Lib.hid (RowAt.below R_1.out hb)
  have P_2 := Lib.hid (Byt.below P_1.out hb)
  have D_2 := Lib.hid (Byt.below D_1.out hb)
  have V_2 := Lib.hid (Byt.below V_1.out hb)
  have W_2 := Lib.hid (ho.byt)
  clear ho
  clear hb Rc0 Rc1 Rc2 Rc3 Rz
  have Rc0 := R_2.out.cell 0 (.int .u32 (o.a : Int)) rfl
  have Rc1 := R_2.out.cell 1 (.string S) rfl
  have Rc2 := R_2.out.cell 2 (.slice xp np cp) rfl
  have Rc3 := R_2.out.cell 3 (.slice xd nd cd) rfl
  have Rz := R_2.out.lt
  go_wp2_with fail
  refine (HRD.out _ _ W_2.out).mono ?_
  rintro e w3 ⟨x4, c4, x5, c5, rfl, ho4, ho5, hb⟩
  have HB_3 := Lib.hid (HB_2.out.trans (hb.mono HB_2.out.size))
  have R_3 := Lib.hid (RowAt.below R_2.out hb)
  have P_3 := Lib.hid (Byt.below P_2.out hb)
  have D_3 := Lib.hid (Byt.below D_2.out hb)
  have V_3 := Lib.hid (Byt.below V_2.out hb)
  have W_3 := Lib.hid (Byt.below W_2.out hb)
  have P2_3 := Lib.hid ho4
  have D2_3 := Lib.hid ho5
  clear ho4 ho5
  clear hb Rc0 Rc1 Rc2 Rc3 Rz
  have HB_4 := Lib.hid (HB_3.out.alloc HB_3.out.size (.cells #[.int .u32 (o.a : Int), .string S, .slice x4 np c4, .slice x5 nd c5] 25))
  have R_4 := Lib.hid (RowAt.alloc R_3.out (.cells #[.int .u32 (o.a : Int), .string S, .slice x4 np c4, .slice x5 nd c5] 25))
  have P_4 := Lib.hid (Byt.below P_3.out ((Below.refl _ _).alloc (Nat.le_refl _) (.cells #[.int .u32 (o.a : Int), .string S, .slice x4 np c4, .slice x5 nd c5] 25)))
  have D_4 := Lib.hid (Byt.below D_3.out ((Below.refl _ _).alloc (Nat.le_refl _) (.cells #[.int .u32 (o.a : Int), .string S, .slice x4 np c4, .slice x5 nd c5] 25)))
  have V_4 := Lib.hid (Byt.below V_3.out ((Below.refl _ _).alloc (Nat.le_refl _) (.cells #[.int .u32 (o.a : Int), .string S, .slice x4 np c4, .slice x5 nd c5] 25)))
  have W_4 := Lib.hid (Byt.below W_3.out ((Below.refl _ _).alloc (Nat.le_refl _) (.cells #[.int .u32 (o.a : Int), .string S, .slice x4 np c4, .slice x5 nd c5] 25)))
  have P2_4 := Lib.hid (Byt.below P2_3.out ((Below.refl _ _).alloc (Nat.le_refl _) (.cells #[.int .u32 (o.a : Int), .string S, .slice x4 np c4, .slice x5 nd c5] 25)))
  have D2_4 := Lib.hid (Byt.below D2_3.out ((Below.refl _ _).alloc (Nat.le_refl _) (.cells #[.int .u32 (o.a : Int), .string S, .slice x4 np c4, .slice x5 nd c5] 25)))
  have R2_4 := Lib.hid (RowAt.new w3 #[.int .u32 (o.a : Int), .string S, .slice x4 np c4, .slice x5 nd c5] 25 (w3.heap.size) (by first | rfl | simp))
  have Rc0 := R_4.out.cell 0 (.int .u32 (o.a : Int)) rfl
  have Rc1 := R_4.out.cell 1 (.string S) rfl
  have Rc2 := R_4.out.cell 2 (.slice xp np cp) rfl
  have Rc3 := R_4.out.cell 3 (.slice xd nd cd) rfl
  have Rz := R_4.out.lt
  have R2c0 := R2_4.out.cell 0 (.int .u32 (o.a : Int)) rfl
  have R2c1 := R2_4.out.cell 1 (.string S) rfl
  have R2c2 := R2_4.out.cell 2 (.slice x4 np c4) rfl
  have R2c3 := R2_4.out.cell 3 (.slice x5 nd c5) rfl
  have R2z := R2_4.out.lt
  have HS := Lib.hid (same_calls o.a o.s o.p o.d _ _ _ _ _ P_4.out D_4.out P2_4.out D2_4.out)
  unfold optV at HS
  rw [← hS.out] at HS
  go_wp2_with fail
  refine (HS.out).mono ?_
  rintro e w5 ⟨rfl, hb⟩
  have HB_5 := Lib.hid (HB_4.out.trans (hb.mono HB_4.out.size))
  have R_5 := Lib.hid (RowAt.below R_4.out hb)
  have P_5 := Lib.hid (Byt.below P_4.out hb)
  have D_5 := Lib.hid (Byt.below D_4.out hb)
  have V_5 := Lib.hid (Byt.below V_4.out hb)
  have W_5 := Lib.hid (Byt.below W_4.out hb)
  have P2_5 := Lib.hid (Byt.below P2_4.out hb)
  have D2_5 := Lib.hid (Byt.below D2_4.out hb)
  have R2_5 := Lib.hid (RowAt.below R2_4.out hb)
  clear hb Rc0 Rc1 Rc2 Rc3 Rz R2c0 R2c1 R2c2 R2c3 R2z
  clear HS
  have Rc0 := R_5.out.cell 0 (.int .u32 (o.a : Int)) rfl
  have Rc1 := R_5.out.cell 1 (.string S) rfl
  have Rc2 := R_5.out.cell 2 (.slice xp np cp) rfl
  have Rc3 := R_5.out.cell 3 (.slice xd nd cd) rfl
  have Rz := R_5.out.lt
  go_wp2_with fail
  refine (HRB.out _ _ V_5.out).mono ?_
  rintro e w6 ⟨x8, c8, x9, c9, rfl, ho4, ho5, hb⟩
  have HB_6 := Lib.hid (HB_5.out.trans (hb.mono HB_5.out.size))
  have R_6 := Lib.hid (RowAt.below R_5.out hb)
  have P_6 := Lib.hid (Byt.below P_5.out hb)
  have D_6 := Lib.hid (Byt.below D_5.out hb)
  have V_6 := Lib.hid (Byt.below V_5.out hb)
  have P3_6 := Lib.hid ho4
  have D3_6 := Lib.hid ho5
  clear ho4 ho5
  clear hb Rc0 Rc1 Rc2 Rc3 Rz
  have HB_7 := Lib.hid (HB_6.out.alloc HB_6.out.size (.cells #[.int .u32 (q2.a : Int), .string S2, .slice x8 n2 c8, .slice x9 m2 c9] 25))
  have R_7 := Lib.hid (RowAt.alloc R_6.out (.cells #[.int .u32 (q2.a : Int), .string S2, .slice x8 n2 c8, .slice x9 m2 c9] 25))
  have P_7 := Lib.hid (Byt.below P_6.out ((Below.refl _ _).alloc (Nat.le_refl _) (.cells #[.int .u32 (q2.a : Int), .string S2, .slice x8 n2 c8, .slice x9 m2 c9] 25)))
  have D_7 := Lib.hid (Byt.below D_6.out ((Below.refl _ _).alloc (Nat.le_refl _) (.cells #[.int .u32 (q2.a : Int), .string S2, .slice x8 n2 c8, .slice x9 m2 c9] 25)))
  have V_7 := Lib.hid (Byt.below V_6.out ((Below.refl _ _).alloc (Nat.le_refl _) (.cells #[.int .u32 (q2.a : Int), .string S2, .slice x8 n2 c8, .slice x9 m2 c9] 25)))
  have P3_7 := Lib.hid (Byt.below P3_6.out ((Below.refl _ _).alloc (Nat.le_refl _) (.cells #[.int .u32 (q2.a : Int), .string S2, .slice x8 n2 c8, .slice x9 m2 c9] 25)))
  have D3_7 := Lib.hid (Byt.below D3_6.out ((Below.refl _ _).alloc (Nat.le_refl _) (.cells #[.int .u32 (q2.a : Int), .string S2, .slice x8 n2 c8, .slice x9 m2 c9] 25)))
  have R3_7 := Lib.hid (RowAt.new w6 #[.int .u32 (q2.a : Int), .string S2, .slice x8 n2 c8, .slice x9 m2 c9] 25 (w6.heap.size) (by first | rfl | simp))
  have R3c0 := R3_7.out.cell 0 (.int .u32 (q2.a : Int)) rfl
  have R3c1 := R3_7.out.cell 1 (.string S2) rfl
  have R3c2 := R3_7.out.cell 2 (.slice x8 n2 c8) rfl
  have R3c3 := R3_7.out.cell 3 (.slice x9 m2 c9) rfl
  have R3z := R3_7.out.lt
  go_wp2_with fail
  refine (HWB.out _ _ _ _ _ P3_7.out D3_7.out).mono ?_
  rintro e w8 ⟨xa, ca, rfl, ho, hb⟩
  have HB_8 := Lib.hid (HB_7.out.trans (hb.mono HB_7.out.size))
  have R_8 := Lib.hid (RowAt.below R_7.out hb)
  have P_8 := Lib.hid (Byt.below P_7.out hb)
  have D_8 := Lib.hid (Byt.below D_7.out hb)
  have V_8 := Lib.hid (Byt.below V_7.out hb)
  have P3_8 := Lib.hid (Byt.below P3_7.out hb)
  have D3_8 := Lib.hid (Byt.below D3_7.out hb)
  have R3_8 := Lib.hid (RowAt.below R3_7.out hb)
  have A_8 := Lib.hid (ho.byt)
  clear ho
  clear hb R3c0 R3c1 R3c2 R3c3 R3z
  have HEQ := Lib.hid (eqBytes_calls _ _ b b _ A_8.out V_8.out)
  rw [decide_eq_true rfl] at HEQ
  go_wp2_with fail
  refine (HEQ.out).mono ?_
  rintro e w' ⟨rfl, rfl⟩
  go_wp2_with fail
  refine (works_calls _).mono ?_
  rintro e wz ⟨rfl, hb⟩
  have HBz := Lib.hid (HB_8.out.trans (hb.mono HB_8.out.size))
  clear hb
  go_wp2
  go_ret
  exact ⟨rfl, HBz.out⟩

set_option maxRecDepth 100000 in
set_option maxHeartbeats 4000000 in
theorem optionBack_high_none (o : Opt) (p d v : Value) (b : List UInt8) (cut : Int) (w : World) (ha : o.a < 4294967296) (hp : Byt w p o.p) (hd : Byt w d o.d) (hs : o.s.length ≤ 9223372036854775807) (hv : Byt w v b) (hcut : I64 cut) (hlg : lgB o.s o.d = false) (hl : o.p.length ≤ 4096) (hl2 : b.length ≤ 4096) (hw : wrOk o = true) (h0 : 0 ≤ cut) (hc : ((8 + 2 * o.s.length + o.p.length : Nat) : Int) ≤ cut) (hb : rdO b = none) :
    Calls Try.prog 5 #[optV o.a o.s p d, v, .int .i64 cut] w fun e w' => e = .returned (.bool true) ∧ Below w.heap.size w w' := by
  have HP0 := Lib.hid hp
  have HD0 := Lib.hid hd
  obtain ⟨xp, cp, rfl, p1, p2⟩ := hp.shut
  obtain ⟨xd, cd, rfl, d1, d2⟩ := hd.shut
  clear hp hd
  obtain ⟨S, hS⟩ : ∃ S, Hid (S = sOf o.s) := ⟨_, Lib.hid rfl⟩
  obtain ⟨np, hnp⟩ : ∃ n, Hid (n = o.p.length) := ⟨_, Lib.hid rfl⟩
  obtain ⟨nd, hnd⟩ : ∃ n, Hid (n = o.d.length) := ⟨_, Lib.hid rfl⟩
  have HLG := Lib.hid (fun W (h1 : Byt W (.slice xp o.p.length cp) o.p) (h2 : Byt W (.slice xd o.d.length cd) o.d) => large_any o _ _ _ hlg W h1 h2 hs)
  unfold optV at HLG ⊢
  rw [← hS.out, ← hnp.out, ← hnd.out] at HLG ⊢
  rw [← hnp.out] at HP0 p1
  rw [← hnd.out] at HD0 d1
  have HV0 := Lib.hid hv
  obtain ⟨xv, cv, rfl, hv1, hv2⟩ := hv.shut
  clear hv
  obtain ⟨nv, hnv⟩ : ∃ n, Hid (n = b.length) := ⟨_, Lib.hid rfl⟩
  rw [← hnv.out] at HV0 hv1 ⊢
  have hq : decide ((4096 : Int) < (np : Int)) = false := by have := hnp.out; simp; omega
  have hq2 : decide ((4096 : Int) < (nv : Int)) = false := by have := hnv.out; simp; omega
  have hlb := lg_no _ _ hlg
  obtain ⟨LW, hLW⟩ : ∃ L, Hid (L = if wrOk o then wrO o else []) := ⟨_, Lib.hid rfl⟩
  have HW := Lib.hid (fun W (h1 : Byt W (.slice xp np cp) o.p) (h2 : Byt W (.slice xd nd cd) o.d) => write_form optWrite_calls o S hS.out _ rfl LW 0 hLW.out (by rw [hw]; rfl) _ _ W ha h1 h2 (by omega) (by omega) (by omega))
  have hLW2 : LW = wrO o := by rw [hLW.out, hw]; rfl
  have hLW3 : LW.length ≤ 1000000000 := by rw [hLW2, wrO_length]; omega
  have HRD := Lib.hid (fun v W (h : Byt W v LW) => read_some_form o LW (by rw [hLW2]; exact rd_wr o ha hw) S hS.out np nd hnp.out hnd.out v W h hLW3)
  have hll : (LW.length : Int) = 8 + 2 * (o.s.length : Int) + (np : Int) + (nd : Int) := by rw [hLW2, wrO_length, hnp.out, hnd.out]; omega
  obtain ⟨nw, hnw⟩ : ∃ n, Hid (n = LW.length) := ⟨_, Lib.hid rfl⟩
  rw [← hnw.out] at HW
  rw [← hnw.out] at hll
  have hnwb : nw ≤ 1000000000 := by rw [hnw.out]; exact hLW3
  have t1 : decide ((0 : Int) ≤ cut) = true := by simp; omega
  have t3 : IntKind.i64.wrap ((nw : Int) - (nd : Int)) = (nw : Int) - (nd : Int) := IntWalk.i64_in _ (by omega)
  have t2 : decide (cut < (nw : Int) - (nd : Int)) = false := by have := hnp.out; simp; omega
  have HRB := Lib.hid (fun v W (h : Byt W v b) => read_none_form b hb v W h (by omega))
  clear hlb hl hl2 hw hb hll hLW2 hLW3 hnwb hc h0
  have HB0 : Hid (Below w.heap.size w (w.alloc (.cells #[.int .u32 (o.a : Int), .string S, .slice xp np cp, .slice xd nd cd] 25))) := Lib.hid ((Below.refl _ _).alloc (Nat.le_refl _) _)
  have R0 := Lib.hid (RowAt.new w #[.int .u32 (o.a : Int), .string S, .slice xp np cp, .slice xd nd cd] 25 w.heap.size rfl)
  have P0 := Lib.hid (HP0.out.below ((Below.refl _ _).alloc (Nat.le_refl _) (.cells #[.int .u32 (o.a : Int), .string S, .slice xp np cp, .slice xd nd cd] 25)))
  have D0 := Lib.hid (HD0.out.below ((Below.refl _ _).alloc (Nat.le_refl _) (.cells #[.int .u32 (o.a : Int), .string S, .slice xp np cp, .slice xd nd cd] 25)))
  have V0 := Lib.hid (HV0.out.below ((Below.refl _ _).alloc (Nat.le_refl _) (.cells #[.int .u32 (o.a : Int), .string S, .slice xp np cp, .slice xd nd cd] 25)))
  go_enter Try.func5, Try.ntmps5
  go_wp2_with fail
  refine (HLG.out _ P0.out D0.out).mono ?_
  rintro e w1 ⟨rfl, hb⟩
  have HB_1 := Lib.hid (HB0.out.trans (hb.mono HB0.out.size))
  have R_1 := Lib.hid (RowAt.below R0.out hb)
  have P_1 := Lib.hid (Byt.below P0.out hb)
  have D_1 := Lib.hid (Byt.below D0.out hb)
  have V_1 := Lib.hid (Byt.below V0.out hb)
  clear hb
  have Rc0 := R_1.out.cell 0 (.int .u32 (o.a : Int)) rfl
  have Rc1 := R_1.out.cell 1 (.string S) rfl
  have Rc2 := R_1.out.cell 2 (.slice xp np cp) rfl
  have Rc3 := R_1.out.cell 3 (.slice xd nd cd) rfl
  have Rz := R_1.out.lt
  go_wp2_with fail
  refine (HW.out _ P_1.out D_1.out).mono ?_
  rintro e w2 ⟨x3, c3, rfl, ho, hb⟩
  have HB_2 := Lib.hid (HB_1.out.trans (hb.mono HB_1.out.size))
  have R_2 := Lib.hid (RowAt.below R_1.out hb)
  have P_2 := Lib.hid (Byt.below P_1.out hb)
  have D_2 := Lib.hid (Byt.below D_1.out hb)
  have V_2 := Lib.hid (Byt.below V_1.out hb)
  have W_2 := Lib.hid (ho.byt)
  clear ho
  clear hb Rc0 Rc1 Rc2 Rc3 Rz
  have Rc0 := R_2.out.cell 0 (.int .u32 (o.a : Int)) rfl
  have Rc1 := R_2.out.cell 1 (.string S) rfl
  have Rc2 := R_2.out.cell 2 (.slice xp np cp) rfl
  have Rc3 := R_2.out.cell 3 (.slice xd nd cd) rfl
  have Rz := R_2.out.lt
  go_wp2_with fail
  refine (HRD.out _ _ W_2.out).mono ?_
  rintro e w3 ⟨x4, c4, x5, c5, rfl, ho4, ho5, hb⟩
  have HB_3 := Lib.hid (HB_2.out.trans (hb.mono HB_2.out.size))
  have R_3 := Lib.hid (RowAt.below R_2.out hb)
  have P_3 := Lib.hid (Byt.below P_2.out hb)
  have D_3 := Lib.hid (Byt.below D_2.out hb)
  have V_3 := Lib.hid (Byt.below V_2.out hb)
  have W_3 := Lib.hid (Byt.below W_2.out hb)
  have P2_3 := Lib.hid ho4
  have D2_3 := Lib.hid ho5
  clear ho4 ho5
  clear hb Rc0 Rc1 Rc2 Rc3 Rz
  have HB_4 := Lib.hid (HB_3.out.alloc HB_3.out.size (.cells #[.int .u32 (o.a : Int), .string S, .slice x4 np c4, .slice x5 nd c5] 25))
  have R_4 := Lib.hid (RowAt.alloc R_3.out (.cells #[.int .u32 (o.a : Int), .string S, .slice x4 np c4, .slice x5 nd c5] 25))
  have P_4 := Lib.hid (Byt.below P_3.out ((Below.refl _ _).alloc (Nat.le_refl _) (.cells #[.int .u32 (o.a : Int), .string S, .slice x4 np c4, .slice x5 nd c5] 25)))
  have D_4 := Lib.hid (Byt.below D_3.out ((Below.refl _ _).alloc (Nat.le_refl _) (.cells #[.int .u32 (o.a : Int), .string S, .slice x4 np c4, .slice x5 nd c5] 25)))
  have V_4 := Lib.hid (Byt.below V_3.out ((Below.refl _ _).alloc (Nat.le_refl _) (.cells #[.int .u32 (o.a : Int), .string S, .slice x4 np c4, .slice x5 nd c5] 25)))
  have W_4 := Lib.hid (Byt.below W_3.out ((Below.refl _ _).alloc (Nat.le_refl _) (.cells #[.int .u32 (o.a : Int), .string S, .slice x4 np c4, .slice x5 nd c5] 25)))
  have P2_4 := Lib.hid (Byt.below P2_3.out ((Below.refl _ _).alloc (Nat.le_refl _) (.cells #[.int .u32 (o.a : Int), .string S, .slice x4 np c4, .slice x5 nd c5] 25)))
  have D2_4 := Lib.hid (Byt.below D2_3.out ((Below.refl _ _).alloc (Nat.le_refl _) (.cells #[.int .u32 (o.a : Int), .string S, .slice x4 np c4, .slice x5 nd c5] 25)))
  have R2_4 := Lib.hid (RowAt.new w3 #[.int .u32 (o.a : Int), .string S, .slice x4 np c4, .slice x5 nd c5] 25 (w3.heap.size) (by first | rfl | simp))
  have Rc0 := R_4.out.cell 0 (.int .u32 (o.a : Int)) rfl
  have Rc1 := R_4.out.cell 1 (.string S) rfl
  have Rc2 := R_4.out.cell 2 (.slice xp np cp) rfl
  have Rc3 := R_4.out.cell 3 (.slice xd nd cd) rfl
  have Rz := R_4.out.lt
  have R2c0 := R2_4.out.cell 0 (.int .u32 (o.a : Int)) rfl
  have R2c1 := R2_4.out.cell 1 (.string S) rfl
  have R2c2 := R2_4.out.cell 2 (.slice x4 np c4) rfl
  have R2c3 := R2_4.out.cell 3 (.slice x5 nd c5) rfl
  have R2z := R2_4.out.lt
  have HS := Lib.hid (same_calls o.a o.s o.p o.d _ _ _ _ _ P_4.out D_4.out P2_4.out D2_4.out)
  unfold optV at HS
  rw [← hS.out] at HS
  go_wp2_with fail
  refine (HS.out).mono ?_
  rintro e w5 ⟨rfl, hb⟩
  have HB_5 := Lib.hid (HB_4.out.trans (hb.mono HB_4.out.size))
  have R_5 := Lib.hid (RowAt.below R_4.out hb)
  have P_5 := Lib.hid (Byt.below P_4.out hb)
  have D_5 := Lib.hid (Byt.below D_4.out hb)
  have V_5 := Lib.hid (Byt.below V_4.out hb)
  have W_5 := Lib.hid (Byt.below W_4.out hb)
  have P2_5 := Lib.hid (Byt.below P2_4.out hb)
  have D2_5 := Lib.hid (Byt.below D2_4.out hb)
  have R2_5 := Lib.hid (RowAt.below R2_4.out hb)
  clear hb Rc0 Rc1 Rc2 Rc3 Rz R2c0 R2c1 R2c2 R2c3 R2z
  clear HS
  have Rc0 := R_5.out.cell 0 (.int .u32 (o.a : Int)) rfl
  have Rc1 := R_5.out.cell 1 (.string S) rfl
  have Rc2 := R_5.out.cell 2 (.slice xp np cp) rfl
  have Rc3 := R_5.out.cell 3 (.slice xd nd cd) rfl
  have Rz := R_5.out.lt
  go_wp2_with fail
  refine (HRB.out _ _ V_5.out).mono ?_
  rintro e w6 ⟨a8, s8, x8, n8, c8, x9, n9, c9, rfl, hb⟩
  have HB_6 := Lib.hid (HB_5.out.trans (hb.mono HB_5.out.size))
  have R_6 := Lib.hid (RowAt.below R_5.out hb)
  have P_6 := Lib.hid (Byt.below P_5.out hb)
  have D_6 := Lib.hid (Byt.below D_5.out hb)
  have V_6 := Lib.hid (Byt.below V_5.out hb)
  clear hb Rc0 Rc1 Rc2 Rc3 Rz
  have HB_7 := Lib.hid (HB_6.out.alloc HB_6.out.size (.cells #[.int .u32 (a8 : Int), .string s8, .slice x8 n8 c8, .slice x9 n9 c9] 25))
  have R_7 := Lib.hid (RowAt.alloc R_6.out (.cells #[.int .u32 (a8 : Int), .string s8, .slice x8 n8 c8, .slice x9 n9 c9] 25))
  have P_7 := Lib.hid (Byt.below P_6.out ((Below.refl _ _).alloc (Nat.le_refl _) (.cells #[.int .u32 (a8 : Int), .string s8, .slice x8 n8 c8, .slice x9 n9 c9] 25)))
  have D_7 := Lib.hid (Byt.below D_6.out ((Below.refl _ _).alloc (Nat.le_refl _) (.cells #[.int .u32 (a8 : Int), .string s8, .slice x8 n8 c8, .slice x9 n9 c9] 25)))
  have V_7 := Lib.hid (Byt.below V_6.out ((Below.refl _ _).alloc (Nat.le_refl _) (.cells #[.int .u32 (a8 : Int), .string s8, .slice x8 n8 c8, .slice x9 n9 c9] 25)))
  go_wp2_with fail
  refine (works_calls _).mono ?_
  rintro e wz ⟨rfl, hb⟩
  have HBz := Lib.hid (HB_7.out.trans (hb.mono HB_7.out.size))
  clear hb
  go_wp2
  go_ret
  exact ⟨rfl, HBz.out⟩

set_option maxRecDepth 100000 in
set_option maxHeartbeats 4000000 in
theorem optionBack_high_some (o : Opt) (p d v : Value) (b : List UInt8) (cut : Int) (w : World) (ha : o.a < 4294967296) (hp : Byt w p o.p) (hd : Byt w d o.d) (hs : o.s.length ≤ 9223372036854775807) (hv : Byt w v b) (hcut : I64 cut) (hlg : lgB o.s o.d = false) (hl : o.p.length ≤ 4096) (hl2 : b.length ≤ 4096) (hw : wrOk o = true) (h0 : 0 ≤ cut) (hc : ((8 + 2 * o.s.length + o.p.length : Nat) : Int) ≤ cut) (q2 : Opt) (hb : rdO b = some q2) :
    Calls Try.prog 5 #[optV o.a o.s p d, v, .int .i64 cut] w fun e w' => e = .returned (.bool true) ∧ Below w.heap.size w w' := by
  have HP0 := Lib.hid hp
  have HD0 := Lib.hid hd
  obtain ⟨xp, cp, rfl, p1, p2⟩ := hp.shut
  obtain ⟨xd, cd, rfl, d1, d2⟩ := hd.shut
  clear hp hd
  obtain ⟨S, hS⟩ : ∃ S, Hid (S = sOf o.s) := ⟨_, Lib.hid rfl⟩
  obtain ⟨np, hnp⟩ : ∃ n, Hid (n = o.p.length) := ⟨_, Lib.hid rfl⟩
  obtain ⟨nd, hnd⟩ : ∃ n, Hid (n = o.d.length) := ⟨_, Lib.hid rfl⟩
  have HLG := Lib.hid (fun W (h1 : Byt W (.slice xp o.p.length cp) o.p) (h2 : Byt W (.slice xd o.d.length cd) o.d) => large_any o _ _ _ hlg W h1 h2 hs)
  unfold optV at HLG ⊢
  rw [← hS.out, ← hnp.out, ← hnd.out] at HLG ⊢
  rw [← hnp.out] at HP0 p1
  rw [← hnd.out] at HD0 d1
  have HV0 := Lib.hid hv
  obtain ⟨xv, cv, rfl, hv1, hv2⟩ := hv.shut
  clear hv
  obtain ⟨nv, hnv⟩ : ∃ n, Hid (n = b.length) := ⟨_, Lib.hid rfl⟩
  rw [← hnv.out] at HV0 hv1 ⊢
  have hq : decide ((4096 : Int) < (np : Int)) = false := by have := hnp.out; simp; omega
  have hq2 : decide ((4096 : Int) < (nv : Int)) = false := by have := hnv.out; simp; omega
  have hlb := lg_no _ _ hlg
  obtain ⟨LW, hLW⟩ : ∃ L, Hid (L = if wrOk o then wrO o else []) := ⟨_, Lib.hid rfl⟩
  have HW := Lib.hid (fun W (h1 : Byt W (.slice xp np cp) o.p) (h2 : Byt W (.slice xd nd cd) o.d) => write_form optWrite_calls o S hS.out _ rfl LW 0 hLW.out (by rw [hw]; rfl) _ _ W ha h1 h2 (by omega) (by omega) (by omega))
  have hLW2 : LW = wrO o := by rw [hLW.out, hw]; rfl
  have hLW3 : LW.length ≤ 1000000000 := by rw [hLW2, wrO_length]; omega
  have HRD := Lib.hid (fun v W (h : Byt W v LW) => read_some_form o LW (by rw [hLW2]; exact rd_wr o ha hw) S hS.out np nd hnp.out hnd.out v W h hLW3)
  have hll : (LW.length : Int) = 8 + 2 * (o.s.length : Int) + (np : Int) + (nd : Int) := by rw [hLW2, wrO_length, hnp.out, hnd.out]; omega
  obtain ⟨nw, hnw⟩ : ∃ n, Hid (n = LW.length) := ⟨_, Lib.hid rfl⟩
  rw [← hnw.out] at HW
  rw [← hnw.out] at hll
  have hnwb : nw ≤ 1000000000 := by rw [hnw.out]; exact hLW3
  have t1 : decide ((0 : Int) ≤ cut) = true := by simp; omega
  have t3 : IntKind.i64.wrap ((nw : Int) - (nd : Int)) = (nw : Int) - (nd : Int) := IntWalk.i64_in _ (by omega)
  have t2 : decide (cut < (nw : Int) - (nd : Int)) = false := by have := hnp.out; simp; omega
  obtain ⟨S2, hS2⟩ : ∃ S, Hid (S = sOf q2.s) := ⟨_, Lib.hid rfl⟩
  obtain ⟨n2, hn2⟩ : ∃ n, Hid (n = q2.p.length) := ⟨_, Lib.hid rfl⟩
  obtain ⟨m2, hm2⟩ : ∃ n, Hid (n = q2.d.length) := ⟨_, Lib.hid rfl⟩
  have hwr := wr_rd b q2 hb
  have hbl : 8 + 2 * q2.s.length + q2.p.length + q2.d.length = b.length := by rw [← wrO_length, hwr.2.1]
  have HRB := Lib.hid (fun v W (h : Byt W v b) => read_some_form q2 b hb S2 hS2.out n2 m2 hn2.out hm2.out v W h (by omega))
  have HWB : Hid (∀ x1 c1 x2 c2 W, Byt W (.slice x1 n2 c1) q2.p → Byt W (.slice x2 m2 c2) q2.d → _) := Lib.hid (fun x1 c1 x2 c2 W (h1 : Byt W (.slice x1 n2 c1) q2.p) (h2 : Byt W (.slice x2 m2 c2) q2.d) => write_form optWrite_calls q2 S2 hS2.out true hwr.1 b 0 (by rw [if_pos rfl]; exact hwr.2.1.symm) rfl _ _ W hwr.2.2 h1 h2 (by omega) (by omega) (by omega))
  rw [← hnv.out] at HWB
  clear hwr hbl
  clear hlb hl hl2 hw hb hll hLW2 hLW3 hnwb hc h0
  have HB0 : Hid (Below w.heap.size w (w.alloc (.cells #[.int .u32 (o.a : Int), .string S, .slice xp np cp, .slice xd nd cd] 25))) := Lib.hid ((Below.refl _ _).alloc (Nat.le_refl _) _)
  have R0 := Lib.hid (RowAt.new w #[.int .u32 (o.a : Int), .string S, .slice xp np cp, .slice xd nd cd] 25 w.heap.size rfl)
  have P0 := Lib.hid (HP0.out.below ((Below.refl _ _).alloc (Nat.le_refl _) (.cells #[.int .u32 (o.a : Int), .string S, .slice xp np cp, .slice xd nd cd] 25)))
  have D0 := Lib.hid (HD0.out.below ((Below.refl _ _).alloc (Nat.le_refl _) (.cells #[.int .u32 (o.a : Int), .string S, .slice xp np cp, .slice xd nd cd] 25)))
  have V0 := Lib.hid (HV0.out.below ((Below.refl _ _).alloc (Nat.le_refl _) (.cells #[.int .u32 (o.a : Int), .string S, .slice xp np cp, .slice xd nd cd] 25)))
  go_enter Try.func5, Try.ntmps5
  go_wp2_with fail
  refine (HLG.out _ P0.out D0.out).mono ?_
  rintro e w1 ⟨rfl, hb⟩
  have HB_1 := Lib.hid (HB0.out.trans (hb.mono HB0.out.size))
  have R_1 := Lib.hid (RowAt.below R0.out hb)
  have P_1 := Lib.hid (Byt.below P0.out hb)
  have D_1 := Lib.hid (Byt.below D0.out hb)
  have V_1 := Lib.hid (Byt.below V0.out hb)
  clear hb
  have Rc0 := R_1.out.cell 0 (.int .u32 (o.a : Int)) rfl
  have Rc1 := R_1.out.cell 1 (.string S) rfl
  have Rc2 := R_1.out.cell 2 (.slice xp np cp) rfl
  have Rc3 := R_1.out.cell 3 (.slice xd nd cd) rfl
  have Rz := R_1.out.lt
  go_wp2_with fail
  refine (HW.out _ P_1.out D_1.out).mono ?_
  rintro e w2 ⟨x3, c3, rfl, ho, hb⟩
  have HB_2 := Lib.hid (HB_1.out.trans (hb.mono HB_1.out.size))
  have R_2 := Lib.hid (RowAt.below R_1.out hb)
  have P_2 := Lib.hid (Byt.below P_1.out hb)
  have D_2 := Lib.hid (Byt.below D_1.out hb)
  have V_2 := Lib.hid (Byt.below V_1.out hb)
  have W_2 := Lib.hid (ho.byt)
  clear ho
  clear hb Rc0 Rc1 Rc2 Rc3 Rz
  have Rc0 := R_2.out.cell 0 (.int .u32 (o.a : Int)) rfl
  have Rc1 := R_2.out.cell 1 (.string S) rfl
  have Rc2 := R_2.out.cell 2 (.slice xp np cp) rfl
  have Rc3 := R_2.out.cell 3 (.slice xd nd cd) rfl
  have Rz := R_2.out.lt
  go_wp2_with fail
  refine (HRD.out _ _ W_2.out).mono ?_
  rintro e w3 ⟨x4, c4, x5, c5, rfl, ho4, ho5, hb⟩
  have HB_3 := Lib.hid (HB_2.out.trans (hb.mono HB_2.out.size))
  have R_3 := Lib.hid (RowAt.below R_2.out hb)
  have P_3 := Lib.hid (Byt.below P_2.out hb)
  have D_3 := Lib.hid (Byt.below D_2.out hb)
  have V_3 := Lib.hid (Byt.below V_2.out hb)
  have W_3 := Lib.hid (Byt.below W_2.out hb)
  have P2_3 := Lib.hid ho4
  have D2_3 := Lib.hid ho5
  clear ho4 ho5
  clear hb Rc0 Rc1 Rc2 Rc3 Rz
  have HB_4 := Lib.hid (HB_3.out.alloc HB_3.out.size (.cells #[.int .u32 (o.a : Int), .string S, .slice x4 np c4, .slice x5 nd c5] 25))
  have R_4 := Lib.hid (RowAt.alloc R_3.out (.cells #[.int .u32 (o.a : Int), .string S, .slice x4 np c4, .slice x5 nd c5] 25))
  have P_4 := Lib.hid (Byt.below P_3.out ((Below.refl _ _).alloc (Nat.le_refl _) (.cells #[.int .u32 (o.a : Int), .string S, .slice x4 np c4, .slice x5 nd c5] 25)))
  have D_4 := Lib.hid (Byt.below D_3.out ((Below.refl _ _).alloc (Nat.le_refl _) (.cells #[.int .u32 (o.a : Int), .string S, .slice x4 np c4, .slice x5 nd c5] 25)))
  have V_4 := Lib.hid (Byt.below V_3.out ((Below.refl _ _).alloc (Nat.le_refl _) (.cells #[.int .u32 (o.a : Int), .string S, .slice x4 np c4, .slice x5 nd c5] 25)))
  have W_4 := Lib.hid (Byt.below W_3.out ((Below.refl _ _).alloc (Nat.le_refl _) (.cells #[.int .u32 (o.a : Int), .string S, .slice x4 np c4, .slice x5 nd c5] 25)))
  have P2_4 := Lib.hid (Byt.below P2_3.out ((Below.refl _ _).alloc (Nat.le_refl _) (.cells #[.int .u32 (o.a : Int), .string S, .slice x4 np c4, .slice x5 nd c5] 25)))
  have D2_4 := Lib.hid (Byt.below D2_3.out ((Below.refl _ _).alloc (Nat.le_refl _) (.cells #[.int .u32 (o.a : Int), .string S, .slice x4 np c4, .slice x5 nd c5] 25)))
  have R2_4 := Lib.hid (RowAt.new w3 #[.int .u32 (o.a : Int), .string S, .slice x4 np c4, .slice x5 nd c5] 25 (w3.heap.size) (by first | rfl | simp))
  have Rc0 := R_4.out.cell 0 (.int .u32 (o.a : Int)) rfl
  have Rc1 := R_4.out.cell 1 (.string S) rfl
  have Rc2 := R_4.out.cell 2 (.slice xp np cp) rfl
  have Rc3 := R_4.out.cell 3 (.slice xd nd cd) rfl
  have Rz := R_4.out.lt
  have R2c0 := R2_4.out.cell 0 (.int .u32 (o.a : Int)) rfl
  have R2c1 := R2_4.out.cell 1 (.string S) rfl
  have R2c2 := R2_4.out.cell 2 (.slice x4 np c4) rfl
  have R2c3 := R2_4.out.cell 3 (.slice x5 nd c5) rfl
  have R2z := R2_4.out.lt
  have HS := Lib.hid (same_calls o.a o.s o.p o.d _ _ _ _ _ P_4.out D_4.out P2_4.out D2_4.out)
  unfold optV at HS
  rw [← hS.out] at HS
  go_wp2_with fail
  refine (HS.out).mono ?_
  rintro e w5 ⟨rfl, hb⟩
  have HB_5 := Lib.hid (HB_4.out.trans (hb.mono HB_4.out.size))
  have R_5 := Lib.hid (RowAt.below R_4.out hb)
  have P_5 := Lib.hid (Byt.below P_4.out hb)
  have D_5 := Lib.hid (Byt.below D_4.out hb)
  have V_5 := Lib.hid (Byt.below V_4.out hb)
  have W_5 := Lib.hid (Byt.below W_4.out hb)
  have P2_5 := Lib.hid (Byt.below P2_4.out hb)
  have D2_5 := Lib.hid (Byt.below D2_4.out hb)
  have R2_5 := Lib.hid (RowAt.below R2_4.out hb)
  clear hb Rc0 Rc1 Rc2 Rc3 Rz R2c0 R2c1 R2c2 R2c3 R2z
  clear HS
  have Rc0 := R_5.out.cell 0 (.int .u32 (o.a : Int)) rfl
  have Rc1 := R_5.out.cell 1 (.string S) rfl
  have Rc2 := R_5.out.cell 2 (.slice xp np cp) rfl
  have Rc3 := R_5.out.cell 3 (.slice xd nd cd) rfl
  have Rz := R_5.out.lt
  go_wp2_with fail
  refine (HRB.out _ _ V_5.out).mono ?_
  rintro e w6 ⟨x8, c8, x9, c9, rfl, ho4, ho5, hb⟩
  have HB_6 := Lib.hid (HB_5.out.trans (hb.mono HB_5.out.size))
  have R_6 := Lib.hid (RowAt.below R_5.out hb)
  have P_6 := Lib.hid (Byt.below P_5.out hb)
  have D_6 := Lib.hid (Byt.below D_5.out hb)
  have V_6 := Lib.hid (Byt.below V_5.out hb)
  have P3_6 := Lib.hid ho4
  have D3_6 := Lib.hid ho5
  clear ho4 ho5
  clear hb Rc0 Rc1 Rc2 Rc3 Rz
  have HB_7 := Lib.hid (HB_6.out.alloc HB_6.out.size (.cells #[.int .u32 (q2.a : Int), .string S2, .slice x8 n2 c8, .slice x9 m2 c9] 25))
  have R_7 := Lib.hid (RowAt.alloc R_6.out (.cells #[.int .u32 (q2.a : Int), .string S2, .slice x8 n2 c8, .slice x9 m2 c9] 25))
  have P_7 := Lib.hid (Byt.below P_6.out ((Below.refl _ _).alloc (Nat.le_refl _) (.cells #[.int .u32 (q2.a : Int), .string S2, .slice x8 n2 c8, .slice x9 m2 c9] 25)))
  have D_7 := Lib.hid (Byt.below D_6.out ((Below.refl _ _).alloc (Nat.le_refl _) (.cells #[.int .u32 (q2.a : Int), .string S2, .slice x8 n2 c8, .slice x9 m2 c9] 25)))
  have V_7 := Lib.hid (Byt.below V_6.out ((Below.refl _ _).alloc (Nat.le_refl _) (.cells #[.int .u32 (q2.a : Int), .string S2, .slice x8 n2 c8, .slice x9 m2 c9] 25)))
  have P3_7 := Lib.hid (Byt.below P3_6.out ((Below.refl _ _).alloc (Nat.le_refl _) (.cells #[.int .u32 (q2.a : Int), .string S2, .slice x8 n2 c8, .slice x9 m2 c9] 25)))
  have D3_7 := Lib.hid (Byt.below D3_6.out ((Below.refl _ _).alloc (Nat.le_refl _) (.cells #[.int .u32 (q2.a : Int), .string S2, .slice x8 n2 c8, .slice x9 m2 c9] 25)))
  have R3_7 := Lib.hid (RowAt.new w6 #[.int .u32 (q2.a : Int), .string S2, .slice x8 n2 c8, .slice x9 m2 c9] 25 (w6.heap.size) (by first | rfl | simp))
  have R3c0 := R3_7.out.cell 0 (.int .u32 (q2.a : Int)) rfl
  have R3c1 := R3_7.out.cell 1 (.string S2) rfl
  have R3c2 := R3_7.out.cell 2 (.slice x8 n2 c8) rfl
  have R3c3 := R3_7.out.cell 3 (.slice x9 m2 c9) rfl
  have R3z := R3_7.out.lt
  go_wp2_with fail
  refine (HWB.out _ _ _ _ _ P3_7.out D3_7.out).mono ?_
  rintro e w8 ⟨xa, ca, rfl, ho, hb⟩
  have HB_8 := Lib.hid (HB_7.out.trans (hb.mono HB_7.out.size))
  have R_8 := Lib.hid (RowAt.below R_7.out hb)
  have P_8 := Lib.hid (Byt.below P_7.out hb)
  have D_8 := Lib.hid (Byt.below D_7.out hb)
  have V_8 := Lib.hid (Byt.below V_7.out hb)
  have P3_8 := Lib.hid (Byt.below P3_7.out hb)
  have D3_8 := Lib.hid (Byt.below D3_7.out hb)
  have R3_8 := Lib.hid (RowAt.below R3_7.out hb)
  have A_8 := Lib.hid (ho.byt)
  clear ho
  clear hb R3c0 R3c1 R3c2 R3c3 R3z
  have HEQ := Lib.hid (eqBytes_calls _ _ b b _ A_8.out V_8.out)
  rw [decide_eq_true rfl] at HEQ
  go_wp2_with fail
  refine (HEQ.out).mono ?_
  rintro e w' ⟨rfl, rfl⟩
  go_wp2_with fail
  refine (works_calls _).mono ?_
  rintro e wz ⟨rfl, hb⟩
  have HBz := Lib.hid (HB_8.out.trans (hb.mono HB_8.out.size))
  clear hb
  go_wp2
  go_ret
  exact ⟨rfl, HBz.out⟩

set_option maxRecDepth 100000 in
set_option maxHeartbeats 4000000 in
theorem optionBack_in_none (o : Opt) (p d v : Value) (b : List UInt8) (cut : Int) (w : World) (ha : o.a < 4294967296) (hp : Byt w p o.p) (hd : Byt w d o.d) (hs : o.s.length ≤ 9223372036854775807) (hv : Byt w v b) (hcut : I64 cut) (hlg : lgB o.s o.d = false) (hl : o.p.length ≤ 4096) (hl2 : b.length ≤ 4096) (hw : wrOk o = true) (h0 : 0 ≤ cut) (hc : cut < ((8 + 2 * o.s.length + o.p.length : Nat) : Int)) (hb : rdO b = none) :
    Calls Try.prog 5 #[optV o.a o.s p d, v, .int .i64 cut] w fun e w' => e = .returned (.bool true) ∧ Below w.heap.size w w' := by
  have HP0 := Lib.hid hp
  have HD0 := Lib.hid hd
  obtain ⟨xp, cp, rfl, p1, p2⟩ := hp.shut
  obtain ⟨xd, cd, rfl, d1, d2⟩ := hd.shut
  clear hp hd
  obtain ⟨S, hS⟩ : ∃ S, Hid (S = sOf o.s) := ⟨_, Lib.hid rfl⟩
  obtain ⟨np, hnp⟩ : ∃ n, Hid (n = o.p.length) := ⟨_, Lib.hid rfl⟩
  obtain ⟨nd, hnd⟩ : ∃ n, Hid (n = o.d.length) := ⟨_, Lib.hid rfl⟩
  have HLG := Lib.hid (fun W (h1 : Byt W (.slice xp o.p.length cp) o.p) (h2 : Byt W (.slice xd o.d.length cd) o.d) => large_any o _ _ _ hlg W h1 h2 hs)
  unfold optV at HLG ⊢
  rw [← hS.out, ← hnp.out, ← hnd.out] at HLG ⊢
  rw [← hnp.out] at HP0 p1
  rw [← hnd.out] at HD0 d1
  have HV0 := Lib.hid hv
  obtain ⟨xv, cv, rfl, hv1, hv2⟩ := hv.shut
  clear hv
  obtain ⟨nv, hnv⟩ : ∃ n, Hid (n = b.length) := ⟨_, Lib.hid rfl⟩
  rw [← hnv.out] at HV0 hv1 ⊢
  have hq : decide ((4096 : Int) < (np : Int)) = false := by have := hnp.out; simp; omega
  have hq2 : decide ((4096 : Int) < (nv : Int)) = false := by have := hnv.out; simp; omega
  have hlb := lg_no _ _ hlg
  obtain ⟨LW, hLW⟩ : ∃ L, Hid (L = if wrOk o then wrO o else []) := ⟨_, Lib.hid rfl⟩
  have HW := Lib.hid (fun W (h1 : Byt W (.slice xp np cp) o.p) (h2 : Byt W (.slice xd nd cd) o.d) => write_form optWrite_calls o S hS.out _ rfl LW 0 hLW.out (by rw [hw]; rfl) _ _ W ha h1 h2 (by omega) (by omega) (by omega))
  have hLW2 : LW = wrO o := by rw [hLW.out, hw]; rfl
  have hLW3 : LW.length ≤ 1000000000 := by rw [hLW2, wrO_length]; omega
  have HRD := Lib.hid (fun v W (h : Byt W v LW) => read_some_form o LW (by rw [hLW2]; exact rd_wr o ha hw) S hS.out np nd hnp.out hnd.out v W h hLW3)
  have hll : (LW.length : Int) = 8 + 2 * (o.s.length : Int) + (np : Int) + (nd : Int) := by rw [hLW2, wrO_length, hnp.out, hnd.out]; omega
  obtain ⟨nw, hnw⟩ : ∃ n, Hid (n = LW.length) := ⟨_, Lib.hid rfl⟩
  rw [← hnw.out] at HW
  rw [← hnw.out] at hll
  have hnwb : nw ≤ 1000000000 := by rw [hnw.out]; exact hLW3
  have t1 : decide ((0 : Int) ≤ cut) = true := by simp; omega
  have t3 : IntKind.i64.wrap ((nw : Int) - (nd : Int)) = (nw : Int) - (nd : Int) := IntWalk.i64_in _ (by omega)
  have hcq := hc
  have t2 : decide (cut < (nw : Int) - (nd : Int)) = true := by have := hnp.out; simp; omega
  obtain ⟨q, rfl⟩ : ∃ q : Nat, cut = (q : Int) := ⟨cut.toNat, by omega⟩
  have HRC := Lib.hid (fun v W (h : Byt W v (LW.take q)) => read_none_form (LW.take q) (by rw [hLW2]; exact rd_cut o hw q (by omega)) v W h (by rw [List.length_take]; omega))
  have hqn : q ≤ nw := by have := hnp.out; omega
  clear hcq
  have HRB := Lib.hid (fun v W (h : Byt W v b) => read_none_form b hb v W h (by omega))
  clear hlb hl hl2 hw hb hll hLW2 hLW3 hnwb hc h0
  have HB0 : Hid (Below w.heap.size w (w.alloc (.cells #[.int .u32 (o.a : Int), .string S, .slice xp np cp, .slice xd nd cd] 25))) := Lib.hid ((Below.refl _ _).alloc (Nat.le_refl _) _)
  have R0 := Lib.hid (RowAt.new w #[.int .u32 (o.a : Int), .string S, .slice xp np cp, .slice xd nd cd] 25 w.heap.size rfl)
  have P0 := Lib.hid (HP0.out.below ((Below.refl _ _).alloc (Nat.le_refl _) (.cells #[.int .u32 (o.a : Int), .string S, .slice xp np cp, .slice xd nd cd] 25)))
  have D0 := Lib.hid (HD0.out.below ((Below.refl _ _).alloc (Nat.le_refl _) (.cells #[.int .u32 (o.a : Int), .string S, .slice xp np cp, .slice xd nd cd] 25)))
  have V0 := Lib.hid (HV0.out.below ((Below.refl _ _).alloc (Nat.le_refl _) (.cells #[.int .u32 (o.a : Int), .string S, .slice xp np cp, .slice xd nd cd] 25)))
  go_enter Try.func5, Try.ntmps5
  go_wp2_with fail
  refine (HLG.out _ P0.out D0.out).mono ?_
  rintro e w1 ⟨rfl, hb⟩
  have HB_1 := Lib.hid (HB0.out.trans (hb.mono HB0.out.size))
  have R_1 := Lib.hid (RowAt.below R0.out hb)
  have P_1 := Lib.hid (Byt.below P0.out hb)
  have D_1 := Lib.hid (Byt.below D0.out hb)
  have V_1 := Lib.hid (Byt.below V0.out hb)
  clear hb
  have Rc0 := R_1.out.cell 0 (.int .u32 (o.a : Int)) rfl
  have Rc1 := R_1.out.cell 1 (.string S) rfl
  have Rc2 := R_1.out.cell 2 (.slice xp np cp) rfl
  have Rc3 := R_1.out.cell 3 (.slice xd nd cd) rfl
  have Rz := R_1.out.lt
  go_wp2_with fail
  refine (HW.out _ P_1.out D_1.out).mono ?_
  rintro e w2 ⟨x3, c3, rfl, ho, hb⟩
  have HB_2 := Lib.hid (HB_1.out.trans (hb.mono HB_1.out.size))
  have R_2 := Lib.hid (RowAt.below R_1.out hb)
  have P_2 := Lib.hid (Byt.below P_1.out hb)
  have D_2 := Lib.hid (Byt.below D_1.out hb)
  have V_2 := Lib.hid (Byt.below V_1.out hb)
  have W_2 := Lib.hid (ho.byt)
  clear ho
  clear hb Rc0 Rc1 Rc2 Rc3 Rz
  have Rc0 := R_2.out.cell 0 (.int .u32 (o.a : Int)) rfl
  have Rc1 := R_2.out.cell 1 (.string S) rfl
  have Rc2 := R_2.out.cell 2 (.slice xp np cp) rfl
  have Rc3 := R_2.out.cell 3 (.slice xd nd cd) rfl
  have Rz := R_2.out.lt
  go_wp2_with fail
  refine (HRD.out _ _ W_2.out).mono ?_
  rintro e w3 ⟨x4, c4, x5, c5, rfl, ho4, ho5, hb⟩
  have HB_3 := Lib.hid (HB_2.out.trans (hb.mono HB_2.out.size))
  have R_3 := Lib.hid (RowAt.below R_2.out hb)
  have P_3 := Lib.hid (Byt.below P_2.out hb)
  have D_3 := Lib.hid (Byt.below D_2.out hb)
  have V_3 := Lib.hid (Byt.below V_2.out hb)
  have W_3 := Lib.hid (Byt.below W_2.out hb)
  have P2_3 := Lib.hid ho4
  have D2_3 := Lib.hid ho5
  clear ho4 ho5
  clear hb Rc0 Rc1 Rc2 Rc3 Rz
  have HB_4 := Lib.hid (HB_3.out.alloc HB_3.out.size (.cells #[.int .u32 (o.a : Int), .string S, .slice x4 np c4, .slice x5 nd c5] 25))
  have R_4 := Lib.hid (RowAt.alloc R_3.out (.cells #[.int .u32 (o.a : Int), .string S, .slice x4 np c4, .slice x5 nd c5] 25))
  have P_4 := Lib.hid (Byt.below P_3.out ((Below.refl _ _).alloc (Nat.le_refl _) (.cells #[.int .u32 (o.a : Int), .string S, .slice x4 np c4, .slice x5 nd c5] 25)))
  have D_4 := Lib.hid (Byt.below D_3.out ((Below.refl _ _).alloc (Nat.le_refl _) (.cells #[.int .u32 (o.a : Int), .string S, .slice x4 np c4, .slice x5 nd c5] 25)))
  have V_4 := Lib.hid (Byt.below V_3.out ((Below.refl _ _).alloc (Nat.le_refl _) (.cells #[.int .u32 (o.a : Int), .string S, .slice x4 np c4, .slice x5 nd c5] 25)))
  have W_4 := Lib.hid (Byt.below W_3.out ((Below.refl _ _).alloc (Nat.le_refl _) (.cells #[.int .u32 (o.a : Int), .string S, .slice x4 np c4, .slice x5 nd c5] 25)))
  have P2_4 := Lib.hid (Byt.below P2_3.out ((Below.refl _ _).alloc (Nat.le_refl _) (.cells #[.int .u32 (o.a : Int), .string S, .slice x4 np c4, .slice x5 nd c5] 25)))
  have D2_4 := Lib.hid (Byt.below D2_3.out ((Below.refl _ _).alloc (Nat.le_refl _) (.cells #[.int .u32 (o.a : Int), .string S, .slice x4 np c4, .slice x5 nd c5] 25)))
  have R2_4 := Lib.hid (RowAt.new w3 #[.int .u32 (o.a : Int), .string S, .slice x4 np c4, .slice x5 nd c5] 25 (w3.heap.size) (by first | rfl | simp))
  have Rc0 := R_4.out.cell 0 (.int .u32 (o.a : Int)) rfl
  have Rc1 := R_4.out.cell 1 (.string S) rfl
  have Rc2 := R_4.out.cell 2 (.slice xp np cp) rfl
  have Rc3 := R_4.out.cell 3 (.slice xd nd cd) rfl
  have Rz := R_4.out.lt
  have R2c0 := R2_4.out.cell 0 (.int .u32 (o.a : Int)) rfl
  have R2c1 := R2_4.out.cell 1 (.string S) rfl
  have R2c2 := R2_4.out.cell 2 (.slice x4 np c4) rfl
  have R2c3 := R2_4.out.cell 3 (.slice x5 nd c5) rfl
  have R2z := R2_4.out.lt
  have HS := Lib.hid (same_calls o.a o.s o.p o.d _ _ _ _ _ P_4.out D_4.out P2_4.out D2_4.out)
  unfold optV at HS
  rw [← hS.out] at HS
  go_wp2_with fail
  refine (HS.out).mono ?_
  rintro e w5 ⟨rfl, hb⟩
  have HB_5 := Lib.hid (HB_4.out.trans (hb.mono HB_4.out.size))
  have R_5 := Lib.hid (RowAt.below R_4.out hb)
  have P_5 := Lib.hid (Byt.below P_4.out hb)
  have D_5 := Lib.hid (Byt.below D_4.out hb)
  have V_5 := Lib.hid (Byt.below V_4.out hb)
  have W_5 := Lib.hid (Byt.below W_4.out hb)
  have P2_5 := Lib.hid (Byt.below P2_4.out hb)
  have D2_5 := Lib.hid (Byt.below D2_4.out hb)
  have R2_5 := Lib.hid (RowAt.below R2_4.out hb)
  clear hb Rc0 Rc1 Rc2 Rc3 Rz R2c0 R2c1 R2c2 R2c3 R2z
  clear HS
  have Rc0 := R_5.out.cell 0 (.int .u32 (o.a : Int)) rfl
  have Rc1 := R_5.out.cell 1 (.string S) rfl
  have Rc2 := R_5.out.cell 2 (.slice xp np cp) rfl
  have Rc3 := R_5.out.cell 3 (.slice xd nd cd) rfl
  have Rz := R_5.out.lt
  obtain ⟨hsl, hby⟩ := byt_head W_5.out hnw.out hqn
  have HBY := Lib.hid hby
  clear hby
  go_wp2_with fail
  refine (HRC.out _ _ HBY.out).mono ?_
  rintro e w6 ⟨a6, s6, x6, n6, c6, x7, n7, c7, rfl, hb⟩
  have HB_6 := Lib.hid (HB_5.out.trans (hb.mono HB_5.out.size))
  have R_6 := Lib.hid (RowAt.below R_5.out hb)
  have P_6 := Lib.hid (Byt.below P_5.out hb)
  have D_6 := Lib.hid (Byt.below D_5.out hb)
  have V_6 := Lib.hid (Byt.below V_5.out hb)
  have W_6 := Lib.hid (Byt.below W_5.out hb)
  clear HBY hsl
  clear hb Rc0 Rc1 Rc2 Rc3 Rz
  go_wp2_with fail
  refine (HRB.out _ _ V_6.out).mono ?_
  rintro e w7 ⟨a8, s8, x8, n8, c8, x9, n9, c9, rfl, hb⟩
  have HB_7 := Lib.hid (HB_6.out.trans (hb.mono HB_6.out.size))
  have R_7 := Lib.hid (RowAt.below R_6.out hb)
  have P_7 := Lib.hid (Byt.below P_6.out hb)
  have D_7 := Lib.hid (Byt.below D_6.out hb)
  have V_7 := Lib.hid (Byt.below V_6.out hb)
  clear hb
  have HB_8 := Lib.hid (HB_7.out.alloc HB_7.out.size (.cells #[.int .u32 (a8 : Int), .string s8, .slice x8 n8 c8, .slice x9 n9 c9] 25))
  have R_8 := Lib.hid (RowAt.alloc R_7.out (.cells #[.int .u32 (a8 : Int), .string s8, .slice x8 n8 c8, .slice x9 n9 c9] 25))
  have P_8 := Lib.hid (Byt.below P_7.out ((Below.refl _ _).alloc (Nat.le_refl _) (.cells #[.int .u32 (a8 : Int), .string s8, .slice x8 n8 c8, .slice x9 n9 c9] 25)))
  have D_8 := Lib.hid (Byt.below D_7.out ((Below.refl _ _).alloc (Nat.le_refl _) (.cells #[.int .u32 (a8 : Int), .string s8, .slice x8 n8 c8, .slice x9 n9 c9] 25)))
  have V_8 := Lib.hid (Byt.below V_7.out ((Below.refl _ _).alloc (Nat.le_refl _) (.cells #[.int .u32 (a8 : Int), .string s8, .slice x8 n8 c8, .slice x9 n9 c9] 25)))
  go_wp2_with fail
  refine (works_calls _).mono ?_
  rintro e wz ⟨rfl, hb⟩
  have HBz := Lib.hid (HB_8.out.trans (hb.mono HB_8.out.size))
  clear hb
  go_wp2
  go_ret
  exact ⟨rfl, HBz.out⟩

set_option maxRecDepth 100000 in
set_option maxHeartbeats 4000000 in
theorem optionBack_in_some (o : Opt) (p d v : Value) (b : List UInt8) (cut : Int) (w : World) (ha : o.a < 4294967296) (hp : Byt w p o.p) (hd : Byt w d o.d) (hs : o.s.length ≤ 9223372036854775807) (hv : Byt w v b) (hcut : I64 cut) (hlg : lgB o.s o.d = false) (hl : o.p.length ≤ 4096) (hl2 : b.length ≤ 4096) (hw : wrOk o = true) (h0 : 0 ≤ cut) (hc : cut < ((8 + 2 * o.s.length + o.p.length : Nat) : Int)) (q2 : Opt) (hb : rdO b = some q2) :
    Calls Try.prog 5 #[optV o.a o.s p d, v, .int .i64 cut] w fun e w' => e = .returned (.bool true) ∧ Below w.heap.size w w' := by
  have HP0 := Lib.hid hp
  have HD0 := Lib.hid hd
  obtain ⟨xp, cp, rfl, p1, p2⟩ := hp.shut
  obtain ⟨xd, cd, rfl, d1, d2⟩ := hd.shut
  clear hp hd
  obtain ⟨S, hS⟩ : ∃ S, Hid (S = sOf o.s) := ⟨_, Lib.hid rfl⟩
  obtain ⟨np, hnp⟩ : ∃ n, Hid (n = o.p.length) := ⟨_, Lib.hid rfl⟩
  obtain ⟨nd, hnd⟩ : ∃ n, Hid (n = o.d.length) := ⟨_, Lib.hid rfl⟩
  have HLG := Lib.hid (fun W (h1 : Byt W (.slice xp o.p.length cp) o.p) (h2 : Byt W (.slice xd o.d.length cd) o.d) => large_any o _ _ _ hlg W h1 h2 hs)
  unfold optV at HLG ⊢
  rw [← hS.out, ← hnp.out, ← hnd.out] at HLG ⊢
  rw [← hnp.out] at HP0 p1
  rw [← hnd.out] at HD0 d1
  have HV0 := Lib.hid hv
  obtain ⟨xv, cv, rfl, hv1, hv2⟩ := hv.shut
  clear hv
  obtain ⟨nv, hnv⟩ : ∃ n, Hid (n = b.length) := ⟨_, Lib.hid rfl⟩
  rw [← hnv.out] at HV0 hv1 ⊢
  have hq : decide ((4096 : Int) < (np : Int)) = false := by have := hnp.out; simp; omega
  have hq2 : decide ((4096 : Int) < (nv : Int)) = false := by have := hnv.out; simp; omega
  have hlb := lg_no _ _ hlg
  obtain ⟨LW, hLW⟩ : ∃ L, Hid (L = if wrOk o then wrO o else []) := ⟨_, Lib.hid rfl⟩
  have HW := Lib.hid (fun W (h1 : Byt W (.slice xp np cp) o.p) (h2 : Byt W (.slice xd nd cd) o.d) => write_form optWrite_calls o S hS.out _ rfl LW 0 hLW.out (by rw [hw]; rfl) _ _ W ha h1 h2 (by omega) (by omega) (by omega))
  have hLW2 : LW = wrO o := by rw [hLW.out, hw]; rfl
  have hLW3 : LW.length ≤ 1000000000 := by rw [hLW2, wrO_length]; omega
  have HRD := Lib.hid (fun v W (h : Byt W v LW) => read_some_form o LW (by rw [hLW2]; exact rd_wr o ha hw) S hS.out np nd hnp.out hnd.out v W h hLW3)
  have hll : (LW.length : Int) = 8 + 2 * (o.s.length : Int) + (np : Int) + (nd : Int) := by rw [hLW2, wrO_length, hnp.out, hnd.out]; omega
  obtain ⟨nw, hnw⟩ : ∃ n, Hid (n = LW.length) := ⟨_, Lib.hid rfl⟩
  rw [← hnw.out] at HW
  rw [← hnw.out] at hll
  have hnwb : nw ≤ 1000000000 := by rw [hnw.out]; exact hLW3
  have t1 : decide ((0 : Int) ≤ cut) = true := by simp; omega
  have t3 : IntKind.i64.wrap ((nw : Int) - (nd : Int)) = (nw : Int) - (nd : Int) := IntWalk.i64_in _ (by omega)
  have hcq := hc
  have t2 : decide (cut < (nw : Int) - (nd : Int)) = true := by have := hnp.out; simp; omega
  obtain ⟨q, rfl⟩ : ∃ q : Nat, cut = (q : Int) := ⟨cut.toNat, by omega⟩
  have HRC := Lib.hid (fun v W (h : Byt W v (LW.take q)) => read_none_form (LW.take q) (by rw [hLW2]; exact rd_cut o hw q (by omega)) v W h (by rw [List.length_take]; omega))
  have hqn : q ≤ nw := by have := hnp.out; omega
  clear hcq
  obtain ⟨S2, hS2⟩ : ∃ S, Hid (S = sOf q2.s) := ⟨_, Lib.hid rfl⟩
  obtain ⟨n2, hn2⟩ : ∃ n, Hid (n = q2.p.length) := ⟨_, Lib.hid rfl⟩
  obtain ⟨m2, hm2⟩ : ∃ n, Hid (n = q2.d.length) := ⟨_, Lib.hid rfl⟩
  have hwr := wr_rd b q2 hb
  have hbl : 8 + 2 * q2.s.length + q2.p.length + q2.d.length = b.length := by rw [← wrO_length, hwr.2.1]
  have HRB := Lib.hid (fun v W (h : Byt W v b) => read_some_form q2 b hb S2 hS2.out n2 m2 hn2.out hm2.out v W h (by omega))
  have HWB : Hid (∀ x1 c1 x2 c2 W, Byt W (.slice x1 n2 c1) q2.p → Byt W (.slice x2 m2 c2) q2.d → _) := Lib.hid (fun x1 c1 x2 c2 W (h1 : Byt W (.slice x1 n2 c1) q2.p) (h2 : Byt W (.slice x2 m2 c2) q2.d) => write_form optWrite_calls q2 S2 hS2.out true hwr.1 b 0 (by rw [if_pos rfl]; exact hwr.2.1.symm) rfl _ _ W hwr.2.2 h1 h2 (by omega) (by omega) (by omega))
  rw [← hnv.out] at HWB
  clear hwr hbl
  clear hlb hl hl2 hw hb hll hLW2 hLW3 hnwb hc h0
  have HB0 : Hid (Below w.heap.size w (w.alloc (.cells #[.int .u32 (o.a : Int), .string S, .slice xp np cp, .slice xd nd cd] 25))) := Lib.hid ((Below.refl _ _).alloc (Nat.le_refl _) _)
  have R0 := Lib.hid (RowAt.new w #[.int .u32 (o.a : Int), .string S, .slice xp np cp, .slice xd nd cd] 25 w.heap.size rfl)
  have P0 := Lib.hid (HP0.out.below ((Below.refl _ _).alloc (Nat.le_refl _) (.cells #[.int .u32 (o.a : Int), .string S, .slice xp np cp, .slice xd nd cd] 25)))
  have D0 := Lib.hid (HD0.out.below ((Below.refl _ _).alloc (Nat.le_refl _) (.cells #[.int .u32 (o.a : Int), .string S, .slice xp np cp, .slice xd nd cd] 25)))
  have V0 := Lib.hid (HV0.out.below ((Below.refl _ _).alloc (Nat.le_refl _) (.cells #[.int .u32 (o.a : Int), .string S, .slice xp np cp, .slice xd nd cd] 25)))
  go_enter Try.func5, Try.ntmps5
  go_wp2_with fail
  refine (HLG.out _ P0.out D0.out).mono ?_
  rintro e w1 ⟨rfl, hb⟩
  have HB_1 := Lib.hid (HB0.out.trans (hb.mono HB0.out.size))
  have R_1 := Lib.hid (RowAt.below R0.out hb)
  have P_1 := Lib.hid (Byt.below P0.out hb)
  have D_1 := Lib.hid (Byt.below D0.out hb)
  have V_1 := Lib.hid (Byt.below V0.out hb)
  clear hb
  have Rc0 := R_1.out.cell 0 (.int .u32 (o.a : Int)) rfl
  have Rc1 := R_1.out.cell 1 (.string S) rfl
  have Rc2 := R_1.out.cell 2 (.slice xp np cp) rfl
  have Rc3 := R_1.out.cell 3 (.slice xd nd cd) rfl
  have Rz := R_1.out.lt
  go_wp2_with fail
  refine (HW.out _ P_1.out D_1.out).mono ?_
  rintro e w2 ⟨x3, c3, rfl, ho, hb⟩
  have HB_2 := Lib.hid (HB_1.out.trans (hb.mono HB_1.out.size))
  have R_2 := Lib.hid (RowAt.below R_1.out hb)
  have P_2 := Lib.hid (Byt.below P_1.out hb)
  have D_2 := Lib.hid (Byt.below D_1.out hb)
  have V_2 := Lib.hid (Byt.below V_1.out hb)
  have W_2 := Lib.hid (ho.byt)
  clear ho
  clear hb Rc0 Rc1 Rc2 Rc3 Rz
  have Rc0 := R_2.out.cell 0 (.int .u32 (o.a : Int)) rfl
  have Rc1 := R_2.out.cell 1 (.string S) rfl
  have Rc2 := R_2.out.cell 2 (.slice xp np cp) rfl
  have Rc3 := R_2.out.cell 3 (.slice xd nd cd) rfl
  have Rz := R_2.out.lt
  go_wp2_with fail
  refine (HRD.out _ _ W_2.out).mono ?_
  rintro e w3 ⟨x4, c4, x5, c5, rfl, ho4, ho5, hb⟩
  have HB_3 := Lib.hid (HB_2.out.trans (hb.mono HB_2.out.size))
  have R_3 := Lib.hid (RowAt.below R_2.out hb)
  have P_3 := Lib.hid (Byt.below P_2.out hb)
  have D_3 := Lib.hid (Byt.below D_2.out hb)
  have V_3 := Lib.hid (Byt.below V_2.out hb)
  have W_3 := Lib.hid (Byt.below W_2.out hb)
  have P2_3 := Lib.hid ho4
  have D2_3 := Lib.hid ho5
  clear ho4 ho5
  clear hb Rc0 Rc1 Rc2 Rc3 Rz
  have HB_4 := Lib.hid (HB_3.out.alloc HB_3.out.size (.cells #[.int .u32 (o.a : Int), .string S, .slice x4 np c4, .slice x5 nd c5] 25))
  have R_4 := Lib.hid (RowAt.alloc R_3.out (.cells #[.int .u32 (o.a : Int), .string S, .slice x4 np c4, .slice x5 nd c5] 25))
  have P_4 := Lib.hid (Byt.below P_3.out ((Below.refl _ _).alloc (Nat.le_refl _) (.cells #[.int .u32 (o.a : Int), .string S, .slice x4 np c4, .slice x5 nd c5] 25)))
  have D_4 := Lib.hid (Byt.below D_3.out ((Below.refl _ _).alloc (Nat.le_refl _) (.cells #[.int .u32 (o.a : Int), .string S, .slice x4 np c4, .slice x5 nd c5] 25)))
  have V_4 := Lib.hid (Byt.below V_3.out ((Below.refl _ _).alloc (Nat.le_refl _) (.cells #[.int .u32 (o.a : Int), .string S, .slice x4 np c4, .slice x5 nd c5] 25)))
  have W_4 := Lib.hid (Byt.below W_3.out ((Below.refl _ _).alloc (Nat.le_refl _) (.cells #[.int .u32 (o.a : Int), .string S, .slice x4 np c4, .slice x5 nd c5] 25)))
  have P2_4 := Lib.hid (Byt.below P2_3.out ((Below.refl _ _).alloc (Nat.le_refl _) (.cells #[.int .u32 (o.a : Int), .string S, .slice x4 np c4, .slice x5 nd c5] 25)))
  have D2_4 := Lib.hid (Byt.below D2_3.out ((Below.refl _ _).alloc (Nat.le_refl _) (.cells #[.int .u32 (o.a : Int), .string S, .slice x4 np c4, .slice x5 nd c5] 25)))
  have R2_4 := Lib.hid (RowAt.new w3 #[.int .u32 (o.a : Int), .string S, .slice x4 np c4, .slice x5 nd c5] 25 (w3.heap.size) (by first | rfl | simp))
  have Rc0 := R_4.out.cell 0 (.int .u32 (o.a : Int)) rfl
  have Rc1 := R_4.out.cell 1 (.string S) rfl
  have Rc2 := R_4.out.cell 2 (.slice xp np cp) rfl
  have Rc3 := R_4.out.cell 3 (.slice xd nd cd) rfl
  have Rz := R_4.out.lt
  have R2c0 := R2_4.out.cell 0 (.int .u32 (o.a : Int)) rfl
  have R2c1 := R2_4.out.cell 1 (.string S) rfl
  have R2c2 := R2_4.out.cell 2 (.slice x4 np c4) rfl
  have R2c3 := R2_4.out.cell 3 (.slice x5 nd c5) rfl
  have R2z := R2_4.out.lt
  have HS := Lib.hid (same_calls o.a o.s o.p o.d _ _ _ _ _ P_4.out D_4.out P2_4.out D2_4.out)
  unfold optV at HS
  rw [← hS.out] at HS
  go_wp2_with fail
  refine (HS.out).mono ?_
  rintro e w5 ⟨rfl, hb⟩
  have HB_5 := Lib.hid (HB_4.out.trans (hb.mono HB_4.out.size))
  have R_5 := Lib.hid (RowAt.below R_4.out hb)
  have P_5 := Lib.hid (Byt.below P_4.out hb)
  have D_5 := Lib.hid (Byt.below D_4.out hb)
  have V_5 := Lib.hid (Byt.below V_4.out hb)
  have W_5 := Lib.hid (Byt.below W_4.out hb)
  have P2_5 := Lib.hid (Byt.below P2_4.out hb)
  have D2_5 := Lib.hid (Byt.below D2_4.out hb)
  have R2_5 := Lib.hid (RowAt.below R2_4.out hb)
  clear hb Rc0 Rc1 Rc2 Rc3 Rz R2c0 R2c1 R2c2 R2c3 R2z
  clear HS
  have Rc0 := R_5.out.cell 0 (.int .u32 (o.a : Int)) rfl
  have Rc1 := R_5.out.cell 1 (.string S) rfl
  have Rc2 := R_5.out.cell 2 (.slice xp np cp) rfl
  have Rc3 := R_5.out.cell 3 (.slice xd nd cd) rfl
  have Rz := R_5.out.lt
  obtain ⟨hsl, hby⟩ := byt_head W_5.out hnw.out hqn
  have HBY := Lib.hid hby
  clear hby
  go_wp2_with fail
  refine (HRC.out _ _ HBY.out).mono ?_
  rintro e w6 ⟨a6, s6, x6, n6, c6, x7, n7, c7, rfl, hb⟩
  have HB_6 := Lib.hid (HB_5.out.trans (hb.mono HB_5.out.size))
  have R_6 := Lib.hid (RowAt.below R_5.out hb)
  have P_6 := Lib.hid (Byt.below P_5.out hb)
  have D_6 := Lib.hid (Byt.below D_5.out hb)
  have V_6 := Lib.hid (Byt.below V_5.out hb)
  have W_6 := Lib.hid (Byt.below W_5.out hb)
  clear HBY hsl
  clear hb Rc0 Rc1 Rc2 Rc3 Rz
  go_wp2_with fail
  refine (HRB.out _ _ V_6.out).mono ?_
  rintro e w7 ⟨x8, c8, x9, c9, rfl, ho4, ho5, hb⟩
  have HB_7 := Lib.hid (HB_6.out.trans (hb.mono HB_6.out.size))
  have R_7 := Lib.hid (RowAt.below R_6.out hb)
  have P_7 := Lib.hid (Byt.below P_6.out hb)
  have D_7 := Lib.hid (Byt.below D_6.out hb)
  have V_7 := Lib.hid (Byt.below V_6.out hb)
  have P3_7 := Lib.hid ho4
  have D3_7 := Lib.hid ho5
  clear ho4 ho5
  clear hb
  have HB_8 := Lib.hid (HB_7.out.alloc HB_7.out.size (.cells #[.int .u32 (q2.a : Int), .string S2, .slice x8 n2 c8, .slice x9 m2 c9] 25))
  have R_8 := Lib.hid (RowAt.alloc R_7.out (.cells #[.int .u32 (q2.a : Int), .string S2, .slice x8 n2 c8, .slice x9 m2 c9] 25))
  have P_8 := Lib.hid (Byt.below P_7.out ((Below.refl _ _).alloc (Nat.le_refl _) (.cells #[.int .u32 (q2.a : Int), .string S2, .slice x8 n2 c8, .slice x9 m2 c9] 25)))
  have D_8 := Lib.hid (Byt.below D_7.out ((Below.refl _ _).alloc (Nat.le_refl _) (.cells #[.int .u32 (q2.a : Int), .string S2, .slice x8 n2 c8, .slice x9 m2 c9] 25)))
  have V_8 := Lib.hid (Byt.below V_7.out ((Below.refl _ _).alloc (Nat.le_refl _) (.cells #[.int .u32 (q2.a : Int), .string S2, .slice x8 n2 c8, .slice x9 m2 c9] 25)))
  have P3_8 := Lib.hid (Byt.below P3_7.out ((Below.refl _ _).alloc (Nat.le_refl _) (.cells #[.int .u32 (q2.a : Int), .string S2, .slice x8 n2 c8, .slice x9 m2 c9] 25)))
  have D3_8 := Lib.hid (Byt.below D3_7.out ((Below.refl _ _).alloc (Nat.le_refl _) (.cells #[.int .u32 (q2.a : Int), .string S2, .slice x8 n2 c8, .slice x9 m2 c9] 25)))
  have R3_8 := Lib.hid (RowAt.new w7 #[.int .u32 (q2.a : Int), .string S2, .slice x8 n2 c8, .slice x9 m2 c9] 25 (w7.heap.size) (by first | rfl | simp))
  have R3c0 := R3_8.out.cell 0 (.int .u32 (q2.a : Int)) rfl
  have R3c1 := R3_8.out.cell 1 (.string S2) rfl
  have R3c2 := R3_8.out.cell 2 (.slice x8 n2 c8) rfl
  have R3c3 := R3_8.out.cell 3 (.slice x9 m2 c9) rfl
  have R3z := R3_8.out.lt
  go_wp2_with fail
  refine (HWB.out _ _ _ _ _ P3_8.out D3_8.out).mono ?_
  rintro e w9 ⟨xa, ca, rfl, ho, hb⟩
  have HB_9 := Lib.hid (HB_8.out.trans (hb.mono HB_8.out.size))
  have R_9 := Lib.hid (RowAt.below R_8.out hb)
  have P_9 := Lib.hid (Byt.below P_8.out hb)
  have D_9 := Lib.hid (Byt.below D_8.out hb)
  have V_9 := Lib.hid (Byt.below V_8.out hb)
  have P3_9 := Lib.hid (Byt.below P3_8.out hb)
  have D3_9 := Lib.hid (Byt.below D3_8.out hb)
  have R3_9 := Lib.hid (RowAt.below R3_8.out hb)
  have A_9 := Lib.hid (ho.byt)
  clear ho
  clear hb R3c0 R3c1 R3c2 R3c3 R3z
  have HEQ := Lib.hid (eqBytes_calls _ _ b b _ A_9.out V_9.out)
  rw [decide_eq_true rfl] at HEQ
  go_wp2_with fail
  refine (HEQ.out).mono ?_
  rintro e w' ⟨rfl, rfl⟩
  go_wp2_with fail
  refine (works_calls _).mono ?_
  rintro e wz ⟨rfl, hb⟩
  have HBz := Lib.hid (HB_9.out.trans (hb.mono HB_9.out.size))
  clear hb
  go_wp2
  go_ret
  exact ⟨rfl, HBz.out⟩

theorem optionBack_walk (o : Opt) (p d v : Value) (b : List UInt8) (cut : Int) (w : World) (ha : o.a < 4294967296) (hp : Byt w p o.p) (hd : Byt w d o.d) (hs : o.s.length ≤ 9223372036854775807) (hv : Byt w v b) (hcu : (Lit.int .i64 cut).wf = true) :
    Calls Try.prog 5 #[optV o.a o.s p d, v, .int .i64 cut] w fun e w' => e = .returned (.bool true) ∧ Below w.heap.size w w' := by
  have hcut : I64 cut := bounds_i64 hcu
  cases hlg : lgB o.s o.d with
  | true => exact optionBack_large o p d v b cut w hp hd hs hv hlg
  | false =>
    by_cases hl : o.p.length ≤ 4096
    · by_cases hl2 : b.length ≤ 4096
      · cases hw : wrOk o with
        | false =>
          cases hb : rdO b with
          | none => exact optionBack_no_none o p d v b cut w ha hp hd hs hv hcut hlg hl hl2 hw hb
          | some q2 => exact optionBack_no_some o p d v b cut w ha hp hd hs hv hcut hlg hl hl2 hw q2 hb
        | true =>
          by_cases h0 : 0 ≤ cut
          · by_cases hc : ((8 + 2 * o.s.length + o.p.length : Nat) : Int) ≤ cut
            · cases hb : rdO b with
              | none => exact optionBack_high_none o p d v b cut w ha hp hd hs hv hcut hlg hl hl2 hw h0 hc hb
              | some q2 => exact optionBack_high_some o p d v b cut w ha hp hd hs hv hcut hlg hl hl2 hw h0 hc q2 hb
            · cases hb : rdO b with
              | none => exact optionBack_in_none o p d v b cut w ha hp hd hs hv hcut hlg hl hl2 hw h0 (by omega) hb
              | some q2 => exact optionBack_in_some o p d v b cut w ha hp hd hs hv hcut hlg hl hl2 hw h0 (by omega) q2 hb
          · cases hb : rdO b with
            | none => exact optionBack_low_none o p d v b cut w ha hp hd hs hv hcut hlg hl hl2 hw (by omega) hb
            | some q2 => exact optionBack_low_some o p d v b cut w ha hp hd hs hv hcut hlg hl hl2 hw (by omega) q2 hb
      · exact optionBack_text o p d v b cut w hp hd hs hv hlg hl (by omega)
    · exact optionBack_path o p d v b cut w hp hd hs hv hlg (by omega)
end Go.Proofs.Ytbcocblamocobaa
