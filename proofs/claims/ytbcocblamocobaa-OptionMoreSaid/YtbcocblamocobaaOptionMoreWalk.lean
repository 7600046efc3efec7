/-
  The walk of the law OptionMore.
-/
import Derived.Test.YtbcocblamocobaaOptForms
namespace Go.Proofs.Ytbcocblamocobaa
open Go Go.RowKit
set_option linter.unusedVariables false

/-- copied, of an option that is laid open. -/
theorem copied_form (o : Opt) (S : ByteArray) (hS : S = sOf o.s) (n m : Nat) (hn : n = o.p.length) (hm : m = o.d.length) (p d : Value) (w : World) (hp : Byt w p o.p) (hd : Byt w d o.d) (hP : o.p.length ≤ 1000000000) (hD : o.d.length ≤ 1000000000) :
    Calls Try.prog 11 #[.agg #[.int .u32 (o.a : Int), .string S, p, d]] w fun e w' => ∃ x1 c1 x2 c2, e = .returned (.agg #[.int .u32 (o.a : Int), .string S, .slice x1 n c1, .slice x2 m c2]) ∧ OwnB w' w.heap.size (.slice x1 n c1) o.p ∧ OwnB w' w.heap.size (.slice x2 m c2) o.d ∧ (∀ k, ownB (.slice x1 n c1) = some k → ownB (.slice x2 m c2) ≠ some k) ∧ Below w.heap.size w w' := by
  subst hS hn hm
  exact (copied_calls o.a o.s o.p o.d p d w hp hd (by omega) (by omega)).mono fun e w' ⟨p', d', he, h1, h2, h3, hb⟩ => by
    obtain ⟨x1, c1, rfl, _, _⟩ := Own.shape h1
    obtain ⟨x2, c2, rfl, _, _⟩ := Own.shape h2
    exact ⟨x1, c1, x2, c2, he, h1, h2, h3, hb⟩
/-- What an append made lies in no row that stands. -/
theorem not_row {v v0 : Value} {w w' : World} {B k : Nat} {l : List UInt8} (h : OwnB w B v0 l) (hk : w.heap.size = k) (hor : ownB v = ownB v0 ∨ ∃ g, ownB v = some g ∧ w'.heap.size ≤ g) (hlt : k < w'.heap.size) : ownB v ≠ some k := by
  intro e
  rcases hor with h1 | ⟨g, h1, h2⟩
  · rw [h1] at e
    have := (Own.lt h _ e).2
    omega
  · rw [e] at h1
    cases h1
    omega
/-- Same, of two options that are laid open. -/
theorem same_form (a : Nat) (s P D : List UInt8) (S : ByteArray) (hS : S = sOf s) (p d p2 d2 : Value) (w : World) (hp : Byt w p P) (hd : Byt w d D) (hp2 : Byt w p2 P) (hd2 : Byt w d2 D) :
    Calls Try.prog 15 #[.agg #[.int .u32 (a : Int), .string S, p, d], .agg #[.int .u32 (a : Int), .string S, p2, d2]] w fun e w' => e = .returned (.bool true) ∧ Below w.heap.size w w' := by
  subst hS
  exact same_calls a s P D p d p2 d2 w hp hd hp2 hd2

set_option maxRecDepth 100000 in
set_option maxHeartbeats 4000000 in
theorem optionMore_large (o : Opt) (p d v : Value) (b : List UInt8) (w : World) (hp : Byt w p o.p) (hd : Byt w d o.d) (hs : o.s.length ≤ 9223372036854775807) (hv : Byt w v b) (hlg : lgB o.s o.d = true) :
    Calls Try.prog 6 #[optV o.a o.s p d, v] w fun e w' => e = .returned (.bool true) ∧ Below w.heap.size w w' := by
  have HP0 := Lib.hid hp
  have HD0 := Lib.hid hd
  obtain ⟨xp, cp, rfl, p1, p2⟩ := hp.shut
  obtain ⟨xd, cd, rfl, d1, d2⟩ := hd.shut
  clear hp hd
  obtain ⟨S, hS⟩ : ∃ S, Hid (S = sOf o.s) := ⟨_, Lib.hid rfl⟩
  obtain ⟨np, hnp⟩ : ∃ n, Hid (n = o.p.length) := ⟨_, Lib.hid rfl⟩
  obtain ⟨nd, hnd⟩ : ∃ n, Hid (n = o.d.length) := ⟨_, Lib.hid rfl⟩
  have HLG := Lib.hid (fun W (h1 : Byt W (.slice xp o.p.length cp) o.p) (h2 : Byt W (.slice xd o.d.length cd) o.d) => large_any o _ _ _ hlg W h1 h2 hs)
  unfold optV at HLG ⊢
  rw [← hS.out, ← hnp.out, ← hnd.out] at HLG ⊢
  rw [← hnp.out] at HP0 p1
  rw [← hnd.out] at HD0 d1
  have HV0 := Lib.hid hv
  obtain ⟨xv, cv, rfl, hv1, hv2⟩ := hv.shut
  clear hv
  obtain ⟨nv, hnv⟩ : ∃ n, Hid (n = b.length) := ⟨_, Lib.hid rfl⟩
  rw [← hnv.out] at HV0 hv1 ⊢
  have HB0 : Hid (Below w.heap.size w (w.alloc (.cells #[.int .u32 (o.a : Int), .string S, .slice xp np cp, .slice xd nd cd] 25))) := Lib.hid ((Below.refl _ _).alloc (Nat.le_refl _) _)
  have R0 := Lib.hid (RowAt.new w #[.int .u32 (o.a : Int), .string S, .slice xp np cp, .slice xd nd cd] 25 w.heap.size rfl)
  have P0 := Lib.hid (HP0.out.below ((Below.refl _ _).alloc (Nat.le_refl _) (.cells #[.int .u32 (o.a : Int), .string S, .slice xp np cp, .slice xd nd cd] 25)))
  have D0 := Lib.hid (HD0.out.below ((Below.refl _ _).alloc (Nat.le_refl _) (.cells #[.int .u32 (o.a : Int), .string S, .slice xp np cp, .slice xd nd cd] 25)))
  have V0 := Lib.hid (HV0.out.below ((Below.refl _ _).alloc (Nat.le_refl _) (.cells #[.int .u32 (o.a : Int), .string S, .slice xp np cp, .slice xd nd cd] 25)))
  go_enter Try.func6, Try.ntmps6
  go_wp2_with fail
  refine (HLG.out _ P0.out D0.out).mono ?_
  rintro e w1 ⟨rfl, hb⟩
  have HB_1 := Lib.hid (HB0.out.trans (hb.mono HB0.out.size))
  have R_1 := Lib.hid (RowAt.below R0.out hb)
  have P_1 := Lib.hid (Byt.below P0.out hb)
  have D_1 := Lib.hid (Byt.below D0.out hb)
  have V_1 := Lib.hid (Byt.below V0.out hb)
  clear hb
  have Rc0 := R_1.out.cell 0 (.int .u32 (o.a : Int)) rfl
  have Rc1 := R_1.out.cell 1 (.string S) rfl
  have Rc2 := R_1.out.cell 2 (.slice xp np cp) rfl
  have Rc3 := R_1.out.cell 3 (.slice xd nd cd) rfl
  have Rz := R_1.out.lt
  go_wp2_with fail
  refine (works_calls _).mono ?_
  rintro e wz ⟨rfl, hb⟩
  have HBz := Lib.hid (HB_1.out.trans (hb.mono HB_1.out.size))
  clear hb Rc0 Rc1 Rc2 Rc3 Rz
  go_wp2
  go_ret
  exact ⟨rfl, HBz.out⟩

set_option maxRecDepth 100000 in
set_option maxHeartbeats 4000000 in
theorem optionMore_path (o : Opt) (p d v : Value) (b : List UInt8) (w : World) (hp : Byt w p o.p) (hd : Byt w d o.d) (hs : o.s.length ≤ 9223372036854775807) (hv : Byt w v b) (hlg : lgB o.s o.d = false) (hl : 4096 < o.p.length) :
    Calls Try.prog 6 #[optV o.a o.s p d, v] w fun e w' => e = .returned (.bool true) ∧ Below w.heap.size w w' := by
  have HP0 := Lib.hid hp
  have HD0 := Lib.hid hd
  obtain ⟨xp, cp, rfl, p1, p2⟩ := hp.shut
  obtain ⟨xd, cd, rfl, d1, d2⟩ := hd.shut
  clear hp hd
  obtain ⟨S, hS⟩ : ∃ S, Hid (S = sOf o.s) := ⟨_, Lib.hid rfl⟩
  obtain ⟨np, hnp⟩ : ∃ n, Hid (n = o.p.length) := ⟨_, Lib.hid rfl⟩
  obtain ⟨nd, hnd⟩ : ∃ n, Hid (n = o.d.length) := ⟨_, Lib.hid rfl⟩
  have HLG := Lib.hid (fun W (h1 : Byt W (.slice xp o.p.length cp) o.p) (h2 : Byt W (.slice xd o.d.length cd) o.d) => large_any o _ _ _ hlg W h1 h2 hs)
  unfold optV at HLG ⊢
  rw [← hS.out, ← hnp.out, ← hnd.out] at HLG ⊢
  rw [← hnp.out] at HP0 p1
  rw [← hnd.out] at HD0 d1
  have HV0 := Lib.hid hv
  obtain ⟨xv, cv, rfl, hv1, hv2⟩ := hv.shut
  clear hv
  obtain ⟨nv, hnv⟩ : ∃ n, Hid (n = b.length) := ⟨_, Lib.hid rfl⟩
  rw [← hnv.out] at HV0 hv1 ⊢
  have hq : decide ((4096 : Int) < (np : Int)) = true := by have := hnp.out; simp; omega
  clear hl
  have HB0 : Hid (Below w.heap.size w (w.alloc (.cells #[.int .u32 (o.a : Int), .string S, .slice xp np cp, .slice xd nd cd] 25))) := Lib.hid ((Below.refl _ _).alloc (Nat.le_refl _) _)
  have R0 := Lib.hid (RowAt.new w #[.int .u32 (o.a : Int), .string S, .slice xp np cp, .slice xd nd cd] 25 w.heap.size rfl)
  have P0 := Lib.hid (HP0.out.below ((Below.refl _ _).alloc (Nat.le_refl _) (.cells #[.int .u32 (o.a : Int), .string S, .slice xp np cp, .slice xd nd cd] 25)))
  have D0 := Lib.hid (HD0.out.below ((Below.refl _ _).alloc (Nat.le_refl _) (.cells #[.int .u32 (o.a : Int), .string S, .slice xp np cp, .slice xd nd cd] 25)))
  have V0 := Lib.hid (HV0.out.below ((Below.refl _ _).alloc (Nat.le_refl _) (.cells #[.int .u32 (o.a : Int), .string S, .slice xp np cp, .slice xd nd cd] 25)))
  go_enter Try.func6, Try.ntmps6
  go_wp2_with fail
  refine (HLG.out _ P0.out D0.out).mono ?_
  rintro e w1 ⟨rfl, hb⟩
  have HB_1 := Lib.hid (HB0.out.trans (hb.mono HB0.out.size))
  have R_1 := Lib.hid (RowAt.below R0.out hb)
  have P_1 := Lib.hid (Byt.below P0.out hb)
  have D_1 := Lib.hid (Byt.below D0.out hb)
  have V_1 := Lib.hid (Byt.below V0.out hb)
  clear hb
  have Rc0 := R_1.out.cell 0 (.int .u32 (o.a : Int)) rfl
  have Rc1 := R_1.out.cell 1 (.string S) rfl
  have Rc2 := R_1.out.cell 2 (.slice xp np cp) rfl
  have Rc3 := R_1.out.cell 3 (.slice xd nd cd) rfl
  have Rz := R_1.out.lt
  go_wp2_with fail
  refine (works_calls _).mono ?_
  rintro e wz ⟨rfl, hb⟩
  have HBz := Lib.hid (HB_1.out.trans (hb.mono HB_1.out.size))
  clear hb Rc0 Rc1 Rc2 Rc3 Rz
  go_wp2
  go_ret
  exact ⟨rfl, HBz.out⟩

set_option maxRecDepth 100000 in
set_option maxHeartbeats 4000000 in
theorem optionMore_text (o : Opt) (p d v : Value) (b : List UInt8) (w : World) (hp : Byt w p o.p) (hd : Byt w d o.d) (hs : o.s.length ≤ 9223372036854775807) (hv : Byt w v b) (hlg : lgB o.s o.d = false) (hl : o.p.length ≤ 4096) (hl2 : 4096 < b.length) :
    Calls Try.prog 6 #[optV o.a o.s p d, v] w fun e w' => e = .returned (.bool true) ∧ Below w.heap.size w w' := by
  have HP0 := Lib.hid hp
  have HD0 := Lib.hid hd
  obtain ⟨xp, cp, rfl, p1, p2⟩ := hp.shut
  obtain ⟨xd, cd, rfl, d1, d2⟩ := hd.shut
  clear hp hd
  obtain ⟨S, hS⟩ : ∃ S, Hid (S = sOf o.s) := ⟨_, Lib.hid rfl⟩
  obtain ⟨np, hnp⟩ : ∃ n, Hid (n = o.p.length) := ⟨_, Lib.hid rfl⟩
  obtain ⟨nd, hnd⟩ : ∃ n, Hid (n = o.d.length) := ⟨_, Lib.hid rfl⟩
  have HLG := Lib.hid (fun W (h1 : Byt W (.slice xp o.p.length cp) o.p) (h2 : Byt W (.slice xd o.d.length cd) o.d) => large_any o _ _ _ hlg W h1 h2 hs)
  unfold optV at HLG ⊢
  rw [← hS.out, ← hnp.out, ← hnd.out] at HLG ⊢
  rw [← hnp.out] at HP0 p1
  rw [← hnd.out] at HD0 d1
  have HV0 := Lib.hid hv
  obtain ⟨xv, cv, rfl, hv1, hv2⟩ := hv.shut
  clear hv
  obtain ⟨nv, hnv⟩ : ∃ n, Hid (n = b.length) := ⟨_, Lib.hid rfl⟩
  rw [← hnv.out] at HV0 hv1 ⊢
  have hq : decide ((4096 : Int) < (np : Int)) = false := by have := hnp.out; simp; omega
  have hq2 : decide ((4096 : Int) < (nv : Int)) = true := by have := hnv.out; simp; omega
  clear hl hl2
  have HB0 : Hid (Below w.heap.size w (w.alloc (.cells #[.int .u32 (o.a : Int), .string S, .slice xp np cp, .slice xd nd cd] 25))) := Lib.hid ((Below.refl _ _).alloc (Nat.le_refl _) _)
  have R0 := Lib.hid (RowAt.new w #[.int .u32 (o.a : Int), .string S, .slice xp np cp, .slice xd nd cd] 25 w.heap.size rfl)
  have P0 := Lib.hid (HP0.out.below ((Below.refl _ _).alloc (Nat.le_refl _) (.cells #[.int .u32 (o.a : Int), .string S, .slice xp np cp, .slice xd nd cd] 25)))
  have D0 := Lib.hid (HD0.out.below ((Below.refl _ _).alloc (Nat.le_refl _) (.cells #[.int .u32 (o.a : Int), .string S, .slice xp np cp, .slice xd nd cd] 25)))
  have V0 := Lib.hid (HV0.out.below ((Below.refl _ _).alloc (Nat.le_refl _) (.cells #[.int .u32 (o.a : Int), .string S, .slice xp np cp, .slice xd nd cd] 25)))
  go_enter Try.func6, Try.ntmps6
  go_wp2_with fail
  refine (HLG.out _ P0.out D0.out).mono ?_
  rintro e w1 ⟨rfl, hb⟩
  have HB_1 := Lib.hid (HB0.out.trans (hb.mono HB0.out.size))
  have R_1 := Lib.hid (RowAt.below R0.out hb)
  have P_1 := Lib.hid (Byt.below P0.out hb)
  have D_1 := Lib.hid (Byt.below D0.out hb)
  have V_1 := Lib.hid (Byt.below V0.out hb)
  clear hb
  have Rc0 := R_1.out.cell 0 (.int .u32 (o.a : Int)) rfl
  have Rc1 := R_1.out.cell 1 (.string S) rfl
  have Rc2 := R_1.out.cell 2 (.slice xp np cp) rfl
  have Rc3 := R_1.out.cell 3 (.slice xd nd cd) rfl
  have Rz := R_1.out.lt
  go_wp2_with fail
  refine (works_calls _).mono ?_
  rintro e wz ⟨rfl, hb⟩
  have HBz := Lib.hid (HB_1.out.trans (hb.mono HB_1.out.size))
  clear hb Rc0 Rc1 Rc2 Rc3 Rz
  go_wp2
  go_ret
  exact ⟨rfl, HBz.out⟩

set_option maxRecDepth 100000 in
set_option maxHeartbeats 4000000 in
theorem optionMore_no (o : Opt) (p d v : Value) (b : List UInt8) (w : World) (ha : o.a < 4294967296) (hp : Byt w p o.p) (hd : Byt w d o.d) (hs : o.s.length ≤ 9223372036854775807) (hv : Byt w v b) (hlg : lgB o.s o.d = false) (hl : o.p.length ≤ 4096) (hl2 : b.length ≤ 4096) (hw : wrOk o = false) :
    Calls Try.prog 6 #[optV o.a o.s p d, v] w fun e w' => e = .returned (.bool true) ∧ Below w.heap.size w w' := by
  have HP0 := Lib.hid hp
  have HD0 := Lib.hid hd
  obtain ⟨xp, cp, rfl, p1, p2⟩ := hp.shut
  obtain ⟨xd, cd, rfl, d1, d2⟩ := hd.shut
  clear hp hd
  obtain ⟨S, hS⟩ : ∃ S, Hid (S = sOf o.s) := ⟨_, Lib.hid rfl⟩
  obtain ⟨np, hnp⟩ : ∃ n, Hid (n = o.p.length) := ⟨_, Lib.hid rfl⟩
  obtain ⟨nd, hnd⟩ : ∃ n, Hid (n = o.d.length) := ⟨_, Lib.hid rfl⟩
  have HLG := Lib.hid (fun W (h1 : Byt W (.slice xp o.p.length cp) o.p) (h2 : Byt W (.slice xd o.d.length cd) o.d) => large_any o _ _ _ hlg W h1 h2 hs)
  unfold optV at HLG ⊢
  rw [← hS.out, ← hnp.out, ← hnd.out] at HLG ⊢
  rw [← hnp.out] at HP0 p1
  rw [← hnd.out] at HD0 d1
  have HV0 := Lib.hid hv
  obtain ⟨xv, cv, rfl, hv1, hv2⟩ := hv.shut
  clear hv
  obtain ⟨nv, hnv⟩ : ∃ n, Hid (n = b.length) := ⟨_, Lib.hid rfl⟩
  rw [← hnv.out] at HV0 hv1 ⊢
  have hq : decide ((4096 : Int) < (np : Int)) = false := by have := hnp.out; simp; omega
  have hq2 : decide ((4096 : Int) < (nv : Int)) = false := by have := hnv.out; simp; omega
  have hlb := lg_no _ _ hlg
  have HW := Lib.hid (fun W (h1 : Byt W (.slice xp np cp) o.p) (h2 : Byt W (.slice xd nd cd) o.d) => write_form optWrite_calls o S hS.out false hw [] 1 (by simp) (by simp) _ _ W ha h1 h2 (by omega) (by omega) (by omega))
  rw [List.length_nil] at HW
  clear hlb hl hl2 hw
  have HB0 : Hid (Below w.heap.size w (w.alloc (.cells #[.int .u32 (o.a : Int), .string S, .slice xp np cp, .slice xd nd cd] 25))) := Lib.hid ((Below.refl _ _).alloc (Nat.le_refl _) _)
  have R0 := Lib.hid (RowAt.new w #[.int .u32 (o.a : Int), .string S, .slice xp np cp, .slice xd nd cd] 25 w.heap.size rfl)
  have P0 := Lib.hid (HP0.out.below ((Below.refl _ _).alloc (Nat.le_refl _) (.cells #[.int .u32 (o.a : Int), .string S, .slice xp np cp, .slice xd nd cd] 25)))
  have D0 := Lib.hid (HD0.out.below ((Below.refl _ _).alloc (Nat.le_refl _) (.cells #[.int .u32 (o.a : Int), .string S, .slice xp np cp, .slice xd nd cd] 25)))
  have V0 := Lib.hid (HV0.out.below ((Below.refl _ _).alloc (Nat.le_refl _) (.cells #[.int .u32 (o.a : Int), .string S, .slice xp np cp, .slice xd nd cd] 25)))
  go_enter Try.func6, Try.ntmps6
  go_wp2_with fail
  refine (HLG.out _ P0.out D0.out).mono ?_
  rintro e w1 ⟨rfl, hb⟩
  have HB_1 := Lib.hid (HB0.out.trans (hb.mono HB0.out.size))
  have R_1 := Lib.hid (RowAt.below R0.out hb)
  have P_1 := Lib.hid (Byt.below P0.out hb)
  have D_1 := Lib.hid (Byt.below D0.out hb)
  have V_1 := Lib.hid (Byt.below V0.out hb)
  clear hb
  have Rc0 := R_1.out.cell 0 (.int .u32 (o.a : Int)) rfl
  have Rc1 := R_1.out.cell 1 (.string S) rfl
  have Rc2 := R_1.out.cell 2 (.slice xp np cp) rfl
  have Rc3 := R_1.out.cell 3 (.slice xd nd cd) rfl
  have Rz := R_1.out.lt
  go_wp2_with fail
  refine (HW.out _ P_1.out D_1.out).mono ?_
  rintro e w2 ⟨x3, c3, rfl, ho, hb⟩
  have HB_2 := Lib.hid (HB_1.out.trans (hb.mono HB_1.out.size))
  have R_2 := Lib.hid (RowAt.below R_1.out hb)
  have P_2 := Lib.hid (Byt.below P_1.out hb)
  have D_2 := Lib.hid (Byt.below D_1.out hb)
  have V_2 := Lib.hid (Byt.below V_1.out hb)
  clear ho
  clear hb Rc0 Rc1 Rc2 Rc3 Rz
  go_wp2_with fail
  refine (works_calls _).mono ?_
  rintro e wz ⟨rfl, hb⟩
  have HBz := Lib.hid (HB_2.out.trans (hb.mono HB_2.out.size))
  clear hb
  go_wp2
  go_ret
  exact ⟨rfl, HBz.out⟩

set_option maxRecDepth 100000 in
set_option maxHeartbeats 4000000 in
theorem optionMore_main (o : Opt) (p d v : Value) (b : List UInt8) (w : World) (ha : o.a < 4294967296) (hp : Byt w p o.p) (hd : Byt w d o.d) (hs : o.s.length ≤ 9223372036854775807) (hv : Byt w v b) (hlg : lgB o.s o.d = false) (hl : o.p.length ≤ 4096) (hl2 : b.length ≤ 4096) (hw : wrOk o = true) :
    Calls Try.prog 6 #[optV o.a o.s p d, v] w fun e w' => e = .returned (.bool true) ∧ Below w.heap.size w w' := by
  have HP0 := Lib.hid hp
  have HD0 := Lib.hid hd
  obtain ⟨xp, cp, rfl, p1, p2⟩ := hp.shut
  obtain ⟨xd, cd, rfl, d1, d2⟩ := hd.shut
  clear hp hd
  obtain ⟨S, hS⟩ : ∃ S, Hid (S = sOf o.s) := ⟨_, Lib.hid rfl⟩
  obtain ⟨np, hnp⟩ : ∃ n, Hid (n = o.p.length) := ⟨_, Lib.hid rfl⟩
  obtain ⟨nd, hnd⟩ : ∃ n, Hid (n = o.d.length) := ⟨_, Lib.hid rfl⟩
  have HLG := Lib.hid (fun W (h1 : Byt W (.slice xp o.p.length cp) o.p) (h2 : Byt W (.slice xd o.d.length cd) o.d) => large_any o _ _ _ hlg W h1 h2 hs)
  unfold optV at HLG ⊢
  rw [← hS.out, ← hnp.out, ← hnd.out] at HLG ⊢
  rw [← hnp.out] at HP0 p1
  rw [← hnd.out] at HD0 d1
  have HV0 := Lib.hid hv
  obtain ⟨xv, cv, rfl, hv1, hv2⟩ := hv.shut
  clear hv
  obtain ⟨nv, hnv⟩ : ∃ n, Hid (n = b.length) := ⟨_, Lib.hid rfl⟩
  rw [← hnv.out] at HV0 hv1 ⊢
  have hq : decide ((4096 : Int) < (np : Int)) = false := by have := hnp.out; simp; omega
  have hq2 : decide ((4096 : Int) < (nv : Int)) = false := by have := hnv.out; simp; omega
  have hlb := lg_no _ _ hlg
  have HW := Lib.hid (fun W (h1 : Byt W (.slice xp np cp) o.p) (h2 : Byt W (.slice xd nd cd) o.d) => write_form optWrite_calls o S hS.out true hw (wrO o) 0 (by simp) (by simp) _ _ W ha h1 h2 (by omega) (by omega) (by omega))
  obtain ⟨nw, hnw⟩ : ∃ n, Hid (n = (wrO o).length) := ⟨_, Lib.hid rfl⟩
  obtain ⟨nq, hnq⟩ : ∃ n, Hid (n = (o.d ++ b).length) := ⟨_, Lib.hid rfl⟩
  have hnwb : (wrO o).length ≤ 999000000 := by rw [wrO_length]; omega
  have HRD := Lib.hid (fun v W (h : Byt W v (wrO o ++ b)) => read_some_form ⟨o.a, o.s, o.p, o.d ++ b⟩ (wrO o ++ b) (by rw [wr_more]; exact rd_wr ⟨o.a, o.s, o.p, o.d ++ b⟩ ha hw) S hS.out np nq hnp.out hnq.out v W h (by rw [List.length_append]; omega))
  have HCP := Lib.hid (fun p d W (h1 : Byt W p o.p) (h2 : Byt W d o.d) => copied_form o S hS.out np nd hnp.out hnd.out p d W h1 h2 (by omega) (by omega))
  have HS := Lib.hid (fun p d p2 d2 W (h1 : Byt W p o.p) (h2 : Byt W d (o.d ++ b)) (h3 : Byt W p2 o.p) (h4 : Byt W d2 (o.d ++ b)) => same_form o.a o.s o.p (o.d ++ b) S hS.out p d p2 d2 W h1 h2 h3 h4)
  have hap : Hid ((wrO o).length + b.length ≤ 140737488355328) := Lib.hid (by omega)
  have hap2 : Hid (o.d.length + b.length ≤ 140737488355328) := Lib.hid (by omega)
  rw [← hnw.out] at HW
  clear hlb hl hl2 hw hnwb
  have HB0 : Hid (Below w.heap.size w (w.alloc (.cells #[.int .u32 (o.a : Int), .string S, .slice xp np cp, .slice xd nd cd] 25))) := Lib.hid ((Below.refl _ _).alloc (Nat.le_refl _) _)
  have R0 := Lib.hid (RowAt.new w #[.int .u32 (o.a : Int), .string S, .slice xp np cp, .slice xd nd cd] 25 w.heap.size rfl)
  have P0 := Lib.hid (HP0.out.below ((Below.refl _ _).alloc (Nat.le_refl _) (.cells #[.int .u32 (o.a : Int), .string S, .slice xp np cp, .slice xd nd cd] 25)))
  have D0 := Lib.hid (HD0.out.below ((Below.refl _ _).alloc (Nat.le_refl _) (.cells #[.int .u32 (o.a : Int), .string S, .slice xp np cp, .slice xd nd cd] 25)))
  have V0 := Lib.hid (HV0.out.below ((Below.refl _ _).alloc (Nat.le_refl _) (.cells #[.int .u32 (o.a : Int), .string S, .slice xp np cp, .slice xd nd cd] 25)))
  go_enter Try.func6, Try.ntmps6
  go_wp2_with fail
  refine (HLG.out _ P0.out D0.out).mono ?_
  rintro e w1 ⟨rfl, hb⟩
  have HB_1 := Lib.hid (HB0.out.trans (hb.mono HB0.out.size))
  have R_1 := Lib.hid (RowAt.below R0.out hb)
  have P_1 := Lib.hid (Byt.below P0.out hb)
  have D_1 := Lib.hid (Byt.below D0.out hb)
  have V_1 := Lib.hid (Byt.below V0.out hb)
  clear hb
  have Rc0 := R_1.out.cell 0 (.int .u32 (o.a : Int)) rfl
  have Rc1 := R_1.out.cell 1 (.string S) rfl
  have Rc2 := R_1.out.cell 2 (.slice xp np cp) rfl
  have Rc3 := R_1.out.cell 3 (.slice xd nd cd) rfl
  have Rz := R_1.out.lt
  go_wp2_with fail
  refine (HW.out _ P_1.out D_1.out).mono ?_
  rintro e w2 ⟨x3, c3, rfl, ho, hb⟩
  have HO := Lib.hid ho
  have HBb := Lib.hid hb
  clear ho hb Rc0 Rc1 Rc2 Rc3 Rz
  go_wp2_with (at_builtin; refine wpList_append_byt rfl _ _ rfl w1.heap.size (.slice x3 nw c3) (wrO o) rfl HO.out (.slice xv nv cv) b rfl (Byt.below V_1.out HBb.out) hap.out HBb.out.size ?_; intro v3 w3 hown hg _; have HO3 := Lib.hid hown.byt; have HBc := Lib.hid (HBb.out.grown hg HBb.out.size (fun x hx => (Own.lt HO.out x hx).1)); clear hown hg)
  have HB_3 := Lib.hid (HB_1.out.trans (HBc.out.mono HB_1.out.size))
  have R_3 := Lib.hid (RowAt.below R_1.out HBc.out)
  have P_3 := Lib.hid (Byt.below P_1.out HBc.out)
  have D_3 := Lib.hid (Byt.below D_1.out HBc.out)
  have V_3 := Lib.hid (Byt.below V_1.out HBc.out)
  clear HBb HBc HO
  refine (HRD.out _ _ HO3.out).mono ?_
  rintro e w4 ⟨x4, c4, x5, c5, rfl, ho4, ho5, hb⟩
  have HB_4 := Lib.hid (HB_3.out.trans (hb.mono HB_3.out.size))
  have R_4 := Lib.hid (RowAt.below R_3.out hb)
  have P_4 := Lib.hid (Byt.below P_3.out hb)
  have D_4 := Lib.hid (Byt.below D_3.out hb)
  have V_4 := Lib.hid (Byt.below V_3.out hb)
  have P2_4 := Lib.hid ho4
  have D2_4 := Lib.hid ho5
  clear ho4 ho5
  clear hb
  have HB_5 := Lib.hid (HB_4.out.alloc HB_4.out.size (.cells #[.int .u32 (o.a : Int), .string S, .slice x4 np c4, .slice x5 nq c5] 25))
  have R_5 := Lib.hid (RowAt.alloc R_4.out (.cells #[.int .u32 (o.a : Int), .string S, .slice x4 np c4, .slice x5 nq c5] 25))
  have P_5 := Lib.hid (Byt.below P_4.out ((Below.refl _ _).alloc (Nat.le_refl _) (.cells #[.int .u32 (o.a : Int), .string S, .slice x4 np c4, .slice x5 nq c5] 25)))
  have D_5 := Lib.hid (Byt.below D_4.out ((Below.refl _ _).alloc (Nat.le_refl _) (.cells #[.int .u32 (o.a : Int), .string S, .slice x4 np c4, .slice x5 nq c5] 25)))
  have V_5 := Lib.hid (Byt.below V_4.out ((Below.refl _ _).alloc (Nat.le_refl _) (.cells #[.int .u32 (o.a : Int), .string S, .slice x4 np c4, .slice x5 nq c5] 25)))
  have P2_5 := Lib.hid (Byt.below P2_4.out ((Below.refl _ _).alloc (Nat.le_refl _) (.cells #[.int .u32 (o.a : Int), .string S, .slice x4 np c4, .slice x5 nq c5] 25)))
  have D2_5 := Lib.hid (Byt.below D2_4.out ((Below.refl _ _).alloc (Nat.le_refl _) (.cells #[.int .u32 (o.a : Int), .string S, .slice x4 np c4, .slice x5 nq c5] 25)))
  have R2_5 := Lib.hid (RowAt.new w4 #[.int .u32 (o.a : Int), .string S, .slice x4 np c4, .slice x5 nq c5] 25 (w4.heap.size) (by first | rfl | simp))
  have Rc0 := R_5.out.cell 0 (.int .u32 (o.a : Int)) rfl
  have Rc1 := R_5.out.cell 1 (.string S) rfl
  have Rc2 := R_5.out.cell 2 (.slice xp np cp) rfl
  have Rc3 := R_5.out.cell 3 (.slice xd nd cd) rfl
  have Rz := R_5.out.lt
  have R2c0 := R2_5.out.cell 0 (.int .u32 (o.a : Int)) rfl
  have R2c1 := R2_5.out.cell 1 (.string S) rfl
  have R2c2 := R2_5.out.cell 2 (.slice x4 np c4) rfl
  have R2c3 := R2_5.out.cell 3 (.slice x5 nq c5) rfl
  have R2z := R2_5.out.lt
  go_wp2_with fail
  refine (HCP.out _ _ _ P_5.out D_5.out).mono ?_
  rintro e w6 ⟨x6, c6, x7, c7, rfl, ho6, ho7, hne, hb⟩
  have HO6 := Lib.hid ho6
  have HO7 := Lib.hid ho7
  have HNE := Lib.hid hne
  have HBb := Lib.hid hb
  clear ho6 ho7 hne hb Rc0 Rc1 Rc2 Rc3 Rz R2c0 R2c1 R2c2 R2c3 R2z
  obtain ⟨B, hB⟩ : ∃ B, Hid (B = (w4.alloc (.cells #[.int .u32 (o.a : Int), .string S, .slice x4 np c4, .slice x5 nq c5] 25)).heap.size) := ⟨_, Lib.hid rfl⟩
  rw [← hB.out] at HO6 HO7 HBb
  have R3 := Lib.hid (RowAt.new w6 #[.int .u32 (o.a : Int), .string S, .slice x6 np c6, .slice x7 nd c7] 25 w6.heap.size rfl)
  have HO7a := Lib.hid (HO7.out.alloc (.cells #[.int .u32 (o.a : Int), .string S, .slice x6 np c6, .slice x7 nd c7] 25))
  have HO6a := Lib.hid (HO6.out.alloc (.cells #[.int .u32 (o.a : Int), .string S, .slice x6 np c6, .slice x7 nd c7] 25))
  have HBa := Lib.hid (HBb.out.alloc (by rw [hB.out]; exact HBb.out.size) (.cells #[.int .u32 (o.a : Int), .string S, .slice x6 np c6, .slice x7 nd c7] 25))
  have hBs : B ≤ (w6.alloc (.cells #[.int .u32 (o.a : Int), .string S, .slice x6 np c6, .slice x7 nd c7] 25)).heap.size := by rw [hB.out]; exact HBa.out.size
  have hV := Byt.below (Byt.below V_5.out (by rw [← hB.out]; exact HBb.out)) ((Below.refl _ _).alloc (Nat.le_refl _) (.cells #[.int .u32 (o.a : Int), .string S, .slice x6 np c6, .slice x7 nd c7] 25))
  have HVa := Lib.hid hV
  clear hV
  have R3c0 := R3.out.cell 0 _ rfl
  have R3c1 := R3.out.cell 1 _ rfl
  have R3c2 := R3.out.cell 2 _ rfl
  have R3c3 := R3.out.cell 3 _ rfl
  have R3z := R3.out.lt
  have HBS := Lib.hid hBs
  clear hBs
  have R2z := Lib.hid (R2_5.out.lt)
  go_wp2_with (at_builtin; refine wpList_append_byt rfl _ _ rfl B (.slice x7 nd c7) o.d rfl HO7a.out (.slice xv nv cv) b rfl HVa.out hap2.out HBS.out ?_; intro v8 w8 hown hg hor; have HD8 := Lib.hid (not_row HO7.out rfl hor (by simp)); clear hor; obtain ⟨x8, c8, rfl, _, _⟩ := Own.shape hown; rw [← hnq.out] at HD8 hown ⊢; have HO8 := Lib.hid hown; have HG := Lib.hid hg; clear hown hg R3c0 R3c1 R3c2 R3c3 R3z; have HB8 := Lib.hid (HBa.out.grown HG.out HBS.out (fun x hx => (Own.lt HO7a.out x hx).1)); have HO6b := Lib.hid (Own.kept HO6a.out HG.out (fun x hx e => HNE.out x hx e)); have R3_8 := Lib.hid (R3.out.grown HG.out (fun e => absurd (Own.lt HO7.out _ e).2 (Nat.lt_irrefl _))); have R2_8 := Lib.hid (RowAt.below R2_5.out (by rw [← hB.out]; exact HB8.out)); have hne1 : w4.heap.size ≠ w6.heap.size := (by have h1 := R2z.out; have h2 := HBb.out.size; omega); have hne2 := hne1.symm; have R3z := R3_8.out.lt; have R3c0 := R3_8.out.cell 0 _ rfl; have R3c1 := R3_8.out.cell 1 _ rfl; have R3c2 := R3_8.out.cell 2 _ rfl; have R3c3 := R3_8.out.cell 3 _ rfl; have R3f := R3_8.out.free; have R2c0 := R2_8.out.cell 0 _ rfl; have R2c1 := R2_8.out.cell 1 _ rfl; have R2c2 := R2_8.out.cell 2 _ rfl; have R2c3 := R2_8.out.cell 3 _ rfl)
  have HBS8 := Lib.hid (HB8.out.setCell (p := ⟨w6.heap.size, 3, none⟩) (by show B ≤ w6.heap.size; rw [hB.out]; exact HBb.out.size) (.slice x8 nq c8))
  have HBF := Lib.hid (HB_5.out.trans (HBS8.out.mono (by rw [hB.out]; exact HB_5.out.size)))
  have Pz := Lib.hid (Byt.below P2_5.out (by rw [← hB.out]; exact HBS8.out))
  have Dz := Lib.hid (Byt.below D2_5.out (by rw [← hB.out]; exact HBS8.out))
  have Pq := Lib.hid ((OwnB.chg (L := [w6.heap.size]) HO6b.out ((Chg.refl [w6.heap.size] w8).setCell (i := 3) (List.mem_singleton.2 rfl) (.slice x8 nq c8)) (fun x hx e => by rw [List.mem_singleton.1 hx] at e; exact absurd (Own.lt HO6.out _ e).2 (Nat.lt_irrefl _))).byt)
  have Dq := Lib.hid ((OwnB.chg (L := [w6.heap.size]) HO8.out ((Chg.refl [w6.heap.size] w8).setCell (i := 3) (List.mem_singleton.2 rfl) (.slice x8 nq c8)) (fun x hx e => by rw [List.mem_singleton.1 hx] at e; exact HD8.out e)).byt)
  refine (HS.out _ _ _ _ _ Pz.out Dz.out Pq.out Dq.out).mono ?_
  rintro e w9 ⟨rfl, hb⟩
  have HB_9 := Lib.hid (HBF.out.trans (hb.mono HBF.out.size))
  clear hb R2c0 R2c1 R2c2 R2c3 R3c0 R3c1 R3c2 R3c3 R3f R3z
  go_wp2_with fail
  refine (works_calls _).mono ?_
  rintro e wz ⟨rfl, hb⟩
  have HBz := Lib.hid (HB_9.out.trans (hb.mono HB_9.out.size))
  clear hb
  go_wp2
  go_ret
  exact ⟨rfl, HBz.out⟩

theorem optionMore_walk (o : Opt) (p d v : Value) (b : List UInt8) (w : World) (ha : o.a < 4294967296) (hp : Byt w p o.p) (hd : Byt w d o.d) (hs : o.s.length ≤ 9223372036854775807) (hv : Byt w v b) :
    Calls Try.prog 6 #[optV o.a o.s p d, v] w fun e w' => e = .returned (.bool true) ∧ Below w.heap.size w w' := by
  cases hlg : lgB o.s o.d with
  | true => exact optionMore_large o p d v b w hp hd hs hv hlg
  | false =>
    by_cases hl : o.p.length ≤ 4096
    · by_cases hl2 : b.length ≤ 4096
      · cases hw : wrOk o with
        | false => exact optionMore_no o p d v b w ha hp hd hs hv hlg hl hl2 hw
        | true => exact optionMore_main o p d v b w ha hp hd hs hv hlg hl hl2 hw
      · exact optionMore_text o p d v b w hp hd hs hv hlg hl (by omega)
    · exact optionMore_path o p d v b w hp hd hs hv hlg (by omega)
end Go.Proofs.Ytbcocblamocobaa
