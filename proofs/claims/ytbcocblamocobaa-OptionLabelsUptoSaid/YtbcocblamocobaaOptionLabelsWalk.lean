/-
  The walk of the law OptionLabels.
-/
import Derived.Test.YtbcocblamocobaaOptTurns
namespace Go.Proofs.Ytbcocblamocobaa
open Go Go.RowKit
set_option linter.unusedVariables false

set_option maxRecDepth 100000 in
set_option maxHeartbeats 4000000 in
theorem optionLabels_large (o : Opt) (p d : Value) (n x z : Nat) (w : World) (ha : o.a < 4294967296) (hp : Byt w p o.p) (hd : Byt w d o.d) (hss : o.s.length ≤ 1048576) (hpp : o.p.length ≤ 1048576) (hdd : o.d.length ≤ 1048576) (hn : n < 65536) (hx : x < 256) (hz : z < 65536) (hlg : lgB o.s o.d = true) :
    Calls Try.prog 8 #[.agg #[.int .u32 (o.a : Int), .string (sOf o.s), p, d, .int .u16 (n : Int), .int .u8 (x : Int), .int .u16 (z : Int)]] w fun e w' => e = .returned (.bool true) ∧ Below w.heap.size w w' := by
  have HP0 := Lib.hid hp
  have HD0 := Lib.hid hd
  obtain ⟨xp, cp, rfl, p1, p2⟩ := hp.shut
  obtain ⟨xd, cd, rfl, d1, d2⟩ := hd.shut
  clear hp hd
  obtain ⟨S, hS⟩ : ∃ S, Hid (S = sOf o.s) := ⟨_, Lib.hid rfl⟩
  obtain ⟨np, hnp⟩ : ∃ n, Hid (n = o.p.length) := ⟨_, Lib.hid rfl⟩
  obtain ⟨nd, hnd⟩ : ∃ n, Hid (n = o.d.length) := ⟨_, Lib.hid rfl⟩
  have HLG := Lib.hid (fun W (h1 : Byt W (.slice xp o.p.length cp) o.p) (h2 : Byt W (.slice xd o.d.length cd) o.d) => large_any o _ _ _ hlg W h1 h2 (by omega))
  unfold optV at HLG
  rw [← hS.out, ← hnp.out, ← hnd.out] at HLG ⊢
  rw [← hnp.out] at HP0 p1
  rw [← hnd.out] at HD0 d1
  obtain ⟨LW, hLW⟩ : ∃ L, Hid (L = if wrOk o then wrO o else []) := ⟨_, Lib.hid rfl⟩
  obtain ⟨E, hE⟩ : ∃ E : Int, Hid (E = if wrOk o then 0 else 1) := ⟨_, Lib.hid rfl⟩
  obtain ⟨nw, hnw⟩ : ∃ n, Hid (n = LW.length) := ⟨_, Lib.hid rfl⟩
  have HW := Lib.hid (fun W (h1 : Byt W (.slice xp np cp) o.p) (h2 : Byt W (.slice xd nd cd) o.d) => write_form optWrite_calls o S hS.out _ rfl LW E hLW.out hE.out _ _ W ha h1 h2 (by omega) (by omega) (by omega))
  rw [← hnw.out] at HW
  clear hss hpp hdd
  have HB0 := Lib.hid (((Below.refl w.heap.size w).alloc (Nat.le_refl _) (.cells #[.int .u32 (o.a : Int), .string S, .slice xp np cp, .slice xd nd cd, .int .u16 (n : Int), .int .u8 (x : Int), .int .u16 (z : Int)] 44)).alloc (by simp) (.cells #[.int .u32 (o.a : Int), .string S, .slice xp np cp, .slice xd nd cd] 25))
  have R0 := Lib.hid (RowAt.new (w.alloc (.cells #[.int .u32 (o.a : Int), .string S, .slice xp np cp, .slice xd nd cd, .int .u16 (n : Int), .int .u8 (x : Int), .int .u16 (z : Int)] 44)) #[.int .u32 (o.a : Int), .string S, .slice xp np cp, .slice xd nd cd] 25 (w.heap.size + 1) (by simp))
  have P0 := Lib.hid ((HP0.out.below ((Below.refl _ _).alloc (Nat.le_refl _) (.cells #[.int .u32 (o.a : Int), .string S, .slice xp np cp, .slice xd nd cd, .int .u16 (n : Int), .int .u8 (x : Int), .int .u16 (z : Int)] 44))).below ((Below.refl _ _).alloc (Nat.le_refl _) (.cells #[.int .u32 (o.a : Int), .string S, .slice xp np cp, .slice xd nd cd] 25)))
  have D0 := Lib.hid ((HD0.out.below ((Below.refl _ _).alloc (Nat.le_refl _) (.cells #[.int .u32 (o.a : Int), .string S, .slice xp np cp, .slice xd nd cd, .int .u16 (n : Int), .int .u8 (x : Int), .int .u16 (z : Int)] 44))).below ((Below.refl _ _).alloc (Nat.le_refl _) (.cells #[.int .u32 (o.a : Int), .string S, .slice xp np cp, .slice xd nd cd] 25)))
  go_enter Try.func8, Try.ntmps8
  go_wp2_with fail
  refine (HW.out _ P0.out D0.out).mono ?_
  rintro e w1 ⟨x3, c3, rfl, ho, hb⟩
  have HB_1 := Lib.hid (HB0.out.trans (hb.mono HB0.out.size))
  have R_1 := Lib.hid (RowAt.below R0.out hb)
  have P_1 := Lib.hid (Byt.below P0.out hb)
  have D_1 := Lib.hid (Byt.below D0.out hb)
  clear ho
  clear hb
  have Rc0 := R_1.out.cell 0 (.int .u32 (o.a : Int)) rfl
  have Rc1 := R_1.out.cell 1 (.string S) rfl
  have Rc2 := R_1.out.cell 2 (.slice xp np cp) rfl
  have Rc3 := R_1.out.cell 3 (.slice xd nd cd) rfl
  have Rz := R_1.out.lt
  go_wp2_with fail
  refine (HLG.out _ P_1.out D_1.out).mono ?_
  rintro e w2 ⟨rfl, hb⟩
  have HB_2 := Lib.hid (HB_1.out.trans (hb.mono HB_1.out.size))
  have R_2 := Lib.hid (RowAt.below R_1.out hb)
  have P_2 := Lib.hid (Byt.below P_1.out hb)
  have D_2 := Lib.hid (Byt.below D_1.out hb)
  clear hb Rc0 Rc1 Rc2 Rc3 Rz
  have Rc0 := R_2.out.cell 0 (.int .u32 (o.a : Int)) rfl
  have Rc1 := R_2.out.cell 1 (.string S) rfl
  have Rc2 := R_2.out.cell 2 (.slice xp np cp) rfl
  have Rc3 := R_2.out.cell 3 (.slice xd nd cd) rfl
  have Rz := R_2.out.lt
  go_wp2_with fail
  refine (works_calls _).mono ?_
  rintro e wz ⟨rfl, hb⟩
  have HBz := Lib.hid (HB_2.out.trans (hb.mono HB_2.out.size))
  clear hb Rc0 Rc1 Rc2 Rc3 Rz
  go_wp2
  go_ret
  exact ⟨rfl, HBz.out⟩

set_option maxRecDepth 100000 in
set_option maxHeartbeats 4000000 in
theorem optionLabels_path (o : Opt) (p d : Value) (n x z : Nat) (w : World) (ha : o.a < 4294967296) (hp : Byt w p o.p) (hd : Byt w d o.d) (hss : o.s.length ≤ 1048576) (hpp : o.p.length ≤ 1048576) (hdd : o.d.length ≤ 1048576) (hn : n < 65536) (hx : x < 256) (hz : z < 65536) (hlg : lgB o.s o.d = false) (hl : 4096 < o.p.length) :
    Calls Try.prog 8 #[.agg #[.int .u32 (o.a : Int), .string (sOf o.s), p, d, .int .u16 (n : Int), .int .u8 (x : Int), .int .u16 (z : Int)]] w fun e w' => e = .returned (.bool true) ∧ Below w.heap.size w w' := by
  have HP0 := Lib.hid hp
  have HD0 := Lib.hid hd
  obtain ⟨xp, cp, rfl, p1, p2⟩ := hp.shut
  obtain ⟨xd, cd, rfl, d1, d2⟩ := hd.shut
  clear hp hd
  obtain ⟨S, hS⟩ : ∃ S, Hid (S = sOf o.s) := ⟨_, Lib.hid rfl⟩
  obtain ⟨np, hnp⟩ : ∃ n, Hid (n = o.p.length) := ⟨_, Lib.hid rfl⟩
  obtain ⟨nd, hnd⟩ : ∃ n, Hid (n = o.d.length) := ⟨_, Lib.hid rfl⟩
  have HLG := Lib.hid (fun W (h1 : Byt W (.slice xp o.p.length cp) o.p) (h2 : Byt W (.slice xd o.d.length cd) o.d) => large_any o _ _ _ hlg W h1 h2 (by omega))
  unfold optV at HLG
  rw [← hS.out, ← hnp.out, ← hnd.out] at HLG ⊢
  rw [← hnp.out] at HP0 p1
  rw [← hnd.out] at HD0 d1
  obtain ⟨LW, hLW⟩ : ∃ L, Hid (L = if wrOk o then wrO o else []) := ⟨_, Lib.hid rfl⟩
  obtain ⟨E, hE⟩ : ∃ E : Int, Hid (E = if wrOk o then 0 else 1) := ⟨_, Lib.hid rfl⟩
  obtain ⟨nw, hnw⟩ : ∃ n, Hid (n = LW.length) := ⟨_, Lib.hid rfl⟩
  have HW := Lib.hid (fun W (h1 : Byt W (.slice xp np cp) o.p) (h2 : Byt W (.slice xd nd cd) o.d) => write_form optWrite_calls o S hS.out _ rfl LW E hLW.out hE.out _ _ W ha h1 h2 (by omega) (by omega) (by omega))
  rw [← hnw.out] at HW
  have hq : decide ((4096 : Int) < (np : Int)) = true := by have := hnp.out; simp; omega
  clear hl
  clear hss hpp hdd
  have HB0 := Lib.hid (((Below.refl w.heap.size w).alloc (Nat.le_refl _) (.cells #[.int .u32 (o.a : Int), .string S, .slice xp np cp, .slice xd nd cd, .int .u16 (n : Int), .int .u8 (x : Int), .int .u16 (z : Int)] 44)).alloc (by simp) (.cells #[.int .u32 (o.a : Int), .string S, .slice xp np cp, .slice xd nd cd] 25))
  have R0 := Lib.hid (RowAt.new (w.alloc (.cells #[.int .u32 (o.a : Int), .string S, .slice xp np cp, .slice xd nd cd, .int .u16 (n : Int), .int .u8 (x : Int), .int .u16 (z : Int)] 44)) #[.int .u32 (o.a : Int), .string S, .slice xp np cp, .slice xd nd cd] 25 (w.heap.size + 1) (by simp))
  have P0 := Lib.hid ((HP0.out.below ((Below.refl _ _).alloc (Nat.le_refl _) (.cells #[.int .u32 (o.a : Int), .string S, .slice xp np cp, .slice xd nd cd, .int .u16 (n : Int), .int .u8 (x : Int), .int .u16 (z : Int)] 44))).below ((Below.refl _ _).alloc (Nat.le_refl _) (.cells #[.int .u32 (o.a : Int), .string S, .slice xp np cp, .slice xd nd cd] 25)))
  have D0 := Lib.hid ((HD0.out.below ((Below.refl _ _).alloc (Nat.le_refl _) (.cells #[.int .u32 (o.a : Int), .string S, .slice xp np cp, .slice xd nd cd, .int .u16 (n : Int), .int .u8 (x : Int), .int .u16 (z : Int)] 44))).below ((Below.refl _ _).alloc (Nat.le_refl _) (.cells #[.int .u32 (o.a : Int), .string S, .slice xp np cp, .slice xd nd cd] 25)))
  go_enter Try.func8, Try.ntmps8
  go_wp2_with fail
  refine (HW.out _ P0.out D0.out).mono ?_
  rintro e w1 ⟨x3, c3, rfl, ho, hb⟩
  have HB_1 := Lib.hid (HB0.out.trans (hb.mono HB0.out.size))
  have R_1 := Lib.hid (RowAt.below R0.out hb)
  have P_1 := Lib.hid (Byt.below P0.out hb)
  have D_1 := Lib.hid (Byt.below D0.out hb)
  clear ho
  clear hb
  have Rc0 := R_1.out.cell 0 (.int .u32 (o.a : Int)) rfl
  have Rc1 := R_1.out.cell 1 (.string S) rfl
  have Rc2 := R_1.out.cell 2 (.slice xp np cp) rfl
  have Rc3 := R_1.out.cell 3 (.slice xd nd cd) rfl
  have Rz := R_1.out.lt
  go_wp2_with fail
  refine (HLG.out _ P_1.out D_1.out).mono ?_
  rintro e w2 ⟨rfl, hb⟩
  have HB_2 := Lib.hid (HB_1.out.trans (hb.mono HB_1.out.size))
  have R_2 := Lib.hid (RowAt.below R_1.out hb)
  have P_2 := Lib.hid (Byt.below P_1.out hb)
  have D_2 := Lib.hid (Byt.below D_1.out hb)
  clear hb Rc0 Rc1 Rc2 Rc3 Rz
  have Rc0 := R_2.out.cell 0 (.int .u32 (o.a : Int)) rfl
  have Rc1 := R_2.out.cell 1 (.string S) rfl
  have Rc2 := R_2.out.cell 2 (.slice xp np cp) rfl
  have Rc3 := R_2.out.cell 3 (.slice xd nd cd) rfl
  have Rz := R_2.out.lt
  go_wp2_with fail
  refine (works_calls _).mono ?_
  rintro e wz ⟨rfl, hb⟩
  have HBz := Lib.hid (HB_2.out.trans (hb.mono HB_2.out.size))
  clear hb Rc0 Rc1 Rc2 Rc3 Rz
  go_wp2
  go_ret
  exact ⟨rfl, HBz.out⟩

set_option maxRecDepth 100000 in
set_option maxHeartbeats 4000000 in
theorem optionLabels_no (o : Opt) (p d : Value) (n x z : Nat) (w : World) (ha : o.a < 4294967296) (hp : Byt w p o.p) (hd : Byt w d o.d) (hss : o.s.length ≤ 1048576) (hpp : o.p.length ≤ 1048576) (hdd : o.d.length ≤ 1048576) (hn : n < 65536) (hx : x < 256) (hz : z < 65536) (hlg : lgB o.s o.d = false) (hl : o.p.length ≤ 4096) (hw : wrOk o = false) :
    Calls Try.prog 8 #[.agg #[.int .u32 (o.a : Int), .string (sOf o.s), p, d, .int .u16 (n : Int), .int .u8 (x : Int), .int .u16 (z : Int)]] w fun e w' => e = .returned (.bool true) ∧ Below w.heap.size w w' := by
  have HP0 := Lib.hid hp
  have HD0 := Lib.hid hd
  obtain ⟨xp, cp, rfl, p1, p2⟩ := hp.shut
  obtain ⟨xd, cd, rfl, d1, d2⟩ := hd.shut
  clear hp hd
  obtain ⟨S, hS⟩ : ∃ S, Hid (S = sOf o.s) := ⟨_, Lib.hid rfl⟩
  obtain ⟨np, hnp⟩ : ∃ n, Hid (n = o.p.length) := ⟨_, Lib.hid rfl⟩
  obtain ⟨nd, hnd⟩ : ∃ n, Hid (n = o.d.length) := ⟨_, Lib.hid rfl⟩
  have HLG := Lib.hid (fun W (h1 : Byt W (.slice xp o.p.length cp) o.p) (h2 : Byt W (.slice xd o.d.length cd) o.d) => large_any o _ _ _ hlg W h1 h2 (by omega))
  unfold optV at HLG
  rw [← hS.out, ← hnp.out, ← hnd.out] at HLG ⊢
  rw [← hnp.out] at HP0 p1
  rw [← hnd.out] at HD0 d1
  obtain ⟨LW, hLW⟩ : ∃ L, Hid (L = if wrOk o then wrO o else []) := ⟨_, Lib.hid rfl⟩
  obtain ⟨E, hE⟩ : ∃ E : Int, Hid (E = if wrOk o then 0 else 1) := ⟨_, Lib.hid rfl⟩
  obtain ⟨nw, hnw⟩ : ∃ n, Hid (n = LW.length) := ⟨_, Lib.hid rfl⟩
  have HW := Lib.hid (fun W (h1 : Byt W (.slice xp np cp) o.p) (h2 : Byt W (.slice xd nd cd) o.d) => write_form optWrite_calls o S hS.out _ rfl LW E hLW.out hE.out _ _ W ha h1 h2 (by omega) (by omega) (by omega))
  rw [← hnw.out] at HW
  have hq : decide ((4096 : Int) < (np : Int)) = false := by have := hnp.out; simp; omega
  have hE1 : E = 1 := by rw [hE.out, hw]; rfl
  clear hE
  subst hE1
  clear hl
  clear hss hpp hdd
  have HB0 := Lib.hid (((Below.refl w.heap.size w).alloc (Nat.le_refl _) (.cells #[.int .u32 (o.a : Int), .string S, .slice xp np cp, .slice xd nd cd, .int .u16 (n : Int), .int .u8 (x : Int), .int .u16 (z : Int)] 44)).alloc (by simp) (.cells #[.int .u32 (o.a : Int), .string S, .slice xp np cp, .slice xd nd cd] 25))
  have R0 := Lib.hid (RowAt.new (w.alloc (.cells #[.int .u32 (o.a : Int), .string S, .slice xp np cp, .slice xd nd cd, .int .u16 (n : Int), .int .u8 (x : Int), .int .u16 (z : Int)] 44)) #[.int .u32 (o.a : Int), .string S, .slice xp np cp, .slice xd nd cd] 25 (w.heap.size + 1) (by simp))
  have P0 := Lib.hid ((HP0.out.below ((Below.refl _ _).alloc (Nat.le_refl _) (.cells #[.int .u32 (o.a : Int), .string S, .slice xp np cp, .slice xd nd cd, .int .u16 (n : Int), .int .u8 (x : Int), .int .u16 (z : Int)] 44))).below ((Below.refl _ _).alloc (Nat.le_refl _) (.cells #[.int .u32 (o.a : Int), .string S, .slice xp np cp, .slice xd nd cd] 25)))
  have D0 := Lib.hid ((HD0.out.below ((Below.refl _ _).alloc (Nat.le_refl _) (.cells #[.int .u32 (o.a : Int), .string S, .slice xp np cp, .slice xd nd cd, .int .u16 (n : Int), .int .u8 (x : Int), .int .u16 (z : Int)] 44))).below ((Below.refl _ _).alloc (Nat.le_refl _) (.cells #[.int .u32 (o.a : Int), .string S, .slice xp np cp, .slice xd nd cd] 25)))
  go_enter Try.func8, Try.ntmps8
  go_wp2_with fail
  refine (HW.out _ P0.out D0.out).mono ?_
  rintro e w1 ⟨x3, c3, rfl, ho, hb⟩
  have HB_1 := Lib.hid (HB0.out.trans (hb.mono HB0.out.size))
  have R_1 := Lib.hid (RowAt.below R0.out hb)
  have P_1 := Lib.hid (Byt.below P0.out hb)
  have D_1 := Lib.hid (Byt.below D0.out hb)
  clear ho
  clear hb
  have Rc0 := R_1.out.cell 0 (.int .u32 (o.a : Int)) rfl
  have Rc1 := R_1.out.cell 1 (.string S) rfl
  have Rc2 := R_1.out.cell 2 (.slice xp np cp) rfl
  have Rc3 := R_1.out.cell 3 (.slice xd nd cd) rfl
  have Rz := R_1.out.lt
  go_wp2_with fail
  refine (HLG.out _ P_1.out D_1.out).mono ?_
  rintro e w2 ⟨rfl, hb⟩
  have HB_2 := Lib.hid (HB_1.out.trans (hb.mono HB_1.out.size))
  have R_2 := Lib.hid (RowAt.below R_1.out hb)
  have P_2 := Lib.hid (Byt.below P_1.out hb)
  have D_2 := Lib.hid (Byt.below D_1.out hb)
  clear hb Rc0 Rc1 Rc2 Rc3 Rz
  have Rc0 := R_2.out.cell 0 (.int .u32 (o.a : Int)) rfl
  have Rc1 := R_2.out.cell 1 (.string S) rfl
  have Rc2 := R_2.out.cell 2 (.slice xp np cp) rfl
  have Rc3 := R_2.out.cell 3 (.slice xd nd cd) rfl
  have Rz := R_2.out.lt
  go_wp2_with fail
  refine (works_calls _).mono ?_
  rintro e wz ⟨rfl, hb⟩
  have HBz := Lib.hid (HB_2.out.trans (hb.mono HB_2.out.size))
  clear hb Rc0 Rc1 Rc2 Rc3 Rz
  go_wp2
  go_ret
  exact ⟨rfl, HBz.out⟩

set_option maxRecDepth 100000 in
set_option maxHeartbeats 4000000 in
theorem optionLabels_in_e (o : Opt) (p d : Value) (n x z : Nat) (w : World) (ha : o.a < 4294967296) (hp : Byt w p o.p) (hd : Byt w d o.d) (hss : o.s.length ≤ 1048576) (hpp : o.p.length ≤ 1048576) (hdd : o.d.length ≤ 1048576) (hn : n < 65536) (hx : x < 256) (hz : z < 65536) (hlg : lgB o.s o.d = false) (hl : o.p.length ≤ 4096) (hw : wrOk o = true) (hfi : z ≤ o.p.length + o.d.length) (h0 : o.s.length = 0) :
    Calls Try.prog 8 #[.agg #[.int .u32 (o.a : Int), .string (sOf o.s), p, d, .int .u16 (n : Int), .int .u8 (x : Int), .int .u16 (z : Int)]] w fun e w' => e = .returned (.bool true) ∧ Below w.heap.size w w' := by
  have HP0 := Lib.hid hp
  have HD0 := Lib.hid hd
  obtain ⟨xp, cp, rfl, p1, p2⟩ := hp.shut
  obtain ⟨xd, cd, rfl, d1, d2⟩ := hd.shut
  clear hp hd
  obtain ⟨S, hS⟩ : ∃ S, Hid (S = sOf o.s) := ⟨_, Lib.hid rfl⟩
  obtain ⟨np, hnp⟩ : ∃ n, Hid (n = o.p.length) := ⟨_, Lib.hid rfl⟩
  obtain ⟨nd, hnd⟩ : ∃ n, Hid (n = o.d.length) := ⟨_, Lib.hid rfl⟩
  have HLG := Lib.hid (fun W (h1 : Byt W (.slice xp o.p.length cp) o.p) (h2 : Byt W (.slice xd o.d.length cd) o.d) => large_any o _ _ _ hlg W h1 h2 (by omega))
  unfold optV at HLG
  rw [← hS.out, ← hnp.out, ← hnd.out] at HLG ⊢
  rw [← hnp.out] at HP0 p1
  rw [← hnd.out] at HD0 d1
  obtain ⟨LW, hLW⟩ : ∃ L, Hid (L = if wrOk o then wrO o else []) := ⟨_, Lib.hid rfl⟩
  obtain ⟨E, hE⟩ : ∃ E : Int, Hid (E = if wrOk o then 0 else 1) := ⟨_, Lib.hid rfl⟩
  obtain ⟨nw, hnw⟩ : ∃ n, Hid (n = LW.length) := ⟨_, Lib.hid rfl⟩
  have HW := Lib.hid (fun W (h1 : Byt W (.slice xp np cp) o.p) (h2 : Byt W (.slice xd nd cd) o.d) => write_form optWrite_calls o S hS.out _ rfl LW E hLW.out hE.out _ _ W ha h1 h2 (by omega) (by omega) (by omega))
  rw [← hnw.out] at HW
  have hq : decide ((4096 : Int) < (np : Int)) = false := by have := hnp.out; simp; omega
  have hlb := lg_no _ _ hlg
  have hE1 : E = 0 := by rw [hE.out, hw]; rfl
  clear hE
  subst hE1
  have hLW2 : LW = wrO o := by rw [hLW.out, hw]; rfl
  have hsz : Hid (S.size = o.s.length) := Lib.hid (by rw [hS.out, sOf_size])
  have hll : nw = 8 + 2 * S.size + np + nd := by rw [hnw.out, hLW2, wrO_length, hnp.out, hnd.out, hsz.out]
  have hSb : S.size ≤ 16384 := by rw [hsz.out]; exact hlb.1
  have hnb : nd ≤ 65536 := by rw [hnd.out]; exact hlb.2
  have hnp2 : np ≤ 4096 := by rw [hnp.out]; exact hl
  have hnw2 : nw ≤ 200000 := by omega
  have hq8 : decide ((nw : Int) < 6 + 2 * (S.size : Int)) = false := by simp; omega
  have hnw3 : 8 ≤ nw := by omega
  have HCP := Lib.hid (fun v W (h : Byt W v LW) => copy_form LW nw hnw.out (by omega) (by omega) v W h)
  have hfit : decide ((z : Int) ≤ (np : Int) + (nd : Int)) = true := by have := hnp.out; have := hnd.out; simp; omega
  obtain ⟨nm, hnm⟩ : ∃ n, Hid (n = ((o.p ++ o.d).drop z).length) := ⟨_, Lib.hid rfl⟩
  have hzl : z = ((o.p ++ o.d).take z).length := by rw [List.length_take, List.length_append]; have := hnp.out; have := hnd.out; omega
  have HRC := Lib.hid (fun v W (h : Byt W v ((LW.set 4 (UInt8.ofNat z)).set 5 (UInt8.ofNat (z / 256)))) => read_some_form ⟨o.a, o.s, (o.p ++ o.d).take z, (o.p ++ o.d).drop z⟩ _ (by rw [hLW2, rd_size o hw ha z hz, if_pos (by have := hnp.out; have := hnd.out; omega)]) S hS.out z nm hzl hnm.out v W h (by rw [List.length_set, List.length_set, ← hnw.out]; omega))
  clear hzl
  have hs0 : ((S.size : Int) == 0) = true := by rw [beq_iff_eq]; have := hsz.out; omega
  clear hlb hl hw hLW2 hll hss hpp hdd hfi h0
  have HB0 := Lib.hid (((Below.refl w.heap.size w).alloc (Nat.le_refl _) (.cells #[.int .u32 (o.a : Int), .string S, .slice xp np cp, .slice xd nd cd, .int .u16 (n : Int), .int .u8 (x : Int), .int .u16 (z : Int)] 44)).alloc (by simp) (.cells #[.int .u32 (o.a : Int), .string S, .slice xp np cp, .slice xd nd cd] 25))
  have R0 := Lib.hid (RowAt.new (w.alloc (.cells #[.int .u32 (o.a : Int), .string S, .slice xp np cp, .slice xd nd cd, .int .u16 (n : Int), .int .u8 (x : Int), .int .u16 (z : Int)] 44)) #[.int .u32 (o.a : Int), .string S, .slice xp np cp, .slice xd nd cd] 25 (w.heap.size + 1) (by simp))
  have P0 := Lib.hid ((HP0.out.below ((Below.refl _ _).alloc (Nat.le_refl _) (.cells #[.int .u32 (o.a : Int), .string S, .slice xp np cp, .slice xd nd cd, .int .u16 (n : Int), .int .u8 (x : Int), .int .u16 (z : Int)] 44))).below ((Below.refl _ _).alloc (Nat.le_refl _) (.cells #[.int .u32 (o.a : Int), .string S, .slice xp np cp, .slice xd nd cd] 25)))
  have D0 := Lib.hid ((HD0.out.below ((Below.refl _ _).alloc (Nat.le_refl _) (.cells #[.int .u32 (o.a : Int), .string S, .slice xp np cp, .slice xd nd cd, .int .u16 (n : Int), .int .u8 (x : Int), .int .u16 (z : Int)] 44))).below ((Below.refl _ _).alloc (Nat.le_refl _) (.cells #[.int .u32 (o.a : Int), .string S, .slice xp np cp, .slice xd nd cd] 25)))
  go_enter Try.func8, Try.ntmps8
  go_wp2_with fail
  refine (HW.out _ P0.out D0.out).mono ?_
  rintro e w1 ⟨x3, c3, rfl, ho, hb⟩
  have HB_1 := Lib.hid (HB0.out.trans (hb.mono HB0.out.size))
  have R_1 := Lib.hid (RowAt.below R0.out hb)
  have P_1 := Lib.hid (Byt.below P0.out hb)
  have D_1 := Lib.hid (Byt.below D0.out hb)
  have W_1 := Lib.hid ho.byt
  clear ho
  clear hb
  have Rc0 := R_1.out.cell 0 (.int .u32 (o.a : Int)) rfl
  have Rc1 := R_1.out.cell 1 (.string S) rfl
  have Rc2 := R_1.out.cell 2 (.slice xp np cp) rfl
  have Rc3 := R_1.out.cell 3 (.slice xd nd cd) rfl
  have Rz := R_1.out.lt
  go_wp2_with fail
  refine (HLG.out _ P_1.out D_1.out).mono ?_
  rintro e w2 ⟨rfl, hb⟩
  have HB_2 := Lib.hid (HB_1.out.trans (hb.mono HB_1.out.size))
  have R_2 := Lib.hid (RowAt.below R_1.out hb)
  have P_2 := Lib.hid (Byt.below P_1.out hb)
  have D_2 := Lib.hid (Byt.below D_1.out hb)
  have W_2 := Lib.hid (Byt.below W_1.out hb)
  clear hb Rc0 Rc1 Rc2 Rc3 Rz
  have Rc0 := R_2.out.cell 0 (.int .u32 (o.a : Int)) rfl
  have Rc1 := R_2.out.cell 1 (.string S) rfl
  have Rc2 := R_2.out.cell 2 (.slice xp np cp) rfl
  have Rc3 := R_2.out.cell 3 (.slice xd nd cd) rfl
  have Rz := R_2.out.lt
  go_wp2_with fail
  refine (HCP.out _ _ W_2.out).mono ?_
  rintro e w3 ⟨g, c4, rfl, hg1, hg2, hc4, hcm, ho, hb⟩
  have hk0 := OwnB.cell_at ho 4 (by rw [← hnw.out]; omega)
  have hf0 := OwnB.free ho (by omega) 4
  have hk1 := OwnB.cell_at ho 5 (by rw [← hnw.out]; omega)
  have hf1 := OwnB.free ho (by omega) 5
  have HBc := Lib.hid ((hb.setCell (p := ⟨g, 4, none⟩) hg1 (.int .u8 ((z : Int) % 256))).setCell (p := ⟨g, 5, none⟩) hg1 (.int .u8 ((z : Int) / 256)))
  have HC5 := Lib.hid (OwnB.set (OwnB.set ho 4 (by omega) (UInt8.ofNat z) ((z : Int) % 256) (by rw [UInt8.toNat_ofNat']; omega)) 5 (by omega) (UInt8.ofNat (z / 256)) ((z : Int) / 256) (by rw [UInt8.toNat_ofNat']; omega)).byt
  have HB_3 := Lib.hid (HB_2.out.trans (HBc.out.mono HB_2.out.size))
  have R_3 := Lib.hid (RowAt.below R_2.out HBc.out)
  have P_3 := Lib.hid (Byt.below P_2.out HBc.out)
  have D_3 := Lib.hid (Byt.below D_2.out HBc.out)
  have W_3 := Lib.hid (Byt.below W_2.out HBc.out)
  clear hb ho HBc Rc0 Rc1 Rc2 Rc3 Rz
  go_wp2_with fail
  refine (HRC.out _ _ HC5.out).mono ?_
  rintro e w4 ⟨x5, c5, x6, c6, rfl, _, _, hb⟩
  have HB_4 := Lib.hid (HB_3.out.trans (hb.mono HB_3.out.size))
  have R_4 := Lib.hid (RowAt.below R_3.out hb)
  have P_4 := Lib.hid (Byt.below P_3.out hb)
  have D_4 := Lib.hid (Byt.below D_3.out hb)
  have W_4 := Lib.hid (Byt.below W_3.out hb)
  clear hb hk0 hf0 hk1 hf1 hg1 hg2 hc4 hcm
  have HB_5 := Lib.hid (HB_4.out.alloc HB_4.out.size (.cells #[.int .u32 (o.a : Int), .string S, .slice x5 z c5, .slice x6 nm c6] 25))
  have R_5 := Lib.hid (RowAt.alloc R_4.out (.cells #[.int .u32 (o.a : Int), .string S, .slice x5 z c5, .slice x6 nm c6] 25))
  have P_5 := Lib.hid (Byt.below P_4.out ((Below.refl _ _).alloc (Nat.le_refl _) (.cells #[.int .u32 (o.a : Int), .string S, .slice x5 z c5, .slice x6 nm c6] 25)))
  have D_5 := Lib.hid (Byt.below D_4.out ((Below.refl _ _).alloc (Nat.le_refl _) (.cells #[.int .u32 (o.a : Int), .string S, .slice x5 z c5, .slice x6 nm c6] 25)))
  have W_5 := Lib.hid (Byt.below W_4.out ((Below.refl _ _).alloc (Nat.le_refl _) (.cells #[.int .u32 (o.a : Int), .string S, .slice x5 z c5, .slice x6 nm c6] 25)))
  have R10_5 := Lib.hid (RowAt.new w4 #[.int .u32 (o.a : Int), .string S, .slice x5 z c5, .slice x6 nm c6] 25 (w4.heap.size) (by first | rfl | simp))
  have Rc0 := R_5.out.cell 0 (.int .u32 (o.a : Int)) rfl
  have Rc1 := R_5.out.cell 1 (.string S) rfl
  have Rc2 := R_5.out.cell 2 (.slice xp np cp) rfl
  have Rc3 := R_5.out.cell 3 (.slice xd nd cd) rfl
  have Rz := R_5.out.lt
  have R10c0 := R10_5.out.cell 0 (.int .u32 (o.a : Int)) rfl
  have R10c1 := R10_5.out.cell 1 (.string S) rfl
  have R10c2 := R10_5.out.cell 2 (.slice x5 z c5) rfl
  have R10c3 := R10_5.out.cell 3 (.slice x6 nm c6) rfl
  have R10z := R10_5.out.lt
  go_wp2_with fail
  refine (works_calls _).mono ?_
  rintro e wz ⟨rfl, hb⟩
  have HBz := Lib.hid (HB_5.out.trans (hb.mono HB_5.out.size))
  clear hb Rc0 Rc1 Rc2 Rc3 Rz R10c0 R10c1 R10c2 R10c3 R10z
  go_wp2
  go_ret
  exact ⟨rfl, HBz.out⟩

set_option maxRecDepth 100000 in
set_option maxHeartbeats 4000000 in
theorem optionLabels_in_o1 (o : Opt) (p d : Value) (n x z : Nat) (w : World) (ha : o.a < 4294967296) (hp : Byt w p o.p) (hd : Byt w d o.d) (hss : o.s.length ≤ 1048576) (hpp : o.p.length ≤ 1048576) (hdd : o.d.length ≤ 1048576) (hn : n < 65536) (hx : x < 256) (hz : z < 65536) (hlg : lgB o.s o.d = false) (hl : o.p.length ≤ 4096) (hw : wrOk o = true) (hfi : z ≤ o.p.length + o.d.length) (h0 : 0 < o.s.length) (j : Nat) (hj : j = n % (2 * o.s.length)) (hjl : j < 2 * o.s.length) (hj2 : j % 2 = 1) (hxx : x ≠ 0) :
    Calls Try.prog 8 #[.agg #[.int .u32 (o.a : Int), .string (sOf o.s), p, d, .int .u16 (n : Int), .int .u8 (x : Int), .int .u16 (z : Int)]] w fun e w' => e = .returned (.bool true) ∧ Below w.heap.size w w' := by
  have HP0 := Lib.hid hp
  have HD0 := Lib.hid hd
  obtain ⟨xp, cp, rfl, p1, p2⟩ := hp.shut
  obtain ⟨xd, cd, rfl, d1, d2⟩ := hd.shut
  clear hp hd
  obtain ⟨S, hS⟩ : ∃ S, Hid (S = sOf o.s) := ⟨_, Lib.hid rfl⟩
  obtain ⟨np, hnp⟩ : ∃ n, Hid (n = o.p.length) := ⟨_, Lib.hid rfl⟩
  obtain ⟨nd, hnd⟩ : ∃ n, Hid (n = o.d.length) := ⟨_, Lib.hid rfl⟩
  have HLG := Lib.hid (fun W (h1 : Byt W (.slice xp o.p.length cp) o.p) (h2 : Byt W (.slice xd o.d.length cd) o.d) => large_any o _ _ _ hlg W h1 h2 (by omega))
  unfold optV at HLG
  rw [← hS.out, ← hnp.out, ← hnd.out] at HLG ⊢
  rw [← hnp.out] at HP0 p1
  rw [← hnd.out] at HD0 d1
  obtain ⟨LW, hLW⟩ : ∃ L, Hid (L = if wrOk o then wrO o else []) := ⟨_, Lib.hid rfl⟩
  obtain ⟨E, hE⟩ : ∃ E : Int, Hid (E = if wrOk o then 0 else 1) := ⟨_, Lib.hid rfl⟩
  obtain ⟨nw, hnw⟩ : ∃ n, Hid (n = LW.length) := ⟨_, Lib.hid rfl⟩
  have HW := Lib.hid (fun W (h1 : Byt W (.slice xp np cp) o.p) (h2 : Byt W (.slice xd nd cd) o.d) => write_form optWrite_calls o S hS.out _ rfl LW E hLW.out hE.out _ _ W ha h1 h2 (by omega) (by omega) (by omega))
  rw [← hnw.out] at HW
  have hq : decide ((4096 : Int) < (np : Int)) = false := by have := hnp.out; simp; omega
  have hlb := lg_no _ _ hlg
  have hE1 : E = 0 := by rw [hE.out, hw]; rfl
  clear hE
  subst hE1
  have hLW2 : LW = wrO o := by rw [hLW.out, hw]; rfl
  have hsz : Hid (S.size = o.s.length) := Lib.hid (by rw [hS.out, sOf_size])
  have hll : nw = 8 + 2 * S.size + np + nd := by rw [hnw.out, hLW2, wrO_length, hnp.out, hnd.out, hsz.out]
  have hSb : S.size ≤ 16384 := by rw [hsz.out]; exact hlb.1
  have hnb : nd ≤ 65536 := by rw [hnd.out]; exact hlb.2
  have hnp2 : np ≤ 4096 := by rw [hnp.out]; exact hl
  have hnw2 : nw ≤ 200000 := by omega
  have hq8 : decide ((nw : Int) < 6 + 2 * (S.size : Int)) = false := by simp; omega
  have hnw3 : 8 ≤ nw := by omega
  have HCP := Lib.hid (fun v W (h : Byt W v LW) => copy_form LW nw hnw.out (by omega) (by omega) v W h)
  have hfit : decide ((z : Int) ≤ (np : Int) + (nd : Int)) = true := by have := hnp.out; have := hnd.out; simp; omega
  obtain ⟨nm, hnm⟩ : ∃ n, Hid (n = ((o.p ++ o.d).drop z).length) := ⟨_, Lib.hid rfl⟩
  have hzl : z = ((o.p ++ o.d).take z).length := by rw [List.length_take, List.length_append]; have := hnp.out; have := hnd.out; omega
  have HRC := Lib.hid (fun v W (h : Byt W v ((LW.set 4 (UInt8.ofNat z)).set 5 (UInt8.ofNat (z / 256)))) => read_some_form ⟨o.a, o.s, (o.p ++ o.d).take z, (o.p ++ o.d).drop z⟩ _ (by rw [hLW2, rd_size o hw ha z hz, if_pos (by have := hnp.out; have := hnd.out; omega)]) S hS.out z nm hzl hnm.out v W h (by rw [List.length_set, List.length_set, ← hnw.out]; omega))
  clear hzl
  have hs0 : ((S.size : Int) == 0) = false := by rw [beq_eq_false_iff_ne]; have := hsz.out; omega
  have hs1 : ¬ S.size = 0 := by have := hsz.out; omega
  have hs2 : ¬ (S.size : Int) = 0 := by omega
  have hs3 : ¬ 2 * (S.size : Int) = 0 := by omega
  obtain ⟨J, hJ⟩ : ∃ J, Hid (J = 6 + j) := ⟨_, Lib.hid rfl⟩
  have hJ1 : J < nw := by have := hJ.out; have := hsz.out; omega
  have hm0 : (n : Int).tmod (2 * (S.size : Int)) = (j : Int) := by
    rw [Int.tmod_eq_emod_of_nonneg (by omega), hsz.out, hj]; push_cast; rfl
  have hm1 : (6 + (j : Int)) = (J : Int) := by have := hJ.out; omega
  have ht2 : (J : Int).tmod 2 = 1 := by rw [Int.tmod_eq_emod_of_nonneg (by omega)]; have := hJ.out; omega
  have hx0 : ((x : Int) != 0) = true := by simp; omega
  have hux : (UInt8.ofNat x).toNat = x := by rw [UInt8.toNat_ofNat']; omega
  have HRX := Lib.hid (fun v W (h : Byt W v (LW.set J (UInt8.ofNat x))) => read_none_form _ (by rw [hLW2, hJ.out]; exact rd_turned o hw j (by omega) _ (.inl ⟨by omega, fun e => by rw [e] at hux; simp at hux; omega⟩)) v W h (by rw [List.length_set, ← hnw.out]; omega))
  clear hlb hl hw hLW2 hll hss hpp hdd hfi h0 hj hjl hj2 hxx
  have HB0 := Lib.hid (((Below.refl w.heap.size w).alloc (Nat.le_refl _) (.cells #[.int .u32 (o.a : Int), .string S, .slice xp np cp, .slice xd nd cd, .int .u16 (n : Int), .int .u8 (x : Int), .int .u16 (z : Int)] 44)).alloc (by simp) (.cells #[.int .u32 (o.a : Int), .string S, .slice xp np cp, .slice xd nd cd] 25))
  have R0 := Lib.hid (RowAt.new (w.alloc (.cells #[.int .u32 (o.a : Int), .string S, .slice xp np cp, .slice xd nd cd, .int .u16 (n : Int), .int .u8 (x : Int), .int .u16 (z : Int)] 44)) #[.int .u32 (o.a : Int), .string S, .slice xp np cp, .slice xd nd cd] 25 (w.heap.size + 1) (by simp))
  have P0 := Lib.hid ((HP0.out.below ((Below.refl _ _).alloc (Nat.le_refl _) (.cells #[.int .u32 (o.a : Int), .string S, .slice xp np cp, .slice xd nd cd, .int .u16 (n : Int), .int .u8 (x : Int), .int .u16 (z : Int)] 44))).below ((Below.refl _ _).alloc (Nat.le_refl _) (.cells #[.int .u32 (o.a : Int), .string S, .slice xp np cp, .slice xd nd cd] 25)))
  have D0 := Lib.hid ((HD0.out.below ((Below.refl _ _).alloc (Nat.le_refl _) (.cells #[.int .u32 (o.a : Int), .string S, .slice xp np cp, .slice xd nd cd, .int .u16 (n : Int), .int .u8 (x : Int), .int .u16 (z : Int)] 44))).below ((Below.refl _ _).alloc (Nat.le_refl _) (.cells #[.int .u32 (o.a : Int), .string S, .slice xp np cp, .slice xd nd cd] 25)))
  go_enter Try.func8, Try.ntmps8
  go_wp2_with fail
  refine (HW.out _ P0.out D0.out).mono ?_
  rintro e w1 ⟨x3, c3, rfl, ho, hb⟩
  have HB_1 := Lib.hid (HB0.out.trans (hb.mono HB0.out.size))
  have R_1 := Lib.hid (RowAt.below R0.out hb)
  have P_1 := Lib.hid (Byt.below P0.out hb)
  have D_1 := Lib.hid (Byt.below D0.out hb)
  have W_1 := Lib.hid ho.byt
  clear ho
  clear hb
  have Rc0 := R_1.out.cell 0 (.int .u32 (o.a : Int)) rfl
  have Rc1 := R_1.out.cell 1 (.string S) rfl
  have Rc2 := R_1.out.cell 2 (.slice xp np cp) rfl
  have Rc3 := R_1.out.cell 3 (.slice xd nd cd) rfl
  have Rz := R_1.out.lt
  go_wp2_with fail
  refine (HLG.out _ P_1.out D_1.out).mono ?_
  rintro e w2 ⟨rfl, hb⟩
  have HB_2 := Lib.hid (HB_1.out.trans (hb.mono HB_1.out.size))
  have R_2 := Lib.hid (RowAt.below R_1.out hb)
  have P_2 := Lib.hid (Byt.below P_1.out hb)
  have D_2 := Lib.hid (Byt.below D_1.out hb)
  have W_2 := Lib.hid (Byt.below W_1.out hb)
  clear hb Rc0 Rc1 Rc2 Rc3 Rz
  have Rc0 := R_2.out.cell 0 (.int .u32 (o.a : Int)) rfl
  have Rc1 := R_2.out.cell 1 (.string S) rfl
  have Rc2 := R_2.out.cell 2 (.slice xp np cp) rfl
  have Rc3 := R_2.out.cell 3 (.slice xd nd cd) rfl
  have Rz := R_2.out.lt
  go_wp2_with fail
  refine (HCP.out _ _ W_2.out).mono ?_
  rintro e w3 ⟨g, c4, rfl, hg1, hg2, hc4, hcm, ho, hb⟩
  have hk0 := OwnB.cell_at ho 4 (by rw [← hnw.out]; omega)
  have hf0 := OwnB.free ho (by omega) 4
  have hk1 := OwnB.cell_at ho 5 (by rw [← hnw.out]; omega)
  have hf1 := OwnB.free ho (by omega) 5
  have HBc := Lib.hid ((hb.setCell (p := ⟨g, 4, none⟩) hg1 (.int .u8 ((z : Int) % 256))).setCell (p := ⟨g, 5, none⟩) hg1 (.int .u8 ((z : Int) / 256)))
  have HC5 := Lib.hid (OwnB.set (OwnB.set ho 4 (by omega) (UInt8.ofNat z) ((z : Int) % 256) (by rw [UInt8.toNat_ofNat']; omega)) 5 (by omega) (UInt8.ofNat (z / 256)) ((z : Int) / 256) (by rw [UInt8.toNat_ofNat']; omega)).byt
  have HB_3 := Lib.hid (HB_2.out.trans (HBc.out.mono HB_2.out.size))
  have R_3 := Lib.hid (RowAt.below R_2.out HBc.out)
  have P_3 := Lib.hid (Byt.below P_2.out HBc.out)
  have D_3 := Lib.hid (Byt.below D_2.out HBc.out)
  have W_3 := Lib.hid (Byt.below W_2.out HBc.out)
  clear hb ho HBc Rc0 Rc1 Rc2 Rc3 Rz
  go_wp2_with fail
  refine (HRC.out _ _ HC5.out).mono ?_
  rintro e w4 ⟨x5, c5, x6, c6, rfl, _, _, hb⟩
  have HB_4 := Lib.hid (HB_3.out.trans (hb.mono HB_3.out.size))
  have R_4 := Lib.hid (RowAt.below R_3.out hb)
  have P_4 := Lib.hid (Byt.below P_3.out hb)
  have D_4 := Lib.hid (Byt.below D_3.out hb)
  have W_4 := Lib.hid (Byt.below W_3.out hb)
  clear hb hk0 hf0 hk1 hf1 hg1 hg2 hc4 hcm
  have HB_5 := Lib.hid (HB_4.out.alloc HB_4.out.size (.cells #[.int .u32 (o.a : Int), .string S, .slice x5 z c5, .slice x6 nm c6] 25))
  have R_5 := Lib.hid (RowAt.alloc R_4.out (.cells #[.int .u32 (o.a : Int), .string S, .slice x5 z c5, .slice x6 nm c6] 25))
  have P_5 := Lib.hid (Byt.below P_4.out ((Below.refl _ _).alloc (Nat.le_refl _) (.cells #[.int .u32 (o.a : Int), .string S, .slice x5 z c5, .slice x6 nm c6] 25)))
  have D_5 := Lib.hid (Byt.below D_4.out ((Below.refl _ _).alloc (Nat.le_refl _) (.cells #[.int .u32 (o.a : Int), .string S, .slice x5 z c5, .slice x6 nm c6] 25)))
  have W_5 := Lib.hid (Byt.below W_4.out ((Below.refl _ _).alloc (Nat.le_refl _) (.cells #[.int .u32 (o.a : Int), .string S, .slice x5 z c5, .slice x6 nm c6] 25)))
  have R10_5 := Lib.hid (RowAt.new w4 #[.int .u32 (o.a : Int), .string S, .slice x5 z c5, .slice x6 nm c6] 25 (w4.heap.size) (by first | rfl | simp))
  have Rc0 := R_5.out.cell 0 (.int .u32 (o.a : Int)) rfl
  have Rc1 := R_5.out.cell 1 (.string S) rfl
  have Rc2 := R_5.out.cell 2 (.slice xp np cp) rfl
  have Rc3 := R_5.out.cell 3 (.slice xd nd cd) rfl
  have Rz := R_5.out.lt
  have R10c0 := R10_5.out.cell 0 (.int .u32 (o.a : Int)) rfl
  have R10c1 := R10_5.out.cell 1 (.string S) rfl
  have R10c2 := R10_5.out.cell 2 (.slice x5 z c5) rfl
  have R10c3 := R10_5.out.cell 3 (.slice x6 nm c6) rfl
  have R10z := R10_5.out.lt
  go_wp2_with fail
  refine (HCP.out _ _ W_5.out).mono ?_
  rintro e w6 ⟨g2, c7, rfl, hg1, hg2, hc4, hcm, ho, hb⟩
  have hk0 := OwnB.cell_at ho J (by rw [← hnw.out]; omega)
  have hf0 := OwnB.free ho (by omega) J
  have HBc := Lib.hid (hb.setCell (p := ⟨g2, J, none⟩) hg1 (.int .u8 (x : Int)))
  have HC6 := Lib.hid (OwnB.set ho J (by omega) (UInt8.ofNat x) (x : Int) (by rw [hux])).byt
  have HB_6 := Lib.hid (HB_5.out.trans (HBc.out.mono HB_5.out.size))
  have R_6 := Lib.hid (RowAt.below R_5.out HBc.out)
  have P_6 := Lib.hid (Byt.below P_5.out HBc.out)
  have D_6 := Lib.hid (Byt.below D_5.out HBc.out)
  have W_6 := Lib.hid (Byt.below W_5.out HBc.out)
  clear hb ho HBc Rc0 Rc1 Rc2 Rc3 Rz R10c0 R10c1 R10c2 R10c3 R10z
  go_wp2_with fail
  refine (HRX.out _ _ HC6.out).mono ?_
  rintro e w7 ⟨a7, s7, x7, n7, c8, x8, n8, c9, rfl, hb⟩
  have HB_7 := Lib.hid (HB_6.out.trans (hb.mono HB_6.out.size))
  have R_7 := Lib.hid (RowAt.below R_6.out hb)
  have P_7 := Lib.hid (Byt.below P_6.out hb)
  have D_7 := Lib.hid (Byt.below D_6.out hb)
  have W_7 := Lib.hid (Byt.below W_6.out hb)
  clear hb hk0 hf0 hg1 hg2 hc4 hcm
  have HB_8 := Lib.hid (HB_7.out.alloc HB_7.out.size (.cells #[.int .u32 a7, .string s7, .slice x7 n7 c8, .slice x8 n8 c9] 25))
  have R_8 := Lib.hid (RowAt.alloc R_7.out (.cells #[.int .u32 a7, .string s7, .slice x7 n7 c8, .slice x8 n8 c9] 25))
  have P_8 := Lib.hid (Byt.below P_7.out ((Below.refl _ _).alloc (Nat.le_refl _) (.cells #[.int .u32 a7, .string s7, .slice x7 n7 c8, .slice x8 n8 c9] 25)))
  have D_8 := Lib.hid (Byt.below D_7.out ((Below.refl _ _).alloc (Nat.le_refl _) (.cells #[.int .u32 a7, .string s7, .slice x7 n7 c8, .slice x8 n8 c9] 25)))
  have W_8 := Lib.hid (Byt.below W_7.out ((Below.refl _ _).alloc (Nat.le_refl _) (.cells #[.int .u32 a7, .string s7, .slice x7 n7 c8, .slice x8 n8 c9] 25)))
  go_wp2_with fail
  refine (works_calls _).mono ?_
  rintro e wz ⟨rfl, hb⟩
  have HBz := Lib.hid (HB_8.out.trans (hb.mono HB_8.out.size))
  clear hb
  go_wp2
  go_ret
  exact ⟨rfl, HBz.out⟩

set_option maxRecDepth 100000 in
set_option maxHeartbeats 4000000 in
theorem optionLabels_in_o0 (o : Opt) (p d : Value) (n x z : Nat) (w : World) (ha : o.a < 4294967296) (hp : Byt w p o.p) (hd : Byt w d o.d) (hss : o.s.length ≤ 1048576) (hpp : o.p.length ≤ 1048576) (hdd : o.d.length ≤ 1048576) (hn : n < 65536) (hx : x < 256) (hz : z < 65536) (hlg : lgB o.s o.d = false) (hl : o.p.length ≤ 4096) (hw : wrOk o = true) (hfi : z ≤ o.p.length + o.d.length) (h0 : 0 < o.s.length) (j : Nat) (hj : j = n % (2 * o.s.length)) (hjl : j < 2 * o.s.length) (hj2 : j % 2 = 1) (hxx : x = 0) :
    Calls Try.prog 8 #[.agg #[.int .u32 (o.a : Int), .string (sOf o.s), p, d, .int .u16 (n : Int), .int .u8 (x : Int), .int .u16 (z : Int)]] w fun e w' => e = .returned (.bool true) ∧ Below w.heap.size w w' := by
  have HP0 := Lib.hid hp
  have HD0 := Lib.hid hd
  obtain ⟨xp, cp, rfl, p1, p2⟩ := hp.shut
  obtain ⟨xd, cd, rfl, d1, d2⟩ := hd.shut
  clear hp hd
  obtain ⟨S, hS⟩ : ∃ S, Hid (S = sOf o.s) := ⟨_, Lib.hid rfl⟩
  obtain ⟨np, hnp⟩ : ∃ n, Hid (n = o.p.length) := ⟨_, Lib.hid rfl⟩
  obtain ⟨nd, hnd⟩ : ∃ n, Hid (n = o.d.length) := ⟨_, Lib.hid rfl⟩
  have HLG := Lib.hid (fun W (h1 : Byt W (.slice xp o.p.length cp) o.p) (h2 : Byt W (.slice xd o.d.length cd) o.d) => large_any o _ _ _ hlg W h1 h2 (by omega))
  unfold optV at HLG
  rw [← hS.out, ← hnp.out, ← hnd.out] at HLG ⊢
  rw [← hnp.out] at HP0 p1
  rw [← hnd.out] at HD0 d1
  obtain ⟨LW, hLW⟩ : ∃ L, Hid (L = if wrOk o then wrO o else []) := ⟨_, Lib.hid rfl⟩
  obtain ⟨E, hE⟩ : ∃ E : Int, Hid (E = if wrOk o then 0 else 1) := ⟨_, Lib.hid rfl⟩
  obtain ⟨nw, hnw⟩ : ∃ n, Hid (n = LW.length) := ⟨_, Lib.hid rfl⟩
  have HW := Lib.hid (fun W (h1 : Byt W (.slice xp np cp) o.p) (h2 : Byt W (.slice xd nd cd) o.d) => write_form optWrite_calls o S hS.out _ rfl LW E hLW.out hE.out _ _ W ha h1 h2 (by omega) (by omega) (by omega))
  rw [← hnw.out] at HW
  have hq : decide ((4096 : Int) < (np : Int)) = false := by have := hnp.out; simp; omega
  have hlb := lg_no _ _ hlg
  have hE1 : E = 0 := by rw [hE.out, hw]; rfl
  clear hE
  subst hE1
  have hLW2 : LW = wrO o := by rw [hLW.out, hw]; rfl
  have hsz : Hid (S.size = o.s.length) := Lib.hid (by rw [hS.out, sOf_size])
  have hll : nw = 8 + 2 * S.size + np + nd := by rw [hnw.out, hLW2, wrO_length, hnp.out, hnd.out, hsz.out]
  have hSb : S.size ≤ 16384 := by rw [hsz.out]; exact hlb.1
  have hnb : nd ≤ 65536 := by rw [hnd.out]; exact hlb.2
  have hnp2 : np ≤ 4096 := by rw [hnp.out]; exact hl
  have hnw2 : nw ≤ 200000 := by omega
  have hq8 : decide ((nw : Int) < 6 + 2 * (S.size : Int)) = false := by simp; omega
  have hnw3 : 8 ≤ nw := by omega
  have HCP := Lib.hid (fun v W (h : Byt W v LW) => copy_form LW nw hnw.out (by omega) (by omega) v W h)
  have hfit : decide ((z : Int) ≤ (np : Int) + (nd : Int)) = true := by have := hnp.out; have := hnd.out; simp; omega
  obtain ⟨nm, hnm⟩ : ∃ n, Hid (n = ((o.p ++ o.d).drop z).length) := ⟨_, Lib.hid rfl⟩
  have hzl : z = ((o.p ++ o.d).take z).length := by rw [List.length_take, List.length_append]; have := hnp.out; have := hnd.out; omega
  have HRC := Lib.hid (fun v W (h : Byt W v ((LW.set 4 (UInt8.ofNat z)).set 5 (UInt8.ofNat (z / 256)))) => read_some_form ⟨o.a, o.s, (o.p ++ o.d).take z, (o.p ++ o.d).drop z⟩ _ (by rw [hLW2, rd_size o hw ha z hz, if_pos (by have := hnp.out; have := hnd.out; omega)]) S hS.out z nm hzl hnm.out v W h (by rw [List.length_set, List.length_set, ← hnw.out]; omega))
  clear hzl
  have hs0 : ((S.size : Int) == 0) = false := by rw [beq_eq_false_iff_ne]; have := hsz.out; omega
  have hs1 : ¬ S.size = 0 := by have := hsz.out; omega
  have hs2 : ¬ (S.size : Int) = 0 := by omega
  have hs3 : ¬ 2 * (S.size : Int) = 0 := by omega
  obtain ⟨J, hJ⟩ : ∃ J, Hid (J = 6 + j) := ⟨_, Lib.hid rfl⟩
  have hJ1 : J < nw := by have := hJ.out; have := hsz.out; omega
  have hm0 : (n : Int).tmod (2 * (S.size : Int)) = (j : Int) := by
    rw [Int.tmod_eq_emod_of_nonneg (by omega), hsz.out, hj]; push_cast; rfl
  have hm1 : (6 + (j : Int)) = (J : Int) := by have := hJ.out; omega
  have ht2 : (J : Int).tmod 2 = 1 := by rw [Int.tmod_eq_emod_of_nonneg (by omega)]; have := hJ.out; omega
  have hx0 : ((x : Int) != 0) = false := by simp; omega
  have hux : (UInt8.ofNat x).toNat = x := by rw [UInt8.toNat_ofNat']; omega
  have HRX := Lib.hid (fun v W (h : Byt W v (LW.set J (UInt8.ofNat x))) => read_any_form _ v W h (by rw [List.length_set, ← hnw.out]; omega))
  clear hlb hl hw hLW2 hll hss hpp hdd hfi h0 hj hjl hj2 hxx
  have HB0 := Lib.hid (((Below.refl w.heap.size w).alloc (Nat.le_refl _) (.cells #[.int .u32 (o.a : Int), .string S, .slice xp np cp, .slice xd nd cd, .int .u16 (n : Int), .int .u8 (x : Int), .int .u16 (z : Int)] 44)).alloc (by simp) (.cells #[.int .u32 (o.a : Int), .string S, .slice xp np cp, .slice xd nd cd] 25))
  have R0 := Lib.hid (RowAt.new (w.alloc (.cells #[.int .u32 (o.a : Int), .string S, .slice xp np cp, .slice xd nd cd, .int .u16 (n : Int), .int .u8 (x : Int), .int .u16 (z : Int)] 44)) #[.int .u32 (o.a : Int), .string S, .slice xp np cp, .slice xd nd cd] 25 (w.heap.size + 1) (by simp))
  have P0 := Lib.hid ((HP0.out.below ((Below.refl _ _).alloc (Nat.le_refl _) (.cells #[.int .u32 (o.a : Int), .string S, .slice xp np cp, .slice xd nd cd, .int .u16 (n : Int), .int .u8 (x : Int), .int .u16 (z : Int)] 44))).below ((Below.refl _ _).alloc (Nat.le_refl _) (.cells #[.int .u32 (o.a : Int), .string S, .slice xp np cp, .slice xd nd cd] 25)))
  have D0 := Lib.hid ((HD0.out.below ((Below.refl _ _).alloc (Nat.le_refl _) (.cells #[.int .u32 (o.a : Int), .string S, .slice xp np cp, .slice xd nd cd, .int .u16 (n : Int), .int .u8 (x : Int), .int .u16 (z : Int)] 44))).below ((Below.refl _ _).alloc (Nat.le_refl _) (.cells #[.int .u32 (o.a : Int), .string S, .slice xp np cp, .slice xd nd cd] 25)))
  go_enter Try.func8, Try.ntmps8
  go_wp2_with fail
  refine (HW.out _ P0.out D0.out).mono ?_
  rintro e w1 ⟨x3, c3, rfl, ho, hb⟩
  have HB_1 := Lib.hid (HB0.out.trans (hb.mono HB0.out.size))
  have R_1 := Lib.hid (RowAt.below R0.out hb)
  have P_1 := Lib.hid (Byt.below P0.out hb)
  have D_1 := Lib.hid (Byt.below D0.out hb)
  have W_1 := Lib.hid ho.byt
  clear ho
  clear hb
  have Rc0 := R_1.out.cell 0 (.int .u32 (o.a : Int)) rfl
  have Rc1 := R_1.out.cell 1 (.string S) rfl
  have Rc2 := R_1.out.cell 2 (.slice xp np cp) rfl
  have Rc3 := R_1.out.cell 3 (.slice xd nd cd) rfl
  have Rz := R_1.out.lt
  go_wp2_with fail
  refine (HLG.out _ P_1.out D_1.out).mono ?_
  rintro e w2 ⟨rfl, hb⟩
  have HB_2 := Lib.hid (HB_1.out.trans (hb.mono HB_1.out.size))
  have R_2 := Lib.hid (RowAt.below R_1.out hb)
  have P_2 := Lib.hid (Byt.below P_1.out hb)
  have D_2 := Lib.hid (Byt.below D_1.out hb)
  have W_2 := Lib.hid (Byt.below W_1.out hb)
  clear hb Rc0 Rc1 Rc2 Rc3 Rz
  have Rc0 := R_2.out.cell 0 (.int .u32 (o.a : Int)) rfl
  have Rc1 := R_2.out.cell 1 (.string S) rfl
  have Rc2 := R_2.out.cell 2 (.slice xp np cp) rfl
  have Rc3 := R_2.out.cell 3 (.slice xd nd cd) rfl
  have Rz := R_2.out.lt
  go_wp2_with fail
  refine (HCP.out _ _ W_2.out).mono ?_
  rintro e w3 ⟨g, c4, rfl, hg1, hg2, hc4, hcm, ho, hb⟩
  have hk0 := OwnB.cell_at ho 4 (by rw [← hnw.out]; omega)
  have hf0 := OwnB.free ho (by omega) 4
  have hk1 := OwnB.cell_at ho 5 (by rw [← hnw.out]; omega)
  have hf1 := OwnB.free ho (by omega) 5
  have HBc := Lib.hid ((hb.setCell (p := ⟨g, 4, none⟩) hg1 (.int .u8 ((z : Int) % 256))).setCell (p := ⟨g, 5, none⟩) hg1 (.int .u8 ((z : Int) / 256)))
  have HC5 := Lib.hid (OwnB.set (OwnB.set ho 4 (by omega) (UInt8.ofNat z) ((z : Int) % 256) (by rw [UInt8.toNat_ofNat']; omega)) 5 (by omega) (UInt8.ofNat (z / 256)) ((z : Int) / 256) (by rw [UInt8.toNat_ofNat']; omega)).byt
  have HB_3 := Lib.hid (HB_2.out.trans (HBc.out.mono HB_2.out.size))
  have R_3 := Lib.hid (RowAt.below R_2.out HBc.out)
  have P_3 := Lib.hid (Byt.below P_2.out HBc.out)
  have D_3 := Lib.hid (Byt.below D_2.out HBc.out)
  have W_3 := Lib.hid (Byt.below W_2.out HBc.out)
  clear hb ho HBc Rc0 Rc1 Rc2 Rc3 Rz
  go_wp2_with fail
  refine (HRC.out _ _ HC5.out).mono ?_
  rintro e w4 ⟨x5, c5, x6, c6, rfl, _, _, hb⟩
  have HB_4 := Lib.hid (HB_3.out.trans (hb.mono HB_3.out.size))
  have R_4 := Lib.hid (RowAt.below R_3.out hb)
  have P_4 := Lib.hid (Byt.below P_3.out hb)
  have D_4 := Lib.hid (Byt.below D_3.out hb)
  have W_4 := Lib.hid (Byt.below W_3.out hb)
  clear hb hk0 hf0 hk1 hf1 hg1 hg2 hc4 hcm
  have HB_5 := Lib.hid (HB_4.out.alloc HB_4.out.size (.cells #[.int .u32 (o.a : Int), .string S, .slice x5 z c5, .slice x6 nm c6] 25))
  have R_5 := Lib.hid (RowAt.alloc R_4.out (.cells #[.int .u32 (o.a : Int), .string S, .slice x5 z c5, .slice x6 nm c6] 25))
  have P_5 := Lib.hid (Byt.below P_4.out ((Below.refl _ _).alloc (Nat.le_refl _) (.cells #[.int .u32 (o.a : Int), .string S, .slice x5 z c5, .slice x6 nm c6] 25)))
  have D_5 := Lib.hid (Byt.below D_4.out ((Below.refl _ _).alloc (Nat.le_refl _) (.cells #[.int .u32 (o.a : Int), .string S, .slice x5 z c5, .slice x6 nm c6] 25)))
  have W_5 := Lib.hid (Byt.below W_4.out ((Below.refl _ _).alloc (Nat.le_refl _) (.cells #[.int .u32 (o.a : Int), .string S, .slice x5 z c5, .slice x6 nm c6] 25)))
  have R10_5 := Lib.hid (RowAt.new w4 #[.int .u32 (o.a : Int), .string S, .slice x5 z c5, .slice x6 nm c6] 25 (w4.heap.size) (by first | rfl | simp))
  have Rc0 := R_5.out.cell 0 (.int .u32 (o.a : Int)) rfl
  have Rc1 := R_5.out.cell 1 (.string S) rfl
  have Rc2 := R_5.out.cell 2 (.slice xp np cp) rfl
  have Rc3 := R_5.out.cell 3 (.slice xd nd cd) rfl
  have Rz := R_5.out.lt
  have R10c0 := R10_5.out.cell 0 (.int .u32 (o.a : Int)) rfl
  have R10c1 := R10_5.out.cell 1 (.string S) rfl
  have R10c2 := R10_5.out.cell 2 (.slice x5 z c5) rfl
  have R10c3 := R10_5.out.cell 3 (.slice x6 nm c6) rfl
  have R10z := R10_5.out.lt
  go_wp2_with fail
  refine (HCP.out _ _ W_5.out).mono ?_
  rintro e w6 ⟨g2, c7, rfl, hg1, hg2, hc4, hcm, ho, hb⟩
  have hk0 := OwnB.cell_at ho J (by rw [← hnw.out]; omega)
  have hf0 := OwnB.free ho (by omega) J
  have HBc := Lib.hid (hb.setCell (p := ⟨g2, J, none⟩) hg1 (.int .u8 (x : Int)))
  have HC6 := Lib.hid (OwnB.set ho J (by omega) (UInt8.ofNat x) (x : Int) (by rw [hux])).byt
  have HB_6 := Lib.hid (HB_5.out.trans (HBc.out.mono HB_5.out.size))
  have R_6 := Lib.hid (RowAt.below R_5.out HBc.out)
  have P_6 := Lib.hid (Byt.below P_5.out HBc.out)
  have D_6 := Lib.hid (Byt.below D_5.out HBc.out)
  have W_6 := Lib.hid (Byt.below W_5.out HBc.out)
  clear hb ho HBc Rc0 Rc1 Rc2 Rc3 Rz R10c0 R10c1 R10c2 R10c3 R10z
  go_wp2_with fail
  refine (HRX.out _ _ HC6.out).mono ?_
  rintro e w7 ⟨a7, s7, x7, n7, c8, x8, n8, c9, E9, rfl, hb⟩
  have HB_7 := Lib.hid (HB_6.out.trans (hb.mono HB_6.out.size))
  have R_7 := Lib.hid (RowAt.below R_6.out hb)
  have P_7 := Lib.hid (Byt.below P_6.out hb)
  have D_7 := Lib.hid (Byt.below D_6.out hb)
  have W_7 := Lib.hid (Byt.below W_6.out hb)
  clear hb hk0 hf0 hg1 hg2 hc4 hcm
  have HB_8 := Lib.hid (HB_7.out.alloc HB_7.out.size (.cells #[.int .u32 a7, .string s7, .slice x7 n7 c8, .slice x8 n8 c9] 25))
  have R_8 := Lib.hid (RowAt.alloc R_7.out (.cells #[.int .u32 a7, .string s7, .slice x7 n7 c8, .slice x8 n8 c9] 25))
  have P_8 := Lib.hid (Byt.below P_7.out ((Below.refl _ _).alloc (Nat.le_refl _) (.cells #[.int .u32 a7, .string s7, .slice x7 n7 c8, .slice x8 n8 c9] 25)))
  have D_8 := Lib.hid (Byt.below D_7.out ((Below.refl _ _).alloc (Nat.le_refl _) (.cells #[.int .u32 a7, .string s7, .slice x7 n7 c8, .slice x8 n8 c9] 25)))
  have W_8 := Lib.hid (Byt.below W_7.out ((Below.refl _ _).alloc (Nat.le_refl _) (.cells #[.int .u32 a7, .string s7, .slice x7 n7 c8, .slice x8 n8 c9] 25)))
  go_wp2_with fail
  refine (works_calls _).mono ?_
  rintro e wz ⟨rfl, hb⟩
  have HBz := Lib.hid (HB_8.out.trans (hb.mono HB_8.out.size))
  clear hb
  go_wp2
  go_ret
  exact ⟨rfl, HBz.out⟩

set_option maxRecDepth 100000 in
set_option maxHeartbeats 4000000 in
theorem optionLabels_in_e1 (o : Opt) (p d : Value) (n x z : Nat) (w : World) (ha : o.a < 4294967296) (hp : Byt w p o.p) (hd : Byt w d o.d) (hss : o.s.length ≤ 1048576) (hpp : o.p.length ≤ 1048576) (hdd : o.d.length ≤ 1048576) (hn : n < 65536) (hx : x < 256) (hz : z < 65536) (hlg : lgB o.s o.d = false) (hl : o.p.length ≤ 4096) (hw : wrOk o = true) (hfi : z ≤ o.p.length + o.d.length) (h0 : 0 < o.s.length) (j : Nat) (hj : j = n % (2 * o.s.length)) (hjl : j < 2 * o.s.length) (hj2 : j % 2 = 0) (hxx : 127 < x) :
    Calls Try.prog 8 #[.agg #[.int .u32 (o.a : Int), .string (sOf o.s), p, d, .int .u16 (n : Int), .int .u8 (x : Int), .int .u16 (z : Int)]] w fun e w' => e = .returned (.bool true) ∧ Below w.heap.size w w' := by
  have HP0 := Lib.hid hp
  have HD0 := Lib.hid hd
  obtain ⟨xp, cp, rfl, p1, p2⟩ := hp.shut
  obtain ⟨xd, cd, rfl, d1, d2⟩ := hd.shut
  clear hp hd
  obtain ⟨S, hS⟩ : ∃ S, Hid (S = sOf o.s) := ⟨_, Lib.hid rfl⟩
  obtain ⟨np, hnp⟩ : ∃ n, Hid (n = o.p.length) := ⟨_, Lib.hid rfl⟩
  obtain ⟨nd, hnd⟩ : ∃ n, Hid (n = o.d.length) := ⟨_, Lib.hid rfl⟩
  have HLG := Lib.hid (fun W (h1 : Byt W (.slice xp o.p.length cp) o.p) (h2 : Byt W (.slice xd o.d.length cd) o.d) => large_any o _ _ _ hlg W h1 h2 (by omega))
  unfold optV at HLG
  rw [← hS.out, ← hnp.out, ← hnd.out] at HLG ⊢
  rw [← hnp.out] at HP0 p1
  rw [← hnd.out] at HD0 d1
  obtain ⟨LW, hLW⟩ : ∃ L, Hid (L = if wrOk o then wrO o else []) := ⟨_, Lib.hid rfl⟩
  obtain ⟨E, hE⟩ : ∃ E : Int, Hid (E = if wrOk o then 0 else 1) := ⟨_, Lib.hid rfl⟩
  obtain ⟨nw, hnw⟩ : ∃ n, Hid (n = LW.length) := ⟨_, Lib.hid rfl⟩
  have HW := Lib.hid (fun W (h1 : Byt W (.slice xp np cp) o.p) (h2 : Byt W (.slice xd nd cd) o.d) => write_form optWrite_calls o S hS.out _ rfl LW E hLW.out hE.out _ _ W ha h1 h2 (by omega) (by omega) (by omega))
  rw [← hnw.out] at HW
  have hq : decide ((4096 : Int) < (np : Int)) = false := by have := hnp.out; simp; omega
  have hlb := lg_no _ _ hlg
  have hE1 : E = 0 := by rw [hE.out, hw]; rfl
  clear hE
  subst hE1
  have hLW2 : LW = wrO o := by rw [hLW.out, hw]; rfl
  have hsz : Hid (S.size = o.s.length) := Lib.hid (by rw [hS.out, sOf_size])
  have hll : nw = 8 + 2 * S.size + np + nd := by rw [hnw.out, hLW2, wrO_length, hnp.out, hnd.out, hsz.out]
  have hSb : S.size ≤ 16384 := by rw [hsz.out]; exact hlb.1
  have hnb : nd ≤ 65536 := by rw [hnd.out]; exact hlb.2
  have hnp2 : np ≤ 4096 := by rw [hnp.out]; exact hl
  have hnw2 : nw ≤ 200000 := by omega
  have hq8 : decide ((nw : Int) < 6 + 2 * (S.size : Int)) = false := by simp; omega
  have hnw3 : 8 ≤ nw := by omega
  have HCP := Lib.hid (fun v W (h : Byt W v LW) => copy_form LW nw hnw.out (by omega) (by omega) v W h)
  have hfit : decide ((z : Int) ≤ (np : Int) + (nd : Int)) = true := by have := hnp.out; have := hnd.out; simp; omega
  obtain ⟨nm, hnm⟩ : ∃ n, Hid (n = ((o.p ++ o.d).drop z).length) := ⟨_, Lib.hid rfl⟩
  have hzl : z = ((o.p ++ o.d).take z).length := by rw [List.length_take, List.length_append]; have := hnp.out; have := hnd.out; omega
  have HRC := Lib.hid (fun v W (h : Byt W v ((LW.set 4 (UInt8.ofNat z)).set 5 (UInt8.ofNat (z / 256)))) => read_some_form ⟨o.a, o.s, (o.p ++ o.d).take z, (o.p ++ o.d).drop z⟩ _ (by rw [hLW2, rd_size o hw ha z hz, if_pos (by have := hnp.out; have := hnd.out; omega)]) S hS.out z nm hzl hnm.out v W h (by rw [List.length_set, List.length_set, ← hnw.out]; omega))
  clear hzl
  have hs0 : ((S.size : Int) == 0) = false := by rw [beq_eq_false_iff_ne]; have := hsz.out; omega
  have hs1 : ¬ S.size = 0 := by have := hsz.out; omega
  have hs2 : ¬ (S.size : Int) = 0 := by omega
  have hs3 : ¬ 2 * (S.size : Int) = 0 := by omega
  obtain ⟨J, hJ⟩ : ∃ J, Hid (J = 6 + j) := ⟨_, Lib.hid rfl⟩
  have hJ1 : J < nw := by have := hJ.out; have := hsz.out; omega
  have hm0 : (n : Int).tmod (2 * (S.size : Int)) = (j : Int) := by
    rw [Int.tmod_eq_emod_of_nonneg (by omega), hsz.out, hj]; push_cast; rfl
  have hm1 : (6 + (j : Int)) = (J : Int) := by have := hJ.out; omega
  have ht2 : (J : Int).tmod 2 = 0 := by rw [Int.tmod_eq_emod_of_nonneg (by omega)]; have := hJ.out; omega
  have hx0 : decide ((127 : Int) < (x : Int)) = true := by simp; omega
  have hux : (UInt8.ofNat x).toNat = x := by rw [UInt8.toNat_ofNat']; omega
  have HRX := Lib.hid (fun v W (h : Byt W v (LW.set J (UInt8.ofNat x))) => read_none_form _ (by rw [hLW2, hJ.out]; exact rd_turned o hw j (by omega) _ (.inr ⟨by omega, by rw [hux]; omega⟩)) v W h (by rw [List.length_set, ← hnw.out]; omega))
  clear hlb hl hw hLW2 hll hss hpp hdd hfi h0 hj hjl hj2 hxx
  have HB0 := Lib.hid (((Below.refl w.heap.size w).alloc (Nat.le_refl _) (.cells #[.int .u32 (o.a : Int), .string S, .slice xp np cp, .slice xd nd cd, .int .u16 (n : Int), .int .u8 (x : Int), .int .u16 (z : Int)] 44)).alloc (by simp) (.cells #[.int .u32 (o.a : Int), .string S, .slice xp np cp, .slice xd nd cd] 25))
  have R0 := Lib.hid (RowAt.new (w.alloc (.cells #[.int .u32 (o.a : Int), .string S, .slice xp np cp, .slice xd nd cd, .int .u16 (n : Int), .int .u8 (x : Int), .int .u16 (z : Int)] 44)) #[.int .u32 (o.a : Int), .string S, .slice xp np cp, .slice xd nd cd] 25 (w.heap.size + 1) (by simp))
  have P0 := Lib.hid ((HP0.out.below ((Below.refl _ _).alloc (Nat.le_refl _) (.cells #[.int .u32 (o.a : Int), .string S, .slice xp np cp, .slice xd nd cd, .int .u16 (n : Int), .int .u8 (x : Int), .int .u16 (z : Int)] 44))).below ((Below.refl _ _).alloc (Nat.le_refl _) (.cells #[.int .u32 (o.a : Int), .string S, .slice xp np cp, .slice xd nd cd] 25)))
  have D0 := Lib.hid ((HD0.out.below ((Below.refl _ _).alloc (Nat.le_refl _) (.cells #[.int .u32 (o.a : Int), .string S, .slice xp np cp, .slice xd nd cd, .int .u16 (n : Int), .int .u8 (x : Int), .int .u16 (z : Int)] 44))).below ((Below.refl _ _).alloc (Nat.le_refl _) (.cells #[.int .u32 (o.a : Int), .string S, .slice xp np cp, .slice xd nd cd] 25)))
  go_enter Try.func8, Try.ntmps8
  go_wp2_with fail
  refine (HW.out _ P0.out D0.out).mono ?_
  rintro e w1 ⟨x3, c3, rfl, ho, hb⟩
  have HB_1 := Lib.hid (HB0.out.trans (hb.mono HB0.out.size))
  have R_1 := Lib.hid (RowAt.below R0.out hb)
  have P_1 := Lib.hid (Byt.below P0.out hb)
  have D_1 := Lib.hid (Byt.below D0.out hb)
  have W_1 := Lib.hid ho.byt
  clear ho
  clear hb
  have Rc0 := R_1.out.cell 0 (.int .u32 (o.a : Int)) rfl
  have Rc1 := R_1.out.cell 1 (.string S) rfl
  have Rc2 := R_1.out.cell 2 (.slice xp np cp) rfl
  have Rc3 := R_1.out.cell 3 (.slice xd nd cd) rfl
  have Rz := R_1.out.lt
  go_wp2_with fail
  refine (HLG.out _ P_1.out D_1.out).mono ?_
  rintro e w2 ⟨rfl, hb⟩
  have HB_2 := Lib.hid (HB_1.out.trans (hb.mono HB_1.out.size))
  have R_2 := Lib.hid (RowAt.below R_1.out hb)
  have P_2 := Lib.hid (Byt.below P_1.out hb)
  have D_2 := Lib.hid (Byt.below D_1.out hb)
  have W_2 := Lib.hid (Byt.below W_1.out hb)
  clear hb Rc0 Rc1 Rc2 Rc3 Rz
  have Rc0 := R_2.out.cell 0 (.int .u32 (o.a : Int)) rfl
  have Rc1 := R_2.out.cell 1 (.string S) rfl
  have Rc2 := R_2.out.cell 2 (.slice xp np cp) rfl
  have Rc3 := R_2.out.cell 3 (.slice xd nd cd) rfl
  have Rz := R_2.out.lt
  go_wp2_with fail
  refine (HCP.out _ _ W_2.out).mono ?_
  rintro e w3 ⟨g, c4, rfl, hg1, hg2, hc4, hcm, ho, hb⟩
  have hk0 := OwnB.cell_at ho 4 (by rw [← hnw.out]; omega)
  have hf0 := OwnB.free ho (by omega) 4
  have hk1 := OwnB.cell_at ho 5 (by rw [← hnw.out]; omega)
  have hf1 := OwnB.free ho (by omega) 5
  have HBc := Lib.hid ((hb.setCell (p := ⟨g, 4, none⟩) hg1 (.int .u8 ((z : Int) % 256))).setCell (p := ⟨g, 5, none⟩) hg1 (.int .u8 ((z : Int) / 256)))
  have HC5 := Lib.hid (OwnB.set (OwnB.set ho 4 (by omega) (UInt8.ofNat z) ((z : Int) % 256) (by rw [UInt8.toNat_ofNat']; omega)) 5 (by omega) (UInt8.ofNat (z / 256)) ((z : Int) / 256) (by rw [UInt8.toNat_ofNat']; omega)).byt
  have HB_3 := Lib.hid (HB_2.out.trans (HBc.out.mono HB_2.out.size))
  have R_3 := Lib.hid (RowAt.below R_2.out HBc.out)
  have P_3 := Lib.hid (Byt.below P_2.out HBc.out)
  have D_3 := Lib.hid (Byt.below D_2.out HBc.out)
  have W_3 := Lib.hid (Byt.below W_2.out HBc.out)
  clear hb ho HBc Rc0 Rc1 Rc2 Rc3 Rz
  go_wp2_with fail
  refine (HRC.out _ _ HC5.out).mono ?_
  rintro e w4 ⟨x5, c5, x6, c6, rfl, _, _, hb⟩
  have HB_4 := Lib.hid (HB_3.out.trans (hb.mono HB_3.out.size))
  have R_4 := Lib.hid (RowAt.below R_3.out hb)
  have P_4 := Lib.hid (Byt.below P_3.out hb)
  have D_4 := Lib.hid (Byt.below D_3.out hb)
  have W_4 := Lib.hid (Byt.below W_3.out hb)
  clear hb hk0 hf0 hk1 hf1 hg1 hg2 hc4 hcm
  have HB_5 := Lib.hid (HB_4.out.alloc HB_4.out.size (.cells #[.int .u32 (o.a : Int), .string S, .slice x5 z c5, .slice x6 nm c6] 25))
  have R_5 := Lib.hid (RowAt.alloc R_4.out (.cells #[.int .u32 (o.a : Int), .string S, .slice x5 z c5, .slice x6 nm c6] 25))
  have P_5 := Lib.hid (Byt.below P_4.out ((Below.refl _ _).alloc (Nat.le_refl _) (.cells #[.int .u32 (o.a : Int), .string S, .slice x5 z c5, .slice x6 nm c6] 25)))
  have D_5 := Lib.hid (Byt.below D_4.out ((Below.refl _ _).alloc (Nat.le_refl _) (.cells #[.int .u32 (o.a : Int), .string S, .slice x5 z c5, .slice x6 nm c6] 25)))
  have W_5 := Lib.hid (Byt.below W_4.out ((Below.refl _ _).alloc (Nat.le_refl _) (.cells #[.int .u32 (o.a : Int), .string S, .slice x5 z c5, .slice x6 nm c6] 25)))
  have R10_5 := Lib.hid (RowAt.new w4 #[.int .u32 (o.a : Int), .string S, .slice x5 z c5, .slice x6 nm c6] 25 (w4.heap.size) (by first | rfl | simp))
  have Rc0 := R_5.out.cell 0 (.int .u32 (o.a : Int)) rfl
  have Rc1 := R_5.out.cell 1 (.string S) rfl
  have Rc2 := R_5.out.cell 2 (.slice xp np cp) rfl
  have Rc3 := R_5.out.cell 3 (.slice xd nd cd) rfl
  have Rz := R_5.out.lt
  have R10c0 := R10_5.out.cell 0 (.int .u32 (o.a : Int)) rfl
  have R10c1 := R10_5.out.cell 1 (.string S) rfl
  have R10c2 := R10_5.out.cell 2 (.slice x5 z c5) rfl
  have R10c3 := R10_5.out.cell 3 (.slice x6 nm c6) rfl
  have R10z := R10_5.out.lt
  go_wp2_with fail
  refine (HCP.out _ _ W_5.out).mono ?_
  rintro e w6 ⟨g2, c7, rfl, hg1, hg2, hc4, hcm, ho, hb⟩
  have hk0 := OwnB.cell_at ho J (by rw [← hnw.out]; omega)
  have hf0 := OwnB.free ho (by omega) J
  have HBc := Lib.hid (hb.setCell (p := ⟨g2, J, none⟩) hg1 (.int .u8 (x : Int)))
  have HC6 := Lib.hid (OwnB.set ho J (by omega) (UInt8.ofNat x) (x : Int) (by rw [hux])).byt
  have HB_6 := Lib.hid (HB_5.out.trans (HBc.out.mono HB_5.out.size))
  have R_6 := Lib.hid (RowAt.below R_5.out HBc.out)
  have P_6 := Lib.hid (Byt.below P_5.out HBc.out)
  have D_6 := Lib.hid (Byt.below D_5.out HBc.out)
  have W_6 := Lib.hid (Byt.below W_5.out HBc.out)
  clear hb ho HBc Rc0 Rc1 Rc2 Rc3 Rz R10c0 R10c1 R10c2 R10c3 R10z
  go_wp2_with fail
  refine (HRX.out _ _ HC6.out).mono ?_
  rintro e w7 ⟨a7, s7, x7, n7, c8, x8, n8, c9, rfl, hb⟩
  have HB_7 := Lib.hid (HB_6.out.trans (hb.mono HB_6.out.size))
  have R_7 := Lib.hid (RowAt.below R_6.out hb)
  have P_7 := Lib.hid (Byt.below P_6.out hb)
  have D_7 := Lib.hid (Byt.below D_6.out hb)
  have W_7 := Lib.hid (Byt.below W_6.out hb)
  clear hb hk0 hf0 hg1 hg2 hc4 hcm
  have HB_8 := Lib.hid (HB_7.out.alloc HB_7.out.size (.cells #[.int .u32 a7, .string s7, .slice x7 n7 c8, .slice x8 n8 c9] 25))
  have R_8 := Lib.hid (RowAt.alloc R_7.out (.cells #[.int .u32 a7, .string s7, .slice x7 n7 c8, .slice x8 n8 c9] 25))
  have P_8 := Lib.hid (Byt.below P_7.out ((Below.refl _ _).alloc (Nat.le_refl _) (.cells #[.int .u32 a7, .string s7, .slice x7 n7 c8, .slice x8 n8 c9] 25)))
  have D_8 := Lib.hid (Byt.below D_7.out ((Below.refl _ _).alloc (Nat.le_refl _) (.cells #[.int .u32 a7, .string s7, .slice x7 n7 c8, .slice x8 n8 c9] 25)))
  have W_8 := Lib.hid (Byt.below W_7.out ((Below.refl _ _).alloc (Nat.le_refl _) (.cells #[.int .u32 a7, .string s7, .slice x7 n7 c8, .slice x8 n8 c9] 25)))
  go_wp2_with fail
  refine (works_calls _).mono ?_
  rintro e wz ⟨rfl, hb⟩
  have HBz := Lib.hid (HB_8.out.trans (hb.mono HB_8.out.size))
  clear hb
  go_wp2
  go_ret
  exact ⟨rfl, HBz.out⟩

set_option maxRecDepth 100000 in
set_option maxHeartbeats 4000000 in
theorem optionLabels_in_e0 (o : Opt) (p d : Value) (n x z : Nat) (w : World) (ha : o.a < 4294967296) (hp : Byt w p o.p) (hd : Byt w d o.d) (hss : o.s.length ≤ 1048576) (hpp : o.p.length ≤ 1048576) (hdd : o.d.length ≤ 1048576) (hn : n < 65536) (hx : x < 256) (hz : z < 65536) (hlg : lgB o.s o.d = false) (hl : o.p.length ≤ 4096) (hw : wrOk o = true) (hfi : z ≤ o.p.length + o.d.length) (h0 : 0 < o.s.length) (j : Nat) (hj : j = n % (2 * o.s.length)) (hjl : j < 2 * o.s.length) (hj2 : j % 2 = 0) (hxx : x ≤ 127) :
    Calls Try.prog 8 #[.agg #[.int .u32 (o.a : Int), .string (sOf o.s), p, d, .int .u16 (n : Int), .int .u8 (x : Int), .int .u16 (z : Int)]] w fun e w' => e = .returned (.bool true) ∧ Below w.heap.size w w' := by
  have HP0 := Lib.hid hp
  have HD0 := Lib.hid hd
  obtain ⟨xp, cp, rfl, p1, p2⟩ := hp.shut
  obtain ⟨xd, cd, rfl, d1, d2⟩ := hd.shut
  clear hp hd
  obtain ⟨S, hS⟩ : ∃ S, Hid (S = sOf o.s) := ⟨_, Lib.hid rfl⟩
  obtain ⟨np, hnp⟩ : ∃ n, Hid (n = o.p.length) := ⟨_, Lib.hid rfl⟩
  obtain ⟨nd, hnd⟩ : ∃ n, Hid (n = o.d.length) := ⟨_, Lib.hid rfl⟩
  have HLG := Lib.hid (fun W (h1 : Byt W (.slice xp o.p.length cp) o.p) (h2 : Byt W (.slice xd o.d.length cd) o.d) => large_any o _ _ _ hlg W h1 h2 (by omega))
  unfold optV at HLG
  rw [← hS.out, ← hnp.out, ← hnd.out] at HLG ⊢
  rw [← hnp.out] at HP0 p1
  rw [← hnd.out] at HD0 d1
  obtain ⟨LW, hLW⟩ : ∃ L, Hid (L = if wrOk o then wrO o else []) := ⟨_, Lib.hid rfl⟩
  obtain ⟨E, hE⟩ : ∃ E : Int, Hid (E = if wrOk o then 0 else 1) := ⟨_, Lib.hid rfl⟩
  obtain ⟨nw, hnw⟩ : ∃ n, Hid (n = LW.length) := ⟨_, Lib.hid rfl⟩
  have HW := Lib.hid (fun W (h1 : Byt W (.slice xp np cp) o.p) (h2 : Byt W (.slice xd nd cd) o.d) => write_form optWrite_calls o S hS.out _ rfl LW E hLW.out hE.out _ _ W ha h1 h2 (by omega) (by omega) (by omega))
  rw [← hnw.out] at HW
  have hq : decide ((4096 : Int) < (np : Int)) = false := by have := hnp.out; simp; omega
  have hlb := lg_no _ _ hlg
  have hE1 : E = 0 := by rw [hE.out, hw]; rfl
  clear hE
  subst hE1
  have hLW2 : LW = wrO o := by rw [hLW.out, hw]; rfl
  have hsz : Hid (S.size = o.s.length) := Lib.hid (by rw [hS.out, sOf_size])
  have hll : nw = 8 + 2 * S.size + np + nd := by rw [hnw.out, hLW2, wrO_length, hnp.out, hnd.out, hsz.out]
  have hSb : S.size ≤ 16384 := by rw [hsz.out]; exact hlb.1
  have hnb : nd ≤ 65536 := by rw [hnd.out]; exact hlb.2
  have hnp2 : np ≤ 4096 := by rw [hnp.out]; exact hl
  have hnw2 : nw ≤ 200000 := by omega
  have hq8 : decide ((nw : Int) < 6 + 2 * (S.size : Int)) = false := by simp; omega
  have hnw3 : 8 ≤ nw := by omega
  have HCP := Lib.hid (fun v W (h : Byt W v LW) => copy_form LW nw hnw.out (by omega) (by omega) v W h)
  have hfit : decide ((z : Int) ≤ (np : Int) + (nd : Int)) = true := by have := hnp.out; have := hnd.out; simp; omega
  obtain ⟨nm, hnm⟩ : ∃ n, Hid (n = ((o.p ++ o.d).drop z).length) := ⟨_, Lib.hid rfl⟩
  have hzl : z = ((o.p ++ o.d).take z).length := by rw [List.length_take, List.length_append]; have := hnp.out; have := hnd.out; omega
  have HRC := Lib.hid (fun v W (h : Byt W v ((LW.set 4 (UInt8.ofNat z)).set 5 (UInt8.ofNat (z / 256)))) => read_some_form ⟨o.a, o.s, (o.p ++ o.d).take z, (o.p ++ o.d).drop z⟩ _ (by rw [hLW2, rd_size o hw ha z hz, if_pos (by have := hnp.out; have := hnd.out; omega)]) S hS.out z nm hzl hnm.out v W h (by rw [List.length_set, List.length_set, ← hnw.out]; omega))
  clear hzl
  have hs0 : ((S.size : Int) == 0) = false := by rw [beq_eq_false_iff_ne]; have := hsz.out; omega
  have hs1 : ¬ S.size = 0 := by have := hsz.out; omega
  have hs2 : ¬ (S.size : Int) = 0 := by omega
  have hs3 : ¬ 2 * (S.size : Int) = 0 := by omega
  obtain ⟨J, hJ⟩ : ∃ J, Hid (J = 6 + j) := ⟨_, Lib.hid rfl⟩
  have hJ1 : J < nw := by have := hJ.out; have := hsz.out; omega
  have hm0 : (n : Int).tmod (2 * (S.size : Int)) = (j : Int) := by
    rw [Int.tmod_eq_emod_of_nonneg (by omega), hsz.out, hj]; push_cast; rfl
  have hm1 : (6 + (j : Int)) = (J : Int) := by have := hJ.out; omega
  have ht2 : (J : Int).tmod 2 = 0 := by rw [Int.tmod_eq_emod_of_nonneg (by omega)]; have := hJ.out; omega
  have hx0 : decide ((127 : Int) < (x : Int)) = false := by simp; omega
  have hux : (UInt8.ofNat x).toNat = x := by rw [UInt8.toNat_ofNat']; omega
  have HRX := Lib.hid (fun v W (h : Byt W v (LW.set J (UInt8.ofNat x))) => read_any_form _ v W h (by rw [List.length_set, ← hnw.out]; omega))
  clear hlb hl hw hLW2 hll hss hpp hdd hfi h0 hj hjl hj2 hxx
  have HB0 := Lib.hid (((Below.refl w.heap.size w).alloc (Nat.le_refl _) (.cells #[.int .u32 (o.a : Int), .string S, .slice xp np cp, .slice xd nd cd, .int .u16 (n : Int), .int .u8 (x : Int), .int .u16 (z : Int)] 44)).alloc (by simp) (.cells #[.int .u32 (o.a : Int), .string S, .slice xp np cp, .slice xd nd cd] 25))
  have R0 := Lib.hid (RowAt.new (w.alloc (.cells #[.int .u32 (o.a : Int), .string S, .slice xp np cp, .slice xd nd cd, .int .u16 (n : Int), .int .u8 (x : Int), .int .u16 (z : Int)] 44)) #[.int .u32 (o.a : Int), .string S, .slice xp np cp, .slice xd nd cd] 25 (w.heap.size + 1) (by simp))
  have P0 := Lib.hid ((HP0.out.below ((Below.refl _ _).alloc (Nat.le_refl _) (.cells #[.int .u32 (o.a : Int), .string S, .slice xp np cp, .slice xd nd cd, .int .u16 (n : Int), .int .u8 (x : Int), .int .u16 (z : Int)] 44))).below ((Below.refl _ _).alloc (Nat.le_refl _) (.cells #[.int .u32 (o.a : Int), .string S, .slice xp np cp, .slice xd nd cd] 25)))
  have D0 := Lib.hid ((HD0.out.below ((Below.refl _ _).alloc (Nat.le_refl _) (.cells #[.int .u32 (o.a : Int), .string S, .slice xp np cp, .slice xd nd cd, .int .u16 (n : Int), .int .u8 (x : Int), .int .u16 (z : Int)] 44))).below ((Below.refl _ _).alloc (Nat.le_refl _) (.cells #[.int .u32 (o.a : Int), .string S, .slice xp np cp, .slice xd nd cd] 25)))
  go_enter Try.func8, Try.ntmps8
  go_wp2_with fail
  refine (HW.out _ P0.out D0.out).mono ?_
  rintro e w1 ⟨x3, c3, rfl, ho, hb⟩
  have HB_1 := Lib.hid (HB0.out.trans (hb.mono HB0.out.size))
  have R_1 := Lib.hid (RowAt.below R0.out hb)
  have P_1 := Lib.hid (Byt.below P0.out hb)
  have D_1 := Lib.hid (Byt.below D0.out hb)
  have W_1 := Lib.hid ho.byt
  clear ho
  clear hb
  have Rc0 := R_1.out.cell 0 (.int .u32 (o.a : Int)) rfl
  have Rc1 := R_1.out.cell 1 (.string S) rfl
  have Rc2 := R_1.out.cell 2 (.slice xp np cp) rfl
  have Rc3 := R_1.out.cell 3 (.slice xd nd cd) rfl
  have Rz := R_1.out.lt
  go_wp2_with fail
  refine (HLG.out _ P_1.out D_1.out).mono ?_
  rintro e w2 ⟨rfl, hb⟩
  have HB_2 := Lib.hid (HB_1.out.trans (hb.mono HB_1.out.size))
  have R_2 := Lib.hid (RowAt.below R_1.out hb)
  have P_2 := Lib.hid (Byt.below P_1.out hb)
  have D_2 := Lib.hid (Byt.below D_1.out hb)
  have W_2 := Lib.hid (Byt.below W_1.out hb)
  clear hb Rc0 Rc1 Rc2 Rc3 Rz
  have Rc0 := R_2.out.cell 0 (.int .u32 (o.a : Int)) rfl
  have Rc1 := R_2.out.cell 1 (.string S) rfl
  have Rc2 := R_2.out.cell 2 (.slice xp np cp) rfl
  have Rc3 := R_2.out.cell 3 (.slice xd nd cd) rfl
  have Rz := R_2.out.lt
  go_wp2_with fail
  refine (HCP.out _ _ W_2.out).mono ?_
  rintro e w3 ⟨g, c4, rfl, hg1, hg2, hc4, hcm, ho, hb⟩
  have hk0 := OwnB.cell_at ho 4 (by rw [← hnw.out]; omega)
  have hf0 := OwnB.free ho (by omega) 4
  have hk1 := OwnB.cell_at ho 5 (by rw [← hnw.out]; omega)
  have hf1 := OwnB.free ho (by omega) 5
  have HBc := Lib.hid ((hb.setCell (p := ⟨g, 4, none⟩) hg1 (.int .u8 ((z : Int) % 256))).setCell (p := ⟨g, 5, none⟩) hg1 (.int .u8 ((z : Int) / 256)))
  have HC5 := Lib.hid (OwnB.set (OwnB.set ho 4 (by omega) (UInt8.ofNat z) ((z : Int) % 256) (by rw [UInt8.toNat_ofNat']; omega)) 5 (by omega) (UInt8.ofNat (z / 256)) ((z : Int) / 256) (by rw [UInt8.toNat_ofNat']; omega)).byt
  have HB_3 := Lib.hid (HB_2.out.trans (HBc.out.mono HB_2.out.size))
  have R_3 := Lib.hid (RowAt.below R_2.out HBc.out)
  have P_3 := Lib.hid (Byt.below P_2.out HBc.out)
  have D_3 := Lib.hid (Byt.below D_2.out HBc.out)
  have W_3 := Lib.hid (Byt.below W_2.out HBc.out)
  clear hb ho HBc Rc0 Rc1 Rc2 Rc3 Rz
  go_wp2_with fail
  refine (HRC.out _ _ HC5.out).mono ?_
  rintro e w4 ⟨x5, c5, x6, c6, rfl, _, _, hb⟩
  have HB_4 := Lib.hid (HB_3.out.trans (hb.mono HB_3.out.size))
  have R_4 := Lib.hid (RowAt.below R_3.out hb)
  have P_4 := Lib.hid (Byt.below P_3.out hb)
  have D_4 := Lib.hid (Byt.below D_3.out hb)
  have W_4 := Lib.hid (Byt.below W_3.out hb)
  clear hb hk0 hf0 hk1 hf1 hg1 hg2 hc4 hcm
  have HB_5 := Lib.hid (HB_4.out.alloc HB_4.out.size (.cells #[.int .u32 (o.a : Int), .string S, .slice x5 z c5, .slice x6 nm c6] 25))
  have R_5 := Lib.hid (RowAt.alloc R_4.out (.cells #[.int .u32 (o.a : Int), .string S, .slice x5 z c5, .slice x6 nm c6] 25))
  have P_5 := Lib.hid (Byt.below P_4.out ((Below.refl _ _).alloc (Nat.le_refl _) (.cells #[.int .u32 (o.a : Int), .string S, .slice x5 z c5, .slice x6 nm c6] 25)))
  have D_5 := Lib.hid (Byt.below D_4.out ((Below.refl _ _).alloc (Nat.le_refl _) (.cells #[.int .u32 (o.a : Int), .string S, .slice x5 z c5, .slice x6 nm c6] 25)))
  have W_5 := Lib.hid (Byt.below W_4.out ((Below.refl _ _).alloc (Nat.le_refl _) (.cells #[.int .u32 (o.a : Int), .string S, .slice x5 z c5, .slice x6 nm c6] 25)))
  have R10_5 := Lib.hid (RowAt.new w4 #[.int .u32 (o.a : Int), .string S, .slice x5 z c5, .slice x6 nm c6] 25 (w4.heap.size) (by first | rfl | simp))
  have Rc0 := R_5.out.cell 0 (.int .u32 (o.a : Int)) rfl
  have Rc1 := R_5.out.cell 1 (.string S) rfl
  have Rc2 := R_5.out.cell 2 (.slice xp np cp) rfl
  have Rc3 := R_5.out.cell 3 (.slice xd nd cd) rfl
  have Rz := R_5.out.lt
  have R10c0 := R10_5.out.cell 0 (.int .u32 (o.a : Int)) rfl
  have R10c1 := R10_5.out.cell 1 (.string S) rfl
  have R10c2 := R10_5.out.cell 2 (.slice x5 z c5) rfl
  have R10c3 := R10_5.out.cell 3 (.slice x6 nm c6) rfl
  have R10z := R10_5.out.lt
  go_wp2_with fail
  refine (HCP.out _ _ W_5.out).mono ?_
  rintro e w6 ⟨g2, c7, rfl, hg1, hg2, hc4, hcm, ho, hb⟩
  have hk0 := OwnB.cell_at ho J (by rw [← hnw.out]; omega)
  have hf0 := OwnB.free ho (by omega) J
  have HBc := Lib.hid (hb.setCell (p := ⟨g2, J, none⟩) hg1 (.int .u8 (x : Int)))
  have HC6 := Lib.hid (OwnB.set ho J (by omega) (UInt8.ofNat x) (x : Int) (by rw [hux])).byt
  have HB_6 := Lib.hid (HB_5.out.trans (HBc.out.mono HB_5.out.size))
  have R_6 := Lib.hid (RowAt.below R_5.out HBc.out)
  have P_6 := Lib.hid (Byt.below P_5.out HBc.out)
  have D_6 := Lib.hid (Byt.below D_5.out HBc.out)
  have W_6 := Lib.hid (Byt.below W_5.out HBc.out)
  clear hb ho HBc Rc0 Rc1 Rc2 Rc3 Rz R10c0 R10c1 R10c2 R10c3 R10z
  go_wp2_with fail
  refine (HRX.out _ _ HC6.out).mono ?_
  rintro e w7 ⟨a7, s7, x7, n7, c8, x8, n8, c9, E9, rfl, hb⟩
  have HB_7 := Lib.hid (HB_6.out.trans (hb.mono HB_6.out.size))
  have R_7 := Lib.hid (RowAt.below R_6.out hb)
  have P_7 := Lib.hid (Byt.below P_6.out hb)
  have D_7 := Lib.hid (Byt.below D_6.out hb)
  have W_7 := Lib.hid (Byt.below W_6.out hb)
  clear hb hk0 hf0 hg1 hg2 hc4 hcm
  have HB_8 := Lib.hid (HB_7.out.alloc HB_7.out.size (.cells #[.int .u32 a7, .string s7, .slice x7 n7 c8, .slice x8 n8 c9] 25))
  have R_8 := Lib.hid (RowAt.alloc R_7.out (.cells #[.int .u32 a7, .string s7, .slice x7 n7 c8, .slice x8 n8 c9] 25))
  have P_8 := Lib.hid (Byt.below P_7.out ((Below.refl _ _).alloc (Nat.le_refl _) (.cells #[.int .u32 a7, .string s7, .slice x7 n7 c8, .slice x8 n8 c9] 25)))
  have D_8 := Lib.hid (Byt.below D_7.out ((Below.refl _ _).alloc (Nat.le_refl _) (.cells #[.int .u32 a7, .string s7, .slice x7 n7 c8, .slice x8 n8 c9] 25)))
  have W_8 := Lib.hid (Byt.below W_7.out ((Below.refl _ _).alloc (Nat.le_refl _) (.cells #[.int .u32 a7, .string s7, .slice x7 n7 c8, .slice x8 n8 c9] 25)))
  go_wp2_with fail
  refine (works_calls _).mono ?_
  rintro e wz ⟨rfl, hb⟩
  have HBz := Lib.hid (HB_8.out.trans (hb.mono HB_8.out.size))
  clear hb
  go_wp2
  go_ret
  exact ⟨rfl, HBz.out⟩

set_option maxRecDepth 100000 in
set_option maxHeartbeats 4000000 in
theorem optionLabels_out_e (o : Opt) (p d : Value) (n x z : Nat) (w : World) (ha : o.a < 4294967296) (hp : Byt w p o.p) (hd : Byt w d o.d) (hss : o.s.length ≤ 1048576) (hpp : o.p.length ≤ 1048576) (hdd : o.d.length ≤ 1048576) (hn : n < 65536) (hx : x < 256) (hz : z < 65536) (hlg : lgB o.s o.d = false) (hl : o.p.length ≤ 4096) (hw : wrOk o = true) (hfi : o.p.length + o.d.length < z) (h0 : o.s.length = 0) :
    Calls Try.prog 8 #[.agg #[.int .u32 (o.a : Int), .string (sOf o.s), p, d, .int .u16 (n : Int), .int .u8 (x : Int), .int .u16 (z : Int)]] w fun e w' => e = .returned (.bool true) ∧ Below w.heap.size w w' := by
  have HP0 := Lib.hid hp
  have HD0 := Lib.hid hd
  obtain ⟨xp, cp, rfl, p1, p2⟩ := hp.shut
  obtain ⟨xd, cd, rfl, d1, d2⟩ := hd.shut
  clear hp hd
  obtain ⟨S, hS⟩ : ∃ S, Hid (S = sOf o.s) := ⟨_, Lib.hid rfl⟩
  obtain ⟨np, hnp⟩ : ∃ n, Hid (n = o.p.length) := ⟨_, Lib.hid rfl⟩
  obtain ⟨nd, hnd⟩ : ∃ n, Hid (n = o.d.length) := ⟨_, Lib.hid rfl⟩
  have HLG := Lib.hid (fun W (h1 : Byt W (.slice xp o.p.length cp) o.p) (h2 : Byt W (.slice xd o.d.length cd) o.d) => large_any o _ _ _ hlg W h1 h2 (by omega))
  unfold optV at HLG
  rw [← hS.out, ← hnp.out, ← hnd.out] at HLG ⊢
  rw [← hnp.out] at HP0 p1
  rw [← hnd.out] at HD0 d1
  obtain ⟨LW, hLW⟩ : ∃ L, Hid (L = if wrOk o then wrO o else []) := ⟨_, Lib.hid rfl⟩
  obtain ⟨E, hE⟩ : ∃ E : Int, Hid (E = if wrOk o then 0 else 1) := ⟨_, Lib.hid rfl⟩
  obtain ⟨nw, hnw⟩ : ∃ n, Hid (n = LW.length) := ⟨_, Lib.hid rfl⟩
  have HW := Lib.hid (fun W (h1 : Byt W (.slice xp np cp) o.p) (h2 : Byt W (.slice xd nd cd) o.d) => write_form optWrite_calls o S hS.out _ rfl LW E hLW.out hE.out _ _ W ha h1 h2 (by omega) (by omega) (by omega))
  rw [← hnw.out] at HW
  have hq : decide ((4096 : Int) < (np : Int)) = false := by have := hnp.out; simp; omega
  have hlb := lg_no _ _ hlg
  have hE1 : E = 0 := by rw [hE.out, hw]; rfl
  clear hE
  subst hE1
  have hLW2 : LW = wrO o := by rw [hLW.out, hw]; rfl
  have hsz : Hid (S.size = o.s.length) := Lib.hid (by rw [hS.out, sOf_size])
  have hll : nw = 8 + 2 * S.size + np + nd := by rw [hnw.out, hLW2, wrO_length, hnp.out, hnd.out, hsz.out]
  have hSb : S.size ≤ 16384 := by rw [hsz.out]; exact hlb.1
  have hnb : nd ≤ 65536 := by rw [hnd.out]; exact hlb.2
  have hnp2 : np ≤ 4096 := by rw [hnp.out]; exact hl
  have hnw2 : nw ≤ 200000 := by omega
  have hq8 : decide ((nw : Int) < 6 + 2 * (S.size : Int)) = false := by simp; omega
  have hnw3 : 8 ≤ nw := by omega
  have HCP := Lib.hid (fun v W (h : Byt W v LW) => copy_form LW nw hnw.out (by omega) (by omega) v W h)
  have hfit : decide ((z : Int) ≤ (np : Int) + (nd : Int)) = false := by have := hnp.out; have := hnd.out; simp; omega
  have HRC := Lib.hid (fun v W (h : Byt W v ((LW.set 4 (UInt8.ofNat z)).set 5 (UInt8.ofNat (z / 256)))) => read_none_form _ (by rw [hLW2, rd_size o hw ha z hz, if_neg (by have := hnp.out; have := hnd.out; omega)]) v W h (by rw [List.length_set, List.length_set, ← hnw.out]; omega))
  have hs0 : ((S.size : Int) == 0) = true := by rw [beq_iff_eq]; have := hsz.out; omega
  clear hlb hl hw hLW2 hll hss hpp hdd hfi h0
  have HB0 := Lib.hid (((Below.refl w.heap.size w).alloc (Nat.le_refl _) (.cells #[.int .u32 (o.a : Int), .string S, .slice xp np cp, .slice xd nd cd, .int .u16 (n : Int), .int .u8 (x : Int), .int .u16 (z : Int)] 44)).alloc (by simp) (.cells #[.int .u32 (o.a : Int), .string S, .slice xp np cp, .slice xd nd cd] 25))
  have R0 := Lib.hid (RowAt.new (w.alloc (.cells #[.int .u32 (o.a : Int), .string S, .slice xp np cp, .slice xd nd cd, .int .u16 (n : Int), .int .u8 (x : Int), .int .u16 (z : Int)] 44)) #[.int .u32 (o.a : Int), .string S, .slice xp np cp, .slice xd nd cd] 25 (w.heap.size + 1) (by simp))
  have P0 := Lib.hid ((HP0.out.below ((Below.refl _ _).alloc (Nat.le_refl _) (.cells #[.int .u32 (o.a : Int), .string S, .slice xp np cp, .slice xd nd cd, .int .u16 (n : Int), .int .u8 (x : Int), .int .u16 (z : Int)] 44))).below ((Below.refl _ _).alloc (Nat.le_refl _) (.cells #[.int .u32 (o.a : Int), .string S, .slice xp np cp, .slice xd nd cd] 25)))
  have D0 := Lib.hid ((HD0.out.below ((Below.refl _ _).alloc (Nat.le_refl _) (.cells #[.int .u32 (o.a : Int), .string S, .slice xp np cp, .slice xd nd cd, .int .u16 (n : Int), .int .u8 (x : Int), .int .u16 (z : Int)] 44))).below ((Below.refl _ _).alloc (Nat.le_refl _) (.cells #[.int .u32 (o.a : Int), .string S, .slice xp np cp, .slice xd nd cd] 25)))
  go_enter Try.func8, Try.ntmps8
  go_wp2_with fail
  refine (HW.out _ P0.out D0.out).mono ?_
  rintro e w1 ⟨x3, c3, rfl, ho, hb⟩
  have HB_1 := Lib.hid (HB0.out.trans (hb.mono HB0.out.size))
  have R_1 := Lib.hid (RowAt.below R0.out hb)
  have P_1 := Lib.hid (Byt.below P0.out hb)
  have D_1 := Lib.hid (Byt.below D0.out hb)
  have W_1 := Lib.hid ho.byt
  clear ho
  clear hb
  have Rc0 := R_1.out.cell 0 (.int .u32 (o.a : Int)) rfl
  have Rc1 := R_1.out.cell 1 (.string S) rfl
  have Rc2 := R_1.out.cell 2 (.slice xp np cp) rfl
  have Rc3 := R_1.out.cell 3 (.slice xd nd cd) rfl
  have Rz := R_1.out.lt
  go_wp2_with fail
  refine (HLG.out _ P_1.out D_1.out).mono ?_
  rintro e w2 ⟨rfl, hb⟩
  have HB_2 := Lib.hid (HB_1.out.trans (hb.mono HB_1.out.size))
  have R_2 := Lib.hid (RowAt.below R_1.out hb)
  have P_2 := Lib.hid (Byt.below P_1.out hb)
  have D_2 := Lib.hid (Byt.below D_1.out hb)
  have W_2 := Lib.hid (Byt.below W_1.out hb)
  clear hb Rc0 Rc1 Rc2 Rc3 Rz
  have Rc0 := R_2.out.cell 0 (.int .u32 (o.a : Int)) rfl
  have Rc1 := R_2.out.cell 1 (.string S) rfl
  have Rc2 := R_2.out.cell 2 (.slice xp np cp) rfl
  have Rc3 := R_2.out.cell 3 (.slice xd nd cd) rfl
  have Rz := R_2.out.lt
  go_wp2_with fail
  refine (HCP.out _ _ W_2.out).mono ?_
  rintro e w3 ⟨g, c4, rfl, hg1, hg2, hc4, hcm, ho, hb⟩
  have hk0 := OwnB.cell_at ho 4 (by rw [← hnw.out]; omega)
  have hf0 := OwnB.free ho (by omega) 4
  have hk1 := OwnB.cell_at ho 5 (by rw [← hnw.out]; omega)
  have hf1 := OwnB.free ho (by omega) 5
  have HBc := Lib.hid ((hb.setCell (p := ⟨g, 4, none⟩) hg1 (.int .u8 ((z : Int) % 256))).setCell (p := ⟨g, 5, none⟩) hg1 (.int .u8 ((z : Int) / 256)))
  have HC5 := Lib.hid (OwnB.set (OwnB.set ho 4 (by omega) (UInt8.ofNat z) ((z : Int) % 256) (by rw [UInt8.toNat_ofNat']; omega)) 5 (by omega) (UInt8.ofNat (z / 256)) ((z : Int) / 256) (by rw [UInt8.toNat_ofNat']; omega)).byt
  have HB_3 := Lib.hid (HB_2.out.trans (HBc.out.mono HB_2.out.size))
  have R_3 := Lib.hid (RowAt.below R_2.out HBc.out)
  have P_3 := Lib.hid (Byt.below P_2.out HBc.out)
  have D_3 := Lib.hid (Byt.below D_2.out HBc.out)
  have W_3 := Lib.hid (Byt.below W_2.out HBc.out)
  clear hb ho HBc Rc0 Rc1 Rc2 Rc3 Rz
  go_wp2_with fail
  refine (HRC.out _ _ HC5.out).mono ?_
  rintro e w4 ⟨a5, s5, x5, n5, c5, x6, n6, c6, rfl, hb⟩
  have HB_4 := Lib.hid (HB_3.out.trans (hb.mono HB_3.out.size))
  have R_4 := Lib.hid (RowAt.below R_3.out hb)
  have P_4 := Lib.hid (Byt.below P_3.out hb)
  have D_4 := Lib.hid (Byt.below D_3.out hb)
  have W_4 := Lib.hid (Byt.below W_3.out hb)
  clear hb hk0 hf0 hk1 hf1 hg1 hg2 hc4 hcm
  have HB_5 := Lib.hid (HB_4.out.alloc HB_4.out.size (.cells #[.int .u32 a5, .string s5, .slice x5 n5 c5, .slice x6 n6 c6] 25))
  have R_5 := Lib.hid (RowAt.alloc R_4.out (.cells #[.int .u32 a5, .string s5, .slice x5 n5 c5, .slice x6 n6 c6] 25))
  have P_5 := Lib.hid (Byt.below P_4.out ((Below.refl _ _).alloc (Nat.le_refl _) (.cells #[.int .u32 a5, .string s5, .slice x5 n5 c5, .slice x6 n6 c6] 25)))
  have D_5 := Lib.hid (Byt.below D_4.out ((Below.refl _ _).alloc (Nat.le_refl _) (.cells #[.int .u32 a5, .string s5, .slice x5 n5 c5, .slice x6 n6 c6] 25)))
  have W_5 := Lib.hid (Byt.below W_4.out ((Below.refl _ _).alloc (Nat.le_refl _) (.cells #[.int .u32 a5, .string s5, .slice x5 n5 c5, .slice x6 n6 c6] 25)))
  have R10_5 := Lib.hid (RowAt.new w4 #[.int .u32 a5, .string s5, .slice x5 n5 c5, .slice x6 n6 c6] 25 (w4.heap.size) (by first | rfl | simp))
  have Rc0 := R_5.out.cell 0 (.int .u32 (o.a : Int)) rfl
  have Rc1 := R_5.out.cell 1 (.string S) rfl
  have Rc2 := R_5.out.cell 2 (.slice xp np cp) rfl
  have Rc3 := R_5.out.cell 3 (.slice xd nd cd) rfl
  have Rz := R_5.out.lt
  go_wp2_with fail
  refine (works_calls _).mono ?_
  rintro e wz ⟨rfl, hb⟩
  have HBz := Lib.hid (HB_5.out.trans (hb.mono HB_5.out.size))
  clear hb Rc0 Rc1 Rc2 Rc3 Rz
  go_wp2
  go_ret
  exact ⟨rfl, HBz.out⟩

set_option maxRecDepth 100000 in
set_option maxHeartbeats 4000000 in
theorem optionLabels_out_o1 (o : Opt) (p d : Value) (n x z : Nat) (w : World) (ha : o.a < 4294967296) (hp : Byt w p o.p) (hd : Byt w d o.d) (hss : o.s.length ≤ 1048576) (hpp : o.p.length ≤ 1048576) (hdd : o.d.length ≤ 1048576) (hn : n < 65536) (hx : x < 256) (hz : z < 65536) (hlg : lgB o.s o.d = false) (hl : o.p.length ≤ 4096) (hw : wrOk o = true) (hfi : o.p.length + o.d.length < z) (h0 : 0 < o.s.length) (j : Nat) (hj : j = n % (2 * o.s.length)) (hjl : j < 2 * o.s.length) (hj2 : j % 2 = 1) (hxx : x ≠ 0) :
    Calls Try.prog 8 #[.agg #[.int .u32 (o.a : Int), .string (sOf o.s), p, d, .int .u16 (n : Int), .int .u8 (x : Int), .int .u16 (z : Int)]] w fun e w' => e = .returned (.bool true) ∧ Below w.heap.size w w' := by
  have HP0 := Lib.hid hp
  have HD0 := Lib.hid hd
  obtain ⟨xp, cp, rfl, p1, p2⟩ := hp.shut
  obtain ⟨xd, cd, rfl, d1, d2⟩ := hd.shut
  clear hp hd
  obtain ⟨S, hS⟩ : ∃ S, Hid (S = sOf o.s) := ⟨_, Lib.hid rfl⟩
  obtain ⟨np, hnp⟩ : ∃ n, Hid (n = o.p.length) := ⟨_, Lib.hid rfl⟩
  obtain ⟨nd, hnd⟩ : ∃ n, Hid (n = o.d.length) := ⟨_, Lib.hid rfl⟩
  have HLG := Lib.hid (fun W (h1 : Byt W (.slice xp o.p.length cp) o.p) (h2 : Byt W (.slice xd o.d.length cd) o.d) => large_any o _ _ _ hlg W h1 h2 (by omega))
  unfold optV at HLG
  rw [← hS.out, ← hnp.out, ← hnd.out] at HLG ⊢
  rw [← hnp.out] at HP0 p1
  rw [← hnd.out] at HD0 d1
  obtain ⟨LW, hLW⟩ : ∃ L, Hid (L = if wrOk o then wrO o else []) := ⟨_, Lib.hid rfl⟩
  obtain ⟨E, hE⟩ : ∃ E : Int, Hid (E = if wrOk o then 0 else 1) := ⟨_, Lib.hid rfl⟩
  obtain ⟨nw, hnw⟩ : ∃ n, Hid (n = LW.length) := ⟨_, Lib.hid rfl⟩
  have HW := Lib.hid (fun W (h1 : Byt W (.slice xp np cp) o.p) (h2 : Byt W (.slice xd nd cd) o.d) => write_form optWrite_calls o S hS.out _ rfl LW E hLW.out hE.out _ _ W ha h1 h2 (by omega) (by omega) (by omega))
  rw [← hnw.out] at HW
  have hq : decide ((4096 : Int) < (np : Int)) = false := by have := hnp.out; simp; omega
  have hlb := lg_no _ _ hlg
  have hE1 : E = 0 := by rw [hE.out, hw]; rfl
  clear hE
  subst hE1
  have hLW2 : LW = wrO o := by rw [hLW.out, hw]; rfl
  have hsz : Hid (S.size = o.s.length) := Lib.hid (by rw [hS.out, sOf_size])
  have hll : nw = 8 + 2 * S.size + np + nd := by rw [hnw.out, hLW2, wrO_length, hnp.out, hnd.out, hsz.out]
  have hSb : S.size ≤ 16384 := by rw [hsz.out]; exact hlb.1
  have hnb : nd ≤ 65536 := by rw [hnd.out]; exact hlb.2
  have hnp2 : np ≤ 4096 := by rw [hnp.out]; exact hl
  have hnw2 : nw ≤ 200000 := by omega
  have hq8 : decide ((nw : Int) < 6 + 2 * (S.size : Int)) = false := by simp; omega
  have hnw3 : 8 ≤ nw := by omega
  have HCP := Lib.hid (fun v W (h : Byt W v LW) => copy_form LW nw hnw.out (by omega) (by omega) v W h)
  have hfit : decide ((z : Int) ≤ (np : Int) + (nd : Int)) = false := by have := hnp.out; have := hnd.out; simp; omega
  have HRC := Lib.hid (fun v W (h : Byt W v ((LW.set 4 (UInt8.ofNat z)).set 5 (UInt8.ofNat (z / 256)))) => read_none_form _ (by rw [hLW2, rd_size o hw ha z hz, if_neg (by have := hnp.out; have := hnd.out; omega)]) v W h (by rw [List.length_set, List.length_set, ← hnw.out]; omega))
  have hs0 : ((S.size : Int) == 0) = false := by rw [beq_eq_false_iff_ne]; have := hsz.out; omega
  have hs1 : ¬ S.size = 0 := by have := hsz.out; omega
  have hs2 : ¬ (S.size : Int) = 0 := by omega
  have hs3 : ¬ 2 * (S.size : Int) = 0 := by omega
  obtain ⟨J, hJ⟩ : ∃ J, Hid (J = 6 + j) := ⟨_, Lib.hid rfl⟩
  have hJ1 : J < nw := by have := hJ.out; have := hsz.out; omega
  have hm0 : (n : Int).tmod (2 * (S.size : Int)) = (j : Int) := by
    rw [Int.tmod_eq_emod_of_nonneg (by omega), hsz.out, hj]; push_cast; rfl
  have hm1 : (6 + (j : Int)) = (J : Int) := by have := hJ.out; omega
  have ht2 : (J : Int).tmod 2 = 1 := by rw [Int.tmod_eq_emod_of_nonneg (by omega)]; have := hJ.out; omega
  have hx0 : ((x : Int) != 0) = true := by simp; omega
  have hux : (UInt8.ofNat x).toNat = x := by rw [UInt8.toNat_ofNat']; omega
  have HRX := Lib.hid (fun v W (h : Byt W v (LW.set J (UInt8.ofNat x))) => read_none_form _ (by rw [hLW2, hJ.out]; exact rd_turned o hw j (by omega) _ (.inl ⟨by omega, fun e => by rw [e] at hux; simp at hux; omega⟩)) v W h (by rw [List.length_set, ← hnw.out]; omega))
  clear hlb hl hw hLW2 hll hss hpp hdd hfi h0 hj hjl hj2 hxx
  have HB0 := Lib.hid (((Below.refl w.heap.size w).alloc (Nat.le_refl _) (.cells #[.int .u32 (o.a : Int), .string S, .slice xp np cp, .slice xd nd cd, .int .u16 (n : Int), .int .u8 (x : Int), .int .u16 (z : Int)] 44)).alloc (by simp) (.cells #[.int .u32 (o.a : Int), .string S, .slice xp np cp, .slice xd nd cd] 25))
  have R0 := Lib.hid (RowAt.new (w.alloc (.cells #[.int .u32 (o.a : Int), .string S, .slice xp np cp, .slice xd nd cd, .int .u16 (n : Int), .int .u8 (x : Int), .int .u16 (z : Int)] 44)) #[.int .u32 (o.a : Int), .string S, .slice xp np cp, .slice xd nd cd] 25 (w.heap.size + 1) (by simp))
  have P0 := Lib.hid ((HP0.out.below ((Below.refl _ _).alloc (Nat.le_refl _) (.cells #[.int .u32 (o.a : Int), .string S, .slice xp np cp, .slice xd nd cd, .int .u16 (n : Int), .int .u8 (x : Int), .int .u16 (z : Int)] 44))).below ((Below.refl _ _).alloc (Nat.le_refl _) (.cells #[.int .u32 (o.a : Int), .string S, .slice xp np cp, .slice xd nd cd] 25)))
  have D0 := Lib.hid ((HD0.out.below ((Below.refl _ _).alloc (Nat.le_refl _) (.cells #[.int .u32 (o.a : Int), .string S, .slice xp np cp, .slice xd nd cd, .int .u16 (n : Int), .int .u8 (x : Int), .int .u16 (z : Int)] 44))).below ((Below.refl _ _).alloc (Nat.le_refl _) (.cells #[.int .u32 (o.a : Int), .string S, .slice xp np cp, .slice xd nd cd] 25)))
  go_enter Try.func8, Try.ntmps8
  go_wp2_with fail
  refine (HW.out _ P0.out D0.out).mono ?_
  rintro e w1 ⟨x3, c3, rfl, ho, hb⟩
  have HB_1 := Lib.hid (HB0.out.trans (hb.mono HB0.out.size))
  have R_1 := Lib.hid (RowAt.below R0.out hb)
  have P_1 := Lib.hid (Byt.below P0.out hb)
  have D_1 := Lib.hid (Byt.below D0.out hb)
  have W_1 := Lib.hid ho.byt
  clear ho
  clear hb
  have Rc0 := R_1.out.cell 0 (.int .u32 (o.a : Int)) rfl
  have Rc1 := R_1.out.cell 1 (.string S) rfl
  have Rc2 := R_1.out.cell 2 (.slice xp np cp) rfl
  have Rc3 := R_1.out.cell 3 (.slice xd nd cd) rfl
  have Rz := R_1.out.lt
  go_wp2_with fail
  refine (HLG.out _ P_1.out D_1.out).mono ?_
  rintro e w2 ⟨rfl, hb⟩
  have HB_2 := Lib.hid (HB_1.out.trans (hb.mono HB_1.out.size))
  have R_2 := Lib.hid (RowAt.below R_1.out hb)
  have P_2 := Lib.hid (Byt.below P_1.out hb)
  have D_2 := Lib.hid (Byt.below D_1.out hb)
  have W_2 := Lib.hid (Byt.below W_1.out hb)
  clear hb Rc0 Rc1 Rc2 Rc3 Rz
  have Rc0 := R_2.out.cell 0 (.int .u32 (o.a : Int)) rfl
  have Rc1 := R_2.out.cell 1 (.string S) rfl
  have Rc2 := R_2.out.cell 2 (.slice xp np cp) rfl
  have Rc3 := R_2.out.cell 3 (.slice xd nd cd) rfl
  have Rz := R_2.out.lt
  go_wp2_with fail
  refine (HCP.out _ _ W_2.out).mono ?_
  rintro e w3 ⟨g, c4, rfl, hg1, hg2, hc4, hcm, ho, hb⟩
  have hk0 := OwnB.cell_at ho 4 (by rw [← hnw.out]; omega)
  have hf0 := OwnB.free ho (by omega) 4
  have hk1 := OwnB.cell_at ho 5 (by rw [← hnw.out]; omega)
  have hf1 := OwnB.free ho (by omega) 5
  have HBc := Lib.hid ((hb.setCell (p := ⟨g, 4, none⟩) hg1 (.int .u8 ((z : Int) % 256))).setCell (p := ⟨g, 5, none⟩) hg1 (.int .u8 ((z : Int) / 256)))
  have HC5 := Lib.hid (OwnB.set (OwnB.set ho 4 (by omega) (UInt8.ofNat z) ((z : Int) % 256) (by rw [UInt8.toNat_ofNat']; omega)) 5 (by omega) (UInt8.ofNat (z / 256)) ((z : Int) / 256) (by rw [UInt8.toNat_ofNat']; omega)).byt
  have HB_3 := Lib.hid (HB_2.out.trans (HBc.out.mono HB_2.out.size))
  have R_3 := Lib.hid (RowAt.below R_2.out HBc.out)
  have P_3 := Lib.hid (Byt.below P_2.out HBc.out)
  have D_3 := Lib.hid (Byt.below D_2.out HBc.out)
  have W_3 := Lib.hid (Byt.below W_2.out HBc.out)
  clear hb ho HBc Rc0 Rc1 Rc2 Rc3 Rz
  go_wp2_with fail
  refine (HRC.out _ _ HC5.out).mono ?_
  rintro e w4 ⟨a5, s5, x5, n5, c5, x6, n6, c6, rfl, hb⟩
  have HB_4 := Lib.hid (HB_3.out.trans (hb.mono HB_3.out.size))
  have R_4 := Lib.hid (RowAt.below R_3.out hb)
  have P_4 := Lib.hid (Byt.below P_3.out hb)
  have D_4 := Lib.hid (Byt.below D_3.out hb)
  have W_4 := Lib.hid (Byt.below W_3.out hb)
  clear hb hk0 hf0 hk1 hf1 hg1 hg2 hc4 hcm
  have HB_5 := Lib.hid (HB_4.out.alloc HB_4.out.size (.cells #[.int .u32 a5, .string s5, .slice x5 n5 c5, .slice x6 n6 c6] 25))
  have R_5 := Lib.hid (RowAt.alloc R_4.out (.cells #[.int .u32 a5, .string s5, .slice x5 n5 c5, .slice x6 n6 c6] 25))
  have P_5 := Lib.hid (Byt.below P_4.out ((Below.refl _ _).alloc (Nat.le_refl _) (.cells #[.int .u32 a5, .string s5, .slice x5 n5 c5, .slice x6 n6 c6] 25)))
  have D_5 := Lib.hid (Byt.below D_4.out ((Below.refl _ _).alloc (Nat.le_refl _) (.cells #[.int .u32 a5, .string s5, .slice x5 n5 c5, .slice x6 n6 c6] 25)))
  have W_5 := Lib.hid (Byt.below W_4.out ((Below.refl _ _).alloc (Nat.le_refl _) (.cells #[.int .u32 a5, .string s5, .slice x5 n5 c5, .slice x6 n6 c6] 25)))
  have R10_5 := Lib.hid (RowAt.new w4 #[.int .u32 a5, .string s5, .slice x5 n5 c5, .slice x6 n6 c6] 25 (w4.heap.size) (by first | rfl | simp))
  have Rc0 := R_5.out.cell 0 (.int .u32 (o.a : Int)) rfl
  have Rc1 := R_5.out.cell 1 (.string S) rfl
  have Rc2 := R_5.out.cell 2 (.slice xp np cp) rfl
  have Rc3 := R_5.out.cell 3 (.slice xd nd cd) rfl
  have Rz := R_5.out.lt
  go_wp2_with fail
  refine (HCP.out _ _ W_5.out).mono ?_
  rintro e w6 ⟨g2, c7, rfl, hg1, hg2, hc4, hcm, ho, hb⟩
  have hk0 := OwnB.cell_at ho J (by rw [← hnw.out]; omega)
  have hf0 := OwnB.free ho (by omega) J
  have HBc := Lib.hid (hb.setCell (p := ⟨g2, J, none⟩) hg1 (.int .u8 (x : Int)))
  have HC6 := Lib.hid (OwnB.set ho J (by omega) (UInt8.ofNat x) (x : Int) (by rw [hux])).byt
  have HB_6 := Lib.hid (HB_5.out.trans (HBc.out.mono HB_5.out.size))
  have R_6 := Lib.hid (RowAt.below R_5.out HBc.out)
  have P_6 := Lib.hid (Byt.below P_5.out HBc.out)
  have D_6 := Lib.hid (Byt.below D_5.out HBc.out)
  have W_6 := Lib.hid (Byt.below W_5.out HBc.out)
  clear hb ho HBc Rc0 Rc1 Rc2 Rc3 Rz
  go_wp2_with fail
  refine (HRX.out _ _ HC6.out).mono ?_
  rintro e w7 ⟨a7, s7, x7, n7, c8, x8, n8, c9, rfl, hb⟩
  have HB_7 := Lib.hid (HB_6.out.trans (hb.mono HB_6.out.size))
  have R_7 := Lib.hid (RowAt.below R_6.out hb)
  have P_7 := Lib.hid (Byt.below P_6.out hb)
  have D_7 := Lib.hid (Byt.below D_6.out hb)
  have W_7 := Lib.hid (Byt.below W_6.out hb)
  clear hb hk0 hf0 hg1 hg2 hc4 hcm
  have HB_8 := Lib.hid (HB_7.out.alloc HB_7.out.size (.cells #[.int .u32 a7, .string s7, .slice x7 n7 c8, .slice x8 n8 c9] 25))
  have R_8 := Lib.hid (RowAt.alloc R_7.out (.cells #[.int .u32 a7, .string s7, .slice x7 n7 c8, .slice x8 n8 c9] 25))
  have P_8 := Lib.hid (Byt.below P_7.out ((Below.refl _ _).alloc (Nat.le_refl _) (.cells #[.int .u32 a7, .string s7, .slice x7 n7 c8, .slice x8 n8 c9] 25)))
  have D_8 := Lib.hid (Byt.below D_7.out ((Below.refl _ _).alloc (Nat.le_refl _) (.cells #[.int .u32 a7, .string s7, .slice x7 n7 c8, .slice x8 n8 c9] 25)))
  have W_8 := Lib.hid (Byt.below W_7.out ((Below.refl _ _).alloc (Nat.le_refl _) (.cells #[.int .u32 a7, .string s7, .slice x7 n7 c8, .slice x8 n8 c9] 25)))
  go_wp2_with fail
  refine (works_calls _).mono ?_
  rintro e wz ⟨rfl, hb⟩
  have HBz := Lib.hid (HB_8.out.trans (hb.mono HB_8.out.size))
  clear hb
  go_wp2
  go_ret
  exact ⟨rfl, HBz.out⟩

set_option maxRecDepth 100000 in
set_option maxHeartbeats 4000000 in
theorem optionLabels_out_o0 (o : Opt) (p d : Value) (n x z : Nat) (w : World) (ha : o.a < 4294967296) (hp : Byt w p o.p) (hd : Byt w d o.d) (hss : o.s.length ≤ 1048576) (hpp : o.p.length ≤ 1048576) (hdd : o.d.length ≤ 1048576) (hn : n < 65536) (hx : x < 256) (hz : z < 65536) (hlg : lgB o.s o.d = false) (hl : o.p.length ≤ 4096) (hw : wrOk o = true) (hfi : o.p.length + o.d.length < z) (h0 : 0 < o.s.length) (j : Nat) (hj : j = n % (2 * o.s.length)) (hjl : j < 2 * o.s.length) (hj2 : j % 2 = 1) (hxx : x = 0) :
    Calls Try.prog 8 #[.agg #[.int .u32 (o.a : Int), .string (sOf o.s), p, d, .int .u16 (n : Int), .int .u8 (x : Int), .int .u16 (z : Int)]] w fun e w' => e = .returned (.bool true) ∧ Below w.heap.size w w' := by
  have HP0 := Lib.hid hp
  have HD0 := Lib.hid hd
  obtain ⟨xp, cp, rfl, p1, p2⟩ := hp.shut
  obtain ⟨xd, cd, rfl, d1, d2⟩ := hd.shut
  clear hp hd
  obtain ⟨S, hS⟩ : ∃ S, Hid (S = sOf o.s) := ⟨_, Lib.hid rfl⟩
  obtain ⟨np, hnp⟩ : ∃ n, Hid (n = o.p.length) := ⟨_, Lib.hid rfl⟩
  obtain ⟨nd, hnd⟩ : ∃ n, Hid (n = o.d.length) := ⟨_, Lib.hid rfl⟩
  have HLG := Lib.hid (fun W (h1 : Byt W (.slice xp o.p.length cp) o.p) (h2 : Byt W (.slice xd o.d.length cd) o.d) => large_any o _ _ _ hlg W h1 h2 (by omega))
  unfold optV at HLG
  rw [← hS.out, ← hnp.out, ← hnd.out] at HLG ⊢
  rw [← hnp.out] at HP0 p1
  rw [← hnd.out] at HD0 d1
  obtain ⟨LW, hLW⟩ : ∃ L, Hid (L = if wrOk o then wrO o else []) := ⟨_, Lib.hid rfl⟩
  obtain ⟨E, hE⟩ : ∃ E : Int, Hid (E = if wrOk o then 0 else 1) := ⟨_, Lib.hid rfl⟩
  obtain ⟨nw, hnw⟩ : ∃ n, Hid (n = LW.length) := ⟨_, Lib.hid rfl⟩
  have HW := Lib.hid (fun W (h1 : Byt W (.slice xp np cp) o.p) (h2 : Byt W (.slice xd nd cd) o.d) => write_form optWrite_calls o S hS.out _ rfl LW E hLW.out hE.out _ _ W ha h1 h2 (by omega) (by omega) (by omega))
  rw [← hnw.out] at HW
  have hq : decide ((4096 : Int) < (np : Int)) = false := by have := hnp.out; simp; omega
  have hlb := lg_no _ _ hlg
  have hE1 : E = 0 := by rw [hE.out, hw]; rfl
  clear hE
  subst hE1
  have hLW2 : LW = wrO o := by rw [hLW.out, hw]; rfl
  have hsz : Hid (S.size = o.s.length) := Lib.hid (by rw [hS.out, sOf_size])
  have hll : nw = 8 + 2 * S.size + np + nd := by rw [hnw.out, hLW2, wrO_length, hnp.out, hnd.out, hsz.out]
  have hSb : S.size ≤ 16384 := by rw [hsz.out]; exact hlb.1
  have hnb : nd ≤ 65536 := by rw [hnd.out]; exact hlb.2
  have hnp2 : np ≤ 4096 := by rw [hnp.out]; exact hl
  have hnw2 : nw ≤ 200000 := by omega
  have hq8 : decide ((nw : Int) < 6 + 2 * (S.size : Int)) = false := by simp; omega
  have hnw3 : 8 ≤ nw := by omega
  have HCP := Lib.hid (fun v W (h : Byt W v LW) => copy_form LW nw hnw.out (by omega) (by omega) v W h)
  have hfit : decide ((z : Int) ≤ (np : Int) + (nd : Int)) = false := by have := hnp.out; have := hnd.out; simp; omega
  have HRC := Lib.hid (fun v W (h : Byt W v ((LW.set 4 (UInt8.ofNat z)).set 5 (UInt8.ofNat (z / 256)))) => read_none_form _ (by rw [hLW2, rd_size o hw ha z hz, if_neg (by have := hnp.out; have := hnd.out; omega)]) v W h (by rw [List.length_set, List.length_set, ← hnw.out]; omega))
  have hs0 : ((S.size : Int) == 0) = false := by rw [beq_eq_false_iff_ne]; have := hsz.out; omega
  have hs1 : ¬ S.size = 0 := by have := hsz.out; omega
  have hs2 : ¬ (S.size : Int) = 0 := by omega
  have hs3 : ¬ 2 * (S.size : Int) = 0 := by omega
  obtain ⟨J, hJ⟩ : ∃ J, Hid (J = 6 + j) := ⟨_, Lib.hid rfl⟩
  have hJ1 : J < nw := by have := hJ.out; have := hsz.out; omega
  have hm0 : (n : Int).tmod (2 * (S.size : Int)) = (j : Int) := by
    rw [Int.tmod_eq_emod_of_nonneg (by omega), hsz.out, hj]; push_cast; rfl
  have hm1 : (6 + (j : Int)) = (J : Int) := by have := hJ.out; omega
  have ht2 : (J : Int).tmod 2 = 1 := by rw [Int.tmod_eq_emod_of_nonneg (by omega)]; have := hJ.out; omega
  have hx0 : ((x : Int) != 0) = false := by simp; omega
  have hux : (UInt8.ofNat x).toNat = x := by rw [UInt8.toNat_ofNat']; omega
  have HRX := Lib.hid (fun v W (h : Byt W v (LW.set J (UInt8.ofNat x))) => read_any_form _ v W h (by rw [List.length_set, ← hnw.out]; omega))
  clear hlb hl hw hLW2 hll hss hpp hdd hfi h0 hj hjl hj2 hxx
  have HB0 := Lib.hid (((Below.refl w.heap.size w).alloc (Nat.le_refl _) (.cells #[.int .u32 (o.a : Int), .string S, .slice xp np cp, .slice xd nd cd, .int .u16 (n : Int), .int .u8 (x : Int), .int .u16 (z : Int)] 44)).alloc (by simp) (.cells #[.int .u32 (o.a : Int), .string S, .slice xp np cp, .slice xd nd cd] 25))
  have R0 := Lib.hid (RowAt.new (w.alloc (.cells #[.int .u32 (o.a : Int), .string S, .slice xp np cp, .slice xd nd cd, .int .u16 (n : Int), .int .u8 (x : Int), .int .u16 (z : Int)] 44)) #[.int .u32 (o.a : Int), .string S, .slice xp np cp, .slice xd nd cd] 25 (w.heap.size + 1) (by simp))
  have P0 := Lib.hid ((HP0.out.below ((Below.refl _ _).alloc (Nat.le_refl _) (.cells #[.int .u32 (o.a : Int), .string S, .slice xp np cp, .slice xd nd cd, .int .u16 (n : Int), .int .u8 (x : Int), .int .u16 (z : Int)] 44))).below ((Below.refl _ _).alloc (Nat.le_refl _) (.cells #[.int .u32 (o.a : Int), .string S, .slice xp np cp, .slice xd nd cd] 25)))
  have D0 := Lib.hid ((HD0.out.below ((Below.refl _ _).alloc (Nat.le_refl _) (.cells #[.int .u32 (o.a : Int), .string S, .slice xp np cp, .slice xd nd cd, .int .u16 (n : Int), .int .u8 (x : Int), .int .u16 (z : Int)] 44))).below ((Below.refl _ _).alloc (Nat.le_refl _) (.cells #[.int .u32 (o.a : Int), .string S, .slice xp np cp, .slice xd nd cd] 25)))
  go_enter Try.func8, Try.ntmps8
  go_wp2_with fail
  refine (HW.out _ P0.out D0.out).mono ?_
  rintro e w1 ⟨x3, c3, rfl, ho, hb⟩
  have HB_1 := Lib.hid (HB0.out.trans (hb.mono HB0.out.size))
  have R_1 := Lib.hid (RowAt.below R0.out hb)
  have P_1 := Lib.hid (Byt.below P0.out hb)
  have D_1 := Lib.hid (Byt.below D0.out hb)
  have W_1 := Lib.hid ho.byt
  clear ho
  clear hb
  have Rc0 := R_1.out.cell 0 (.int .u32 (o.a : Int)) rfl
  have Rc1 := R_1.out.cell 1 (.string S) rfl
  have Rc2 := R_1.out.cell 2 (.slice xp np cp) rfl
  have Rc3 := R_1.out.cell 3 (.slice xd nd cd) rfl
  have Rz := R_1.out.lt
  go_wp2_with fail
  refine (HLG.out _ P_1.out D_1.out).mono ?_
  rintro e w2 ⟨rfl, hb⟩
  have HB_2 := Lib.hid (HB_1.out.trans (hb.mono HB_1.out.size))
  have R_2 := Lib.hid (RowAt.below R_1.out hb)
  have P_2 := Lib.hid (Byt.below P_1.out hb)
  have D_2 := Lib.hid (Byt.below D_1.out hb)
  have W_2 := Lib.hid (Byt.below W_1.out hb)
  clear hb Rc0 Rc1 Rc2 Rc3 Rz
  have Rc0 := R_2.out.cell 0 (.int .u32 (o.a : Int)) rfl
  have Rc1 := R_2.out.cell 1 (.string S) rfl
  have Rc2 := R_2.out.cell 2 (.slice xp np cp) rfl
  have Rc3 := R_2.out.cell 3 (.slice xd nd cd) rfl
  have Rz := R_2.out.lt
  go_wp2_with fail
  refine (HCP.out _ _ W_2.out).mono ?_
  rintro e w3 ⟨g, c4, rfl, hg1, hg2, hc4, hcm, ho, hb⟩
  have hk0 := OwnB.cell_at ho 4 (by rw [← hnw.out]; omega)
  have hf0 := OwnB.free ho (by omega) 4
  have hk1 := OwnB.cell_at ho 5 (by rw [← hnw.out]; omega)
  have hf1 := OwnB.free ho (by omega) 5
  have HBc := Lib.hid ((hb.setCell (p := ⟨g, 4, none⟩) hg1 (.int .u8 ((z : Int) % 256))).setCell (p := ⟨g, 5, none⟩) hg1 (.int .u8 ((z : Int) / 256)))
  have HC5 := Lib.hid (OwnB.set (OwnB.set ho 4 (by omega) (UInt8.ofNat z) ((z : Int) % 256) (by rw [UInt8.toNat_ofNat']; omega)) 5 (by omega) (UInt8.ofNat (z / 256)) ((z : Int) / 256) (by rw [UInt8.toNat_ofNat']; omega)).byt
  have HB_3 := Lib.hid (HB_2.out.trans (HBc.out.mono HB_2.out.size))
  have R_3 := Lib.hid (RowAt.below R_2.out HBc.out)
  have P_3 := Lib.hid (Byt.below P_2.out HBc.out)
  have D_3 := Lib.hid (Byt.below D_2.out HBc.out)
  have W_3 := Lib.hid (Byt.below W_2.out HBc.out)
  clear hb ho HBc Rc0 Rc1 Rc2 Rc3 Rz
  go_wp2_with fail
  refine (HRC.out _ _ HC5.out).mono ?_
  rintro e w4 ⟨a5, s5, x5, n5, c5, x6, n6, c6, rfl, hb⟩
  have HB_4 := Lib.hid (HB_3.out.trans (hb.mono HB_3.out.size))
  have R_4 := Lib.hid (RowAt.below R_3.out hb)
  have P_4 := Lib.hid (Byt.below P_3.out hb)
  have D_4 := Lib.hid (Byt.below D_3.out hb)
  have W_4 := Lib.hid (Byt.below W_3.out hb)
  clear hb hk0 hf0 hk1 hf1 hg1 hg2 hc4 hcm
  have HB_5 := Lib.hid (HB_4.out.alloc HB_4.out.size (.cells #[.int .u32 a5, .string s5, .slice x5 n5 c5, .slice x6 n6 c6] 25))
  have R_5 := Lib.hid (RowAt.alloc R_4.out (.cells #[.int .u32 a5, .string s5, .slice x5 n5 c5, .slice x6 n6 c6] 25))
  have P_5 := Lib.hid (Byt.below P_4.out ((Below.refl _ _).alloc (Nat.le_refl _) (.cells #[.int .u32 a5, .string s5, .slice x5 n5 c5, .slice x6 n6 c6] 25)))
  have D_5 := Lib.hid (Byt.below D_4.out ((Below.refl _ _).alloc (Nat.le_refl _) (.cells #[.int .u32 a5, .string s5, .slice x5 n5 c5, .slice x6 n6 c6] 25)))
  have W_5 := Lib.hid (Byt.below W_4.out ((Below.refl _ _).alloc (Nat.le_refl _) (.cells #[.int .u32 a5, .string s5, .slice x5 n5 c5, .slice x6 n6 c6] 25)))
  have R10_5 := Lib.hid (RowAt.new w4 #[.int .u32 a5, .string s5, .slice x5 n5 c5, .slice x6 n6 c6] 25 (w4.heap.size) (by first | rfl | simp))
  have Rc0 := R_5.out.cell 0 (.int .u32 (o.a : Int)) rfl
  have Rc1 := R_5.out.cell 1 (.string S) rfl
  have Rc2 := R_5.out.cell 2 (.slice xp np cp) rfl
  have Rc3 := R_5.out.cell 3 (.slice xd nd cd) rfl
  have Rz := R_5.out.lt
  go_wp2_with fail
  refine (HCP.out _ _ W_5.out).mono ?_
  rintro e w6 ⟨g2, c7, rfl, hg1, hg2, hc4, hcm, ho, hb⟩
  have hk0 := OwnB.cell_at ho J (by rw [← hnw.out]; omega)
  have hf0 := OwnB.free ho (by omega) J
  have HBc := Lib.hid (hb.setCell (p := ⟨g2, J, none⟩) hg1 (.int .u8 (x : Int)))
  have HC6 := Lib.hid (OwnB.set ho J (by omega) (UInt8.ofNat x) (x : Int) (by rw [hux])).byt
  have HB_6 := Lib.hid (HB_5.out.trans (HBc.out.mono HB_5.out.size))
  have R_6 := Lib.hid (RowAt.below R_5.out HBc.out)
  have P_6 := Lib.hid (Byt.below P_5.out HBc.out)
  have D_6 := Lib.hid (Byt.below D_5.out HBc.out)
  have W_6 := Lib.hid (Byt.below W_5.out HBc.out)
  clear hb ho HBc Rc0 Rc1 Rc2 Rc3 Rz
  go_wp2_with fail
  refine (HRX.out _ _ HC6.out).mono ?_
  rintro e w7 ⟨a7, s7, x7, n7, c8, x8, n8, c9, E9, rfl, hb⟩
  have HB_7 := Lib.hid (HB_6.out.trans (hb.mono HB_6.out.size))
  have R_7 := Lib.hid (RowAt.below R_6.out hb)
  have P_7 := Lib.hid (Byt.below P_6.out hb)
  have D_7 := Lib.hid (Byt.below D_6.out hb)
  have W_7 := Lib.hid (Byt.below W_6.out hb)
  clear hb hk0 hf0 hg1 hg2 hc4 hcm
  have HB_8 := Lib.hid (HB_7.out.alloc HB_7.out.size (.cells #[.int .u32 a7, .string s7, .slice x7 n7 c8, .slice x8 n8 c9] 25))
  have R_8 := Lib.hid (RowAt.alloc R_7.out (.cells #[.int .u32 a7, .string s7, .slice x7 n7 c8, .slice x8 n8 c9] 25))
  have P_8 := Lib.hid (Byt.below P_7.out ((Below.refl _ _).alloc (Nat.le_refl _) (.cells #[.int .u32 a7, .string s7, .slice x7 n7 c8, .slice x8 n8 c9] 25)))
  have D_8 := Lib.hid (Byt.below D_7.out ((Below.refl _ _).alloc (Nat.le_refl _) (.cells #[.int .u32 a7, .string s7, .slice x7 n7 c8, .slice x8 n8 c9] 25)))
  have W_8 := Lib.hid (Byt.below W_7.out ((Below.refl _ _).alloc (Nat.le_refl _) (.cells #[.int .u32 a7, .string s7, .slice x7 n7 c8, .slice x8 n8 c9] 25)))
  go_wp2_with fail
  refine (works_calls _).mono ?_
  rintro e wz ⟨rfl, hb⟩
  have HBz := Lib.hid (HB_8.out.trans (hb.mono HB_8.out.size))
  clear hb
  go_wp2
  go_ret
  exact ⟨rfl, HBz.out⟩

set_option maxRecDepth 100000 in
set_option maxHeartbeats 4000000 in
theorem optionLabels_out_e1 (o : Opt) (p d : Value) (n x z : Nat) (w : World) (ha : o.a < 4294967296) (hp : Byt w p o.p) (hd : Byt w d o.d) (hss : o.s.length ≤ 1048576) (hpp : o.p.length ≤ 1048576) (hdd : o.d.length ≤ 1048576) (hn : n < 65536) (hx : x < 256) (hz : z < 65536) (hlg : lgB o.s o.d = false) (hl : o.p.length ≤ 4096) (hw : wrOk o = true) (hfi : o.p.length + o.d.length < z) (h0 : 0 < o.s.length) (j : Nat) (hj : j = n % (2 * o.s.length)) (hjl : j < 2 * o.s.length) (hj2 : j % 2 = 0) (hxx : 127 < x) :
    Calls Try.prog 8 #[.agg #[.int .u32 (o.a : Int), .string (sOf o.s), p, d, .int .u16 (n : Int), .int .u8 (x : Int), .int .u16 (z : Int)]] w fun e w' => e = .returned (.bool true) ∧ Below w.heap.size w w' := by
  have HP0 := Lib.hid hp
  have HD0 := Lib.hid hd
  obtain ⟨xp, cp, rfl, p1, p2⟩ := hp.shut
  obtain ⟨xd, cd, rfl, d1, d2⟩ := hd.shut
  clear hp hd
  obtain ⟨S, hS⟩ : ∃ S, Hid (S = sOf o.s) := ⟨_, Lib.hid rfl⟩
  obtain ⟨np, hnp⟩ : ∃ n, Hid (n = o.p.length) := ⟨_, Lib.hid rfl⟩
  obtain ⟨nd, hnd⟩ : ∃ n, Hid (n = o.d.length) := ⟨_, Lib.hid rfl⟩
  have HLG := Lib.hid (fun W (h1 : Byt W (.slice xp o.p.length cp) o.p) (h2 : Byt W (.slice xd o.d.length cd) o.d) => large_any o _ _ _ hlg W h1 h2 (by omega))
  unfold optV at HLG
  rw [← hS.out, ← hnp.out, ← hnd.out] at HLG ⊢
  rw [← hnp.out] at HP0 p1
  rw [← hnd.out] at HD0 d1
  obtain ⟨LW, hLW⟩ : ∃ L, Hid (L = if wrOk o then wrO o else []) := ⟨_, Lib.hid rfl⟩
  obtain ⟨E, hE⟩ : ∃ E : Int, Hid (E = if wrOk o then 0 else 1) := ⟨_, Lib.hid rfl⟩
  obtain ⟨nw, hnw⟩ : ∃ n, Hid (n = LW.length) := ⟨_, Lib.hid rfl⟩
  have HW := Lib.hid (fun W (h1 : Byt W (.slice xp np cp) o.p) (h2 : Byt W (.slice xd nd cd) o.d) => write_form optWrite_calls o S hS.out _ rfl LW E hLW.out hE.out _ _ W ha h1 h2 (by omega) (by omega) (by omega))
  rw [← hnw.out] at HW
  have hq : decide ((4096 : Int) < (np : Int)) = false := by have := hnp.out; simp; omega
  have hlb := lg_no _ _ hlg
  have hE1 : E = 0 := by rw [hE.out, hw]; rfl
  clear hE
  subst hE1
  have hLW2 : LW = wrO o := by rw [hLW.out, hw]; rfl
  have hsz : Hid (S.size = o.s.length) := Lib.hid (by rw [hS.out, sOf_size])
  have hll : nw = 8 + 2 * S.size + np + nd := by rw [hnw.out, hLW2, wrO_length, hnp.out, hnd.out, hsz.out]
  have hSb : S.size ≤ 16384 := by rw [hsz.out]; exact hlb.1
  have hnb : nd ≤ 65536 := by rw [hnd.out]; exact hlb.2
  have hnp2 : np ≤ 4096 := by rw [hnp.out]; exact hl
  have hnw2 : nw ≤ 200000 := by omega
  have hq8 : decide ((nw : Int) < 6 + 2 * (S.size : Int)) = false := by simp; omega
  have hnw3 : 8 ≤ nw := by omega
  have HCP := Lib.hid (fun v W (h : Byt W v LW) => copy_form LW nw hnw.out (by omega) (by omega) v W h)
  have hfit : decide ((z : Int) ≤ (np : Int) + (nd : Int)) = false := by have := hnp.out; have := hnd.out; simp; omega
  have HRC := Lib.hid (fun v W (h : Byt W v ((LW.set 4 (UInt8.ofNat z)).set 5 (UInt8.ofNat (z / 256)))) => read_none_form _ (by rw [hLW2, rd_size o hw ha z hz, if_neg (by have := hnp.out; have := hnd.out; omega)]) v W h (by rw [List.length_set, List.length_set, ← hnw.out]; omega))
  have hs0 : ((S.size : Int) == 0) = false := by rw [beq_eq_false_iff_ne]; have := hsz.out; omega
  have hs1 : ¬ S.size = 0 := by have := hsz.out; omega
  have hs2 : ¬ (S.size : Int) = 0 := by omega
  have hs3 : ¬ 2 * (S.size : Int) = 0 := by omega
  obtain ⟨J, hJ⟩ : ∃ J, Hid (J = 6 + j) := ⟨_, Lib.hid rfl⟩
  have hJ1 : J < nw := by have := hJ.out; have := hsz.out; omega
  have hm0 : (n : Int).tmod (2 * (S.size : Int)) = (j : Int) := by
    rw [Int.tmod_eq_emod_of_nonneg (by omega), hsz.out, hj]; push_cast; rfl
  have hm1 : (6 + (j : Int)) = (J : Int) := by have := hJ.out; omega
  have ht2 : (J : Int).tmod 2 = 0 := by rw [Int.tmod_eq_emod_of_nonneg (by omega)]; have := hJ.out; omega
  have hx0 : decide ((127 : Int) < (x : Int)) = true := by simp; omega
  have hux : (UInt8.ofNat x).toNat = x := by rw [UInt8.toNat_ofNat']; omega
  have HRX := Lib.hid (fun v W (h : Byt W v (LW.set J (UInt8.ofNat x))) => read_none_form _ (by rw [hLW2, hJ.out]; exact rd_turned o hw j (by omega) _ (.inr ⟨by omega, by rw [hux]; omega⟩)) v W h (by rw [List.length_set, ← hnw.out]; omega))
  clear hlb hl hw hLW2 hll hss hpp hdd hfi h0 hj hjl hj2 hxx
  have HB0 := Lib.hid (((Below.refl w.heap.size w).alloc (Nat.le_refl _) (.cells #[.int .u32 (o.a : Int), .string S, .slice xp np cp, .slice xd nd cd, .int .u16 (n : Int), .int .u8 (x : Int), .int .u16 (z : Int)] 44)).alloc (by simp) (.cells #[.int .u32 (o.a : Int), .string S, .slice xp np cp, .slice xd nd cd] 25))
  have R0 := Lib.hid (RowAt.new (w.alloc (.cells #[.int .u32 (o.a : Int), .string S, .slice xp np cp, .slice xd nd cd, .int .u16 (n : Int), .int .u8 (x : Int), .int .u16 (z : Int)] 44)) #[.int .u32 (o.a : Int), .string S, .slice xp np cp, .slice xd nd cd] 25 (w.heap.size + 1) (by simp))
  have P0 := Lib.hid ((HP0.out.below ((Below.refl _ _).alloc (Nat.le_refl _) (.cells #[.int .u32 (o.a : Int), .string S, .slice xp np cp, .slice xd nd cd, .int .u16 (n : Int), .int .u8 (x : Int), .int .u16 (z : Int)] 44))).below ((Below.refl _ _).alloc (Nat.le_refl _) (.cells #[.int .u32 (o.a : Int), .string S, .slice xp np cp, .slice xd nd cd] 25)))
  have D0 := Lib.hid ((HD0.out.below ((Below.refl _ _).alloc (Nat.le_refl _) (.cells #[.int .u32 (o.a : Int), .string S, .slice xp np cp, .slice xd nd cd, .int .u16 (n : Int), .int .u8 (x : Int), .int .u16 (z : Int)] 44))).below ((Below.refl _ _).alloc (Nat.le_refl _) (.cells #[.int .u32 (o.a : Int), .string S, .slice xp np cp, .slice xd nd cd] 25)))
  go_enter Try.func8, Try.ntmps8
  go_wp2_with fail
  refine (HW.out _ P0.out D0.out).mono ?_
  rintro e w1 ⟨x3, c3, rfl, ho, hb⟩
  have HB_1 := Lib.hid (HB0.out.trans (hb.mono HB0.out.size))
  have R_1 := Lib.hid (RowAt.below R0.out hb)
  have P_1 := Lib.hid (Byt.below P0.out hb)
  have D_1 := Lib.hid (Byt.below D0.out hb)
  have W_1 := Lib.hid ho.byt
  clear ho
  clear hb
  have Rc0 := R_1.out.cell 0 (.int .u32 (o.a : Int)) rfl
  have Rc1 := R_1.out.cell 1 (.string S) rfl
  have Rc2 := R_1.out.cell 2 (.slice xp np cp) rfl
  have Rc3 := R_1.out.cell 3 (.slice xd nd cd) rfl
  have Rz := R_1.out.lt
  go_wp2_with fail
  refine (HLG.out _ P_1.out D_1.out).mono ?_
  rintro e w2 ⟨rfl, hb⟩
  have HB_2 := Lib.hid (HB_1.out.trans (hb.mono HB_1.out.size))
  have R_2 := Lib.hid (RowAt.below R_1.out hb)
  have P_2 := Lib.hid (Byt.below P_1.out hb)
  have D_2 := Lib.hid (Byt.below D_1.out hb)
  have W_2 := Lib.hid (Byt.below W_1.out hb)
  clear hb Rc0 Rc1 Rc2 Rc3 Rz
  have Rc0 := R_2.out.cell 0 (.int .u32 (o.a : Int)) rfl
  have Rc1 := R_2.out.cell 1 (.string S) rfl
  have Rc2 := R_2.out.cell 2 (.slice xp np cp) rfl
  have Rc3 := R_2.out.cell 3 (.slice xd nd cd) rfl
  have Rz := R_2.out.lt
  go_wp2_with fail
  refine (HCP.out _ _ W_2.out).mono ?_
  rintro e w3 ⟨g, c4, rfl, hg1, hg2, hc4, hcm, ho, hb⟩
  have hk0 := OwnB.cell_at ho 4 (by rw [← hnw.out]; omega)
  have hf0 := OwnB.free ho (by omega) 4
  have hk1 := OwnB.cell_at ho 5 (by rw [← hnw.out]; omega)
  have hf1 := OwnB.free ho (by omega) 5
  have HBc := Lib.hid ((hb.setCell (p := ⟨g, 4, none⟩) hg1 (.int .u8 ((z : Int) % 256))).setCell (p := ⟨g, 5, none⟩) hg1 (.int .u8 ((z : Int) / 256)))
  have HC5 := Lib.hid (OwnB.set (OwnB.set ho 4 (by omega) (UInt8.ofNat z) ((z : Int) % 256) (by rw [UInt8.toNat_ofNat']; omega)) 5 (by omega) (UInt8.ofNat (z / 256)) ((z : Int) / 256) (by rw [UInt8.toNat_ofNat']; omega)).byt
  have HB_3 := Lib.hid (HB_2.out.trans (HBc.out.mono HB_2.out.size))
  have R_3 := Lib.hid (RowAt.below R_2.out HBc.out)
  have P_3 := Lib.hid (Byt.below P_2.out HBc.out)
  have D_3 := Lib.hid (Byt.below D_2.out HBc.out)
  have W_3 := Lib.hid (Byt.below W_2.out HBc.out)
  clear hb ho HBc Rc0 Rc1 Rc2 Rc3 Rz
  go_wp2_with fail
  refine (HRC.out _ _ HC5.out).mono ?_
  rintro e w4 ⟨a5, s5, x5, n5, c5, x6, n6, c6, rfl, hb⟩
  have HB_4 := Lib.hid (HB_3.out.trans (hb.mono HB_3.out.size))
  have R_4 := Lib.hid (RowAt.below R_3.out hb)
  have P_4 := Lib.hid (Byt.below P_3.out hb)
  have D_4 := Lib.hid (Byt.below D_3.out hb)
  have W_4 := Lib.hid (Byt.below W_3.out hb)
  clear hb hk0 hf0 hk1 hf1 hg1 hg2 hc4 hcm
  have HB_5 := Lib.hid (HB_4.out.alloc HB_4.out.size (.cells #[.int .u32 a5, .string s5, .slice x5 n5 c5, .slice x6 n6 c6] 25))
  have R_5 := Lib.hid (RowAt.alloc R_4.out (.cells #[.int .u32 a5, .string s5, .slice x5 n5 c5, .slice x6 n6 c6] 25))
  have P_5 := Lib.hid (Byt.below P_4.out ((Below.refl _ _).alloc (Nat.le_refl _) (.cells #[.int .u32 a5, .string s5, .slice x5 n5 c5, .slice x6 n6 c6] 25)))
  have D_5 := Lib.hid (Byt.below D_4.out ((Below.refl _ _).alloc (Nat.le_refl _) (.cells #[.int .u32 a5, .string s5, .slice x5 n5 c5, .slice x6 n6 c6] 25)))
  have W_5 := Lib.hid (Byt.below W_4.out ((Below.refl _ _).alloc (Nat.le_refl _) (.cells #[.int .u32 a5, .string s5, .slice x5 n5 c5, .slice x6 n6 c6] 25)))
  have R10_5 := Lib.hid (RowAt.new w4 #[.int .u32 a5, .string s5, .slice x5 n5 c5, .slice x6 n6 c6] 25 (w4.heap.size) (by first | rfl | simp))
  have Rc0 := R_5.out.cell 0 (.int .u32 (o.a : Int)) rfl
  have Rc1 := R_5.out.cell 1 (.string S) rfl
  have Rc2 := R_5.out.cell 2 (.slice xp np cp) rfl
  have Rc3 := R_5.out.cell 3 (.slice xd nd cd) rfl
  have Rz := R_5.out.lt
  go_wp2_with fail
  refine (HCP.out _ _ W_5.out).mono ?_
  rintro e w6 ⟨g2, c7, rfl, hg1, hg2, hc4, hcm, ho, hb⟩
  have hk0 := OwnB.cell_at ho J (by rw [← hnw.out]; omega)
  have hf0 := OwnB.free ho (by omega) J
  have HBc := Lib.hid (hb.setCell (p := ⟨g2, J, none⟩) hg1 (.int .u8 (x : Int)))
  have HC6 := Lib.hid (OwnB.set ho J (by omega) (UInt8.ofNat x) (x : Int) (by rw [hux])).byt
  have HB_6 := Lib.hid (HB_5.out.trans (HBc.out.mono HB_5.out.size))
  have R_6 := Lib.hid (RowAt.below R_5.out HBc.out)
  have P_6 := Lib.hid (Byt.below P_5.out HBc.out)
  have D_6 := Lib.hid (Byt.below D_5.out HBc.out)
  have W_6 := Lib.hid (Byt.below W_5.out HBc.out)
  clear hb ho HBc Rc0 Rc1 Rc2 Rc3 Rz
  go_wp2_with fail
  refine (HRX.out _ _ HC6.out).mono ?_
  rintro e w7 ⟨a7, s7, x7, n7, c8, x8, n8, c9, rfl, hb⟩
  have HB_7 := Lib.hid (HB_6.out.trans (hb.mono HB_6.out.size))
  have R_7 := Lib.hid (RowAt.below R_6.out hb)
  have P_7 := Lib.hid (Byt.below P_6.out hb)
  have D_7 := Lib.hid (Byt.below D_6.out hb)
  have W_7 := Lib.hid (Byt.below W_6.out hb)
  clear hb hk0 hf0 hg1 hg2 hc4 hcm
  have HB_8 := Lib.hid (HB_7.out.alloc HB_7.out.size (.cells #[.int .u32 a7, .string s7, .slice x7 n7 c8, .slice x8 n8 c9] 25))
  have R_8 := Lib.hid (RowAt.alloc R_7.out (.cells #[.int .u32 a7, .string s7, .slice x7 n7 c8, .slice x8 n8 c9] 25))
  have P_8 := Lib.hid (Byt.below P_7.out ((Below.refl _ _).alloc (Nat.le_refl _) (.cells #[.int .u32 a7, .string s7, .slice x7 n7 c8, .slice x8 n8 c9] 25)))
  have D_8 := Lib.hid (Byt.below D_7.out ((Below.refl _ _).alloc (Nat.le_refl _) (.cells #[.int .u32 a7, .string s7, .slice x7 n7 c8, .slice x8 n8 c9] 25)))
  have W_8 := Lib.hid (Byt.below W_7.out ((Below.refl _ _).alloc (Nat.le_refl _) (.cells #[.int .u32 a7, .string s7, .slice x7 n7 c8, .slice x8 n8 c9] 25)))
  go_wp2_with fail
  refine (works_calls _).mono ?_
  rintro e wz ⟨rfl, hb⟩
  have HBz := Lib.hid (HB_8.out.trans (hb.mono HB_8.out.size))
  clear hb
  go_wp2
  go_ret
  exact ⟨rfl, HBz.out⟩

set_option maxRecDepth 100000 in
set_option maxHeartbeats 4000000 in
theorem optionLabels_out_e0 (o : Opt) (p d : Value) (n x z : Nat) (w : World) (ha : o.a < 4294967296) (hp : Byt w p o.p) (hd : Byt w d o.d) (hss : o.s.length ≤ 1048576) (hpp : o.p.length ≤ 1048576) (hdd : o.d.length ≤ 1048576) (hn : n < 65536) (hx : x < 256) (hz : z < 65536) (hlg : lgB o.s o.d = false) (hl : o.p.length ≤ 4096) (hw : wrOk o = true) (hfi : o.p.length + o.d.length < z) (h0 : 0 < o.s.length) (j : Nat) (hj : j = n % (2 * o.s.length)) (hjl : j < 2 * o.s.length) (hj2 : j % 2 = 0) (hxx : x ≤ 127) :
    Calls Try.prog 8 #[.agg #[.int .u32 (o.a : Int), .string (sOf o.s), p, d, .int .u16 (n : Int), .int .u8 (x : Int), .int .u16 (z : Int)]] w fun e w' => e = .returned (.bool true) ∧ Below w.heap.size w w' := by
  have HP0 := Lib.hid hp
  have HD0 := Lib.hid hd
  obtain ⟨xp, cp, rfl, p1, p2⟩ := hp.shut
  obtain ⟨xd, cd, rfl, d1, d2⟩ := hd.shut
  clear hp hd
  obtain ⟨S, hS⟩ : ∃ S, Hid (S = sOf o.s) := ⟨_, Lib.hid rfl⟩
  obtain ⟨np, hnp⟩ : ∃ n, Hid (n = o.p.length) := ⟨_, Lib.hid rfl⟩
  obtain ⟨nd, hnd⟩ : ∃ n, Hid (n = o.d.length) := ⟨_, Lib.hid rfl⟩
  have HLG := Lib.hid (fun W (h1 : Byt W (.slice xp o.p.length cp) o.p) (h2 : Byt W (.slice xd o.d.length cd) o.d) => large_any o _ _ _ hlg W h1 h2 (by omega))
  unfold optV at HLG
  rw [← hS.out, ← hnp.out, ← hnd.out] at HLG ⊢
  rw [← hnp.out] at HP0 p1
  rw [← hnd.out] at HD0 d1
  obtain ⟨LW, hLW⟩ : ∃ L, Hid (L = if wrOk o then wrO o else []) := ⟨_, Lib.hid rfl⟩
  obtain ⟨E, hE⟩ : ∃ E : Int, Hid (E = if wrOk o then 0 else 1) := ⟨_, Lib.hid rfl⟩
  obtain ⟨nw, hnw⟩ : ∃ n, Hid (n = LW.length) := ⟨_, Lib.hid rfl⟩
  have HW := Lib.hid (fun W (h1 : Byt W (.slice xp np cp) o.p) (h2 : Byt W (.slice xd nd cd) o.d) => write_form optWrite_calls o S hS.out _ rfl LW E hLW.out hE.out _ _ W ha h1 h2 (by omega) (by omega) (by omega))
  rw [← hnw.out] at HW
  have hq : decide ((4096 : Int) < (np : Int)) = false := by have := hnp.out; simp; omega
  have hlb := lg_no _ _ hlg
  have hE1 : E = 0 := by rw [hE.out, hw]; rfl
  clear hE
  subst hE1
  have hLW2 : LW = wrO o := by rw [hLW.out, hw]; rfl
  have hsz : Hid (S.size = o.s.length) := Lib.hid (by rw [hS.out, sOf_size])
  have hll : nw = 8 + 2 * S.size + np + nd := by rw [hnw.out, hLW2, wrO_length, hnp.out, hnd.out, hsz.out]
  have hSb : S.size ≤ 16384 := by rw [hsz.out]; exact hlb.1
  have hnb : nd ≤ 65536 := by rw [hnd.out]; exact hlb.2
  have hnp2 : np ≤ 4096 := by rw [hnp.out]; exact hl
  have hnw2 : nw ≤ 200000 := by omega
  have hq8 : decide ((nw : Int) < 6 + 2 * (S.size : Int)) = false := by simp; omega
  have hnw3 : 8 ≤ nw := by omega
  have HCP := Lib.hid (fun v W (h : Byt W v LW) => copy_form LW nw hnw.out (by omega) (by omega) v W h)
  have hfit : decide ((z : Int) ≤ (np : Int) + (nd : Int)) = false := by have := hnp.out; have := hnd.out; simp; omega
  have HRC := Lib.hid (fun v W (h : Byt W v ((LW.set 4 (UInt8.ofNat z)).set 5 (UInt8.ofNat (z / 256)))) => read_none_form _ (by rw [hLW2, rd_size o hw ha z hz, if_neg (by have := hnp.out; have := hnd.out; omega)]) v W h (by rw [List.length_set, List.length_set, ← hnw.out]; omega))
  have hs0 : ((S.size : Int) == 0) = false := by rw [beq_eq_false_iff_ne]; have := hsz.out; omega
  have hs1 : ¬ S.size = 0 := by have := hsz.out; omega
  have hs2 : ¬ (S.size : Int) = 0 := by omega
  have hs3 : ¬ 2 * (S.size : Int) = 0 := by omega
  obtain ⟨J, hJ⟩ : ∃ J, Hid (J = 6 + j) := ⟨_, Lib.hid rfl⟩
  have hJ1 : J < nw := by have := hJ.out; have := hsz.out; omega
  have hm0 : (n : Int).tmod (2 * (S.size : Int)) = (j : Int) := by
    rw [Int.tmod_eq_emod_of_nonneg (by omega), hsz.out, hj]; push_cast; rfl
  have hm1 : (6 + (j : Int)) = (J : Int) := by have := hJ.out; omega
  have ht2 : (J : Int).tmod 2 = 0 := by rw [Int.tmod_eq_emod_of_nonneg (by omega)]; have := hJ.out; omega
  have hx0 : decide ((127 : Int) < (x : Int)) = false := by simp; omega
  have hux : (UInt8.ofNat x).toNat = x := by rw [UInt8.toNat_ofNat']; omega
  have HRX := Lib.hid (fun v W (h : Byt W v (LW.set J (UInt8.ofNat x))) => read_any_form _ v W h (by rw [List.length_set, ← hnw.out]; omega))
  clear hlb hl hw hLW2 hll hss hpp hdd hfi h0 hj hjl hj2 hxx
  have HB0 := Lib.hid (((Below.refl w.heap.size w).alloc (Nat.le_refl _) (.cells #[.int .u32 (o.a : Int), .string S, .slice xp np cp, .slice xd nd cd, .int .u16 (n : Int), .int .u8 (x : Int), .int .u16 (z : Int)] 44)).alloc (by simp) (.cells #[.int .u32 (o.a : Int), .string S, .slice xp np cp, .slice xd nd cd] 25))
  have R0 := Lib.hid (RowAt.new (w.alloc (.cells #[.int .u32 (o.a : Int), .string S, .slice xp np cp, .slice xd nd cd, .int .u16 (n : Int), .int .u8 (x : Int), .int .u16 (z : Int)] 44)) #[.int .u32 (o.a : Int), .string S, .slice xp np cp, .slice xd nd cd] 25 (w.heap.size + 1) (by simp))
  have P0 := Lib.hid ((HP0.out.below ((Below.refl _ _).alloc (Nat.le_refl _) (.cells #[.int .u32 (o.a : Int), .string S, .slice xp np cp, .slice xd nd cd, .int .u16 (n : Int), .int .u8 (x : Int), .int .u16 (z : Int)] 44))).below ((Below.refl _ _).alloc (Nat.le_refl _) (.cells #[.int .u32 (o.a : Int), .string S, .slice xp np cp, .slice xd nd cd] 25)))
  have D0 := Lib.hid ((HD0.out.below ((Below.refl _ _).alloc (Nat.le_refl _) (.cells #[.int .u32 (o.a : Int), .string S, .slice xp np cp, .slice xd nd cd, .int .u16 (n : Int), .int .u8 (x : Int), .int .u16 (z : Int)] 44))).below ((Below.refl _ _).alloc (Nat.le_refl _) (.cells #[.int .u32 (o.a : Int), .string S, .slice xp np cp, .slice xd nd cd] 25)))
  go_enter Try.func8, Try.ntmps8
  go_wp2_with fail
  refine (HW.out _ P0.out D0.out).mono ?_
  rintro e w1 ⟨x3, c3, rfl, ho, hb⟩
  have HB_1 := Lib.hid (HB0.out.trans (hb.mono HB0.out.size))
  have R_1 := Lib.hid (RowAt.below R0.out hb)
  have P_1 := Lib.hid (Byt.below P0.out hb)
  have D_1 := Lib.hid (Byt.below D0.out hb)
  have W_1 := Lib.hid ho.byt
  clear ho
  clear hb
  have Rc0 := R_1.out.cell 0 (.int .u32 (o.a : Int)) rfl
  have Rc1 := R_1.out.cell 1 (.string S) rfl
  have Rc2 := R_1.out.cell 2 (.slice xp np cp) rfl
  have Rc3 := R_1.out.cell 3 (.slice xd nd cd) rfl
  have Rz := R_1.out.lt
  go_wp2_with fail
  refine (HLG.out _ P_1.out D_1.out).mono ?_
  rintro e w2 ⟨rfl, hb⟩
  have HB_2 := Lib.hid (HB_1.out.trans (hb.mono HB_1.out.size))
  have R_2 := Lib.hid (RowAt.below R_1.out hb)
  have P_2 := Lib.hid (Byt.below P_1.out hb)
  have D_2 := Lib.hid (Byt.below D_1.out hb)
  have W_2 := Lib.hid (Byt.below W_1.out hb)
  clear hb Rc0 Rc1 Rc2 Rc3 Rz
  have Rc0 := R_2.out.cell 0 (.int .u32 (o.a : Int)) rfl
  have Rc1 := R_2.out.cell 1 (.string S) rfl
  have Rc2 := R_2.out.cell 2 (.slice xp np cp) rfl
  have Rc3 := R_2.out.cell 3 (.slice xd nd cd) rfl
  have Rz := R_2.out.lt
  go_wp2_with fail
  refine (HCP.out _ _ W_2.out).mono ?_
  rintro e w3 ⟨g, c4, rfl, hg1, hg2, hc4, hcm, ho, hb⟩
  have hk0 := OwnB.cell_at ho 4 (by rw [← hnw.out]; omega)
  have hf0 := OwnB.free ho (by omega) 4
  have hk1 := OwnB.cell_at ho 5 (by rw [← hnw.out]; omega)
  have hf1 := OwnB.free ho (by omega) 5
  have HBc := Lib.hid ((hb.setCell (p := ⟨g, 4, none⟩) hg1 (.int .u8 ((z : Int) % 256))).setCell (p := ⟨g, 5, none⟩) hg1 (.int .u8 ((z : Int) / 256)))
  have HC5 := Lib.hid (OwnB.set (OwnB.set ho 4 (by omega) (UInt8.ofNat z) ((z : Int) % 256) (by rw [UInt8.toNat_ofNat']; omega)) 5 (by omega) (UInt8.ofNat (z / 256)) ((z : Int) / 256) (by rw [UInt8.toNat_ofNat']; omega)).byt
  have HB_3 := Lib.hid (HB_2.out.trans (HBc.out.mono HB_2.out.size))
  have R_3 := Lib.hid (RowAt.below R_2.out HBc.out)
  have P_3 := Lib.hid (Byt.below P_2.out HBc.out)
  have D_3 := Lib.hid (Byt.below D_2.out HBc.out)
  have W_3 := Lib.hid (Byt.below W_2.out HBc.out)
  clear hb ho HBc Rc0 Rc1 Rc2 Rc3 Rz
  go_wp2_with fail
  refine (HRC.out _ _ HC5.out).mono ?_
  rintro e w4 ⟨a5, s5, x5, n5, c5, x6, n6, c6, rfl, hb⟩
  have HB_4 := Lib.hid (HB_3.out.trans (hb.mono HB_3.out.size))
  have R_4 := Lib.hid (RowAt.below R_3.out hb)
  have P_4 := Lib.hid (Byt.below P_3.out hb)
  have D_4 := Lib.hid (Byt.below D_3.out hb)
  have W_4 := Lib.hid (Byt.below W_3.out hb)
  clear hb hk0 hf0 hk1 hf1 hg1 hg2 hc4 hcm
  have HB_5 := Lib.hid (HB_4.out.alloc HB_4.out.size (.cells #[.int .u32 a5, .string s5, .slice x5 n5 c5, .slice x6 n6 c6] 25))
  have R_5 := Lib.hid (RowAt.alloc R_4.out (.cells #[.int .u32 a5, .string s5, .slice x5 n5 c5, .slice x6 n6 c6] 25))
  have P_5 := Lib.hid (Byt.below P_4.out ((Below.refl _ _).alloc (Nat.le_refl _) (.cells #[.int .u32 a5, .string s5, .slice x5 n5 c5, .slice x6 n6 c6] 25)))
  have D_5 := Lib.hid (Byt.below D_4.out ((Below.refl _ _).alloc (Nat.le_refl _) (.cells #[.int .u32 a5, .string s5, .slice x5 n5 c5, .slice x6 n6 c6] 25)))
  have W_5 := Lib.hid (Byt.below W_4.out ((Below.refl _ _).alloc (Nat.le_refl _) (.cells #[.int .u32 a5, .string s5, .slice x5 n5 c5, .slice x6 n6 c6] 25)))
  have R10_5 := Lib.hid (RowAt.new w4 #[.int .u32 a5, .string s5, .slice x5 n5 c5, .slice x6 n6 c6] 25 (w4.heap.size) (by first | rfl | simp))
  have Rc0 := R_5.out.cell 0 (.int .u32 (o.a : Int)) rfl
  have Rc1 := R_5.out.cell 1 (.string S) rfl
  have Rc2 := R_5.out.cell 2 (.slice xp np cp) rfl
  have Rc3 := R_5.out.cell 3 (.slice xd nd cd) rfl
  have Rz := R_5.out.lt
  go_wp2_with fail
  refine (HCP.out _ _ W_5.out).mono ?_
  rintro e w6 ⟨g2, c7, rfl, hg1, hg2, hc4, hcm, ho, hb⟩
  have hk0 := OwnB.cell_at ho J (by rw [← hnw.out]; omega)
  have hf0 := OwnB.free ho (by omega) J
  have HBc := Lib.hid (hb.setCell (p := ⟨g2, J, none⟩) hg1 (.int .u8 (x : Int)))
  have HC6 := Lib.hid (OwnB.set ho J (by omega) (UInt8.ofNat x) (x : Int) (by rw [hux])).byt
  have HB_6 := Lib.hid (HB_5.out.trans (HBc.out.mono HB_5.out.size))
  have R_6 := Lib.hid (RowAt.below R_5.out HBc.out)
  have P_6 := Lib.hid (Byt.below P_5.out HBc.out)
  have D_6 := Lib.hid (Byt.below D_5.out HBc.out)
  have W_6 := Lib.hid (Byt.below W_5.out HBc.out)
  clear hb ho HBc Rc0 Rc1 Rc2 Rc3 Rz
  go_wp2_with fail
  refine (HRX.out _ _ HC6.out).mono ?_
  rintro e w7 ⟨a7, s7, x7, n7, c8, x8, n8, c9, E9, rfl, hb⟩
  have HB_7 := Lib.hid (HB_6.out.trans (hb.mono HB_6.out.size))
  have R_7 := Lib.hid (RowAt.below R_6.out hb)
  have P_7 := Lib.hid (Byt.below P_6.out hb)
  have D_7 := Lib.hid (Byt.below D_6.out hb)
  have W_7 := Lib.hid (Byt.below W_6.out hb)
  clear hb hk0 hf0 hg1 hg2 hc4 hcm
  have HB_8 := Lib.hid (HB_7.out.alloc HB_7.out.size (.cells #[.int .u32 a7, .string s7, .slice x7 n7 c8, .slice x8 n8 c9] 25))
  have R_8 := Lib.hid (RowAt.alloc R_7.out (.cells #[.int .u32 a7, .string s7, .slice x7 n7 c8, .slice x8 n8 c9] 25))
  have P_8 := Lib.hid (Byt.below P_7.out ((Below.refl _ _).alloc (Nat.le_refl _) (.cells #[.int .u32 a7, .string s7, .slice x7 n7 c8, .slice x8 n8 c9] 25)))
  have D_8 := Lib.hid (Byt.below D_7.out ((Below.refl _ _).alloc (Nat.le_refl _) (.cells #[.int .u32 a7, .string s7, .slice x7 n7 c8, .slice x8 n8 c9] 25)))
  have W_8 := Lib.hid (Byt.below W_7.out ((Below.refl _ _).alloc (Nat.le_refl _) (.cells #[.int .u32 a7, .string s7, .slice x7 n7 c8, .slice x8 n8 c9] 25)))
  go_wp2_with fail
  refine (works_calls _).mono ?_
  rintro e wz ⟨rfl, hb⟩
  have HBz := Lib.hid (HB_8.out.trans (hb.mono HB_8.out.size))
  clear hb
  go_wp2
  go_ret
  exact ⟨rfl, HBz.out⟩

theorem optionLabels_walk (o : Opt) (p d : Value) (n x z : Nat) (w : World) (ha : o.a < 4294967296) (hp : Byt w p o.p) (hd : Byt w d o.d) (hss : o.s.length ≤ 1048576) (hpp : o.p.length ≤ 1048576) (hdd : o.d.length ≤ 1048576) (hn : n < 65536) (hx : x < 256) (hz : z < 65536) :
    Calls Try.prog 8 #[.agg #[.int .u32 (o.a : Int), .string (sOf o.s), p, d, .int .u16 (n : Int), .int .u8 (x : Int), .int .u16 (z : Int)]] w fun e w' => e = .returned (.bool true) ∧ Below w.heap.size w w' := by
  cases hlg : lgB o.s o.d with
  | true => exact optionLabels_large o p d n x z w ha hp hd hss hpp hdd hn hx hz hlg
  | false =>
    by_cases hl : 4096 < o.p.length
    · exact optionLabels_path o p d n x z w ha hp hd hss hpp hdd hn hx hz hlg hl
    · have hl := Nat.le_of_not_lt hl
      cases hw : wrOk o with
      | false => exact optionLabels_no o p d n x z w ha hp hd hss hpp hdd hn hx hz hlg hl hw
      | true =>
        by_cases hfi : z ≤ o.p.length + o.d.length
        · skip
          by_cases h0 : o.s.length = 0
          · exact optionLabels_in_e o p d n x z w ha hp hd hss hpp hdd hn hx hz hlg hl hw hfi h0
          · have h0 : 0 < o.s.length := by omega
            have hjl : n % (2 * o.s.length) < 2 * o.s.length := Nat.mod_lt _ (by omega)
            by_cases hj2 : n % (2 * o.s.length) % 2 = 1
            · by_cases hxx : x = 0
              · exact optionLabels_in_o0 o p d n x z w ha hp hd hss hpp hdd hn hx hz hlg hl hw hfi h0 _ rfl hjl hj2 hxx
              · exact optionLabels_in_o1 o p d n x z w ha hp hd hss hpp hdd hn hx hz hlg hl hw hfi h0 _ rfl hjl hj2 hxx
            · have hj2 : n % (2 * o.s.length) % 2 = 0 := by omega
              by_cases hxx : x ≤ 127
              · exact optionLabels_in_e0 o p d n x z w ha hp hd hss hpp hdd hn hx hz hlg hl hw hfi h0 _ rfl hjl hj2 hxx
              · exact optionLabels_in_e1 o p d n x z w ha hp hd hss hpp hdd hn hx hz hlg hl hw hfi h0 _ rfl hjl hj2 (Nat.lt_of_not_le hxx)
        · have hfi := Nat.lt_of_not_le hfi
          by_cases h0 : o.s.length = 0
          · exact optionLabels_out_e o p d n x z w ha hp hd hss hpp hdd hn hx hz hlg hl hw hfi h0
          · have h0 : 0 < o.s.length := by omega
            have hjl : n % (2 * o.s.length) < 2 * o.s.length := Nat.mod_lt _ (by omega)
            by_cases hj2 : n % (2 * o.s.length) % 2 = 1
            · by_cases hxx : x = 0
              · exact optionLabels_out_o0 o p d n x z w ha hp hd hss hpp hdd hn hx hz hlg hl hw hfi h0 _ rfl hjl hj2 hxx
              · exact optionLabels_out_o1 o p d n x z w ha hp hd hss hpp hdd hn hx hz hlg hl hw hfi h0 _ rfl hjl hj2 hxx
            · have hj2 : n % (2 * o.s.length) % 2 = 0 := by omega
              by_cases hxx : x ≤ 127
              · exact optionLabels_out_e0 o p d n x z w ha hp hd hss hpp hdd hn hx hz hlg hl hw hfi h0 _ rfl hjl hj2 hxx
              · exact optionLabels_out_e1 o p d n x z w ha hp hd hss hpp hdd hn hx hz hlg hl hw hfi h0 _ rfl hjl hj2 (Nat.lt_of_not_le hxx)
end Go.Proofs.Ytbcocblamocobaa
