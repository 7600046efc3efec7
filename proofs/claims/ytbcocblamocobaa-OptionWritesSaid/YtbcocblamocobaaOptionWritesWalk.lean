/-
  The walk of the law OptionWrites.
-/
import Derived.Test.YtbcocblamocobaaOptForms
import Derived.Test.YtbcocblamocobaaSit
namespace Go.Proofs.Ytbcocblamocobaa
open Go Go.RowKit
set_option linter.unusedVariables false

/-- A call that makes an option's two slices. -/
theorem Sit.born2 {w0 w w' : World} {rs : List (Value × List UInt8)} {vs : List Value} {ls : List (List UInt8)} (S : Sit w0 w rs vs ls) (hb : Below w.heap.size w w') {p d : Value} {l1 l2 : List UInt8} (h1 : OwnB w' w.heap.size p l1) (h2 : OwnB w' w.heap.size d l2) (hne : ∀ k, ownB p = some k → ownB d ≠ some k) :
    Sit w0 w' rs (d :: p :: vs) (l2 :: l1 :: ls) :=
  (S.born hb h1).push (h2.mono S.bel.size) fun i hi k hk e => by
    cases i with
    | zero => exact hne k hk e
    | succ i =>
      have h3 := (Own.lt (S.own i (by simpa using hi)) k hk).2
      have h4 := (Own.lt h2 k e).1
      omega

theorem copied_form (o : Opt) (S : ByteArray) (hS : S = sOf o.s) (n m : Nat) (hn : n = o.p.length) (hm : m = o.d.length) (p d : Value) (w : World) (hp : Byt w p o.p) (hd : Byt w d o.d) (hP : o.p.length ≤ 1000000000) (hD : o.d.length ≤ 1000000000) :
    Calls Try.prog 11 #[.agg #[.int .u32 (o.a : Int), .string S, p, d]] w fun e w' => ∃ x1 c1 x2 c2, e = .returned (.agg #[.int .u32 (o.a : Int), .string S, .slice x1 n c1, .slice x2 m c2]) ∧ OwnB w' w.heap.size (.slice x1 n c1) o.p ∧ OwnB w' w.heap.size (.slice x2 m c2) o.d ∧ (∀ k, ownB (.slice x1 n c1) = some k → ownB (.slice x2 m c2) ≠ some k) ∧ Below w.heap.size w w' := by
  subst hS hn hm
  exact (copied_calls o.a o.s o.p o.d p d w hp hd (by omega) (by omega)).mono fun e w' ⟨p', d', he, h1, h2, h3, hb⟩ => by
    obtain ⟨x1, c1, rfl, _, _⟩ := Own.shape h1
    obtain ⟨x2, c2, rfl, _, _⟩ := Own.shape h2
    exact ⟨x1, c1, x2, c2, he, h1, h2, h3, hb⟩
theorem same_form (a : Nat) (s P D : List UInt8) (S : ByteArray) (hS : S = sOf s) (p d p2 d2 : Value) (w : World) (hp : Byt w p P) (hd : Byt w d D) (hp2 : Byt w p2 P) (hd2 : Byt w d2 D) :
    Calls Try.prog 15 #[.agg #[.int .u32 (a : Int), .string S, p, d], .agg #[.int .u32 (a : Int), .string S, p2, d2]] w fun e w' => e = .returned (.bool true) ∧ Below w.heap.size w w' := by
  subst hS
  exact same_calls a s P D p d p2 d2 w hp hd hp2 hd2
theorem eq_form (l : List UInt8) (a b : Value) (w : World) (h1 : Byt w a l) (h2 : Byt w b l) : Calls Try.prog 14 #[a, b] w fun e w' => e = .returned (.bool true) ∧ w = w' := by
  have := eqBytes_calls a b l l w h1 h2
  rw [decide_eq_true rfl] at this
  exact this

set_option maxRecDepth 100000 in
set_option maxHeartbeats 4000000 in
theorem optionWrites_large (o : Opt) (p d : Value) (w : World) (hp : Byt w p o.p) (hd : Byt w d o.d) (hs : o.s.length ≤ 9223372036854775807) (hlg : lgB o.s o.d = true) :
    Calls Try.prog 3 #[optV o.a o.s p d] w fun e w' => e = .returned (.bool true) ∧ Below w.heap.size w w' := by
  have HP0 := Lib.hid hp
  have HD0 := Lib.hid hd
  obtain ⟨xp, cp, rfl, p1, p2⟩ := hp.shut
  obtain ⟨xd, cd, rfl, d1, d2⟩ := hd.shut
  clear hp hd
  obtain ⟨S, hS⟩ : ∃ S, Hid (S = sOf o.s) := ⟨_, Lib.hid rfl⟩
  obtain ⟨np, hnp⟩ : ∃ n, Hid (n = o.p.length) := ⟨_, Lib.hid rfl⟩
  obtain ⟨nd, hnd⟩ : ∃ n, Hid (n = o.d.length) := ⟨_, Lib.hid rfl⟩
  have HLG := Lib.hid (fun W (h1 : Byt W (.slice xp o.p.length cp) o.p) (h2 : Byt W (.slice xd o.d.length cd) o.d) => large_any o _ _ _ hlg W h1 h2 hs)
  unfold optV at HLG ⊢
  rw [← hS.out, ← hnp.out, ← hnd.out] at HLG ⊢
  rw [← hnp.out] at HP0 p1
  rw [← hnd.out] at HD0 d1
  have HB0 : Hid (Below w.heap.size w (w.alloc (.cells #[.int .u32 (o.a : Int), .string S, .slice xp np cp, .slice xd nd cd] 25))) := Lib.hid ((Below.refl _ _).alloc (Nat.le_refl _) _)
  have R0 := Lib.hid (RowAt.new w #[.int .u32 (o.a : Int), .string S, .slice xp np cp, .slice xd nd cd] 25 w.heap.size rfl)
  have P0 := Lib.hid (HP0.out.below ((Below.refl _ _).alloc (Nat.le_refl _) (.cells #[.int .u32 (o.a : Int), .string S, .slice xp np cp, .slice xd nd cd] 25)))
  have D0 := Lib.hid (HD0.out.below ((Below.refl _ _).alloc (Nat.le_refl _) (.cells #[.int .u32 (o.a : Int), .string S, .slice xp np cp, .slice xd nd cd] 25)))
  go_enter Try.func3, Try.ntmps3
  go_wp2_with fail
  refine (HLG.out _ P0.out D0.out).mono ?_
  rintro e w1 ⟨rfl, hb⟩
  have HB_1 := Lib.hid (HB0.out.trans (hb.mono HB0.out.size))
  have R_1 := Lib.hid (RowAt.below R0.out hb)
  have P_1 := Lib.hid (Byt.below P0.out hb)
  have D_1 := Lib.hid (Byt.below D0.out hb)
  clear hb
  have Rc0 := R_1.out.cell 0 (.int .u32 (o.a : Int)) rfl
  have Rc1 := R_1.out.cell 1 (.string S) rfl
  have Rc2 := R_1.out.cell 2 (.slice xp np cp) rfl
  have Rc3 := R_1.out.cell 3 (.slice xd nd cd) rfl
  have Rz := R_1.out.lt
  go_wp2_with fail
  refine (works_calls _).mono ?_
  rintro e wz ⟨rfl, hb⟩
  have HBz := Lib.hid (HB_1.out.trans (hb.mono HB_1.out.size))
  clear hb Rc0 Rc1 Rc2 Rc3 Rz
  go_wp2
  go_ret
  exact ⟨rfl, HBz.out⟩

set_option maxRecDepth 100000 in
set_option maxHeartbeats 4000000 in
theorem optionWrites_long (o : Opt) (p d : Value) (w : World) (hp : Byt w p o.p) (hd : Byt w d o.d) (hs : o.s.length ≤ 9223372036854775807) (hlg : lgB o.s o.d = false) (hl : 131072 < o.p.length) :
    Calls Try.prog 3 #[optV o.a o.s p d] w fun e w' => e = .returned (.bool true) ∧ Below w.heap.size w w' := by
  have HP0 := Lib.hid hp
  have HD0 := Lib.hid hd
  obtain ⟨xp, cp, rfl, p1, p2⟩ := hp.shut
  obtain ⟨xd, cd, rfl, d1, d2⟩ := hd.shut
  clear hp hd
  obtain ⟨S, hS⟩ : ∃ S, Hid (S = sOf o.s) := ⟨_, Lib.hid rfl⟩
  obtain ⟨np, hnp⟩ : ∃ n, Hid (n = o.p.length) := ⟨_, Lib.hid rfl⟩
  obtain ⟨nd, hnd⟩ : ∃ n, Hid (n = o.d.length) := ⟨_, Lib.hid rfl⟩
  have HLG := Lib.hid (fun W (h1 : Byt W (.slice xp o.p.length cp) o.p) (h2 : Byt W (.slice xd o.d.length cd) o.d) => large_any o _ _ _ hlg W h1 h2 hs)
  unfold optV at HLG ⊢
  rw [← hS.out, ← hnp.out, ← hnd.out] at HLG ⊢
  rw [← hnp.out] at HP0 p1
  rw [← hnd.out] at HD0 d1
  have hq : decide ((131072 : Int) < (np : Int)) = true := by have := hnp.out; simp; omega
  clear hl
  have HB0 : Hid (Below w.heap.size w (w.alloc (.cells #[.int .u32 (o.a : Int), .string S, .slice xp np cp, .slice xd nd cd] 25))) := Lib.hid ((Below.refl _ _).alloc (Nat.le_refl _) _)
  have R0 := Lib.hid (RowAt.new w #[.int .u32 (o.a : Int), .string S, .slice xp np cp, .slice xd nd cd] 25 w.heap.size rfl)
  have P0 := Lib.hid (HP0.out.below ((Below.refl _ _).alloc (Nat.le_refl _) (.cells #[.int .u32 (o.a : Int), .string S, .slice xp np cp, .slice xd nd cd] 25)))
  have D0 := Lib.hid (HD0.out.below ((Below.refl _ _).alloc (Nat.le_refl _) (.cells #[.int .u32 (o.a : Int), .string S, .slice xp np cp, .slice xd nd cd] 25)))
  go_enter Try.func3, Try.ntmps3
  go_wp2_with fail
  refine (HLG.out _ P0.out D0.out).mono ?_
  rintro e w1 ⟨rfl, hb⟩
  have HB_1 := Lib.hid (HB0.out.trans (hb.mono HB0.out.size))
  have R_1 := Lib.hid (RowAt.below R0.out hb)
  have P_1 := Lib.hid (Byt.below P0.out hb)
  have D_1 := Lib.hid (Byt.below D0.out hb)
  clear hb
  have Rc0 := R_1.out.cell 0 (.int .u32 (o.a : Int)) rfl
  have Rc1 := R_1.out.cell 1 (.string S) rfl
  have Rc2 := R_1.out.cell 2 (.slice xp np cp) rfl
  have Rc3 := R_1.out.cell 3 (.slice xd nd cd) rfl
  have Rz := R_1.out.lt
  go_wp2_with fail
  refine (works_calls _).mono ?_
  rintro e wz ⟨rfl, hb⟩
  have HBz := Lib.hid (HB_1.out.trans (hb.mono HB_1.out.size))
  clear hb Rc0 Rc1 Rc2 Rc3 Rz
  go_wp2
  go_ret
  exact ⟨rfl, HBz.out⟩

set_option maxRecDepth 100000 in
set_option maxHeartbeats 4000000 in
theorem optionWrites_main (o : Opt) (p d : Value) (w : World) (ha : o.a < 4294967296) (hp : Byt w p o.p) (hd : Byt w d o.d) (hs : o.s.length ≤ 9223372036854775807) (hlg : lgB o.s o.d = false) (hl : o.p.length ≤ 131072) :
    Calls Try.prog 3 #[optV o.a o.s p d] w fun e w' => e = .returned (.bool true) ∧ Below w.heap.size w w' := by
  have HP0 := Lib.hid hp
  have HD0 := Lib.hid hd
  obtain ⟨xp, cp, rfl, p1, p2⟩ := hp.shut
  obtain ⟨xd, cd, rfl, d1, d2⟩ := hd.shut
  clear hp hd
  obtain ⟨S, hS⟩ : ∃ S, Hid (S = sOf o.s) := ⟨_, Lib.hid rfl⟩
  obtain ⟨np, hnp⟩ : ∃ n, Hid (n = o.p.length) := ⟨_, Lib.hid rfl⟩
  obtain ⟨nd, hnd⟩ : ∃ n, Hid (n = o.d.length) := ⟨_, Lib.hid rfl⟩
  have HLG := Lib.hid (fun W (h1 : Byt W (.slice xp o.p.length cp) o.p) (h2 : Byt W (.slice xd o.d.length cd) o.d) => large_any o _ _ _ hlg W h1 h2 hs)
  unfold optV at HLG ⊢
  rw [← hS.out, ← hnp.out, ← hnd.out] at HLG ⊢
  rw [← hnp.out] at HP0 p1
  rw [← hnd.out] at HD0 d1
  have hq : decide ((131072 : Int) < (np : Int)) = false := by have := hnp.out; simp; omega
  have hlb := lg_no _ _ hlg
  obtain ⟨LW, hLW⟩ : ∃ L, Hid (L = if wrOk o then wrO o else []) := ⟨_, Lib.hid rfl⟩
  obtain ⟨E, hE⟩ : ∃ E : Int, Hid (E = if wrOk o then 0 else 1) := ⟨_, Lib.hid rfl⟩
  obtain ⟨nw, hnw⟩ : ∃ n, Hid (n = LW.length) := ⟨_, Lib.hid rfl⟩
  have HW := Lib.hid (fun p d W (h1 : Byt W p o.p) (h2 : Byt W d o.d) => write_form optWrite_calls o S hS.out _ rfl LW E hLW.out hE.out p d W ha h1 h2 (by omega) (by omega) (by omega))
  have HRW := Lib.hid (fun p d W (h1 : Byt W p o.p) (h2 : Byt W d o.d) => write_form refOptWrite_calls o S hS.out _ rfl LW E hLW.out hE.out p d W ha h1 h2 (by omega) (by omega) (by omega))
  rw [← hnw.out] at HW HRW
  have HCP := Lib.hid (fun p d W (h1 : Byt W p o.p) (h2 : Byt W d o.d) => copied_form o S hS.out np nd hnp.out hnd.out p d W h1 h2 (by omega) (by omega))
  have HS := Lib.hid (same_form o.a o.s o.p o.d S hS.out)
  have hLW3 : LW.length ≤ 1000000000 := by rw [hLW.out]; split; · rw [wrO_length]; omega
                                           · simp
  have HLE : Hid (∀ x ∈ [LW, LW, LW, o.d, o.p], x.length ≤ 1000000000000) := Lib.hid (fun x hx => by
    simp only [List.mem_cons, List.not_mem_nil, or_false] at hx
    rcases hx with rfl | rfl | rfl | rfl | rfl <;> omega)
  clear hlb hl hs hLW3
  have HB0 : Hid (Below w.heap.size w (w.alloc (.cells #[.int .u32 (o.a : Int), .string S, .slice xp np cp, .slice xd nd cd] 25))) := Lib.hid ((Below.refl _ _).alloc (Nat.le_refl _) _)
  have R0 := Lib.hid (RowAt.new w #[.int .u32 (o.a : Int), .string S, .slice xp np cp, .slice xd nd cd] 25 w.heap.size rfl)
  have P0 := Lib.hid (HP0.out.below ((Below.refl _ _).alloc (Nat.le_refl _) (.cells #[.int .u32 (o.a : Int), .string S, .slice xp np cp, .slice xd nd cd] 25)))
  have D0 := Lib.hid (HD0.out.below ((Below.refl _ _).alloc (Nat.le_refl _) (.cells #[.int .u32 (o.a : Int), .string S, .slice xp np cp, .slice xd nd cd] 25)))
  go_enter Try.func3, Try.ntmps3
  go_wp2_with fail
  refine (HLG.out _ P0.out D0.out).mono ?_
  rintro e w1 ⟨rfl, hb⟩
  have HB_1 := Lib.hid (HB0.out.trans (hb.mono HB0.out.size))
  have R_1 := Lib.hid (RowAt.below R0.out hb)
  have P_1 := Lib.hid (Byt.below P0.out hb)
  have D_1 := Lib.hid (Byt.below D0.out hb)
  clear hb
  have Rc0 := R_1.out.cell 0 (.int .u32 (o.a : Int)) rfl
  have Rc1 := R_1.out.cell 1 (.string S) rfl
  have Rc2 := R_1.out.cell 2 (.slice xp np cp) rfl
  have Rc3 := R_1.out.cell 3 (.slice xd nd cd) rfl
  have Rz := R_1.out.lt
  have S_1 := Lib.hid (Sit.start2 _ _ _ _ _ P_1.out D_1.out)
  have HBN := HB_1
  have HBS0 := Lib.hid S_1.out.bel
  go_wp2_with fail
  refine (HCP.out _ _ _ S_1.out.r0 S_1.out.r1).mono ?_
  rintro e w2 ⟨x1, c1, x2, c2, rfl, ho1, ho2, hne, hb⟩
  have S_2 := Lib.hid (Sit.born2 S_1.out hb ho1 ho2 hne)
  have R_2 := Lib.hid (RowAt.below R_1.out hb)
  have HB_2 := Lib.hid S_2.out.bel
  clear hb ho1 ho2 hne Rc0 Rc1 Rc2 Rc3 Rz
  have HB_3 := Lib.hid (HB_2.out.alloc HB_2.out.size (.cells #[.int .u32 (o.a : Int), .string S, .slice x1 np c1, .slice x2 nd c2] 25))
  have R_3 := Lib.hid (RowAt.alloc R_2.out (.cells #[.int .u32 (o.a : Int), .string S, .slice x1 np c1, .slice x2 nd c2] 25))
  have S_3 := Lib.hid (Sit.alloc S_2.out (.cells #[.int .u32 (o.a : Int), .string S, .slice x1 np c1, .slice x2 nd c2] 25))
  have R2_3 := Lib.hid (RowAt.new w2 #[.int .u32 (o.a : Int), .string S, .slice x1 np c1, .slice x2 nd c2] 25 (w2.heap.size) (by first | rfl | simp))
  have Rc0 := R_3.out.cell 0 (.int .u32 (o.a : Int)) rfl
  have Rc1 := R_3.out.cell 1 (.string S) rfl
  have Rc2 := R_3.out.cell 2 (.slice xp np cp) rfl
  have Rc3 := R_3.out.cell 3 (.slice xd nd cd) rfl
  have Rz := R_3.out.lt
  have R2c0 := R2_3.out.cell 0 (.int .u32 (o.a : Int)) rfl
  have R2c1 := R2_3.out.cell 1 (.string S) rfl
  have R2c2 := R2_3.out.cell 2 (.slice x1 np c1) rfl
  have R2c3 := R2_3.out.cell 3 (.slice x2 nd c2) rfl
  have R2z := R2_3.out.lt
  go_wp2_with fail
  refine (HW.out _ _ _ S_3.out.o1.byt S_3.out.o0.byt).mono ?_
  rintro e w4 ⟨x3, c3, rfl, ho, hb⟩
  have S_4 := Lib.hid (Sit.born S_3.out hb ho)
  have R_4 := Lib.hid (RowAt.below R_3.out hb)
  have R2_4 := Lib.hid (RowAt.below R2_3.out hb)
  have HB_4 := Lib.hid S_4.out.bel
  clear hb ho Rc0 Rc1 Rc2 Rc3 Rz R2c0 R2c1 R2c2 R2c3 R2z
  have Rc0 := R_4.out.cell 0 (.int .u32 (o.a : Int)) rfl
  have Rc1 := R_4.out.cell 1 (.string S) rfl
  have Rc2 := R_4.out.cell 2 (.slice xp np cp) rfl
  have Rc3 := R_4.out.cell 3 (.slice xd nd cd) rfl
  have Rz := R_4.out.lt
  have R2c0 := R2_4.out.cell 0 (.int .u32 (o.a : Int)) rfl
  have R2c1 := R2_4.out.cell 1 (.string S) rfl
  have R2c2 := R2_4.out.cell 2 (.slice x1 np c1) rfl
  have R2c3 := R2_4.out.cell 3 (.slice x2 nd c2) rfl
  have R2z := R2_4.out.lt
  go_wp2_with fail
  refine (HRW.out _ _ _ S_4.out.r0 S_4.out.r1).mono ?_
  rintro e w5 ⟨x4, c4, rfl, ho, hb⟩
  have S_5 := Lib.hid (Sit.born S_4.out hb ho)
  have R_5 := Lib.hid (RowAt.below R_4.out hb)
  have R2_5 := Lib.hid (RowAt.below R2_4.out hb)
  have HB_5 := Lib.hid S_5.out.bel
  clear hb ho Rc0 Rc1 Rc2 Rc3 Rz R2c0 R2c1 R2c2 R2c3 R2z
  go_wp2_with fail
  refine (eq_form LW _ _ _ S_5.out.o1.byt S_5.out.o0.byt).mono ?_
  rintro e w' ⟨rfl, rfl⟩
  have Rc0 := R_5.out.cell 0 (.int .u32 (o.a : Int)) rfl
  have Rc1 := R_5.out.cell 1 (.string S) rfl
  have Rc2 := R_5.out.cell 2 (.slice xp np cp) rfl
  have Rc3 := R_5.out.cell 3 (.slice xd nd cd) rfl
  have Rz := R_5.out.lt
  have R2c0 := R2_5.out.cell 0 (.int .u32 (o.a : Int)) rfl
  have R2c1 := R2_5.out.cell 1 (.string S) rfl
  have R2c2 := R2_5.out.cell 2 (.slice x1 np c1) rfl
  have R2c3 := R2_5.out.cell 3 (.slice x2 nd c2) rfl
  have R2z := R2_5.out.lt
  go_wp2_with fail
  refine (HS.out _ _ _ _ _ S_5.out.o3.byt S_5.out.o2.byt S_5.out.r0 S_5.out.r1).mono ?_
  rintro e w6 ⟨rfl, hb⟩
  have HB_6 := Lib.hid (HB_5.out.trans (hb.mono HB_5.out.size))
  have R_6 := Lib.hid (RowAt.below R_5.out hb)
  have S_6 := Lib.hid (Sit.call S_5.out hb)
  have R2_6 := Lib.hid (RowAt.below R2_5.out hb)
  clear hb Rc0 Rc1 Rc2 Rc3 Rz R2c0 R2c1 R2c2 R2c3 R2z
  have Rc0 := R_6.out.cell 0 (.int .u32 (o.a : Int)) rfl
  have Rc1 := R_6.out.cell 1 (.string S) rfl
  have Rc2 := R_6.out.cell 2 (.slice xp np cp) rfl
  have Rc3 := R_6.out.cell 3 (.slice xd nd cd) rfl
  have Rz := R_6.out.lt
  have R2c0 := R2_6.out.cell 0 (.int .u32 (o.a : Int)) rfl
  have R2c1 := R2_6.out.cell 1 (.string S) rfl
  have R2c2 := R2_6.out.cell 2 (.slice x1 np c1) rfl
  have R2c3 := R2_6.out.cell 3 (.slice x2 nd c2) rfl
  have R2z := R2_6.out.lt
  go_wp2_with fail
  refine (HW.out _ _ _ S_6.out.o3.byt S_6.out.o2.byt).mono ?_
  rintro e w7 ⟨x5, c5, rfl, ho, hb⟩
  have S_7 := Lib.hid (Sit.born S_6.out hb ho)
  have R_7 := Lib.hid (RowAt.below R_6.out hb)
  have R2_7 := Lib.hid (RowAt.below R2_6.out hb)
  have HB_7 := Lib.hid S_7.out.bel
  clear hb ho Rc0 Rc1 Rc2 Rc3 Rz R2c0 R2c1 R2c2 R2c3 R2z
  have R2c0 := R2_7.out.cell 0 (.int .u32 (o.a : Int)) rfl
  have R2c1 := R2_7.out.cell 1 (.string S) rfl
  have R2c2 := R2_7.out.cell 2 (.slice x1 np c1) rfl
  have R2c3 := R2_7.out.cell 3 (.slice x2 nd c2) rfl
  have R2z := R2_7.out.lt
  go_wp2_with fail
  refine (S_7.out.apart [2, 0, 4, 3] #[.slice x3 nw c3, .slice x5 nw c5, .slice x1 np c1, .slice x2 nd c2] 4 (by decide) (by simp) rfl rfl (by decide) (by decide) (len_all _ HLE.out)).mono ?_
  rintro e wy ⟨rfl, hb⟩
  have HB_y := Lib.hid (HBN.out.trans (hb.mono HBN.out.size))
  clear hb R2c0 R2c1 R2c2 R2c3 R2z
  go_wp2_with fail
  refine (works_calls _).mono ?_
  rintro e wz ⟨rfl, hb⟩
  have HBz := Lib.hid (HB_y.out.trans (hb.mono HB_y.out.size))
  clear hb
  go_wp2
  go_ret
  exact ⟨rfl, HBz.out⟩

theorem optionWrites_walk (o : Opt) (p d : Value) (w : World) (ha : o.a < 4294967296) (hp : Byt w p o.p) (hd : Byt w d o.d) (hs : o.s.length ≤ 9223372036854775807) :
    Calls Try.prog 3 #[optV o.a o.s p d] w fun e w' => e = .returned (.bool true) ∧ Below w.heap.size w w' := by
  cases hlg : lgB o.s o.d with
  | true => exact optionWrites_large o p d w hp hd hs hlg
  | false =>
    by_cases hl : o.p.length ≤ 131072
    · exact optionWrites_main o p d w ha hp hd hs hlg hl
    · exact optionWrites_long o p d w hp hd hs hlg (by omega)
end Go.Proofs.Ytbcocblamocobaa
