/-
  The walk of the law OptionSizes.
-/
import Derived.Test.YtbcocblamocobaaOptWorks
import Derived.Test.YtbcocblamocobaaSit
namespace Go.Proofs.Ytbcocblamocobaa
open Go Go.RowKit
set_option linter.unusedVariables false

theorem large_any (o : Opt) (p d : Value) (b : Bool) (hb : lgB o.s o.d = b) (w : World) (hp : Byt w p o.p) (hd : Byt w d o.d) (hs : o.s.length ≤ 9223372036854775807) :
    Calls Try.prog 9 #[optV o.a o.s p d] w fun e w' => e = .returned (.bool b) ∧ Below w.heap.size w w' := by rw [← hb]; exact large_calls o.a o.s o.p o.d p d w hp hd hs
theorem lg_no (s d : List UInt8) (h : lgB s d = false) : s.length ≤ 16384 ∧ d.length ≤ 65536 := by
  unfold lgB at h
  simp only [decide_eq_false_iff_not] at h
  omega

/-- Is every byte of a text a letter, and may the path be? As the law reckons it. -/
def rightB (P : Nat) (s : List UInt8) (k : Nat) : Bool := decide (P < 65536) && (s.take k).all letB
theorem right_succ (P : Nat) (s : List UInt8) (k : Nat) (h : k < s.length) : rightB P s (k + 1) = (rightB P s k && letB (s.getD k 0)) := by
  unfold rightB
  rw [List.take_succ_eq_append_getElem h, List.all_append]
  have e : s.getD k 0 = s[k] := by simp [List.getD, h]
  rw [e]
  simp [Bool.and_assoc]
theorem right_all (o : Opt) : rightB o.p.length o.s o.s.length = wrOk o := by
  unfold rightB wrOk
  rw [List.take_length, Bool.and_comm]
  congr 1
  apply decide_eq_decide.2
  omega
/-- The ways of a letter's tests. -/
theorem let_ways (c : UInt8) : (decide (1 ≤ (c.toNat : Int)) = false ∧ letB c = false) ∨ (decide (1 ≤ (c.toNat : Int)) = true ∧ decide ((c.toNat : Int) ≤ 127) = false ∧ letB c = false) ∨ (decide (1 ≤ (c.toNat : Int)) = true ∧ decide ((c.toNat : Int) ≤ 127) = true ∧ letB c = true) := by
  unfold letB
  simp only [decide_eq_true_iff, decide_eq_false_iff_not]
  omega

set_option maxRecDepth 100000 in
set_option maxHeartbeats 4000000 in
theorem optionSizes_large (o : Opt) (p d : Value) (w : World) (hp : Byt w p o.p) (hd : Byt w d o.d) (hs : o.s.length ≤ 9223372036854775807) (hlg : lgB o.s o.d = true) :
    Calls Try.prog 7 #[optV o.a o.s p d] w fun e w' => e = .returned (.bool true) ∧ Below w.heap.size w w' := by
  have HP0 := Lib.hid hp
  have HD0 := Lib.hid hd
  obtain ⟨xp, cp, rfl, p1, p2⟩ := hp.shut
  obtain ⟨xd, cd, rfl, d1, d2⟩ := hd.shut
  clear hp hd
  obtain ⟨S, hS⟩ : ∃ S, Hid (S = sOf o.s) := ⟨_, Lib.hid rfl⟩
  obtain ⟨np, hnp⟩ : ∃ n, Hid (n = o.p.length) := ⟨_, Lib.hid rfl⟩
  obtain ⟨nd, hnd⟩ : ∃ n, Hid (n = o.d.length) := ⟨_, Lib.hid rfl⟩
  have HLG := Lib.hid (fun W (h1 : Byt W (.slice xp o.p.length cp) o.p) (h2 : Byt W (.slice xd o.d.length cd) o.d) => large_any o _ _ _ hlg W h1 h2 hs)
  unfold optV at HLG ⊢
  rw [← hS.out, ← hnp.out, ← hnd.out] at HLG ⊢
  rw [← hnp.out] at HP0 p1
  rw [← hnd.out] at HD0 d1
  have HB0 : Hid (Below w.heap.size w (w.alloc (.cells #[.int .u32 (o.a : Int), .string S, .slice xp np cp, .slice xd nd cd] 25))) := Lib.hid ((Below.refl _ _).alloc (Nat.le_refl _) _)
  have R0 := Lib.hid (RowAt.new w #[.int .u32 (o.a : Int), .string S, .slice xp np cp, .slice xd nd cd] 25 w.heap.size rfl)
  have P0 := Lib.hid (HP0.out.below ((Below.refl _ _).alloc (Nat.le_refl _) (.cells #[.int .u32 (o.a : Int), .string S, .slice xp np cp, .slice xd nd cd] 25)))
  have D0 := Lib.hid (HD0.out.below ((Below.refl _ _).alloc (Nat.le_refl _) (.cells #[.int .u32 (o.a : Int), .string S, .slice xp np cp, .slice xd nd cd] 25)))
  go_enter Try.func7, Try.ntmps7
  go_wp2_with fail
  refine (HLG.out _ P0.out D0.out).mono ?_
  rintro e w1 ⟨rfl, hb⟩
  have HB_1 := Lib.hid (HB0.out.trans (hb.mono HB0.out.size))
  have R_1 := Lib.hid (RowAt.below R0.out hb)
  have P_1 := Lib.hid (Byt.below P0.out hb)
  have D_1 := Lib.hid (Byt.below D0.out hb)
  clear hb
  have Rc0 := R_1.out.cell 0 (.int .u32 (o.a : Int)) rfl
  have Rc1 := R_1.out.cell 1 (.string S) rfl
  have Rc2 := R_1.out.cell 2 (.slice xp np cp) rfl
  have Rc3 := R_1.out.cell 3 (.slice xd nd cd) rfl
  have Rz := R_1.out.lt
  go_wp2_with fail
  refine (works_calls _).mono ?_
  rintro e wz ⟨rfl, hb⟩
  have HBz := Lib.hid (HB_1.out.trans (hb.mono HB_1.out.size))
  clear hb Rc0 Rc1 Rc2 Rc3 Rz
  go_wp2
  go_ret
  exact ⟨rfl, HBz.out⟩

set_option maxRecDepth 100000 in
set_option maxHeartbeats 4000000 in
theorem optionSizes_long (o : Opt) (p d : Value) (w : World) (hp : Byt w p o.p) (hd : Byt w d o.d) (hs : o.s.length ≤ 9223372036854775807) (hlg : lgB o.s o.d = false) (hl : 131072 < o.p.length) :
    Calls Try.prog 7 #[optV o.a o.s p d] w fun e w' => e = .returned (.bool true) ∧ Below w.heap.size w w' := by
  have HP0 := Lib.hid hp
  have HD0 := Lib.hid hd
  obtain ⟨xp, cp, rfl, p1, p2⟩ := hp.shut
  obtain ⟨xd, cd, rfl, d1, d2⟩ := hd.shut
  clear hp hd
  obtain ⟨S, hS⟩ : ∃ S, Hid (S = sOf o.s) := ⟨_, Lib.hid rfl⟩
  obtain ⟨np, hnp⟩ : ∃ n, Hid (n = o.p.length) := ⟨_, Lib.hid rfl⟩
  obtain ⟨nd, hnd⟩ : ∃ n, Hid (n = o.d.length) := ⟨_, Lib.hid rfl⟩
  have HLG := Lib.hid (fun W (h1 : Byt W (.slice xp o.p.length cp) o.p) (h2 : Byt W (.slice xd o.d.length cd) o.d) => large_any o _ _ _ hlg W h1 h2 hs)
  unfold optV at HLG ⊢
  rw [← hS.out, ← hnp.out, ← hnd.out] at HLG ⊢
  rw [← hnp.out] at HP0 p1
  rw [← hnd.out] at HD0 d1
  have hq : decide ((131072 : Int) < (np : Int)) = true := by have := hnp.out; simp; omega
  clear hl
  have HB0 : Hid (Below w.heap.size w (w.alloc (.cells #[.int .u32 (o.a : Int), .string S, .slice xp np cp, .slice xd nd cd] 25))) := Lib.hid ((Below.refl _ _).alloc (Nat.le_refl _) _)
  have R0 := Lib.hid (RowAt.new w #[.int .u32 (o.a : Int), .string S, .slice xp np cp, .slice xd nd cd] 25 w.heap.size rfl)
  have P0 := Lib.hid (HP0.out.below ((Below.refl _ _).alloc (Nat.le_refl _) (.cells #[.int .u32 (o.a : Int), .string S, .slice xp np cp, .slice xd nd cd] 25)))
  have D0 := Lib.hid (HD0.out.below ((Below.refl _ _).alloc (Nat.le_refl _) (.cells #[.int .u32 (o.a : Int), .string S, .slice xp np cp, .slice xd nd cd] 25)))
  go_enter Try.func7, Try.ntmps7
  go_wp2_with fail
  refine (HLG.out _ P0.out D0.out).mono ?_
  rintro e w1 ⟨rfl, hb⟩
  have HB_1 := Lib.hid (HB0.out.trans (hb.mono HB0.out.size))
  have R_1 := Lib.hid (RowAt.below R0.out hb)
  have P_1 := Lib.hid (Byt.below P0.out hb)
  have D_1 := Lib.hid (Byt.below D0.out hb)
  clear hb
  have Rc0 := R_1.out.cell 0 (.int .u32 (o.a : Int)) rfl
  have Rc1 := R_1.out.cell 1 (.string S) rfl
  have Rc2 := R_1.out.cell 2 (.slice xp np cp) rfl
  have Rc3 := R_1.out.cell 3 (.slice xd nd cd) rfl
  have Rz := R_1.out.lt
  go_wp2_with fail
  refine (works_calls _).mono ?_
  rintro e wz ⟨rfl, hb⟩
  have HBz := Lib.hid (HB_1.out.trans (hb.mono HB_1.out.size))
  clear hb Rc0 Rc1 Rc2 Rc3 Rz
  go_wp2
  go_ret
  exact ⟨rfl, HBz.out⟩

set_option maxRecDepth 100000 in
set_option maxHeartbeats 4000000 in
theorem optionSizes_main (o : Opt) (p d : Value) (w : World) (ha : o.a < 4294967296) (hp : Byt w p o.p) (hd : Byt w d o.d) (hs : o.s.length ≤ 9223372036854775807) (hlg : lgB o.s o.d = false) (hl : o.p.length ≤ 131072) :
    Calls Try.prog 7 #[optV o.a o.s p d] w fun e w' => e = .returned (.bool true) ∧ Below w.heap.size w w' := by
  have hlb := lg_no _ _ hlg
  have HP0 := Lib.hid hp
  have HD0 := Lib.hid hd
  obtain ⟨xp, cp, rfl, p1, p2⟩ := hp.shut
  obtain ⟨xd, cd, rfl, d1, d2⟩ := hd.shut
  clear hp hd
  obtain ⟨S, hS⟩ : ∃ S, Hid (S = sOf o.s) := ⟨_, Lib.hid rfl⟩
  obtain ⟨np, hnp⟩ : ∃ n, Hid (n = o.p.length) := ⟨_, Lib.hid rfl⟩
  obtain ⟨nd, hnd⟩ : ∃ n, Hid (n = o.d.length) := ⟨_, Lib.hid rfl⟩
  have HLG := Lib.hid (fun W (h1 : Byt W (.slice xp o.p.length cp) o.p) (h2 : Byt W (.slice xd o.d.length cd) o.d) => large_any o _ _ _ hlg W h1 h2 hs)
  unfold optV at HLG ⊢
  rw [← hS.out, ← hnp.out, ← hnd.out] at HLG ⊢
  rw [← hnp.out] at HP0 p1
  rw [← hnd.out] at HD0 d1
  have hq : decide ((131072 : Int) < (np : Int)) = false := by have := hnp.out; simp; omega
  have hsz : Hid (S.size = o.s.length) := Lib.hid (by rw [hS.out, sOf_size])
  have HGET : Hid (∀ (k : Nat) (h : k < S.size) (h2 : k < o.s.length), S[k] = o.s.getD k 0) := Lib.hid (by
    have e := hS.out
    subst e
    exact fun k h _ => sOf_get o.s k h)
  obtain ⟨B, hBB⟩ : ∃ B, Hid (B = wrOk o) := ⟨_, Lib.hid rfl⟩
  obtain ⟨LW, hLW⟩ : ∃ L, Hid (L = if B then wrO o else []) := ⟨_, Lib.hid rfl⟩
  obtain ⟨E, hE⟩ : ∃ E : Int, Hid (E = if B then 0 else 1) := ⟨_, Lib.hid rfl⟩
  have HE1 : Hid (B = false → E = 1) := Lib.hid (fun h => by rw [hE.out, h]; rfl)
  have HE0 : Hid (B = true → E = 0) := Lib.hid (fun h => by rw [hE.out, h]; rfl)
  have HL1 : Hid (B = false → LW.length = 0) := Lib.hid (fun h => by rw [hLW.out, h]; rfl)
  have HL0 : Hid (B = true → (LW.length : Int) = 8 + 2 * (S.size : Int) + (np : Int) + (nd : Int)) := Lib.hid (fun h => by rw [hLW.out, h, if_pos rfl, wrO_length, hsz.out, hnp.out, hnd.out]; omega)
  have HW : Hid (∀ W, Byt W (.slice xp np cp) o.p → Byt W (.slice xd nd cd) o.d → Calls Try.prog 12 #[.agg #[.int .u32 (o.a : Int), .string S, .slice xp np cp, .slice xd nd cd]] W fun e w' => ∃ x c, e = .returned (.tuple #[.slice x LW.length c, .int .i64 E]) ∧ OwnB w' W.heap.size (.slice x LW.length c) LW ∧ Below W.heap.size W w') := Lib.hid (fun W h1 h2 => by
    have := write_shape (optWrite_calls o _ _ W ha h1 h2 (by omega) (by omega) (by omega)) B hBB.out.symm LW E hLW.out hE.out
    unfold optV at this
    rw [← hS.out] at this
    exact this)
  have hSb : S.size ≤ 16384 := by rw [hsz.out]; exact hlb.1
  have hnb : nd ≤ 65536 := by rw [hnd.out]; exact hlb.2
  have hnp2 : np ≤ 131072 := by rw [hnp.out]; exact hl
  clear hlb hl hs
  have HB0 : Hid (Below w.heap.size w (w.alloc (.cells #[.int .u32 (o.a : Int), .string S, .slice xp np cp, .slice xd nd cd] 25))) := Lib.hid ((Below.refl _ _).alloc (Nat.le_refl _) _)
  have R0 := Lib.hid (RowAt.new w #[.int .u32 (o.a : Int), .string S, .slice xp np cp, .slice xd nd cd] 25 w.heap.size rfl)
  have P0 := Lib.hid (HP0.out.below ((Below.refl _ _).alloc (Nat.le_refl _) (.cells #[.int .u32 (o.a : Int), .string S, .slice xp np cp, .slice xd nd cd] 25)))
  have D0 := Lib.hid (HD0.out.below ((Below.refl _ _).alloc (Nat.le_refl _) (.cells #[.int .u32 (o.a : Int), .string S, .slice xp np cp, .slice xd nd cd] 25)))
  go_enter Try.func7, Try.ntmps7
  go_wp2_with fail
  refine (HLG.out _ P0.out D0.out).mono ?_
  rintro e w1 ⟨rfl, hb⟩
  have HB_1 := Lib.hid (HB0.out.trans (hb.mono HB0.out.size))
  have R_1 := Lib.hid (RowAt.below R0.out hb)
  have P_1 := Lib.hid (Byt.below P0.out hb)
  have D_1 := Lib.hid (Byt.below D0.out hb)
  clear hb
  have Rc0 := R_1.out.cell 0 (.int .u32 (o.a : Int)) rfl
  have Rc1 := R_1.out.cell 1 (.string S) rfl
  have Rc2 := R_1.out.cell 2 (.slice xp np cp) rfl
  have Rc3 := R_1.out.cell 3 (.slice xd nd cd) rfl
  have Rz := R_1.out.lt
  go_wp2_with fail
  refine (HW.out _ P_1.out D_1.out).mono ?_
  rintro e w2 ⟨x3, c3, rfl, ho, hb⟩
  have HB_2 := Lib.hid (HB_1.out.trans (hb.mono HB_1.out.size))
  have R_2 := Lib.hid (RowAt.below R_1.out hb)
  have P_2 := Lib.hid (Byt.below P_1.out hb)
  have D_2 := Lib.hid (Byt.below D_1.out hb)
  clear ho
  clear hb Rc0 Rc1 Rc2 Rc3 Rz
  have Rc0 := R_2.out.cell 0 (.int .u32 (o.a : Int)) rfl
  have Rc1 := R_2.out.cell 1 (.string S) rfl
  have Rc2 := R_2.out.cell 2 (.slice xp np cp) rfl
  have Rc3 := R_2.out.cell 3 (.slice xd nd cd) rfl
  have Rz := R_2.out.lt
  go_wp2
  go_loop [5, 6] (fun r i => ∃ k : Nat, k ≤ S.size ∧ i = .int .i64 k ∧ ∃ b, r = .bool b ∧ Hid (b = rightB np o.s k)) (fun _ i => S.size - (intOf i).toNat)
  case atStart => exact ⟨0, by omega, rfl, _, rfl, Lib.hid (by unfold rightB; simp [decide_eq_decide]; omega)⟩
  case round =>
    obtain ⟨k, hk, rfl, b, rfl, hb⟩ := hrel
    by_cases hlt : k < S.size
    · have hsk : k < o.s.length := by have := hsz.out; omega
      have HSU := Lib.hid (right_succ np o.s k hsk)
      have hgk : S[k] = o.s.getD k 0 := HGET.out k hlt hsk
      obtain ⟨c, hc⟩ : ∃ c, Hid (c = o.s.getD k 0) := ⟨_, Lib.hid rfl⟩
      rw [← hc.out] at hgk HSU
      have hlw := let_ways c
      have hcb := c.toNat_lt
      clear hsk
      cases b with
      | false =>
        have HN : Hid (false = rightB np o.s (k + 1)) := Lib.hid (by rw [HSU.out, ← hb.out]; rfl)
        clear hlw hgk
        go_wp2
        go_round
        case rel => exact ⟨k + 1, by omega, by go_num, _, rfl, HN⟩
        case measure => simp [intOf]; omega
      | true =>
        rcases hlw with ⟨q1, e⟩ | ⟨q1, q2, e⟩ | ⟨q1, q2, e⟩
        all_goals
          have HN : Hid (_ = rightB np o.s (k + 1)) := Lib.hid (by rw [HSU.out, ← hb.out, e, Bool.true_and])
          clear e
          go_wp2
          go_round
          case rel => exact ⟨k + 1, by omega, by go_num, _, rfl, HN⟩
          case measure => simp [intOf]; omega
    · obtain rfl : k = S.size := by omega
      have hB : b = B := by rw [hb.out, hBB.out, hsz.out, hnp.out]; exact right_all o
      subst hB
      cases b with
      | false =>
        have hE : E = 1 := HE1.out rfl
        have hL : LW.length = 0 := HL1.out rfl
        obtain ⟨n3, hn3⟩ : ∃ n, Hid (n = LW.length) := ⟨_, Lib.hid rfl⟩
        subst hE
        rw [hL]
        go_wp2_with fail
        refine (works_calls _).mono ?_
        rintro e wz ⟨rfl, hb⟩
        have HBz := Lib.hid (HB_2.out.trans (hb.mono HB_2.out.size))
        clear hb Rc0 Rc1 Rc2 Rc3 Rz
        go_wp2
        go_ret
        exact ⟨rfl, HBz.out⟩
      | true =>
        have hE : E = 0 := HE0.out rfl
        have hL : (LW.length : Int) = 8 + 2 * (S.size : Int) + (np : Int) + (nd : Int) := HL0.out rfl
        subst hE
        obtain ⟨n3, hn3⟩ : ∃ n : Nat, n = LW.length := ⟨_, rfl⟩
        rw [← hn3] at hL ⊢
        clear hn3
        have hq3 : ((n3 : Int) == 8 + 2 * (S.size : Int) + (np : Int) + (nd : Int)) = true := by rw [hL]; exact beq_self_eq_true _
        clear hL
        go_wp2_with fail
        refine (works_calls _).mono ?_
        rintro e wz ⟨rfl, hb⟩
        have HBz := Lib.hid (HB_2.out.trans (hb.mono HB_2.out.size))
        clear hb Rc0 Rc1 Rc2 Rc3 Rz
        go_wp2
        go_ret
        exact ⟨rfl, HBz.out⟩

theorem optionSizes_walk (o : Opt) (p d : Value) (w : World) (ha : o.a < 4294967296) (hp : Byt w p o.p) (hd : Byt w d o.d) (hs : o.s.length ≤ 9223372036854775807) :
    Calls Try.prog 7 #[optV o.a o.s p d] w fun e w' => e = .returned (.bool true) ∧ Below w.heap.size w w' := by
  cases hlg : lgB o.s o.d with
  | true => exact optionSizes_large o p d w hp hd hs hlg
  | false =>
    by_cases hl : o.p.length ≤ 131072
    · exact optionSizes_main o p d w ha hp hd hs hlg hl
    · exact optionSizes_long o p d w hp hd hs hlg (by omega)
end Go.Proofs.Ytbcocblamocobaa
