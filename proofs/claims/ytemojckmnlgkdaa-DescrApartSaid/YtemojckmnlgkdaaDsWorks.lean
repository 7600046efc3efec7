/-
  Descr's contracts as the laws take them, and the contract of the statements' anchor: works.
-/
import Derived.Test.YtemojckmnlgkdaaDs6
namespace Go.Proofs.Ytemojckmnlgkdaa
open Go Go.RowKit
set_option linter.unusedVariables false

theorem same_form (l1 l2 : List UInt8) (b : Bool) (h : decide (l1 = l2) = b) (v1 v2 : Value) (w : World) (h1 : Byt w v1 l1) (h2 : Byt w v2 l2) :
    Calls Try.prog 11 #[v1, v2] w fun e w' => e = .returned (.bool b) ∧ w = w' := by
  rw [← h]
  exact same_calls v1 v2 l1 l2 w h1 h2
/-- Write, its bytes opened. -/
theorem write_form {f : FuncId} {args : Array Value} {t : Tm} {b d : List UInt8} {w : World} (h : Calls Try.prog f args w fun e w' => ∃ v', e = .returned (.tuple #[v', .int .i64 (wrE t b.length)]) ∧ OwnB w' w.heap.size v' (wrR t b d) ∧ Below w.heap.size w w') (F : List UInt8) (hF : F = wrR t b d) (E : Int) (hE : E = wrE t b.length) (n : Nat) (hn : n = F.length) :
    Calls Try.prog f args w fun e w' => ∃ x c, e = .returned (.tuple #[.slice x n c, .int .i64 E]) ∧ OwnB w' w.heap.size (.slice x n c) F ∧ Below w.heap.size w w' := by
  rw [← hF, ← hE] at h
  subst hn
  exact h.mono fun e w' ⟨v', he, h1, hb⟩ => by
    obtain ⟨x, c, rfl, _, _⟩ := Own.shape h1
    exact ⟨x, c, he, h1, hb⟩
/-- Read, its slices opened. -/
theorem read_form {f : FuncId} {v : Value} {l : List UInt8} {w : World} (h : Calls Try.prog f #[v] w (Res l w)) (T : Tm) (hT : T = resT l) (B : List UInt8) (hB : B = resB l) (D : List UInt8) (hD : D = resD l) (E : Int) (hE : E = resE l) (n m : Nat) (hn : n = B.length) (hm : m = D.length) :
    Calls Try.prog f #[v] w fun e w' => ∃ x1 c1 x2 c2, e = .returned (.tuple #[tmV T, .slice x1 n c1, .slice x2 m c2, .int .i64 E]) ∧ OwnB w' w.heap.size (.slice x1 n c1) B ∧ OwnB w' w.heap.size (.slice x2 m c2) D ∧ Below w.heap.size w w' := by
  subst hn hm hE
  refine h.mono fun e w' hr => ?_
  unfold Res at hr
  rw [← hT, ← hB, ← hD] at hr
  obtain ⟨p', d', he, h1, h2, hb⟩ := hr
  obtain ⟨x1, c1, rfl, _, _⟩ := Own.shape h1
  obtain ⟨x2, c2, rfl, _, _⟩ := Own.shape h2
  exact ⟨x1, c1, x2, c2, he, h1, h2, hb⟩
theorem wrR_read (t : Tm) (ht : t.Fit) (b d : List UInt8) (h : dsB t b.length = true) : resT (dsW t b d) = t ∧ resB (dsW t b d) = b ∧ resD (dsW t b d) = d ∧ resE (dsW t b d) = 0 := by
  obtain ⟨h1, h2, h3, h4⟩ := dsR_W t ht b d h
  obtain ⟨g1, g2, g3, g4⟩ := res_yes _ h1
  exact ⟨g1.trans h2, g2.trans h3, g3.trans h4, g4⟩

def tW : Tm := ⟨2024, 1, 2, 3, 4, 5⟩
theorem tW_fit : tW.Fit := ⟨by decide, by decide, by decide, by decide, by decide, by decide⟩
def zg : List UInt8 := [0, 0, 0, 0, 0, 0, 0, 0, 0, 0, 0, 0, 0, 0, 0, 0]

set_option maxRecDepth 100000 in
set_option maxHeartbeats 4000000 in
theorem works_calls (w : World) : Calls Try.prog 7 #[] w fun e w' => e = .returned (.bool true) ∧ Below w.heap.size w w' := by
  have hok : dsB tW 1 = true := by decide
  obtain ⟨F, hF⟩ : ∃ F, Hid (F = dsW tW [170] [187]) := ⟨_, Lib.hid rfl⟩
  have hy := wr_yes tW [170] [187] hok
  have hlen : F.length = 42 := by rw [hF.out, dsW_length]; rfl
  have HWr : Hid (∀ p q W, Byt W p [170] → Byt W q [187] → Calls Try.prog 12 #[(.agg #[.int .u16 2024, .int .u8 1, .int .u8 2, .int .u8 3, .int .u8 4, .int .u8 5]), p, q] W fun e w' => ∃ x c, e = .returned (.tuple #[.slice x 42 c, .int .i64 0]) ∧ OwnB w' W.heap.size (.slice x 42 c) F ∧ Below W.heap.size W w') := Lib.hid (fun p q W hp hq => write_form (dsWrite_calls tW tW_fit p q _ _ W hp hq (by decide) (by decide)) F (by rw [hF.out, hy.1]) 0 hy.2.symm 42 hlen.symm)
  have hr := wrR_read tW tW_fit [170] [187] hok
  rw [← hF.out] at hr
  have HRd : Hid (∀ v W, Byt W v F → Calls Try.prog 9 #[v] W fun e w' => ∃ x1 c1 x2 c2, e = .returned (.tuple #[(.agg #[.int .u16 2024, .int .u8 1, .int .u8 2, .int .u8 3, .int .u8 4, .int .u8 5]), .slice x1 1 c1, .slice x2 1 c2, .int .i64 0]) ∧ OwnB w' W.heap.size (.slice x1 1 c1) [170] ∧ OwnB w' W.heap.size (.slice x2 1 c2) [187] ∧ Below W.heap.size W w') := Lib.hid (fun v W h => read_form (dsRead_calls v F W h (by rw [hlen]; decide)) tW hr.1.symm _ hr.2.1.symm _ hr.2.2.1.symm 0 hr.2.2.2.symm 1 1 rfl rfl)
  have HTx : Hid (∀ W, Calls Try.prog 14 #[.string ⟨#[97]⟩, (.agg #[.int .u8 0, .int .u8 0, .int .u8 0, .int .u8 0, .int .u8 0, .int .u8 0, .int .u8 0, .int .u8 0, .int .u8 0, .int .u8 0, .int .u8 0, .int .u8 0, .int .u8 0, .int .u8 0, .int .u8 0, .int .u8 0]), .int .u32 7, (.agg #[.int .u16 2024, .int .u8 1, .int .u8 2, .int .u8 3, .int .u8 4, .int .u8 5]), .slice none 0 0] W fun e w' => ∃ x c, e = .returned (.slice x 38 c) ∧ Below W.heap.size W w') := Lib.hid (fun W => by
    have h := own_shape _ _ W (text_calls [97] zg 7 tW tW_fit (.slice none 0 0) [] W rfl (by decide) (by decide) (Byt.nil W) (by decide))
    have hl : (dsX [97] zg 7 tW []).length = 38 := by rw [dsX_length]; rfl
    rw [hl] at h
    exact h.mono fun e w' ⟨x, c, he, _, hb⟩ => ⟨x, c, he, hb⟩)
  have heq : ∀ W : World, (binOp .eql 25 (.agg #[.int .u16 2024, .int .u8 1, .int .u8 2, .int .u8 3, .int .u8 4, .int .u8 5]) (.agg #[.int .u16 2024, .int .u8 1, .int .u8 2, .int .u8 3, .int .u8 4, .int .u8 5])).run Try.prog W = .ok (.bool true) W := fun W => run_tm_eq tW tW W
  clear hy hr hok hlen
  have HB_0 := Lib.hid (Below.refl w.heap.size w)
  have HB_1 := Lib.hid (HB_0.out.alloc HB_0.out.size (.cells #[.int .u16 2024, .int .u8 1, .int .u8 2, .int .u8 3, .int .u8 4, .int .u8 5] 25))
  have R1_1 := Lib.hid (RowAt.new w #[.int .u16 2024, .int .u8 1, .int .u8 2, .int .u8 3, .int .u8 4, .int .u8 5] 25 (w.heap.size) (by first | rfl | simp))
  have HB_2 := Lib.hid (HB_1.out.alloc HB_1.out.size (.cells #[.int .u8 170] 5))
  have R1_2 := Lib.hid (RowAt.alloc R1_1.out (.cells #[.int .u8 170] 5))
  have BA_2 := Lib.hid ((by have := Byt.one (w.alloc (.cells #[.int .u16 2024, .int .u8 1, .int .u8 2, .int .u8 3, .int .u8 4, .int .u8 5] 25)) 170 170 5 rfl; rw [show (w.alloc (.cells #[.int .u16 2024, .int .u8 1, .int .u8 2, .int .u8 3, .int .u8 4, .int .u8 5] 25)).heap.size = w.heap.size + 1 by simp] at this; exact this : Byt ((w.alloc (.cells #[.int .u16 2024, .int .u8 1, .int .u8 2, .int .u8 3, .int .u8 4, .int .u8 5] 25)).alloc (.cells #[.int .u8 170] 5)) (.slice (some ⟨w.heap.size + 1, 0, none⟩) 1 1) [170]))
  have HB_3 := Lib.hid (HB_2.out.alloc HB_2.out.size (.cells #[.int .u8 187] 5))
  have R1_3 := Lib.hid (RowAt.alloc R1_2.out (.cells #[.int .u8 187] 5))
  have BA_3 := Lib.hid (Byt.below BA_2.out ((Below.refl _ _).alloc (Nat.le_refl _) (.cells #[.int .u8 187] 5)))
  have BB_3 := Lib.hid ((by have := Byt.one ((w.alloc (.cells #[.int .u16 2024, .int .u8 1, .int .u8 2, .int .u8 3, .int .u8 4, .int .u8 5] 25)).alloc (.cells #[.int .u8 170] 5)) 187 187 5 rfl; rw [show ((w.alloc (.cells #[.int .u16 2024, .int .u8 1, .int .u8 2, .int .u8 3, .int .u8 4, .int .u8 5] 25)).alloc (.cells #[.int .u8 170] 5)).heap.size = w.heap.size + 1 + 1 by simp] at this; exact this : Byt (((w.alloc (.cells #[.int .u16 2024, .int .u8 1, .int .u8 2, .int .u8 3, .int .u8 4, .int .u8 5] 25)).alloc (.cells #[.int .u8 170] 5)).alloc (.cells #[.int .u8 187] 5)) (.slice (some ⟨w.heap.size + 1 + 1, 0, none⟩) 1 1) [187]))
  go_enter Try.func7, Try.ntmps7
  go_wp2_with fail
  refine (HWr.out _ _ _ BA_3.out BB_3.out).mono ?_
  rintro e w4 ⟨x1, c1, rfl, ho, hb⟩
  have HB_4 := Lib.hid (HB_3.out.trans (hb.mono HB_3.out.size))
  have R1_4 := Lib.hid (RowAt.below R1_3.out hb)
  have OF_4 := Lib.hid ho.byt
  clear ho
  clear hb
  go_wp2_with fail
  refine (HRd.out _ _ OF_4.out).mono ?_
  rintro e w5 ⟨x2, c2, x3, c3, rfl, ho1, ho2, hb⟩
  have HB_5 := Lib.hid (HB_4.out.trans (hb.mono HB_4.out.size))
  have R1_5 := Lib.hid (RowAt.below R1_4.out hb)
  have O1_5 := Lib.hid ho1.byt
  have O2_5 := Lib.hid ho2.byt
  clear ho1 ho2
  clear hb
  have HB_6 := Lib.hid (HB_5.out.alloc HB_5.out.size (.cells #[.int .u16 2024, .int .u8 1, .int .u8 2, .int .u8 3, .int .u8 4, .int .u8 5] 25))
  have R1_6 := Lib.hid (RowAt.alloc R1_5.out (.cells #[.int .u16 2024, .int .u8 1, .int .u8 2, .int .u8 3, .int .u8 4, .int .u8 5] 25))
  have O1_6 := Lib.hid (Byt.below O1_5.out ((Below.refl _ _).alloc (Nat.le_refl _) (.cells #[.int .u16 2024, .int .u8 1, .int .u8 2, .int .u8 3, .int .u8 4, .int .u8 5] 25)))
  have O2_6 := Lib.hid (Byt.below O2_5.out ((Below.refl _ _).alloc (Nat.le_refl _) (.cells #[.int .u16 2024, .int .u8 1, .int .u8 2, .int .u8 3, .int .u8 4, .int .u8 5] 25)))
  have R4_6 := Lib.hid (RowAt.new w5 #[.int .u16 2024, .int .u8 1, .int .u8 2, .int .u8 3, .int .u8 4, .int .u8 5] 25 (w5.heap.size) (by first | rfl | simp))
  have R1c0 := R1_6.out.cell 0 (.int .u16 2024) rfl
  have R1c1 := R1_6.out.cell 1 (.int .u8 1) rfl
  have R1c2 := R1_6.out.cell 2 (.int .u8 2) rfl
  have R1c3 := R1_6.out.cell 3 (.int .u8 3) rfl
  have R1c4 := R1_6.out.cell 4 (.int .u8 4) rfl
  have R1c5 := R1_6.out.cell 5 (.int .u8 5) rfl
  have R1z := R1_6.out.lt
  have R4c0 := R4_6.out.cell 0 (.int .u16 2024) rfl
  have R4c1 := R4_6.out.cell 1 (.int .u8 1) rfl
  have R4c2 := R4_6.out.cell 2 (.int .u8 2) rfl
  have R4c3 := R4_6.out.cell 3 (.int .u8 3) rfl
  have R4c4 := R4_6.out.cell 4 (.int .u8 4) rfl
  have R4c5 := R4_6.out.cell 5 (.int .u8 5) rfl
  have R4z := R4_6.out.lt
  have HB_7 := Lib.hid (HB_6.out.alloc HB_6.out.size (.cells #[.int .u8 170] 5))
  have R1_7 := Lib.hid (RowAt.alloc R1_6.out (.cells #[.int .u8 170] 5))
  have O1_7 := Lib.hid (Byt.below O1_6.out ((Below.refl _ _).alloc (Nat.le_refl _) (.cells #[.int .u8 170] 5)))
  have O2_7 := Lib.hid (Byt.below O2_6.out ((Below.refl _ _).alloc (Nat.le_refl _) (.cells #[.int .u8 170] 5)))
  have R4_7 := Lib.hid (RowAt.alloc R4_6.out (.cells #[.int .u8 170] 5))
  have BC_7 := Lib.hid ((by have := Byt.one (w5.alloc (.cells #[.int .u16 2024, .int .u8 1, .int .u8 2, .int .u8 3, .int .u8 4, .int .u8 5] 25)) 170 170 5 rfl; rw [show (w5.alloc (.cells #[.int .u16 2024, .int .u8 1, .int .u8 2, .int .u8 3, .int .u8 4, .int .u8 5] 25)).heap.size = w5.heap.size + 1 by simp] at this; exact this : Byt ((w5.alloc (.cells #[.int .u16 2024, .int .u8 1, .int .u8 2, .int .u8 3, .int .u8 4, .int .u8 5] 25)).alloc (.cells #[.int .u8 170] 5)) (.slice (some ⟨w5.heap.size + 1, 0, none⟩) 1 1) [170]))
  go_wp2_with fail
  refine (same_form [170] [170] true (by decide) _ _ _ O1_7.out BC_7.out).mono ?_
  rintro e w' ⟨rfl, rfl⟩
  have HB_8 := Lib.hid (HB_7.out.alloc HB_7.out.size (.cells #[.int .u8 187] 5))
  have R1_8 := Lib.hid (RowAt.alloc R1_7.out (.cells #[.int .u8 187] 5))
  have O1_8 := Lib.hid (Byt.below O1_7.out ((Below.refl _ _).alloc (Nat.le_refl _) (.cells #[.int .u8 187] 5)))
  have O2_8 := Lib.hid (Byt.below O2_7.out ((Below.refl _ _).alloc (Nat.le_refl _) (.cells #[.int .u8 187] 5)))
  have R4_8 := Lib.hid (RowAt.alloc R4_7.out (.cells #[.int .u8 187] 5))
  have BC_8 := Lib.hid (Byt.below BC_7.out ((Below.refl _ _).alloc (Nat.le_refl _) (.cells #[.int .u8 187] 5)))
  have BD_8 := Lib.hid ((by have := Byt.one ((w5.alloc (.cells #[.int .u16 2024, .int .u8 1, .int .u8 2, .int .u8 3, .int .u8 4, .int .u8 5] 25)).alloc (.cells #[.int .u8 170] 5)) 187 187 5 rfl; rw [show ((w5.alloc (.cells #[.int .u16 2024, .int .u8 1, .int .u8 2, .int .u8 3, .int .u8 4, .int .u8 5] 25)).alloc (.cells #[.int .u8 170] 5)).heap.size = w5.heap.size + 1 + 1 by simp] at this; exact this : Byt (((w5.alloc (.cells #[.int .u16 2024, .int .u8 1, .int .u8 2, .int .u8 3, .int .u8 4, .int .u8 5] 25)).alloc (.cells #[.int .u8 170] 5)).alloc (.cells #[.int .u8 187] 5)) (.slice (some ⟨w5.heap.size + 1 + 1, 0, none⟩) 1 1) [187]))
  go_wp2_with fail
  refine (same_form [187] [187] true (by decide) _ _ _ O2_8.out BD_8.out).mono ?_
  rintro e w' ⟨rfl, rfl⟩
  clear R1c0 R1c1 R1c2 R1c3 R1c4 R1c5 R1z R4c0 R4c1 R4c2 R4c3 R4c4 R4c5 R4z
  have R1c0 := R1_8.out.cell 0 (.int .u16 2024) rfl
  have R1c1 := R1_8.out.cell 1 (.int .u8 1) rfl
  have R1c2 := R1_8.out.cell 2 (.int .u8 2) rfl
  have R1c3 := R1_8.out.cell 3 (.int .u8 3) rfl
  have R1c4 := R1_8.out.cell 4 (.int .u8 4) rfl
  have R1c5 := R1_8.out.cell 5 (.int .u8 5) rfl
  have R1z := R1_8.out.lt
  go_wp2_with fail
  refine (HTx.out _).mono ?_
  rintro e w9 ⟨x5, c5, rfl, hb⟩
  have HB_9 := Lib.hid (HB_8.out.trans (hb.mono HB_8.out.size))
  have R1_9 := Lib.hid (RowAt.below R1_8.out hb)
  have O1_9 := Lib.hid (Byt.below O1_8.out hb)
  have O2_9 := Lib.hid (Byt.below O2_8.out hb)
  have R4_9 := Lib.hid (RowAt.below R4_8.out hb)
  have BC_9 := Lib.hid (Byt.below BC_8.out hb)
  have BD_9 := Lib.hid (Byt.below BD_8.out hb)
  clear hb R1c0 R1c1 R1c2 R1c3 R1c4 R1c5 R1z
  go_wp2
  go_ret
  exact ⟨rfl, HB_9.out⟩
end Go.Proofs.Ytemojckmnlgkdaa
