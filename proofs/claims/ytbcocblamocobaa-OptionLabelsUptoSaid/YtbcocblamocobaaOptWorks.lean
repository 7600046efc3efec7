/-
  Option's contracts as the laws take them, and the contract of the statements' anchor: works.
-/
import Derived.Test.YtbcocblamocobaaOpt5
namespace Go.Proofs.Ytbcocblamocobaa
open Go Go.RowKit

/-- An option's value, its slices opened. -/
def optS (o : Opt) (xp : Option Addr) (cp : Nat) (xd : Option Addr) (cd : Nat) : Value := .agg #[.int .u32 (o.a : Int), .string (sOf o.s), .slice xp o.p.length cp, .slice xd o.d.length cd]

theorem read_shape {f : FuncId} {v : Value} {l : List UInt8} {w : World} (h : Calls Try.prog f #[v] w fun e w' => ∃ p' d', e = .returned (.tuple #[optV (rdR l).a (rdR l).s p' d', .int .i64 (rdE l)]) ∧ OwnB w' w.heap.size p' (rdR l).p ∧ OwnB w' w.heap.size d' (rdR l).d ∧ (∀ j, ownB p' = some j → ownB d' ≠ some j) ∧ Below w.heap.size w w') :
    Calls Try.prog f #[v] w fun e w' => ∃ xp cp xd cd, e = .returned (.tuple #[optS (rdR l) xp cp xd cd, .int .i64 (rdE l)]) ∧ OwnB w' w.heap.size (.slice xp (rdR l).p.length cp) (rdR l).p ∧ OwnB w' w.heap.size (.slice xd (rdR l).d.length cd) (rdR l).d ∧ (∀ j, ownB (.slice xp (rdR l).p.length cp) = some j → ownB (.slice xd (rdR l).d.length cd) ≠ some j) ∧ Below w.heap.size w w' :=
  h.mono fun e w' ⟨p', d', he, h1, h2, h3, hb⟩ => by
    obtain ⟨xp, cp, rfl, _, _⟩ := Own.shape h1
    obtain ⟨xd, cd, rfl, _, _⟩ := Own.shape h2
    exact ⟨xp, cp, xd, cd, he, h1, h2, h3, hb⟩
theorem write_shape {f : FuncId} {args : Array Value} {o : Opt} {w : World} (h : Calls Try.prog f args w fun e w' => ∃ v', e = .returned (.tuple #[v', .int .i64 (if wrOk o then 0 else 1)]) ∧ OwnB w' w.heap.size v' (if wrOk o then wrO o else []) ∧ Below w.heap.size w w') (b : Bool) (hb : wrOk o = b) (l : List UInt8) (E : Int) (hl : l = if b then wrO o else []) (hE : E = if b then 0 else 1) :
    Calls Try.prog f args w fun e w' => ∃ x c, e = .returned (.tuple #[.slice x l.length c, .int .i64 E]) ∧ OwnB w' w.heap.size (.slice x l.length c) l ∧ Below w.heap.size w w' := by
  rw [hb, ← hl, ← hE] at h
  exact h.mono fun e w' ⟨v', he, h1, hb⟩ => by
    obtain ⟨x, c, rfl, _, _⟩ := Own.shape h1
    exact ⟨x, c, he, h1, hb⟩
/-- What is read of an option's bytes. -/
theorem rdR_wr (o : Opt) (ha : o.a < 4294967296) (h : wrOk o = true) : rdR (wrO o) = o ∧ rdE (wrO o) = 0 := res_some _ _ (rd_wr o ha h)

def oW : Opt := ⟨1, [65], [7, 8], [9]⟩

set_option maxRecDepth 100000 in
set_option maxHeartbeats 4000000 in
theorem works_calls (w : World) : Calls Try.prog 10 #[] w fun e w' => e = .returned (.bool true) ∧ Below w.heap.size w w' := by
  have HB0 := Lib.hid ((((Below.refl w.heap.size w).alloc (Nat.le_refl _) (.cells #[.int .u8 7, .int .u8 8] 5)).alloc (by simp) (.cells #[.int .u8 9] 5)).alloc (by simp; omega) (.cells #[.int .u32 1, .string (sOf [65]), .slice (some ⟨w.heap.size, 0, none⟩) 2 2, .slice (some ⟨w.heap.size + 1, 0, none⟩) 1 1] 25))
  have R0 := Lib.hid (RowAt.new ((w.alloc (.cells #[.int .u8 7, .int .u8 8] 5)).alloc (.cells #[.int .u8 9] 5)) #[.int .u32 1, .string (sOf [65]), .slice (some ⟨w.heap.size, 0, none⟩) 2 2, .slice (some ⟨w.heap.size + 1, 0, none⟩) 1 1] 25 (w.heap.size + 1 + 1) (by simp))
  have HP : Hid (Byt (((w.alloc (.cells #[.int .u8 7, .int .u8 8] 5)).alloc (.cells #[.int .u8 9] 5)).alloc (.cells #[.int .u32 1, .string (sOf [65]), .slice (some ⟨w.heap.size, 0, none⟩) 2 2, .slice (some ⟨w.heap.size + 1, 0, none⟩) 1 1] 25)) (.slice (some ⟨w.heap.size, 0, none⟩) 2 2) [7, 8]) := Lib.hid (((Byt.two w 7 8 7 8 _ rfl rfl).below ((Below.refl _ _).alloc (Nat.le_refl _) _)).below ((Below.refl _ _).alloc (Nat.le_refl _) _))
  have HD : Hid (Byt (((w.alloc (.cells #[.int .u8 7, .int .u8 8] 5)).alloc (.cells #[.int .u8 9] 5)).alloc (.cells #[.int .u32 1, .string (sOf [65]), .slice (some ⟨w.heap.size, 0, none⟩) 2 2, .slice (some ⟨w.heap.size + 1, 0, none⟩) 1 1] 25)) (.slice (some ⟨w.heap.size + 1, 0, none⟩) 1 1) [9]) := Lib.hid (by
    have h := Byt.one (w.alloc (.cells #[.int .u8 7, .int .u8 8] 5)) 9 9 5 rfl
    rw [show (w.alloc (.cells #[.int .u8 7, .int .u8 8] 5)).heap.size = w.heap.size + 1 by simp] at h
    exact h.below ((Below.refl _ _).alloc (Nat.le_refl _) _))
  have hrw := rdR_wr oW (by decide) (by decide)
  have hlen : (wrO oW).length = 13 := by rw [wrO_length]; rfl
  have HWr := Lib.hid (write_shape (optWrite_calls oW _ _ _ (by decide) HP.out HD.out (by decide) (by decide) (by decide)) true (by decide) (wrO oW) 0 rfl rfl)
  rw [hlen] at HWr
  have HRd : Hid (∀ v W, Byt W v (wrO oW) → Calls Try.prog 18 #[v] W fun e w' => ∃ xp cp xd cd, e = .returned (.tuple #[.agg #[.int .u32 1, .string (sOf [65]), .slice xp 2 cp, .slice xd 1 cd], .int .i64 0]) ∧ OwnB w' W.heap.size (.slice xp 2 cp) [7, 8] ∧ OwnB w' W.heap.size (.slice xd 1 cd) [9] ∧ Below W.heap.size W w') := Lib.hid (fun v W h => by
    have := read_shape (optRead_calls v (wrO oW) W h (by rw [hlen]; decide))
    rw [hrw.1, hrw.2] at this
    exact this.mono fun e w' ⟨xp, cp, xd, cd, he, h1, h2, _, hb⟩ => ⟨xp, cp, xd, cd, he, h1, h2, hb⟩)
  clear hrw hlen
  unfold optV oW at HWr
  simp only at HWr
  go_enter Try.func10, Try.ntmps10
  go_wp2_with fail
  refine HWr.out.mono ?_
  rintro e w1 ⟨x1, c1, rfl, ho, hb⟩
  have HB1 := Lib.hid (HB0.out.trans (hb.mono HB0.out.size))
  have R1 := Lib.hid (R0.out.below hb)
  have P1 := Lib.hid (HP.out.below hb)
  have D1 := Lib.hid (HD.out.below hb)
  have O1 := Lib.hid ho.byt
  clear hb ho
  go_wp2_with fail
  refine (HRd.out _ _ O1.out).mono ?_
  rintro e w2 ⟨xp, cp, xd, cd, rfl, h1, h2, hb⟩
  have HB2 := Lib.hid ((HB1.out.trans (hb.mono HB1.out.size)).alloc (by have q1 := HB1.out.size; have q2 := hb.size; omega) (.cells #[.int .u32 1, .string (sOf [65]), .slice xp 2 cp, .slice xd 1 cd] 25))
  have R2 := Lib.hid ((R1.out.below hb).alloc (.cells #[.int .u32 1, .string (sOf [65]), .slice xp 2 cp, .slice xd 1 cd] 25))
  have R3 := Lib.hid (RowAt.new w2 #[.int .u32 1, .string (sOf [65]), .slice xp 2 cp, .slice xd 1 cd] 25 w2.heap.size rfl)
  have P2 := Lib.hid ((P1.out.below hb).below ((Below.refl _ _).alloc (Nat.le_refl _) (.cells #[.int .u32 1, .string (sOf [65]), .slice xp 2 cp, .slice xd 1 cd] 25)))
  have D2 := Lib.hid ((D1.out.below hb).below ((Below.refl _ _).alloc (Nat.le_refl _) (.cells #[.int .u32 1, .string (sOf [65]), .slice xp 2 cp, .slice xd 1 cd] 25)))
  have P3 := Lib.hid (h1.byt.below ((Below.refl _ _).alloc (Nat.le_refl _) (.cells #[.int .u32 1, .string (sOf [65]), .slice xp 2 cp, .slice xd 1 cd] 25)))
  have D3 := Lib.hid (h2.byt.below ((Below.refl _ _).alloc (Nat.le_refl _) (.cells #[.int .u32 1, .string (sOf [65]), .slice xp 2 cp, .slice xd 1 cd] 25)))
  have k0 := R1.out.cell 0 _ rfl
  have z1 := Lib.hid (R1.out.below hb)
  have a0 := z1.out.cell 0 (.int .u32 1) rfl
  have a1 := z1.out.cell 1 (.string (sOf [65])) rfl
  have a2 := z1.out.cell 2 (.slice (some ⟨w.heap.size, 0, none⟩) 2 2) rfl
  have a3 := z1.out.cell 3 (.slice (some ⟨w.heap.size + 1, 0, none⟩) 1 1) rfl
  have az := z1.out.lt
  clear hb h1 h2 k0
  have HS := Lib.hid (same_calls 1 [65] [7, 8] [9] _ _ _ _ _ P2.out D2.out P3.out D3.out)
  unfold optV at HS
  go_wp2_with fail
  refine HS.out.mono ?_
  rintro e w3 ⟨rfl, hb⟩
  have HB3 := Lib.hid (HB2.out.trans (hb.mono HB2.out.size))
  clear hb
  go_wp2
  go_ret
  exact ⟨rfl, HB3.out⟩
end Go.Proofs.Ytbcocblamocobaa
