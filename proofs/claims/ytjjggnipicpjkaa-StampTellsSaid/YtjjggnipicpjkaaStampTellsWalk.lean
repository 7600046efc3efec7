/-
  The walk of the law StampTells.
-/
import Derived.Test.YtjjggnipicpjkaaStWorks
import Derived.Test.YtjjggnipicpjkaaRow
import Derived.Test.YtjjggnipicpjkaaRefTold2
import Derived.Test.YtjjggnipicpjkaaRefLess
namespace Go.Proofs.Ytjjggnipicpjkaa
open Go Go.RowKit

theorem kept_any (base g n cap : Nat) (v : Value) (l : List UInt8) (w : World) (hn : n = l.length) (h : OwnB w base (.slice (some ⟨g, 0, none⟩) (n + 7) cap) (l ++ room)) (hv : Byt w v l) :
    Calls Try.prog 20 #[.slice (some ⟨g, 0, none⟩) n cap, v] w fun e w' => e = .returned (.bool true) ∧ w = w' := by
  have := kept_calls base g n cap v l l w hn h hv
  rw [decide_eq_true rfl] at this
  exact this
theorem own_ahead {w : World} {base g n cap : Nat} {l : List UInt8} (h : OwnB w base (.slice (some ⟨g, 0, none⟩) (n + 7) cap) (l ++ room)) (hn : n = l.length) : Byt w (.slice (some ⟨g, 0, none⟩) n cap) l := by
  subst hn
  have := Byt.take h.byt l.length (by simp)
  simpa using this

set_option maxRecDepth 100000 in
set_option maxHeartbeats 4000000 in
theorem stampTells_big (a : Option Addr) (len cap : Nat) (t u : Tm) (w : World) (hl : 4096 < len) (hc : len ≤ 9223372036854775807) :
    Calls Try.prog 9 #[.slice a len cap, tmV t, tmV u] w fun e w' => e = .returned (.bool true) ∧ Below w.heap.size w w' := by
  have hB0 : Hid (Below w.heap.size w ((w.alloc (.cells #[.int .u16 t.y, .int .u8 t.mo, .int .u8 t.d, .int .u8 t.h, .int .u8 t.mi, .int .u8 t.s] 25)).alloc (.cells #[.int .u16 u.y, .int .u8 u.mo, .int .u8 u.d, .int .u8 u.h, .int .u8 u.mi, .int .u8 u.s] 25))) := Lib.hid (((Below.refl _ _).alloc (Nat.le_refl _) _).alloc (by simp) _)
  have hd : decide ((4096 : Int) < (len : Int)) = true := by simp; omega
  unfold tmV
  go_enter Try.func9, Try.ntmps9
  go_wp2_with (go_at_call 13; refine (works_calls _).mono ?_; rintro e w9 ⟨rfl, hb⟩; have HB9 := Lib.hid (hB0.out.trans (hb.mono hB0.out.size)); clear hb)
  go_ret
  exact ⟨rfl, HB9.out⟩

set_option maxRecDepth 100000 in
set_option maxHeartbeats 2000000 in
theorem stampTells_main (a : Option Addr) (len cap : Nat) (l : List UInt8) (t u x p : Tm) (X P R L M : Bool) (w : World) (hl : len ≤ 4096) (hln : len = l.length) (hv : Hid (Byt w (.slice a len cap) l))
    (HX : Hid (∀ v W, Byt W v l → Calls Try.prog 25 #[v] W fun e w' => e = .returned (.tuple #[.agg #[.int .u16 x.y, .int .u8 x.mo, .int .u8 x.d, .int .u8 x.h, .int .u8 x.mi, .int .u8 x.s], .bool X]) ∧ Below W.heap.size W w'))
    (HXr : Hid (∀ v W, Byt W v l → Calls Try.prog 26 #[v] W fun e w' => e = .returned (.tuple #[.agg #[.int .u16 x.y, .int .u8 x.mo, .int .u8 x.d, .int .u8 x.h, .int .u8 x.mi, .int .u8 x.s], .bool X]) ∧ Below W.heap.size W w'))
    (HP : Hid (∀ v W, Byt W v l → Calls Try.prog 27 #[v] W fun e w' => e = .returned (.tuple #[.agg #[.int .u16 p.y, .int .u8 p.mo, .int .u8 p.d, .int .u8 p.h, .int .u8 p.mi, .int .u8 p.s], .bool P]) ∧ Below W.heap.size W w'))
    (HPr : Hid (∀ v W, Byt W v l → Calls Try.prog 28 #[v] W fun e w' => e = .returned (.tuple #[.agg #[.int .u16 p.y, .int .u8 p.mo, .int .u8 p.d, .int .u8 p.h, .int .u8 p.mi, .int .u8 p.s], .bool P]) ∧ Below W.heap.size W w'))
    (HR : Hid (∀ W, Calls Try.prog 23 #[.agg #[.int .u16 t.y, .int .u8 t.mo, .int .u8 t.d, .int .u8 t.h, .int .u8 t.mi, .int .u8 t.s]] W fun e w' => e = .returned (.bool R) ∧ Below W.heap.size W w'))
    (HRr : Hid (∀ W, Calls Try.prog 29 #[.agg #[.int .u16 t.y, .int .u8 t.mo, .int .u8 t.d, .int .u8 t.h, .int .u8 t.mi, .int .u8 t.s]] W fun e w' => e = .returned (.bool R) ∧ Below W.heap.size W w'))
    (HL : Hid (∀ W, Calls Try.prog 22 #[.agg #[.int .u16 t.y, .int .u8 t.mo, .int .u8 t.d, .int .u8 t.h, .int .u8 t.mi, .int .u8 t.s], .agg #[.int .u16 u.y, .int .u8 u.mo, .int .u8 u.d, .int .u8 u.h, .int .u8 u.mi, .int .u8 u.s]] W fun e w' => e = .returned (.bool L) ∧ Below W.heap.size W w'))
    (HLr : Hid (∀ W, Calls Try.prog 30 #[.agg #[.int .u16 t.y, .int .u8 t.mo, .int .u8 t.d, .int .u8 t.h, .int .u8 t.mi, .int .u8 t.s], .agg #[.int .u16 u.y, .int .u8 u.mo, .int .u8 u.d, .int .u8 u.h, .int .u8 u.mi, .int .u8 u.s]] W fun e w' => e = .returned (.bool L) ∧ Below W.heap.size W w'))
    (HM : Hid (∀ W, Calls Try.prog 22 #[.agg #[.int .u16 u.y, .int .u8 u.mo, .int .u8 u.d, .int .u8 u.h, .int .u8 u.mi, .int .u8 u.s], .agg #[.int .u16 t.y, .int .u8 t.mo, .int .u8 t.d, .int .u8 t.h, .int .u8 t.mi, .int .u8 t.s]] W fun e w' => e = .returned (.bool M) ∧ Below W.heap.size W w'))
    (HMr : Hid (∀ W, Calls Try.prog 30 #[.agg #[.int .u16 u.y, .int .u8 u.mo, .int .u8 u.d, .int .u8 u.h, .int .u8 u.mi, .int .u8 u.s], .agg #[.int .u16 t.y, .int .u8 t.mo, .int .u8 t.d, .int .u8 t.h, .int .u8 t.mi, .int .u8 t.s]] W fun e w' => e = .returned (.bool M) ∧ Below W.heap.size W w'))
    (hex : ∀ W, (binOp .eql 25 (.agg #[.int .u16 x.y, .int .u8 x.mo, .int .u8 x.d, .int .u8 x.h, .int .u8 x.mi, .int .u8 x.s]) (.agg #[.int .u16 x.y, .int .u8 x.mo, .int .u8 x.d, .int .u8 x.h, .int .u8 x.mi, .int .u8 x.s])).run Try.prog W = .ok (.bool true) W)
    (hep : ∀ W, (binOp .eql 25 (.agg #[.int .u16 p.y, .int .u8 p.mo, .int .u8 p.d, .int .u8 p.h, .int .u8 p.mi, .int .u8 p.s]) (.agg #[.int .u16 p.y, .int .u8 p.mo, .int .u8 p.d, .int .u8 p.h, .int .u8 p.mi, .int .u8 p.s])).run Try.prog W = .ok (.bool true) W) :
    Calls Try.prog 9 #[.slice a len cap, .agg #[.int .u16 t.y, .int .u8 t.mo, .int .u8 t.d, .int .u8 t.h, .int .u8 t.mi, .int .u8 t.s], .agg #[.int .u16 u.y, .int .u8 u.mo, .int .u8 u.d, .int .u8 u.h, .int .u8 u.mi, .int .u8 u.s]] w fun e w' => e = .returned (.bool true) ∧ Below w.heap.size w w' := by
  have HB0 : Hid (Below w.heap.size w ((w.alloc (.cells #[.int .u16 t.y, .int .u8 t.mo, .int .u8 t.d, .int .u8 t.h, .int .u8 t.mi, .int .u8 t.s] 25)).alloc (.cells #[.int .u16 u.y, .int .u8 u.mo, .int .u8 u.d, .int .u8 u.h, .int .u8 u.mi, .int .u8 u.s] 25))) := Lib.hid (((Below.refl _ _).alloc (Nat.le_refl _) _).alloc (by simp) _)
  have R4_0 := Lib.hid ((RowAt.new w #[.int .u16 t.y, .int .u8 t.mo, .int .u8 t.d, .int .u8 t.h, .int .u8 t.mi, .int .u8 t.s] 25 w.heap.size rfl).alloc (.cells #[.int .u16 u.y, .int .u8 u.mo, .int .u8 u.d, .int .u8 u.h, .int .u8 u.mi, .int .u8 u.s] 25))
  have R5_0 := Lib.hid (RowAt.new (w.alloc (.cells #[.int .u16 t.y, .int .u8 t.mo, .int .u8 t.d, .int .u8 t.h, .int .u8 t.mi, .int .u8 t.s] 25)) #[.int .u16 u.y, .int .u8 u.mo, .int .u8 u.d, .int .u8 u.h, .int .u8 u.mi, .int .u8 u.s] 25 (w.heap.size + 1) (by simp))
  have HV0 := Lib.hid ((hv.out.below ((Below.refl _ _).alloc (Nat.le_refl _) (.cells #[.int .u16 t.y, .int .u8 t.mo, .int .u8 t.d, .int .u8 t.h, .int .u8 t.mi, .int .u8 t.s] 25))).below ((Below.refl _ _).alloc (Nat.le_refl _) (.cells #[.int .u16 u.y, .int .u8 u.mo, .int .u8 u.d, .int .u8 u.h, .int .u8 u.mi, .int .u8 u.s] 25)))
  have HLN := Lib.hid hln
  clear hln
  go_enter Try.func9, Try.ntmps9
  go_wp2_with fail
  refine (roomy_calls _ l _ HV0.out (by have := HLN.out; omega)).mono ?_
  rw [← HLN.out]
  rintro e w1 ⟨g, cap2, rfl, ho, hb⟩
  have HB1 := Lib.hid (HB0.out.trans (hb.mono HB0.out.size))
  have HO1 := Lib.hid (ho.mono HB0.out.size)
  have HV1 := Lib.hid (HV0.out.below hb)
  have R4_1 := Lib.hid (R4_0.out.below hb)
  have R5_1 := Lib.hid (R5_0.out.below hb)
  clear hb ho
  go_wp2_with fail
  refine (HX.out _ _ (own_ahead HO1.out HLN.out)).mono ?_
  rintro e w2 ⟨rfl, hb⟩
  have HB2 := Lib.hid ((HB1.out.trans (hb.mono HB1.out.size)).alloc (by have h1 := HB1.out.size; have h2 := hb.size; omega) (.cells #[.int .u16 x.y, .int .u8 x.mo, .int .u8 x.d, .int .u8 x.h, .int .u8 x.mi, .int .u8 x.s] 25))
  have HO2 := Lib.hid ((OwnB.below HO1.out hb).alloc (.cells #[.int .u16 x.y, .int .u8 x.mo, .int .u8 x.d, .int .u8 x.h, .int .u8 x.mi, .int .u8 x.s] 25))
  have HV2 := Lib.hid ((Byt.below HV1.out hb).below ((Below.refl _ _).alloc (Nat.le_refl _) (.cells #[.int .u16 x.y, .int .u8 x.mo, .int .u8 x.d, .int .u8 x.h, .int .u8 x.mi, .int .u8 x.s] 25)))
  have R4_2 := Lib.hid ((RowAt.below R4_1.out hb).alloc (.cells #[.int .u16 x.y, .int .u8 x.mo, .int .u8 x.d, .int .u8 x.h, .int .u8 x.mi, .int .u8 x.s] 25))
  have R5_2 := Lib.hid ((RowAt.below R5_1.out hb).alloc (.cells #[.int .u16 x.y, .int .u8 x.mo, .int .u8 x.d, .int .u8 x.h, .int .u8 x.mi, .int .u8 x.s] 25))
  have R8_2 := Lib.hid (RowAt.new w2 #[.int .u16 x.y, .int .u8 x.mo, .int .u8 x.d, .int .u8 x.h, .int .u8 x.mi, .int .u8 x.s] 25 w2.heap.size rfl)
  clear hb

  go_wp2_with fail
  refine (HXr.out _ _ HV2.out).mono ?_
  rintro e w3 ⟨rfl, hb⟩
  have HB3 := Lib.hid ((HB2.out.trans (hb.mono HB2.out.size)).alloc (by have h1 := HB2.out.size; have h2 := hb.size; omega) (.cells #[.int .u16 x.y, .int .u8 x.mo, .int .u8 x.d, .int .u8 x.h, .int .u8 x.mi, .int .u8 x.s] 25))
  have HO3 := Lib.hid ((OwnB.below HO2.out hb).alloc (.cells #[.int .u16 x.y, .int .u8 x.mo, .int .u8 x.d, .int .u8 x.h, .int .u8 x.mi, .int .u8 x.s] 25))
  have HV3 := Lib.hid ((Byt.below HV2.out hb).below ((Below.refl _ _).alloc (Nat.le_refl _) (.cells #[.int .u16 x.y, .int .u8 x.mo, .int .u8 x.d, .int .u8 x.h, .int .u8 x.mi, .int .u8 x.s] 25)))
  have R4_3 := Lib.hid ((RowAt.below R4_2.out hb).alloc (.cells #[.int .u16 x.y, .int .u8 x.mo, .int .u8 x.d, .int .u8 x.h, .int .u8 x.mi, .int .u8 x.s] 25))
  have R5_3 := Lib.hid ((RowAt.below R5_2.out hb).alloc (.cells #[.int .u16 x.y, .int .u8 x.mo, .int .u8 x.d, .int .u8 x.h, .int .u8 x.mi, .int .u8 x.s] 25))
  have R8_3 := Lib.hid ((RowAt.below R8_2.out hb).alloc (.cells #[.int .u16 x.y, .int .u8 x.mo, .int .u8 x.d, .int .u8 x.h, .int .u8 x.mi, .int .u8 x.s] 25))
  have R10_3 := Lib.hid (RowAt.new w3 #[.int .u16 x.y, .int .u8 x.mo, .int .u8 x.d, .int .u8 x.h, .int .u8 x.mi, .int .u8 x.s] 25 w3.heap.size rfl)
  clear hb

  go_wp2_with fail
  refine (HP.out _ _ (own_ahead HO3.out HLN.out)).mono ?_
  rintro e w4 ⟨rfl, hb⟩
  have HB4 := Lib.hid ((HB3.out.trans (hb.mono HB3.out.size)).alloc (by have h1 := HB3.out.size; have h2 := hb.size; omega) (.cells #[.int .u16 p.y, .int .u8 p.mo, .int .u8 p.d, .int .u8 p.h, .int .u8 p.mi, .int .u8 p.s] 25))
  have HO4 := Lib.hid ((OwnB.below HO3.out hb).alloc (.cells #[.int .u16 p.y, .int .u8 p.mo, .int .u8 p.d, .int .u8 p.h, .int .u8 p.mi, .int .u8 p.s] 25))
  have HV4 := Lib.hid ((Byt.below HV3.out hb).below ((Below.refl _ _).alloc (Nat.le_refl _) (.cells #[.int .u16 p.y, .int .u8 p.mo, .int .u8 p.d, .int .u8 p.h, .int .u8 p.mi, .int .u8 p.s] 25)))
  have R4_4 := Lib.hid ((RowAt.below R4_3.out hb).alloc (.cells #[.int .u16 p.y, .int .u8 p.mo, .int .u8 p.d, .int .u8 p.h, .int .u8 p.mi, .int .u8 p.s] 25))
  have R5_4 := Lib.hid ((RowAt.below R5_3.out hb).alloc (.cells #[.int .u16 p.y, .int .u8 p.mo, .int .u8 p.d, .int .u8 p.h, .int .u8 p.mi, .int .u8 p.s] 25))
  have R8_4 := Lib.hid ((RowAt.below R8_3.out hb).alloc (.cells #[.int .u16 p.y, .int .u8 p.mo, .int .u8 p.d, .int .u8 p.h, .int .u8 p.mi, .int .u8 p.s] 25))
  have R10_4 := Lib.hid ((RowAt.below R10_3.out hb).alloc (.cells #[.int .u16 p.y, .int .u8 p.mo, .int .u8 p.d, .int .u8 p.h, .int .u8 p.mi, .int .u8 p.s] 25))
  have R12_4 := Lib.hid (RowAt.new w4 #[.int .u16 p.y, .int .u8 p.mo, .int .u8 p.d, .int .u8 p.h, .int .u8 p.mi, .int .u8 p.s] 25 w4.heap.size rfl)
  clear hb

  go_wp2_with fail
  refine (HPr.out _ _ HV4.out).mono ?_
  rintro e w5 ⟨rfl, hb⟩
  have HB5 := Lib.hid ((HB4.out.trans (hb.mono HB4.out.size)).alloc (by have h1 := HB4.out.size; have h2 := hb.size; omega) (.cells #[.int .u16 p.y, .int .u8 p.mo, .int .u8 p.d, .int .u8 p.h, .int .u8 p.mi, .int .u8 p.s] 25))
  have HO5 := Lib.hid ((OwnB.below HO4.out hb).alloc (.cells #[.int .u16 p.y, .int .u8 p.mo, .int .u8 p.d, .int .u8 p.h, .int .u8 p.mi, .int .u8 p.s] 25))
  have HV5 := Lib.hid ((Byt.below HV4.out hb).below ((Below.refl _ _).alloc (Nat.le_refl _) (.cells #[.int .u16 p.y, .int .u8 p.mo, .int .u8 p.d, .int .u8 p.h, .int .u8 p.mi, .int .u8 p.s] 25)))
  have R4_5 := Lib.hid ((RowAt.below R4_4.out hb).alloc (.cells #[.int .u16 p.y, .int .u8 p.mo, .int .u8 p.d, .int .u8 p.h, .int .u8 p.mi, .int .u8 p.s] 25))
  have R5_5 := Lib.hid ((RowAt.below R5_4.out hb).alloc (.cells #[.int .u16 p.y, .int .u8 p.mo, .int .u8 p.d, .int .u8 p.h, .int .u8 p.mi, .int .u8 p.s] 25))
  have R8_5 := Lib.hid ((RowAt.below R8_4.out hb).alloc (.cells #[.int .u16 p.y, .int .u8 p.mo, .int .u8 p.d, .int .u8 p.h, .int .u8 p.mi, .int .u8 p.s] 25))
  have R10_5 := Lib.hid ((RowAt.below R10_4.out hb).alloc (.cells #[.int .u16 p.y, .int .u8 p.mo, .int .u8 p.d, .int .u8 p.h, .int .u8 p.mi, .int .u8 p.s] 25))
  have R12_5 := Lib.hid ((RowAt.below R12_4.out hb).alloc (.cells #[.int .u16 p.y, .int .u8 p.mo, .int .u8 p.d, .int .u8 p.h, .int .u8 p.mi, .int .u8 p.s] 25))
  have R14_5 := Lib.hid (RowAt.new w5 #[.int .u16 p.y, .int .u8 p.mo, .int .u8 p.d, .int .u8 p.h, .int .u8 p.mi, .int .u8 p.s] 25 w5.heap.size rfl)
  clear hb

  go_wp2_with fail
  have HBf := HB5
  have HOf := HO5
  have HVf := HV5
  have R4f := R4_5
  have R5f := R5_5
  have R8f := R8_5
  have R10f := R10_5
  have R12f := R12_5
  have R14f := R14_5
  clear HO1 HO2 HO3 HO4 HV0 HV1 HV2 HV3 HV4 HB0 HB1 HB2 HB3 HB4
  refine' wp_region_grows (by kernel_rfl) (fun w' => Hid (RowAt w' w.heap.size #[.int .u16 t.y, .int .u8 t.mo, .int .u8 t.d, .int .u8 t.h, .int .u8 t.mi, .int .u8 t.s]) ∧ Hid (RowAt w' (w.heap.size + 1) #[.int .u16 u.y, .int .u8 u.mo, .int .u8 u.d, .int .u8 u.h, .int .u8 u.mi, .int .u8 u.s]) ∧ Hid (RowAt w' w2.heap.size #[.int .u16 x.y, .int .u8 x.mo, .int .u8 x.d, .int .u8 x.h, .int .u8 x.mi, .int .u8 x.s]) ∧ Hid (RowAt w' w3.heap.size #[.int .u16 x.y, .int .u8 x.mo, .int .u8 x.d, .int .u8 x.h, .int .u8 x.mi, .int .u8 x.s]) ∧ Hid (RowAt w' w4.heap.size #[.int .u16 p.y, .int .u8 p.mo, .int .u8 p.d, .int .u8 p.h, .int .u8 p.mi, .int .u8 p.s]) ∧ Hid (RowAt w' w5.heap.size #[.int .u16 p.y, .int .u8 p.mo, .int .u8 p.d, .int .u8 p.h, .int .u8 p.mi, .int .u8 p.s]) ∧ Hid (OwnB w' w.heap.size (.slice (some ⟨g, 0, none⟩) (len + 7) cap2) (l ++ room)) ∧ Hid (Byt w' (.slice a len cap) l) ∧ Hid (Below w.heap.size w w')) [isV _, isV _, isV _, isV _, isV _, isV _, isV _, isV _, isV _, isV _, isV _, isV _, isV _, isV _, isV _, isV _, isV _, isV _, isV _, isV _, isV _, isV _, isV _, isV _, isV _, isV _, isV _, isV _, isV _, isV _, isV _, isV _, isV _, isV _, isV _, isV _, isV _, isV _, isV _, isV _, isV _, isV _, isV _, isV _, isV _, isV _, isV _, isV _, isV _, isV _, isV _, isV _] 93 [[], [], [(0, some 42), (1, some 43)], [(2, some 44)], [(3, some 45)], [(3, some 45)], [(4, some 46), (5, some 47), (3, some 45)], [(3, some 45), (6, some 48)], [(7, some 49)], [(8, some 50)], [(8, some 50)], [(9, some 51), (10, some 52), (8, some 50)], [(8, some 50), (11, some 53)], [(12, some 54)], [(13, some 55)], [(13, some 55)], [(14, some 56), (15, some 57), (13, some 55)], [(13, some 55), (16, some 58)], [(17, some 59)], [(18, some 60)], [(19, some 61), (18, some 60)], [(18, some 60)], [(21, some 63), (18, some 60)], [(20, some 62), (22, some 64), (18, some 60)], [(18, some 60), (23, some 65)], [(24, some 66)], [(25, some 67)], [(25, some 67)], [(26, some 68), (27, some 69), (25, some 67)], [(25, some 67)], [(25, some 67)], [(29, some 71), (30, some 72), (25, some 67)], [(28, some 70), (31, some 73), (25, some 67)], [(25, some 67), (32, some 74)], [(33, some 75)], [(34, some 76)], [(34, some 76)], [(35, some 77), (36, some 78), (34, some 76)], [(34, some 76)], [(34, some 76)], [(38, some 80), (39, some 81), (34, some 76)], [(37, some 79), (40, some 82), (34, some 76)], [(34, some 76), (41, some 83)], [(42, some 84)], [(43, some 85)], [(43, some 85)], [(44, some 86), (45, some 87), (43, some 85)], [(43, some 85), (46, some 88)], [(47, some 89)], [(48, some 90)], [(48, some 90), (49, some 91)], [(50, some 92)]] [(0, some 42), (1, some 43), (2, some 44), (3, some 45), (4, some 46), (5, some 47), (6, some 48), (7, some 49), (8, some 50), (9, some 51), (10, some 52), (11, some 53), (12, some 54), (13, some 55), (14, some 56), (15, some 57), (16, some 58), (17, some 59), (18, some 60), (19, some 61), (20, some 62), (21, some 63), (22, some 64), (23, some 65), (24, some 66), (25, some 67), (26, some 68), (27, some 69), (28, some 70), (29, some 71), (30, some 72), (31, some 73), (32, some 74), (33, some 75), (34, some 76), (35, some 77), (36, some 78), (37, some 79), (38, some 80), (39, some 81), (40, some 82), (41, some 83), (42, some 84), (43, some 85), (44, some 86), (45, some 87), (46, some 88), (47, some 89), (48, some 90), (49, some 91), (50, some 92), (51, some 6)] rfl (by kernel_rfl) ⟨fun _ _ _ _ h => h, fun _ _ _ _ h => h, fun _ _ _ _ h => h, fun _ _ _ _ h => h, fun _ _ _ _ h => h, fun _ _ _ _ h => h, fun _ _ _ _ h => h, fun _ _ _ _ h => h, fun _ _ _ _ h => h, fun _ _ _ _ h => h, fun _ _ _ _ h => h, fun _ _ _ _ h => h, fun _ _ _ _ h => h, fun _ _ _ _ h => h, fun _ _ _ _ h => h, fun _ _ _ _ h => h, fun _ _ _ _ h => h, fun _ _ _ _ h => h, fun _ _ _ _ h => h, fun _ _ _ _ h => h, fun _ _ _ _ h => h, fun _ _ _ _ h => h, fun _ _ _ _ h => h, fun _ _ _ _ h => h, fun _ _ _ _ h => h, fun _ _ _ _ h => h, fun _ _ _ _ h => h, fun _ _ _ _ h => h, fun _ _ _ _ h => h, fun _ _ _ _ h => h, fun _ _ _ _ h => h, fun _ _ _ _ h => h, fun _ _ _ _ h => h, fun _ _ _ _ h => h, fun _ _ _ _ h => h, fun _ _ _ _ h => h, fun _ _ _ _ h => h, fun _ _ _ _ h => h, fun _ _ _ _ h => h, fun _ _ _ _ h => h, fun _ _ _ _ h => h, fun _ _ _ _ h => h, fun _ _ _ _ h => h, fun _ _ _ _ h => h, fun _ _ _ _ h => h, fun _ _ _ _ h => h, fun _ _ _ _ h => h, fun _ _ _ _ h => h, fun _ _ _ _ h => h, fun _ _ _ _ h => h, fun _ _ _ _ h => h, fun _ _ _ _ h => h, trivial⟩ (fun _ a a' _ e h => by cases a; cases a'; cases e; exact h) ?hS ?hsteps ?hend
  case hS =>
    intro w' hg
    exact ⟨Lib.hid (RowAt.below R4f.out.drew hg), Lib.hid (RowAt.below R5f.out.drew hg), Lib.hid (RowAt.below R8f.out.drew hg), Lib.hid (RowAt.below R10f.out.drew hg), Lib.hid (RowAt.below R12f.out.drew hg), Lib.hid (RowAt.below R14f.out.drew hg), Lib.hid (OwnB.below (OwnB.below HOf.out (Below.refl _ _).drew) hg), Lib.hid (Byt.below (Byt.below HVf.out (Below.refl _ _).drew) hg), Lib.hid (HBf.out.drew.trans (hg.mono HBf.out.size))⟩
  case hsteps =>
    refine ⟨?_, ?_, ?_, ?_, ?_, ?_, ?_, ?_, ?_, ?_, ?_, ?_, ?_, ?_, ?_, ?_, ?_, ?_, ?_, ?_, ?_, ?_, ?_, ?_, ?_, ?_, ?_, ?_, ?_, ?_, ?_, ?_, ?_, ?_, ?_, ?_, ?_, ?_, ?_, ?_, ?_, ?_, ?_, ?_, ?_, ?_, ?_, ?_, ?_, ?_, ?_, ?_, trivial⟩
    · intro w' hs
      simp only [AllV, rgPut]
      have rc := (hs.2.2.1).out.cell
      have r0 := rc 0 (.int .u16 x.y) rfl
      have r1 := rc 1 (.int .u8 x.mo) rfl
      have r2 := rc 2 (.int .u8 x.d) rfl
      have r3 := rc 3 (.int .u8 x.h) rfl
      have r4 := rc 4 (.int .u8 x.mi) rfl
      have r5 := rc 5 (.int .u8 x.s) rfl
      clear hs rc
      first
        | (refine OpOk.off ?_ ?_ <;> rfl)
        | (refine OpOk.run ?_ (fun K hK => ?_)
           · rfl
           go_simp
           refine hK.out _ _ (Grows.refl _) ?_
           exact rfl)
    · intro w' hs
      simp only [AllV, rgPut]
      have rc := (hs.2.2.2.1).out.cell
      have r0 := rc 0 (.int .u16 x.y) rfl
      have r1 := rc 1 (.int .u8 x.mo) rfl
      have r2 := rc 2 (.int .u8 x.d) rfl
      have r3 := rc 3 (.int .u8 x.h) rfl
      have r4 := rc 4 (.int .u8 x.mi) rfl
      have r5 := rc 5 (.int .u8 x.s) rfl
      clear hs rc
      first
        | (refine OpOk.off ?_ ?_ <;> rfl)
        | (refine OpOk.run ?_ (fun K hK => ?_)
           · rfl
           go_simp
           refine hK.out _ _ (Grows.refl _) ?_
           exact rfl)
    · intro w' hs
      simp only [AllV, rdP, isV, forall_eq, rgPut, Act.put, List.setIfInBounds_toArray, List.set_cons_zero, List.set_cons_succ]
      clear hs
      first
        | (refine OpOk.off ?_ ?_ <;> rfl)
        | (refine OpOk.run ?_ (fun K hK => ?_)
           · rfl
           go_simp
           refine hK.out _ _ (Grows.refl _) ?_
           exact rfl)
    · intro w' hs
      simp only [AllV, rdP, isV, forall_eq, rgPut, Act.put, List.setIfInBounds_toArray, List.set_cons_zero, List.set_cons_succ]
      clear hs
      first
        | (refine OpOk.off ?_ ?_ <;> rfl)
        | (refine OpOk.run ?_ (fun K hK => ?_)
           · rfl
           go_simp
           refine hK.out _ _ (Grows.refl _) ?_
           exact rfl)
    · intro w' hs
      simp only [AllV, rdP, isV, forall_eq, rgPut, Act.put, List.setIfInBounds_toArray, List.set_cons_zero, List.set_cons_succ]
      clear hs
      first
        | (refine OpOk.off ?_ ?_ <;> rfl)
        | (refine OpOk.run ?_ (fun K hK => ?_)
           · rfl
           go_simp
           refine hK.out _ _ (Grows.refl _) ?_
           exact rfl)
    · intro w' hs
      simp only [AllV, rdP, isV, forall_eq, rgPut, Act.put, List.setIfInBounds_toArray, List.set_cons_zero, List.set_cons_succ]
      clear hs
      first
        | (refine OpOk.off ?_ ?_ <;> rfl)
        | (refine OpOk.run ?_ (fun K hK => ?_)
           · rfl
           go_simp
           refine hK.out _ _ (Grows.refl _) ?_
           exact rfl)
    · intro w' hs
      simp only [AllV, rdP, isV, forall_eq, rgPut, Act.put, List.setIfInBounds_toArray, List.set_cons_zero, List.set_cons_succ]
      clear hs
      first
        | (refine OpOk.off ?_ ?_ <;> rfl)
        | (refine OpOk.run ?_ (fun K hK => ?_)
           · rfl
           go_simp
           refine hK.out _ _ (Grows.refl _) ?_
           exact rfl)
    · intro w' hs
      simp only [AllV, rdP, isV, forall_eq, rgPut, Act.put, List.setIfInBounds_toArray, List.set_cons_zero, List.set_cons_succ]
      clear hs
      first
        | (refine OpOk.off ?_ ?_ <;> rfl)
        | (refine OpOk.run ?_ (fun K hK => ?_)
           · rfl
           go_simp
           refine hK.out _ _ (Grows.refl _) ?_
           exact rfl)
    · intro w' hs
      simp only [AllV, rdP, isV, forall_eq, rgPut, Act.put, List.setIfInBounds_toArray, List.set_cons_zero, List.set_cons_succ]
      clear hs
      first
        | (refine OpOk.off ?_ ?_ <;> rfl)
        | (refine OpOk.run ?_ (fun K hK => ?_)
           · rfl
           go_simp
           refine hK.out _ _ (Grows.refl _) ?_
           exact rfl)
    · intro w' hs
      simp only [AllV, rdP, isV, forall_eq, rgPut, Act.put, List.setIfInBounds_toArray, List.set_cons_zero, List.set_cons_succ]
      have rc := (hs.2.2.2.2.1).out.cell
      have r0 := rc 0 (.int .u16 p.y) rfl
      have r1 := rc 1 (.int .u8 p.mo) rfl
      have r2 := rc 2 (.int .u8 p.d) rfl
      have r3 := rc 3 (.int .u8 p.h) rfl
      have r4 := rc 4 (.int .u8 p.mi) rfl
      have r5 := rc 5 (.int .u8 p.s) rfl
      clear hs rc
      first
        | (refine OpOk.off ?_ ?_ <;> rfl)
        | (refine OpOk.run ?_ (fun K hK => ?_)
           · rfl
           go_simp
           refine hK.out _ _ (Grows.refl _) ?_
           exact rfl)
    · intro w' hs
      simp only [AllV, rdP, isV, forall_eq, rgPut, Act.put, List.setIfInBounds_toArray, List.set_cons_zero, List.set_cons_succ]
      have rc := (hs.2.2.2.2.2.1).out.cell
      have r0 := rc 0 (.int .u16 p.y) rfl
      have r1 := rc 1 (.int .u8 p.mo) rfl
      have r2 := rc 2 (.int .u8 p.d) rfl
      have r3 := rc 3 (.int .u8 p.h) rfl
      have r4 := rc 4 (.int .u8 p.mi) rfl
      have r5 := rc 5 (.int .u8 p.s) rfl
      clear hs rc
      first
        | (refine OpOk.off ?_ ?_ <;> rfl)
        | (refine OpOk.run ?_ (fun K hK => ?_)
           · rfl
           go_simp
           refine hK.out _ _ (Grows.refl _) ?_
           exact rfl)
    · intro w' hs
      simp only [AllV, rdP, isV, forall_eq, rgPut, Act.put, List.setIfInBounds_toArray, List.set_cons_zero, List.set_cons_succ]
      clear hs
      first
        | (refine OpOk.off ?_ ?_ <;> rfl)
        | (refine OpOk.run ?_ (fun K hK => ?_)
           · rfl
           go_simp
           refine hK.out _ _ (Grows.refl _) ?_
           exact rfl)
    · intro w' hs
      simp only [AllV, rdP, isV, forall_eq, rgPut, Act.put, List.setIfInBounds_toArray, List.set_cons_zero, List.set_cons_succ]
      clear hs
      first
        | (refine OpOk.off ?_ ?_ <;> rfl)
        | (refine OpOk.run ?_ (fun K hK => ?_)
           · rfl
           go_simp
           refine hK.out _ _ (Grows.refl _) ?_
           exact rfl)
    · intro w' hs
      simp only [AllV, rdP, isV, forall_eq, rgPut, Act.put, List.setIfInBounds_toArray, List.set_cons_zero, List.set_cons_succ]
      clear hs
      first
        | (refine OpOk.off ?_ ?_ <;> rfl)
        | (refine OpOk.run ?_ (fun K hK => ?_)
           · rfl
           go_simp
           refine hK.out _ _ (Grows.refl _) ?_
           exact rfl)
    · intro w' hs
      simp only [AllV, rdP, isV, forall_eq, rgPut, Act.put, List.setIfInBounds_toArray, List.set_cons_zero, List.set_cons_succ]
      clear hs
      first
        | (refine OpOk.off ?_ ?_ <;> rfl)
        | (refine OpOk.run ?_ (fun K hK => ?_)
           · rfl
           go_simp
           refine hK.out _ _ (Grows.refl _) ?_
           exact rfl)
    · intro w' hs
      simp only [AllV, rdP, isV, forall_eq, rgPut, Act.put, List.setIfInBounds_toArray, List.set_cons_zero, List.set_cons_succ]
      clear hs
      first
        | (refine OpOk.off ?_ ?_ <;> rfl)
        | (refine OpOk.run ?_ (fun K hK => ?_)
           · rfl
           go_simp
           refine hK.out _ _ (Grows.refl _) ?_
           exact rfl)
    · intro w' hs
      simp only [AllV, rdP, isV, forall_eq, rgPut, Act.put, List.setIfInBounds_toArray, List.set_cons_zero, List.set_cons_succ]
      clear hs
      first
        | (refine OpOk.off ?_ ?_ <;> rfl)
        | (refine OpOk.run ?_ (fun K hK => ?_)
           · rfl
           go_simp
           refine hK.out _ _ (Grows.refl _) ?_
           exact rfl)
    · intro w' hs
      simp only [AllV, rdP, isV, forall_eq, rgPut, Act.put, List.setIfInBounds_toArray, List.set_cons_zero, List.set_cons_succ]
      clear hs
      first
        | (refine OpOk.off ?_ ?_ <;> rfl)
        | (refine OpOk.run ?_ (fun K hK => ?_)
           · rfl
           go_simp
           refine hK.out _ _ (Grows.refl _) ?_
           exact rfl)
    · intro w' hs
      simp only [AllV, rdP, isV, forall_eq, rgPut, Act.put, List.setIfInBounds_toArray, List.set_cons_zero, List.set_cons_succ]
      clear hs
      first
        | (refine OpOk.off ?_ ?_ <;> rfl)
        | (refine OpOk.run ?_ (fun K hK => ?_)
           · rfl
           go_simp
           refine hK.out _ _ (Grows.refl _) ?_
           exact rfl)
    · intro w' hs
      simp only [AllV, rdP, isV, forall_eq, rgPut, Act.put, List.setIfInBounds_toArray, List.set_cons_zero, List.set_cons_succ]
      have rc := (hs.1).out.cell
      have r0 := rc 0 (.int .u16 t.y) rfl
      have r1 := rc 1 (.int .u8 t.mo) rfl
      have r2 := rc 2 (.int .u8 t.d) rfl
      have r3 := rc 3 (.int .u8 t.h) rfl
      have r4 := rc 4 (.int .u8 t.mi) rfl
      have r5 := rc 5 (.int .u8 t.s) rfl
      clear hs rc
      first
        | (refine OpOk.off ?_ ?_ <;> rfl)
        | (refine OpOk.run ?_ (fun K hK => ?_)
           · rfl
           go_simp
           refine hK.out _ _ (Grows.refl _) ?_
           exact rfl)
    · intro w' hs
      simp only [AllV, rdP, isV, forall_eq, rgPut, Act.put, List.setIfInBounds_toArray, List.set_cons_zero, List.set_cons_succ]
      clear hs
      first
        | (refine OpOk.off ?_ ?_ <;> rfl)
        | (refine OpOk.run ?_ (fun K hK => ?_)
           · rfl
           go_simp
           go_at_call 23
           refine (HR.out _).mono ?_
           rintro e w1 ⟨rfl, hb⟩
           refine hK.out _ _ hb ?_
           exact rfl
          )
    · intro w' hs
      simp only [AllV, rdP, isV, forall_eq, rgPut, Act.put, List.setIfInBounds_toArray, List.set_cons_zero, List.set_cons_succ]
      have rc := (hs.1).out.cell
      have r0 := rc 0 (.int .u16 t.y) rfl
      have r1 := rc 1 (.int .u8 t.mo) rfl
      have r2 := rc 2 (.int .u8 t.d) rfl
      have r3 := rc 3 (.int .u8 t.h) rfl
      have r4 := rc 4 (.int .u8 t.mi) rfl
      have r5 := rc 5 (.int .u8 t.s) rfl
      clear hs rc
      first
        | (refine OpOk.off ?_ ?_ <;> rfl)
        | (refine OpOk.run ?_ (fun K hK => ?_)
           · rfl
           go_simp
           refine hK.out _ _ (Grows.refl _) ?_
           exact rfl)
    · intro w' hs
      simp only [AllV, rdP, isV, forall_eq, rgPut, Act.put, List.setIfInBounds_toArray, List.set_cons_zero, List.set_cons_succ]
      clear hs
      first
        | (refine OpOk.off ?_ ?_ <;> rfl)
        | (refine OpOk.run ?_ (fun K hK => ?_)
           · rfl
           go_simp
           go_at_call 29
           refine (HRr.out _).mono ?_
           rintro e w1 ⟨rfl, hb⟩
           refine hK.out _ _ hb ?_
           exact rfl
          )
    · intro w' hs
      simp only [AllV, rdP, isV, forall_eq, rgPut, Act.put, List.setIfInBounds_toArray, List.set_cons_zero, List.set_cons_succ]
      clear hs
      first
        | (refine OpOk.off ?_ ?_ <;> rfl)
        | (refine OpOk.run ?_ (fun K hK => ?_)
           · rfl
           go_simp
           refine hK.out _ _ (Grows.refl _) ?_
           exact rfl)
    · intro w' hs
      simp only [AllV, rdP, isV, forall_eq, rgPut, Act.put, List.setIfInBounds_toArray, List.set_cons_zero, List.set_cons_succ]
      clear hs
      first
        | (refine OpOk.off ?_ ?_ <;> rfl)
        | (refine OpOk.run ?_ (fun K hK => ?_)
           · rfl
           go_simp
           refine hK.out _ _ (Grows.refl _) ?_
           exact rfl)
    · intro w' hs
      simp only [AllV, rdP, isV, forall_eq, rgPut, Act.put, List.setIfInBounds_toArray, List.set_cons_zero, List.set_cons_succ]
      clear hs
      first
        | (refine OpOk.off ?_ ?_ <;> rfl)
        | (refine OpOk.run ?_ (fun K hK => ?_)
           · rfl
           go_simp
           refine hK.out _ _ (Grows.refl _) ?_
           exact rfl)
    · intro w' hs
      simp only [AllV, rdP, isV, forall_eq, rgPut, Act.put, List.setIfInBounds_toArray, List.set_cons_zero, List.set_cons_succ]
      have rc := (hs.1).out.cell
      have r0 := rc 0 (.int .u16 t.y) rfl
      have r1 := rc 1 (.int .u8 t.mo) rfl
      have r2 := rc 2 (.int .u8 t.d) rfl
      have r3 := rc 3 (.int .u8 t.h) rfl
      have r4 := rc 4 (.int .u8 t.mi) rfl
      have r5 := rc 5 (.int .u8 t.s) rfl
      clear hs rc
      first
        | (refine OpOk.off ?_ ?_ <;> rfl)
        | (refine OpOk.run ?_ (fun K hK => ?_)
           · rfl
           go_simp
           refine hK.out _ _ (Grows.refl _) ?_
           exact rfl)
    · intro w' hs
      simp only [AllV, rdP, isV, forall_eq, rgPut, Act.put, List.setIfInBounds_toArray, List.set_cons_zero, List.set_cons_succ]
      have rc := (hs.2.1).out.cell
      have r0 := rc 0 (.int .u16 u.y) rfl
      have r1 := rc 1 (.int .u8 u.mo) rfl
      have r2 := rc 2 (.int .u8 u.d) rfl
      have r3 := rc 3 (.int .u8 u.h) rfl
      have r4 := rc 4 (.int .u8 u.mi) rfl
      have r5 := rc 5 (.int .u8 u.s) rfl
      clear hs rc
      first
        | (refine OpOk.off ?_ ?_ <;> rfl)
        | (refine OpOk.run ?_ (fun K hK => ?_)
           · rfl
           go_simp
           refine hK.out _ _ (Grows.refl _) ?_
           exact rfl)
    · intro w' hs
      simp only [AllV, rdP, isV, forall_eq, rgPut, Act.put, List.setIfInBounds_toArray, List.set_cons_zero, List.set_cons_succ]
      clear hs
      first
        | (refine OpOk.off ?_ ?_ <;> rfl)
        | (refine OpOk.run ?_ (fun K hK => ?_)
           · rfl
           go_simp
           go_at_call 22
           refine (HL.out _).mono ?_
           rintro e w1 ⟨rfl, hb⟩
           refine hK.out _ _ hb ?_
           exact rfl
          )
    · intro w' hs
      simp only [AllV, rdP, isV, forall_eq, rgPut, Act.put, List.setIfInBounds_toArray, List.set_cons_zero, List.set_cons_succ]
      have rc := (hs.1).out.cell
      have r0 := rc 0 (.int .u16 t.y) rfl
      have r1 := rc 1 (.int .u8 t.mo) rfl
      have r2 := rc 2 (.int .u8 t.d) rfl
      have r3 := rc 3 (.int .u8 t.h) rfl
      have r4 := rc 4 (.int .u8 t.mi) rfl
      have r5 := rc 5 (.int .u8 t.s) rfl
      clear hs rc
      first
        | (refine OpOk.off ?_ ?_ <;> rfl)
        | (refine OpOk.run ?_ (fun K hK => ?_)
           · rfl
           go_simp
           refine hK.out _ _ (Grows.refl _) ?_
           exact rfl)
    · intro w' hs
      simp only [AllV, rdP, isV, forall_eq, rgPut, Act.put, List.setIfInBounds_toArray, List.set_cons_zero, List.set_cons_succ]
      have rc := (hs.2.1).out.cell
      have r0 := rc 0 (.int .u16 u.y) rfl
      have r1 := rc 1 (.int .u8 u.mo) rfl
      have r2 := rc 2 (.int .u8 u.d) rfl
      have r3 := rc 3 (.int .u8 u.h) rfl
      have r4 := rc 4 (.int .u8 u.mi) rfl
      have r5 := rc 5 (.int .u8 u.s) rfl
      clear hs rc
      first
        | (refine OpOk.off ?_ ?_ <;> rfl)
        | (refine OpOk.run ?_ (fun K hK => ?_)
           · rfl
           go_simp
           refine hK.out _ _ (Grows.refl _) ?_
           exact rfl)
    · intro w' hs
      simp only [AllV, rdP, isV, forall_eq, rgPut, Act.put, List.setIfInBounds_toArray, List.set_cons_zero, List.set_cons_succ]
      clear hs
      first
        | (refine OpOk.off ?_ ?_ <;> rfl)
        | (refine OpOk.run ?_ (fun K hK => ?_)
           · rfl
           go_simp
           go_at_call 30
           refine (HLr.out _).mono ?_
           rintro e w1 ⟨rfl, hb⟩
           refine hK.out _ _ hb ?_
           exact rfl
          )
    · intro w' hs
      simp only [AllV, rdP, isV, forall_eq, rgPut, Act.put, List.setIfInBounds_toArray, List.set_cons_zero, List.set_cons_succ]
      clear hs
      first
        | (refine OpOk.off ?_ ?_ <;> rfl)
        | (refine OpOk.run ?_ (fun K hK => ?_)
           · rfl
           go_simp
           refine hK.out _ _ (Grows.refl _) ?_
           exact rfl)
    · intro w' hs
      simp only [AllV, rdP, isV, forall_eq, rgPut, Act.put, List.setIfInBounds_toArray, List.set_cons_zero, List.set_cons_succ]
      clear hs
      first
        | (refine OpOk.off ?_ ?_ <;> rfl)
        | (refine OpOk.run ?_ (fun K hK => ?_)
           · rfl
           go_simp
           refine hK.out _ _ (Grows.refl _) ?_
           exact rfl)
    · intro w' hs
      simp only [AllV, rdP, isV, forall_eq, rgPut, Act.put, List.setIfInBounds_toArray, List.set_cons_zero, List.set_cons_succ]
      clear hs
      first
        | (refine OpOk.off ?_ ?_ <;> rfl)
        | (refine OpOk.run ?_ (fun K hK => ?_)
           · rfl
           go_simp
           refine hK.out _ _ (Grows.refl _) ?_
           exact rfl)
    · intro w' hs
      simp only [AllV, rdP, isV, forall_eq, rgPut, Act.put, List.setIfInBounds_toArray, List.set_cons_zero, List.set_cons_succ]
      have rc := (hs.2.1).out.cell
      have r0 := rc 0 (.int .u16 u.y) rfl
      have r1 := rc 1 (.int .u8 u.mo) rfl
      have r2 := rc 2 (.int .u8 u.d) rfl
      have r3 := rc 3 (.int .u8 u.h) rfl
      have r4 := rc 4 (.int .u8 u.mi) rfl
      have r5 := rc 5 (.int .u8 u.s) rfl
      clear hs rc
      first
        | (refine OpOk.off ?_ ?_ <;> rfl)
        | (refine OpOk.run ?_ (fun K hK => ?_)
           · rfl
           go_simp
           refine hK.out _ _ (Grows.refl _) ?_
           exact rfl)
    · intro w' hs
      simp only [AllV, rdP, isV, forall_eq, rgPut, Act.put, List.setIfInBounds_toArray, List.set_cons_zero, List.set_cons_succ]
      have rc := (hs.1).out.cell
      have r0 := rc 0 (.int .u16 t.y) rfl
      have r1 := rc 1 (.int .u8 t.mo) rfl
      have r2 := rc 2 (.int .u8 t.d) rfl
      have r3 := rc 3 (.int .u8 t.h) rfl
      have r4 := rc 4 (.int .u8 t.mi) rfl
      have r5 := rc 5 (.int .u8 t.s) rfl
      clear hs rc
      first
        | (refine OpOk.off ?_ ?_ <;> rfl)
        | (refine OpOk.run ?_ (fun K hK => ?_)
           · rfl
           go_simp
           refine hK.out _ _ (Grows.refl _) ?_
           exact rfl)
    · intro w' hs
      simp only [AllV, rdP, isV, forall_eq, rgPut, Act.put, List.setIfInBounds_toArray, List.set_cons_zero, List.set_cons_succ]
      clear hs
      first
        | (refine OpOk.off ?_ ?_ <;> rfl)
        | (refine OpOk.run ?_ (fun K hK => ?_)
           · rfl
           go_simp
           go_at_call 22
           refine (HM.out _).mono ?_
           rintro e w1 ⟨rfl, hb⟩
           refine hK.out _ _ hb ?_
           exact rfl
          )
    · intro w' hs
      simp only [AllV, rdP, isV, forall_eq, rgPut, Act.put, List.setIfInBounds_toArray, List.set_cons_zero, List.set_cons_succ]
      have rc := (hs.2.1).out.cell
      have r0 := rc 0 (.int .u16 u.y) rfl
      have r1 := rc 1 (.int .u8 u.mo) rfl
      have r2 := rc 2 (.int .u8 u.d) rfl
      have r3 := rc 3 (.int .u8 u.h) rfl
      have r4 := rc 4 (.int .u8 u.mi) rfl
      have r5 := rc 5 (.int .u8 u.s) rfl
      clear hs rc
      first
        | (refine OpOk.off ?_ ?_ <;> rfl)
        | (refine OpOk.run ?_ (fun K hK => ?_)
           · rfl
           go_simp
           refine hK.out _ _ (Grows.refl _) ?_
           exact rfl)
    · intro w' hs
      simp only [AllV, rdP, isV, forall_eq, rgPut, Act.put, List.setIfInBounds_toArray, List.set_cons_zero, List.set_cons_succ]
      have rc := (hs.1).out.cell
      have r0 := rc 0 (.int .u16 t.y) rfl
      have r1 := rc 1 (.int .u8 t.mo) rfl
      have r2 := rc 2 (.int .u8 t.d) rfl
      have r3 := rc 3 (.int .u8 t.h) rfl
      have r4 := rc 4 (.int .u8 t.mi) rfl
      have r5 := rc 5 (.int .u8 t.s) rfl
      clear hs rc
      first
        | (refine OpOk.off ?_ ?_ <;> rfl)
        | (refine OpOk.run ?_ (fun K hK => ?_)
           · rfl
           go_simp
           refine hK.out _ _ (Grows.refl _) ?_
           exact rfl)
    · intro w' hs
      simp only [AllV, rdP, isV, forall_eq, rgPut, Act.put, List.setIfInBounds_toArray, List.set_cons_zero, List.set_cons_succ]
      clear hs
      first
        | (refine OpOk.off ?_ ?_ <;> rfl)
        | (refine OpOk.run ?_ (fun K hK => ?_)
           · rfl
           go_simp
           go_at_call 30
           refine (HMr.out _).mono ?_
           rintro e w1 ⟨rfl, hb⟩
           refine hK.out _ _ hb ?_
           exact rfl
          )
    · intro w' hs
      simp only [AllV, rdP, isV, forall_eq, rgPut, Act.put, List.setIfInBounds_toArray, List.set_cons_zero, List.set_cons_succ]
      clear hs
      first
        | (refine OpOk.off ?_ ?_ <;> rfl)
        | (refine OpOk.run ?_ (fun K hK => ?_)
           · rfl
           go_simp
           refine hK.out _ _ (Grows.refl _) ?_
           exact rfl)
    · intro w' hs
      simp only [AllV, rdP, isV, forall_eq, rgPut, Act.put, List.setIfInBounds_toArray, List.set_cons_zero, List.set_cons_succ]
      clear hs
      first
        | (refine OpOk.off ?_ ?_ <;> rfl)
        | (refine OpOk.run ?_ (fun K hK => ?_)
           · rfl
           go_simp
           refine hK.out _ _ (Grows.refl _) ?_
           exact rfl)
    · intro w' hs
      simp only [AllV, rdP, isV, forall_eq, rgPut, Act.put, List.setIfInBounds_toArray, List.set_cons_zero, List.set_cons_succ]
      clear hs
      first
        | (refine OpOk.off ?_ ?_ <;> rfl)
        | (refine OpOk.run ?_ (fun K hK => ?_)
           · rfl
           go_simp
           refine hK.out _ _ (Grows.refl _) ?_
           exact rfl)
    · intro w' hs
      simp only [AllV, rdP, isV, forall_eq, rgPut, Act.put, List.setIfInBounds_toArray, List.set_cons_zero, List.set_cons_succ]
      clear hs
      first
        | (refine OpOk.off ?_ ?_ <;> rfl)
        | (refine OpOk.run ?_ (fun K hK => ?_)
           · rfl
           go_simp
           refine hK.out _ _ (Grows.refl _) ?_
           exact rfl)
    · intro w' hs
      simp only [AllV, rdP, isV, forall_eq, rgPut, Act.put, List.setIfInBounds_toArray, List.set_cons_zero, List.set_cons_succ]
      clear hs
      first
        | (refine OpOk.off ?_ ?_ <;> rfl)
        | (refine OpOk.run ?_ (fun K hK => ?_)
           · rfl
           go_simp
           refine hK.out _ _ (Grows.refl _) ?_
           exact rfl)
    · intro w' hs
      simp only [AllV, rdP, isV, forall_eq, rgPut, Act.put, List.setIfInBounds_toArray, List.set_cons_zero, List.set_cons_succ]
      have hown := hs.2.2.2.2.2.2.1
      have hbyt := hs.2.2.2.2.2.2.2.1
      clear hs
      first
        | (refine OpOk.off ?_ ?_ <;> rfl)
        | (refine OpOk.run ?_ (fun K hK => ?_)
           · rfl
           go_simp
           go_at_call 20
           refine (kept_any _ g len cap2 (.slice a len cap) l _ HLN.out hown.out hbyt.out).mono ?_
           rintro e w1 ⟨rfl, rfl⟩
           refine hK.out _ _ (Grows.refl _) ?_
           exact rfl
          )
    · intro w' hs
      simp only [AllV, rdP, isV, forall_eq, rgPut, Act.put, List.setIfInBounds_toArray, List.set_cons_zero, List.set_cons_succ]
      clear hs
      first
        | (refine OpOk.off ?_ ?_ <;> rfl)
        | (refine OpOk.run ?_ (fun K hK => ?_)
           · rfl
           go_simp
           refine hK.out _ _ (Grows.refl _) ?_
           exact rfl)
    · intro w' hs
      simp only [AllV, rdP, isV, forall_eq, rgPut, Act.put, List.setIfInBounds_toArray, List.set_cons_zero, List.set_cons_succ]
      clear hs
      first
        | (refine OpOk.off ?_ ?_ <;> rfl)
        | (refine OpOk.run ?_ (fun K hK => ?_)
           · rfl
           go_simp
           refine hK.out _ _ (Grows.refl _) ?_
           exact rfl)
    · intro w' hs
      simp only [AllV, rdP, isV, forall_eq, rgPut, Act.put, List.setIfInBounds_toArray, List.set_cons_zero, List.set_cons_succ]
      clear hs
      first
        | (refine OpOk.off ?_ ?_ <;> rfl)
        | (refine OpOk.run ?_ (fun K hK => ?_)
           · rfl
           go_simp
           go_at_call 13
           refine (works_calls _).mono ?_
           rintro e w1 ⟨rfl, hb⟩
           refine hK.out _ _ hb ?_
           exact rfl
          )
    · intro w' hs
      simp only [AllV, rdP, isV, forall_eq, rgPut, Act.put, List.setIfInBounds_toArray, List.set_cons_zero, List.set_cons_succ]
      clear hs
      first
        | (refine OpOk.off ?_ ?_ <;> rfl)
        | (refine OpOk.run ?_ (fun K hK => ?_)
           · rfl
           go_simp
           refine hK.out _ _ (Grows.refl _) ?_
           exact rfl)
    · intro w' hs
      simp only [AllV, rdP, isV, forall_eq, rgPut, Act.put, List.setIfInBounds_toArray, List.set_cons_zero, List.set_cons_succ]
      clear hs
      first
        | (refine OpOk.off ?_ ?_ <;> rfl)
        | (refine OpOk.run ?_ (fun K hK => ?_)
           · rfl
           go_simp
           refine hK.out _ _ (Grows.refl _) ?_
           exact rfl)
  case hend =>
    intro w' hs
    simp only [AllV, rdP, isV, forall_eq, rgPut, Act.put, List.setIfInBounds_toArray, List.set_cons_zero, List.set_cons_succ]
    go_wp2
    go_ret
    exact ⟨rfl, hs.2.2.2.2.2.2.2.2.out⟩

theorem stampTells_walk (v : Value) (l : List UInt8) (t u : Tm) (w : World) (hv : Byt w v l) (ht : t.Fit) (hu : u.Fit) :
    Calls Try.prog 9 #[v, tmV t, tmV u] w fun e w' => e = .returned (.bool true) ∧ Below w.heap.size w w' := by
  obtain ⟨a, cap, rfl, h1, h2, _⟩ := hv.open
  unfold maxLen at h2
  by_cases hl : l.length ≤ 4096
  · have he : ∀ (q : Tm) W, (binOp .eql 25 (.agg #[.int .u16 q.y, .int .u8 q.mo, .int .u8 q.d, .int .u8 q.h, .int .u8 q.mi, .int .u8 q.s]) (.agg #[.int .u16 q.y, .int .u8 q.mo, .int .u8 q.d, .int .u8 q.h, .int .u8 q.mi, .int .u8 q.s])).run Try.prog W = .ok (.bool true) W := fun q W => by
      have := run_tm_eq q q W
      rw [(eqT_iff q q).2 rfl] at this
      exact this
    exact stampTells_main a l.length cap l t u (told 2 utcY l) (told 4 genY l) (toldB 2 utcY l) (toldB 4 genY l) (rightB t) (lessB t u) (lessB u t) w hl rfl (Lib.hid hv)
      (Lib.hid (fun v W h => utc_calls v l W h (by omega))) (Lib.hid (fun v W h => refUtc_calls v l W h (by omega))) (Lib.hid (fun v W h => general_calls v l W h (by omega))) (Lib.hid (fun v W h => refGeneral_calls v l W h (by omega)))
      (Lib.hid (fun W => right_calls t W ht)) (Lib.hid (fun W => refRight_calls t W ht)) (Lib.hid (fun W => less_calls t u W ht hu)) (Lib.hid (fun W => refLess_calls t u W ht hu)) (Lib.hid (fun W => less_calls u t W hu ht)) (Lib.hid (fun W => refLess_calls u t W hu ht)) (he _) (he _)
  · exact stampTells_big a l.length cap t u w (by omega) (by omega)
end Go.Proofs.Ytjjggnipicpjkaa
