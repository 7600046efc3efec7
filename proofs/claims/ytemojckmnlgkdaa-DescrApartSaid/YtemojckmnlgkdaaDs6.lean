/-
  The contract of the document's own Read of signed values.
-/
import Derived.Test.YtemojckmnlgkdaaDs5
import Derived.Test.YtemojckmnlgkdaaOct4
import Derived.Test.YtemojckmnlgkdaaStamp10
import Derived.Test.YtemojckmnlgkdaaHead
namespace Go.Proofs.Ytemojckmnlgkdaa
open Go Go.RowKit
set_option linter.unusedVariables false

/-- b[p:q], of bytes that are within; the bounds of whatever kind. -/
theorem byt_mid {w : World} {b off len cap p q : Nat} {l : List UInt8} (kp kq : IntKind) (h : Byt w (.slice (some ⟨b, off, none⟩) len cap) l) (hlen : len = l.length) (hp : p ≤ q) (hq : q ≤ len) :
    ∃ y, (∀ W : World, (Instr.sliceAt 22 (.slice (some ⟨b, off, none⟩) len cap) (some (.int kp (p : Int))) (some (.int kq (q : Int))) none).run Try.prog W = .ok (.slice y (q - p) (cap - p)) W) ∧ Byt w (.slice y (q - p) (cap - p)) ((l.drop p).take (q - p)) := by
  subst hlen
  obtain ⟨a', cap', e, hlc, hcm, hc⟩ := h.open
  simp only [Value.slice.injEq] at e
  obtain ⟨rfl, _, rfl⟩ := e
  refine ⟨if cap = p then some ⟨b, off, none⟩ else some ⟨b, off + p, none⟩, fun W => ?_, ?_⟩
  · obtain ⟨i, hi, hz0, hz1, hz2⟩ := info_parts infoB
    have b2 : (0 : Int) ≤ (p : Int) ∧ (p : Int) ≤ (q : Int) := by omega
    have b3 : (0 : Int) ≤ (q : Int) ∧ (q : Int) ≤ (cap : Int) := by omega
    have hq2 : q ≤ cap := by omega
    simp [Instr.sliceAt, Instr.slice, Instr.sliceBounds, Instr.sliceBound, run_underlying Try.underlying22, asIntOf, b2, b3, hp, hq2, sizeOf, typeInfo, hi, hz1, add0]
    try omega
  · refine Byt.of (by rw [List.length_take, List.length_drop]; omega) (by omega) (by unfold maxLen at hcm ⊢; omega) fun i hi => ?_
    rw [List.length_take, List.length_drop] at hi
    obtain ⟨b', off', e, hcell⟩ := hc (p + i) (by omega)
    cases e
    refine ⟨b, off + p, by rw [if_neg (by omega)], ?_⟩
    rw [Nat.add_assoc, hcell]
    simp [List.getD, show i < q - p by omega]
theorem byt_end {w : World} {b off len cap p : Nat} {l : List UInt8} (kp : IntKind) (h : Byt w (.slice (some ⟨b, off, none⟩) len cap) l) (hlen : len = l.length) (hp : p ≤ len) :
    ∃ y, (∀ W : World, (Instr.sliceAt 22 (.slice (some ⟨b, off, none⟩) len cap) (some (.int kp (p : Int))) none none).run Try.prog W = .ok (.slice y (len - p) (cap - p)) W) ∧ Byt w (.slice y (len - p) (cap - p)) (l.drop p) := by
  subst hlen
  obtain ⟨a', cap', e, hlc, hcm, hc⟩ := h.open
  simp only [Value.slice.injEq] at e
  obtain ⟨rfl, _, rfl⟩ := e
  refine ⟨if cap = p then some ⟨b, off, none⟩ else some ⟨b, off + p, none⟩, fun W => ?_, ?_⟩
  · obtain ⟨i, hi, hz0, hz1, hz2⟩ := info_parts infoB
    have b2 : (0 : Int) ≤ (p : Int) ∧ (p : Int) ≤ (l.length : Int) := by omega
    simp [Instr.sliceAt, Instr.slice, Instr.sliceBounds, Instr.sliceBound, run_underlying Try.underlying22, asIntOf, b2, sizeOf, typeInfo, hi, hz1, add0]
    try omega
  · refine Byt.of (by rw [List.length_drop]) (by omega) (by unfold maxLen at hcm ⊢; omega) fun i hi => ?_
    rw [List.length_drop] at hi
    obtain ⟨b', off', e, hcell⟩ := hc (p + i) (by omega)
    cases e
    refine ⟨b, off + p, by rw [if_neg (by omega)], ?_⟩
    rw [Nat.add_assoc, hcell]
    simp [List.getD]

/-- The document's ways. -/
theorem ref_ways (l : List UInt8) (h41 : 41 ≤ l.length) :
    (rdB (l.take 16) = false ∧ dsR l = false) ∨ (rdB (l.take 16) = true ∧ ((dsN l < 25 ∧ dsR l = false) ∨ (25 ≤ dsN l ∧ ((l.length < 16 + dsN l ∧ dsR l = false) ∨ (16 + dsN l ≤ l.length ∧
      ((dsB (rdT (l.take 16)) (dsBl l).length = false ∧ dsR l = false) ∨ (dsB (rdT (l.take 16)) (dsBl l).length = true ∧
        ((dsW (rdT (l.take 16)) (dsBl l) (dsDt l) ≠ l ∧ dsR l = false) ∨ (dsW (rdT (l.take 16)) (dsBl l) (dsDt l) = l ∧ dsR l = true))))))))) := by
  cases h5 : rdB (l.take 16) with
  | false => exact .inl ⟨rfl, ref_no l (.inr (.inl h5))⟩
  | true =>
    refine .inr ⟨rfl, ?_⟩
    by_cases h2 : dsN l < 25
    · exact .inl ⟨h2, ref_no l (.inr (.inr (.inl h2)))⟩
    · refine .inr ⟨by omega, ?_⟩
      by_cases h4 : l.length < 16 + dsN l
      · exact .inl ⟨h4, ref_no l (.inr (.inr (.inr h4)))⟩
      · refine .inr ⟨by omega, ?_⟩
        cases h6 : dsB (rdT (l.take 16)) (dsBl l).length with
        | false => exact .inl ⟨rfl, ref_no2 l h6⟩
        | true =>
          refine .inr ⟨rfl, ?_⟩
          by_cases h7 : dsW (rdT (l.take 16)) (dsBl l) (dsDt l) = l
          · exact .inr ⟨h7, ref_yes l h6 h7⟩
          · exact .inl ⟨h7, ref_no3 l h7⟩
theorem str_neq {v1 v2 : Value} {l1 l2 : List UInt8} (b : Bool) (h : decide (l1 = l2) = b) : ((sOf l1).toList == (sOf l2).toList) = b := by rw [sOf_beq, h]

set_option maxRecDepth 100000 in
set_option maxHeartbeats 4000000 in
theorem refDsRead_short (v : Value) (l : List UInt8) (w0 : World) (hv : Byt w0 v l) (hl : l.length ≤ 100000000) (hs : l.length < 41) :
    Calls Try.prog 10 #[v] w0 (Res l w0) := by
  have HV := Lib.hid hv
  obtain ⟨x, cap, rfl, h1, h2⟩ := hv.shut
  obtain ⟨len, hlen⟩ : ∃ n, Hid (n = l.length) := ⟨_, Lib.hid rfl⟩
  rw [← hlen.out] at h1 hl HV ⊢
  clear hv
  have HNO : Hid (dsR l = false) := Lib.hid (ref_no l (.inl hs))
  have hs : len < 41 := by rw [hlen.out]; exact hs
  go_enter Try.func10, Try.ntmps10
  go_wp2
  refine bodyPost_ret (v := .tuple #[.agg #[.int .u16 0, .int .u8 0, .int .u8 0, .int .u8 0, .int .u8 0, .int .u8 0], .slice none 0 0, .slice none 0 0, .int .i64 9]) (by simp [results, Try.results10, go_sem]) rfl (Res.no HNO.out ?_)
  repeat' (first
    | with_reducible exact Below.refl _ _
    | with_reducible refine Below.drew ?_
    | with_reducible refine Below.setCell ?_ ?_ _
    | with_reducible refine Below.alloc ?_ ?_ _
    | omega
    | (simp <;> omega))

set_option maxRecDepth 100000 in
set_option maxHeartbeats 4000000 in
theorem refDsRead_long (v : Value) (l : List UInt8) (w0 : World) (hv : Byt w0 v l) (hl : l.length ≤ 100000000) (hs : 41 ≤ l.length) :
    Calls Try.prog 10 #[v] w0 (Res l w0) := by
  have HV := Lib.hid hv
  obtain ⟨x, cap, rfl, h1, h2⟩ := hv.shut
  obtain ⟨len, hlen⟩ : ∃ n, Hid (n = l.length) := ⟨_, Lib.hid rfl⟩
  rw [← hlen.out] at h1 hl HV ⊢
  clear hv
  obtain ⟨bx, ox, rfl⟩ : ∃ b o, x = some ⟨b, o, none⟩ := by
    obtain ⟨a', c', e, _, _, h3⟩ := HV.out.open
    obtain ⟨b, off, e2, _⟩ := h3 0 (by omega)
    simp only [Value.slice.injEq] at e
    exact ⟨b, off, e.1.trans e2⟩
  have hs' : 41 ≤ len := by rw [hlen.out]; exact hs
  obtain ⟨N, hN⟩ : ∃ N, Hid (N = dsN l) := ⟨_, Lib.hid rfl⟩
  have HW := ref_ways l hs
  rw [← hN.out] at HW
  have HWAYS := Lib.hid HW
  clear HW
  have HLT : N < 4294967296 := by rw [hN.out]; exact dsN_lt l
  have HG : Hid (∀ W, Byt W (.slice (some ⟨bx, ox, none⟩) len cap) l → Calls Try.prog 23 #[.slice (some ⟨bx, ox, none⟩) len cap, .int .i64 16, .int .i64 4] W fun e w' => (∃ E, e = .returned (.tuple #[.int .u64 (N : Int), .int .i64 E])) ∧ Below W.heap.size W w') := Lib.hid (fun W h => by
    have := refGet_calls _ l 16 4 W h (by unfold I64; omega) (by unfold I64; omega) (by have := hlen.out; omega)
    have hg : gotL l 16 4 = dsN l := by
      unfold gotL getOk
      rw [show sizedB 4 = true by decide, (withinB_iff _ _ _).2 (by omega), if_pos (by rfl)]
      rfl
    rw [hg] at this
    rw [hN.out]
    exact this.mono fun e w' ⟨he, hb⟩ => ⟨⟨_, he⟩, hb⟩)
  have HT : Hid (∀ v W, Byt W v (l.take 16) → Calls Try.prog 22 #[v] W fun e w' => e = .returned (.tuple #[tmV (rd (l.take 16)), .int .i64 (rdE (l.take 16))]) ∧ Below W.heap.size W w') := Lib.hid (fun v W h => refRead_calls v _ W h)
  have hh := byt_head HV.out hlen.out (q := 16) (by omega)
  have hsl := hh.1
  have HH := Lib.hid hh.2
  clear hh
  have HZ0 : Hid (tmV tm0 = .agg #[.int .u16 0, .int .u8 0, .int .u8 0, .int .u8 0, .int .u8 0, .int .u8 0]) := Lib.hid rfl
  have HWT := Lib.hid (fun p q b d W hp hq hb hd => refDsWrite_calls (rdT (l.take 16)) (rdT_fit _) p q b d W hp hq hb hd)
  have HB_0 := Lib.hid (Below.refl w0.heap.size w0)
  have HB_1 := Lib.hid (HB_0.out.alloc HB_0.out.size (.cells #[.int .u16 0, .int .u8 0, .int .u8 0, .int .u8 0, .int .u8 0, .int .u8 0] 25))
  have R2_1 := Lib.hid (RowAt.new w0 #[.int .u16 0, .int .u8 0, .int .u8 0, .int .u8 0, .int .u8 0, .int .u8 0] 25 (w0.heap.size) (by first | rfl | simp))
  have HB_2 := Lib.hid (HB_1.out.alloc HB_1.out.size (.cells #[.int .u16 0, .int .u8 0, .int .u8 0, .int .u8 0, .int .u8 0, .int .u8 0] 25))
  have R2_2 := Lib.hid (RowAt.alloc R2_1.out (.cells #[.int .u16 0, .int .u8 0, .int .u8 0, .int .u8 0, .int .u8 0, .int .u8 0] 25))
  have R6_2 := Lib.hid (RowAt.new (w0.alloc (.cells #[.int .u16 0, .int .u8 0, .int .u8 0, .int .u8 0, .int .u8 0, .int .u8 0] 25)) #[.int .u16 0, .int .u8 0, .int .u8 0, .int .u8 0, .int .u8 0, .int .u8 0] 25 (w0.heap.size + 1) (by first | rfl | simp))
  have HVa := Lib.hid (HV.out.below (HB_2.out))
  have HHa := Lib.hid (HH.out.below (HB_2.out))
  go_enter Try.func10, Try.ntmps10
  go_wp2_with fail
  clear hsl
  have ht := HT.out _ _ HHa.out
  have HW := HWAYS.out
  rcases HW with ⟨hb1, hno⟩ | ⟨hb1, HW⟩
  · have HNO := Lib.hid hno
    clear hno
    rw [(rd_no _ hb1).1, (rd_no _ hb1).2, HZ0.out] at ht
    refine (ht).mono ?_
    rintro e w3 ⟨rfl, hb⟩
    have HB_3 := Lib.hid (HB_2.out.trans (hb.mono HB_2.out.size))
    have R2_3 := Lib.hid (RowAt.below R2_2.out hb)
    have R6_3 := Lib.hid (RowAt.below R6_2.out hb)
    have BV_3 := Lib.hid (Byt.below HVa.out hb)
    clear ht
    clear hb
    have HB_4 := Lib.hid (HB_3.out.alloc HB_3.out.size (.cells #[.int .u16 0, .int .u8 0, .int .u8 0, .int .u8 0, .int .u8 0, .int .u8 0] 25))
    have R2_4 := Lib.hid (RowAt.alloc R2_3.out (.cells #[.int .u16 0, .int .u8 0, .int .u8 0, .int .u8 0, .int .u8 0, .int .u8 0] 25))
    have R6_4 := Lib.hid (RowAt.alloc R6_3.out (.cells #[.int .u16 0, .int .u8 0, .int .u8 0, .int .u8 0, .int .u8 0, .int .u8 0] 25))
    have BV_4 := Lib.hid (Byt.below BV_3.out ((Below.refl _ _).alloc (Nat.le_refl _) (.cells #[.int .u16 0, .int .u8 0, .int .u8 0, .int .u8 0, .int .u8 0, .int .u8 0] 25)))
    have R7_4 := Lib.hid (RowAt.new w3 #[.int .u16 0, .int .u8 0, .int .u8 0, .int .u8 0, .int .u8 0, .int .u8 0] 25 (w3.heap.size) (by first | rfl | simp))
    go_wp2_with fail
    refine (HG.out _ BV_4.out).mono ?_
    rintro e w5 ⟨⟨E5, rfl⟩, hb⟩
    have HB_5 := Lib.hid (HB_4.out.trans (hb.mono HB_4.out.size))
    have R2_5 := Lib.hid (RowAt.below R2_4.out hb)
    have R6_5 := Lib.hid (RowAt.below R6_4.out hb)
    have BV_5 := Lib.hid (Byt.below BV_4.out hb)
    have R7_5 := Lib.hid (RowAt.below R7_4.out hb)
    clear hb
    have R2c0 := R2_5.out.cell 0 (.int .u16 0) rfl
    have R2c1 := R2_5.out.cell 1 (.int .u8 0) rfl
    have R2c2 := R2_5.out.cell 2 (.int .u8 0) rfl
    have R2c3 := R2_5.out.cell 3 (.int .u8 0) rfl
    have R2c4 := R2_5.out.cell 4 (.int .u8 0) rfl
    have R2c5 := R2_5.out.cell 5 (.int .u8 0) rfl
    have R2z := R2_5.out.lt
    have R2f := R2_5.out.free
    have R6c0 := R6_5.out.cell 0 (.int .u16 0) rfl
    have R6c1 := R6_5.out.cell 1 (.int .u8 0) rfl
    have R6c2 := R6_5.out.cell 2 (.int .u8 0) rfl
    have R6c3 := R6_5.out.cell 3 (.int .u8 0) rfl
    have R6c4 := R6_5.out.cell 4 (.int .u8 0) rfl
    have R6c5 := R6_5.out.cell 5 (.int .u8 0) rfl
    have R6z := R6_5.out.lt
    have H6 := Lib.hid (row_six R2_5.out (.int .u16 0) (.int .u8 0) (.int .u8 0) (.int .u8 0) (.int .u8 0) (.int .u8 0))
    have g0 := H6.out.cell 0 (.int .u16 0) rfl
    have g1 := H6.out.cell 1 (.int .u8 0) rfl
    have g2 := H6.out.cell 2 (.int .u8 0) rfl
    have g3 := H6.out.cell 3 (.int .u8 0) rfl
    have g4 := H6.out.cell 4 (.int .u8 0) rfl
    have g5 := H6.out.cell 5 (.int .u8 0) rfl
    have BEL := Lib.hid (below_six HB_5.out (b := w0.heap.size) (Nat.le_refl _) (.int .u16 0) (.int .u8 0) (.int .u8 0) (.int .u8 0) (.int .u8 0) (.int .u8 0))
    go_wp2
    refine bodyPost_ret (v := .tuple #[.agg #[.int .u16 0, .int .u8 0, .int .u8 0, .int .u8 0, .int .u8 0, .int .u8 0], .slice none 0 0, .slice none 0 0, .int .i64 9]) (by simp [results, Try.results10, go_sem, g0, g1, g2, g3, g4, g5]) rfl ?_
    exact Res.no HNO.out BEL.out
  have HW2 := Lib.hid HW
  clear HW
  obtain ⟨⟨y0, mo, dd, hh, mi, se⟩, hTT⟩ : ∃ T, Hid (T = rdT (l.take 16)) := ⟨_, Lib.hid rfl⟩
  rw [(rd_yes _ hb1).1, (rd_yes _ hb1).2, ← hTT.out] at ht
  unfold tmV at ht
  simp only at ht
  rw [← hTT.out] at HW2 HWT
  unfold tmV at HWT
  simp only at HWT
  clear hb1
  refine (ht).mono ?_
  rintro e w3 ⟨rfl, hb⟩
  have HB_3 := Lib.hid (HB_2.out.trans (hb.mono HB_2.out.size))
  have R2_3 := Lib.hid (RowAt.below R2_2.out hb)
  have R6_3 := Lib.hid (RowAt.below R6_2.out hb)
  have BV_3 := Lib.hid (Byt.below HVa.out hb)
  clear ht
  clear hb
  have HB_4 := Lib.hid (HB_3.out.alloc HB_3.out.size (.cells #[.int .u16 y0, .int .u8 mo, .int .u8 dd, .int .u8 hh, .int .u8 mi, .int .u8 se] 25))
  have R2_4 := Lib.hid (RowAt.alloc R2_3.out (.cells #[.int .u16 y0, .int .u8 mo, .int .u8 dd, .int .u8 hh, .int .u8 mi, .int .u8 se] 25))
  have R6_4 := Lib.hid (RowAt.alloc R6_3.out (.cells #[.int .u16 y0, .int .u8 mo, .int .u8 dd, .int .u8 hh, .int .u8 mi, .int .u8 se] 25))
  have BV_4 := Lib.hid (Byt.below BV_3.out ((Below.refl _ _).alloc (Nat.le_refl _) (.cells #[.int .u16 y0, .int .u8 mo, .int .u8 dd, .int .u8 hh, .int .u8 mi, .int .u8 se] 25)))
  have R7_4 := Lib.hid (RowAt.new w3 #[.int .u16 y0, .int .u8 mo, .int .u8 dd, .int .u8 hh, .int .u8 mi, .int .u8 se] 25 (w3.heap.size) (by first | rfl | simp))
  go_wp2_with fail
  refine (HG.out _ BV_4.out).mono ?_
  rintro e w5 ⟨⟨E5, rfl⟩, hb⟩
  have HB_5 := Lib.hid (HB_4.out.trans (hb.mono HB_4.out.size))
  have R2_5 := Lib.hid (RowAt.below R2_4.out hb)
  have R6_5 := Lib.hid (RowAt.below R6_4.out hb)
  have BV_5 := Lib.hid (Byt.below BV_4.out hb)
  have R7_5 := Lib.hid (RowAt.below R7_4.out hb)
  clear hb
  have HW := HW2.out
  rcases HW with ⟨hn, hno⟩ | ⟨hn, ⟨hsh, hno⟩ | ⟨hsh, HW⟩⟩
  · have HNO := Lib.hid hno
    clear hno
    have t1 : decide ((N : Int) < 25) = true := by simp; omega
    have R2c0 := R2_5.out.cell 0 (.int .u16 0) rfl
    have R2c1 := R2_5.out.cell 1 (.int .u8 0) rfl
    have R2c2 := R2_5.out.cell 2 (.int .u8 0) rfl
    have R2c3 := R2_5.out.cell 3 (.int .u8 0) rfl
    have R2c4 := R2_5.out.cell 4 (.int .u8 0) rfl
    have R2c5 := R2_5.out.cell 5 (.int .u8 0) rfl
    have R2z := R2_5.out.lt
    have R2f := R2_5.out.free
    have R6c0 := R6_5.out.cell 0 (.int .u16 0) rfl
    have R6c1 := R6_5.out.cell 1 (.int .u8 0) rfl
    have R6c2 := R6_5.out.cell 2 (.int .u8 0) rfl
    have R6c3 := R6_5.out.cell 3 (.int .u8 0) rfl
    have R6c4 := R6_5.out.cell 4 (.int .u8 0) rfl
    have R6c5 := R6_5.out.cell 5 (.int .u8 0) rfl
    have R6z := R6_5.out.lt
    have H6 := Lib.hid (row_six R2_5.out (.int .u16 0) (.int .u8 0) (.int .u8 0) (.int .u8 0) (.int .u8 0) (.int .u8 0))
    have g0 := H6.out.cell 0 (.int .u16 0) rfl
    have g1 := H6.out.cell 1 (.int .u8 0) rfl
    have g2 := H6.out.cell 2 (.int .u8 0) rfl
    have g3 := H6.out.cell 3 (.int .u8 0) rfl
    have g4 := H6.out.cell 4 (.int .u8 0) rfl
    have g5 := H6.out.cell 5 (.int .u8 0) rfl
    have BEL := Lib.hid (below_six HB_5.out (b := w0.heap.size) (Nat.le_refl _) (.int .u16 0) (.int .u8 0) (.int .u8 0) (.int .u8 0) (.int .u8 0) (.int .u8 0))
    go_wp2
    refine bodyPost_ret (v := .tuple #[.agg #[.int .u16 0, .int .u8 0, .int .u8 0, .int .u8 0, .int .u8 0, .int .u8 0], .slice none 0 0, .slice none 0 0, .int .i64 9]) (by simp [results, Try.results10, go_sem, g0, g1, g2, g3, g4, g5]) rfl ?_
    exact Res.no HNO.out BEL.out
  · have HNO := Lib.hid hno
    clear hno
    rw [← hlen.out] at hsh
    have t1 : decide ((N : Int) < 25) = false := by simp; omega
    have t2 : IntKind.u64.wrap ((len : Int) - 16) = (len : Int) - 16 := IntWalk.u64_in _ (by omega)
    have t3 : decide ((len : Int) - 16 < (N : Int)) = true := by simp; omega
    have R2c0 := R2_5.out.cell 0 (.int .u16 0) rfl
    have R2c1 := R2_5.out.cell 1 (.int .u8 0) rfl
    have R2c2 := R2_5.out.cell 2 (.int .u8 0) rfl
    have R2c3 := R2_5.out.cell 3 (.int .u8 0) rfl
    have R2c4 := R2_5.out.cell 4 (.int .u8 0) rfl
    have R2c5 := R2_5.out.cell 5 (.int .u8 0) rfl
    have R2z := R2_5.out.lt
    have R2f := R2_5.out.free
    have R6c0 := R6_5.out.cell 0 (.int .u16 0) rfl
    have R6c1 := R6_5.out.cell 1 (.int .u8 0) rfl
    have R6c2 := R6_5.out.cell 2 (.int .u8 0) rfl
    have R6c3 := R6_5.out.cell 3 (.int .u8 0) rfl
    have R6c4 := R6_5.out.cell 4 (.int .u8 0) rfl
    have R6c5 := R6_5.out.cell 5 (.int .u8 0) rfl
    have R6z := R6_5.out.lt
    have H6 := Lib.hid (row_six R2_5.out (.int .u16 0) (.int .u8 0) (.int .u8 0) (.int .u8 0) (.int .u8 0) (.int .u8 0))
    have g0 := H6.out.cell 0 (.int .u16 0) rfl
    have g1 := H6.out.cell 1 (.int .u8 0) rfl
    have g2 := H6.out.cell 2 (.int .u8 0) rfl
    have g3 := H6.out.cell 3 (.int .u8 0) rfl
    have g4 := H6.out.cell 4 (.int .u8 0) rfl
    have g5 := H6.out.cell 5 (.int .u8 0) rfl
    have BEL := Lib.hid (below_six HB_5.out (b := w0.heap.size) (Nat.le_refl _) (.int .u16 0) (.int .u8 0) (.int .u8 0) (.int .u8 0) (.int .u8 0) (.int .u8 0))
    go_wp2
    refine bodyPost_ret (v := .tuple #[.agg #[.int .u16 0, .int .u8 0, .int .u8 0, .int .u8 0, .int .u8 0, .int .u8 0], .slice none 0 0, .slice none 0 0, .int .i64 9]) (by simp [results, Try.results10, go_sem, g0, g1, g2, g3, g4, g5]) rfl ?_
    exact Res.no HNO.out BEL.out
  rw [← hlen.out] at hsh
  have HW3 := Lib.hid HW
  clear HW
  have t1 : decide ((N : Int) < 25) = false := by simp; omega
  have t2 : IntKind.u64.wrap ((len : Int) - 16) = (len : Int) - 16 := IntWalk.u64_in _ (by omega)
  have t3 : decide ((len : Int) - 16 < (N : Int)) = false := by simp; omega
  have t4 : IntKind.u64.wrap (16 + (N : Int)) = 16 + (N : Int) := IntWalk.u64_in _ (by omega)
  obtain ⟨y1, hs1, HM⟩ := byt_mid .i64 .u64 HV.out hlen.out (p := 40) (q := 16 + N) (by omega) (by omega)
  obtain ⟨y2, hs2, HE⟩ := byt_end .u64 HV.out hlen.out (p := 16 + N) (by omega)
  rw [show ((40 : Nat) : Int) = 40 from rfl, show ((16 + N : Nat) : Int) = 16 + (N : Int) by omega] at hs1
  rw [show ((16 + N : Nat) : Int) = 16 + (N : Int) by omega] at hs2
  have HFB : Hid (dsBl l = (l.drop 40).take (16 + N - 40)) := Lib.hid (by unfold dsBl; rw [← hN.out, show 16 + N - 40 = N - 24 by omega])
  have HFD : Hid (dsDt l = l.drop (16 + N)) := Lib.hid (by unfold dsDt; rw [← hN.out])
  rw [← HFB.out] at HM
  rw [← HFD.out] at HE
  have HM1 := Lib.hid (HM.below HB_5.out)
  have HE1 := Lib.hid (HE.below HB_5.out)
  have HBL : Hid ((dsBl l).length ≤ 100000000) := Lib.hid (by rw [HFB.out, List.length_take, List.length_drop]; have := hlen.out; omega)
  have HDL : Hid ((dsDt l).length ≤ 100000000) := Lib.hid (by rw [HFD.out, List.length_drop]; have := hlen.out; omega)
  clear HM HE HFB HFD
  have HB_6 := Lib.hid (HB_5.out.alloc HB_5.out.size (.cells #[] 5))
  have R2_6 := Lib.hid (RowAt.alloc R2_5.out (.cells #[] 5))
  have R6_6 := Lib.hid (RowAt.alloc R6_5.out (.cells #[] 5))
  have BV_6 := Lib.hid (Byt.below BV_5.out ((Below.refl _ _).alloc (Nat.le_refl _) (.cells #[] 5)))
  have R7_6 := Lib.hid (RowAt.alloc R7_5.out (.cells #[] 5))
  have BM_6 := Lib.hid (Byt.below HM1.out ((Below.refl _ _).alloc (Nat.le_refl _) (.cells #[] 5)))
  have BE_6 := Lib.hid (Byt.below HE1.out ((Below.refl _ _).alloc (Nat.le_refl _) (.cells #[] 5)))
  go_wp2_with (first
    | (at_builtin; refine wpList_append_byt rfl _ _ rfl (w0.heap.size + 2) (.slice (some ⟨_, 0, none⟩) 0 0) [] rfl (OwnB.empty _ _ _) _ (dsBl l) rfl BM_6.out (by have := HBL.out; simp; omega) R6_6.out.lt ?_; intro v7 w7 ho7 hg7 _; rw [List.nil_append] at ho7; have hb7 := (Below.refl _ _).grown hg7 (Nat.le_refl _) (fun k hk => by simp [ownB] at hk); have HB_7 := Lib.hid (HB_6.out.trans (hb7.mono HB_6.out.size)); have R2_7 := Lib.hid (RowAt.below R2_6.out hb7); have R6_7 := Lib.hid (RowAt.below R6_6.out hb7); have BV_7 := Lib.hid (Byt.below BV_6.out hb7); have R7_7 := Lib.hid (RowAt.below R7_6.out hb7); have BM_7 := Lib.hid (Byt.below BM_6.out hb7); have BE_7 := Lib.hid (Byt.below BE_6.out hb7); have OB_7 := Lib.hid (ho7); clear hb7 ho7 hg7; have HB_8 := Lib.hid (HB_7.out.alloc HB_7.out.size (.cells #[] 5)); have R2_8 := Lib.hid (RowAt.alloc R2_7.out (.cells #[] 5)); have R6_8 := Lib.hid (RowAt.alloc R6_7.out (.cells #[] 5)); have BV_8 := Lib.hid (Byt.below BV_7.out ((Below.refl _ _).alloc (Nat.le_refl _) (.cells #[] 5))); have R7_8 := Lib.hid (RowAt.alloc R7_7.out (.cells #[] 5)); have BM_8 := Lib.hid (Byt.below BM_7.out ((Below.refl _ _).alloc (Nat.le_refl _) (.cells #[] 5))); have BE_8 := Lib.hid (Byt.below BE_7.out ((Below.refl _ _).alloc (Nat.le_refl _) (.cells #[] 5))); have OB_8 := Lib.hid (OwnB.alloc OB_7.out (.cells #[] 5)))
    | (at_builtin; refine wpList_append_byt rfl _ _ rfl (w0.heap.size + 2) (.slice (some ⟨_, 0, none⟩) 0 0) [] rfl (OwnB.empty _ _ _) _ (dsDt l) rfl BE_8.out (by have := HDL.out; simp; omega) R6_8.out.lt ?_; intro v9 w9 ho9 hg9 _; rw [List.nil_append] at ho9; have hb9 := (Below.refl _ _).grown hg9 (Nat.le_refl _) (fun k hk => by simp [ownB] at hk); have HB_9 := Lib.hid (HB_8.out.trans (hb9.mono HB_8.out.size)); have R2_9 := Lib.hid (RowAt.below R2_8.out hb9); have R6_9 := Lib.hid (RowAt.below R6_8.out hb9); have BV_9 := Lib.hid (Byt.below BV_8.out hb9); have R7_9 := Lib.hid (RowAt.below R7_8.out hb9); have BM_9 := Lib.hid (Byt.below BM_8.out hb9); have BE_9 := Lib.hid (Byt.below BE_8.out hb9); have OB_9 := Lib.hid (OwnB.below OB_8.out hb9); have OD_9 := Lib.hid (ho9); clear hb9 ho9 hg9; have R7c0 := R7_9.out.cell 0 (.int .u16 y0) rfl; have R7c1 := R7_9.out.cell 1 (.int .u8 mo) rfl; have R7c2 := R7_9.out.cell 2 (.int .u8 dd) rfl; have R7c3 := R7_9.out.cell 3 (.int .u8 hh) rfl; have R7c4 := R7_9.out.cell 4 (.int .u8 mi) rfl; have R7c5 := R7_9.out.cell 5 (.int .u8 se) rfl; have R7z := R7_9.out.lt))
  have hlB := HBL.out
  have hlD := HDL.out
  have hw := HWT.out _ _ _ _ _ (OwnB.byt OB_9.out) (OwnB.byt OD_9.out) hlB hlD
  clear hlB hlD
  clear R7c0 R7c1 R7c2 R7c3 R7c4 R7c5 R7z
  have HW := HW3.out
  rcases HW with ⟨hd, hno⟩ | ⟨hd, HW⟩
  · have HNO := Lib.hid hno
    clear hno
    have hrw := wr_no _ (dsBl l) (dsDt l) hd
    rw [hrw.1, hrw.2] at hw
    clear hrw
    refine (hw).mono ?_
    rintro e w10 ⟨vc, rfl, hoc, hb⟩
    have HB_10 := Lib.hid (HB_9.out.trans (hb.mono HB_9.out.size))
    have R2_10 := Lib.hid (RowAt.below R2_9.out hb)
    have R6_10 := Lib.hid (RowAt.below R6_9.out hb)
    have BV_10 := Lib.hid (Byt.below BV_9.out hb)
    have R7_10 := Lib.hid (RowAt.below R7_9.out hb)
    have BM_10 := Lib.hid (Byt.below BM_9.out hb)
    have BE_10 := Lib.hid (Byt.below BE_9.out hb)
    have OB_10 := Lib.hid (OwnB.below OB_9.out hb)
    have OD_10 := Lib.hid (OwnB.below OD_9.out hb)
    clear hw hoc
    clear hb
    have R2c0 := R2_10.out.cell 0 (.int .u16 0) rfl
    have R2c1 := R2_10.out.cell 1 (.int .u8 0) rfl
    have R2c2 := R2_10.out.cell 2 (.int .u8 0) rfl
    have R2c3 := R2_10.out.cell 3 (.int .u8 0) rfl
    have R2c4 := R2_10.out.cell 4 (.int .u8 0) rfl
    have R2c5 := R2_10.out.cell 5 (.int .u8 0) rfl
    have R2z := R2_10.out.lt
    have R2f := R2_10.out.free
    have R6c0 := R6_10.out.cell 0 (.int .u16 0) rfl
    have R6c1 := R6_10.out.cell 1 (.int .u8 0) rfl
    have R6c2 := R6_10.out.cell 2 (.int .u8 0) rfl
    have R6c3 := R6_10.out.cell 3 (.int .u8 0) rfl
    have R6c4 := R6_10.out.cell 4 (.int .u8 0) rfl
    have R6c5 := R6_10.out.cell 5 (.int .u8 0) rfl
    have R6z := R6_10.out.lt
    have H6 := Lib.hid (row_six R2_10.out (.int .u16 0) (.int .u8 0) (.int .u8 0) (.int .u8 0) (.int .u8 0) (.int .u8 0))
    have g0 := H6.out.cell 0 (.int .u16 0) rfl
    have g1 := H6.out.cell 1 (.int .u8 0) rfl
    have g2 := H6.out.cell 2 (.int .u8 0) rfl
    have g3 := H6.out.cell 3 (.int .u8 0) rfl
    have g4 := H6.out.cell 4 (.int .u8 0) rfl
    have g5 := H6.out.cell 5 (.int .u8 0) rfl
    have BEL := Lib.hid (below_six HB_10.out (b := w0.heap.size) (Nat.le_refl _) (.int .u16 0) (.int .u8 0) (.int .u8 0) (.int .u8 0) (.int .u8 0) (.int .u8 0))
    go_wp2
    refine bodyPost_ret (v := .tuple #[.agg #[.int .u16 0, .int .u8 0, .int .u8 0, .int .u8 0, .int .u8 0, .int .u8 0], .slice none 0 0, .slice none 0 0, .int .i64 9]) (by simp [results, Try.results10, go_sem, g0, g1, g2, g3, g4, g5]) rfl ?_
    exact Res.no HNO.out BEL.out
  have hrw := wr_yes ⟨y0, mo, dd, hh, mi, se⟩ (dsBl l) (dsDt l) hd
  rw [hrw.1, hrw.2] at hw
  clear hrw hd
  have HWW := Lib.hid HW
  clear HW
  refine (hw).mono ?_
  rintro e w10 ⟨vc, rfl, hoc, hb⟩
  have HB_10 := Lib.hid (HB_9.out.trans (hb.mono HB_9.out.size))
  have R2_10 := Lib.hid (RowAt.below R2_9.out hb)
  have R6_10 := Lib.hid (RowAt.below R6_9.out hb)
  have BV_10 := Lib.hid (Byt.below BV_9.out hb)
  have R7_10 := Lib.hid (RowAt.below R7_9.out hb)
  have BM_10 := Lib.hid (Byt.below BM_9.out hb)
  have BE_10 := Lib.hid (Byt.below BE_9.out hb)
  have OB_10 := Lib.hid (OwnB.below OB_9.out hb)
  have OD_10 := Lib.hid (OwnB.below OD_9.out hb)
  clear hw
  clear hb
  obtain ⟨F, hF⟩ : ∃ F, Hid (F = dsW ⟨y0, mo, dd, hh, mi, se⟩ (dsBl l) (dsDt l)) := ⟨_, Lib.hid rfl⟩
  rw [← hF.out] at hoc
  have hc1 := run_tostring (P := Try.prog) hoc.byt 22 9 5 Try.underlying22 Try.underlying5 Try.underlying9
  have hc2 := run_tostring (P := Try.prog) BV_10.out 22 9 5 Try.underlying22 Try.underlying5 Try.underlying9
  clear hoc
  have HEQ := Lib.hid (sOf_beq F l)
  obtain ⟨S1, hS1⟩ : ∃ S, Hid (S = sOf F) := ⟨_, Lib.hid rfl⟩
  obtain ⟨S2, hS2⟩ : ∃ S, Hid (S = sOf l) := ⟨_, Lib.hid rfl⟩
  rw [← hS1.out] at HEQ hc1
  rw [← hS2.out] at HEQ hc2
  have HW := HWW.out
  rw [← hF.out] at HW
  rcases HW with ⟨hq, hno⟩ | ⟨hq, hyes⟩
  · have HNO := Lib.hid hno
    clear hno
    have he : (S1.toList == S2.toList) = false := by rw [HEQ.out]; exact decide_eq_false hq
    clear hq
    have R2c0 := R2_10.out.cell 0 (.int .u16 0) rfl
    have R2c1 := R2_10.out.cell 1 (.int .u8 0) rfl
    have R2c2 := R2_10.out.cell 2 (.int .u8 0) rfl
    have R2c3 := R2_10.out.cell 3 (.int .u8 0) rfl
    have R2c4 := R2_10.out.cell 4 (.int .u8 0) rfl
    have R2c5 := R2_10.out.cell 5 (.int .u8 0) rfl
    have R2z := R2_10.out.lt
    have R2f := R2_10.out.free
    have R6c0 := R6_10.out.cell 0 (.int .u16 0) rfl
    have R6c1 := R6_10.out.cell 1 (.int .u8 0) rfl
    have R6c2 := R6_10.out.cell 2 (.int .u8 0) rfl
    have R6c3 := R6_10.out.cell 3 (.int .u8 0) rfl
    have R6c4 := R6_10.out.cell 4 (.int .u8 0) rfl
    have R6c5 := R6_10.out.cell 5 (.int .u8 0) rfl
    have R6z := R6_10.out.lt
    have H6 := Lib.hid (row_six R2_10.out (.int .u16 0) (.int .u8 0) (.int .u8 0) (.int .u8 0) (.int .u8 0) (.int .u8 0))
    have g0 := H6.out.cell 0 (.int .u16 0) rfl
    have g1 := H6.out.cell 1 (.int .u8 0) rfl
    have g2 := H6.out.cell 2 (.int .u8 0) rfl
    have g3 := H6.out.cell 3 (.int .u8 0) rfl
    have g4 := H6.out.cell 4 (.int .u8 0) rfl
    have g5 := H6.out.cell 5 (.int .u8 0) rfl
    have BEL := Lib.hid (below_six HB_10.out (b := w0.heap.size) (Nat.le_refl _) (.int .u16 0) (.int .u8 0) (.int .u8 0) (.int .u8 0) (.int .u8 0) (.int .u8 0))
    go_wp2
    refine bodyPost_ret (v := .tuple #[.agg #[.int .u16 0, .int .u8 0, .int .u8 0, .int .u8 0, .int .u8 0, .int .u8 0], .slice none 0 0, .slice none 0 0, .int .i64 9]) (by simp [results, Try.results10, go_sem, g0, g1, g2, g3, g4, g5]) rfl ?_
    exact Res.no HNO.out BEL.out
  have HYES := Lib.hid hyes
  clear hyes
  have he : (S1.toList == S2.toList) = true := by rw [HEQ.out]; exact decide_eq_true hq
  clear hq
  have R2c0 := R2_10.out.cell 0 (.int .u16 0) rfl
  have R2c1 := R2_10.out.cell 1 (.int .u8 0) rfl
  have R2c2 := R2_10.out.cell 2 (.int .u8 0) rfl
  have R2c3 := R2_10.out.cell 3 (.int .u8 0) rfl
  have R2c4 := R2_10.out.cell 4 (.int .u8 0) rfl
  have R2c5 := R2_10.out.cell 5 (.int .u8 0) rfl
  have R2z := R2_10.out.lt
  have R2f := R2_10.out.free
  have R7c0 := R7_10.out.cell 0 (.int .u16 y0) rfl
  have R7c1 := R7_10.out.cell 1 (.int .u8 mo) rfl
  have R7c2 := R7_10.out.cell 2 (.int .u8 dd) rfl
  have R7c3 := R7_10.out.cell 3 (.int .u8 hh) rfl
  have R7c4 := R7_10.out.cell 4 (.int .u8 mi) rfl
  have R7c5 := R7_10.out.cell 5 (.int .u8 se) rfl
  have R7z := R7_10.out.lt
  have H6 := Lib.hid (row_six R2_10.out (.int .u16 y0) (.int .u8 mo) (.int .u8 dd) (.int .u8 hh) (.int .u8 mi) (.int .u8 se))
  have g0 := H6.out.cell 0 (.int .u16 y0) rfl
  have g1 := H6.out.cell 1 (.int .u8 mo) rfl
  have g2 := H6.out.cell 2 (.int .u8 dd) rfl
  have g3 := H6.out.cell 3 (.int .u8 hh) rfl
  have g4 := H6.out.cell 4 (.int .u8 mi) rfl
  have g5 := H6.out.cell 5 (.int .u8 se) rfl
  have BEL := Lib.hid (below_six HB_10.out (b := w0.heap.size) (Nat.le_refl _) (.int .u16 y0) (.int .u8 mo) (.int .u8 dd) (.int .u8 hh) (.int .u8 mi) (.int .u8 se))
  have OB' := Lib.hid (own_six OB_10.out (b := w0.heap.size) (by omega) (.int .u16 y0) (.int .u8 mo) (.int .u8 dd) (.int .u8 hh) (.int .u8 mi) (.int .u8 se))
  have OD' := Lib.hid (own_six OD_10.out (b := w0.heap.size) (by omega) (.int .u16 y0) (.int .u8 mo) (.int .u8 dd) (.int .u8 hh) (.int .u8 mi) (.int .u8 se))
  go_wp2
  refine bodyPost_ret (v := .tuple #[.agg #[.int .u16 y0, .int .u8 mo, .int .u8 dd, .int .u8 hh, .int .u8 mi, .int .u8 se], v7, v9, .int .i64 0]) (by simp [results, Try.results10, go_sem, g0, g1, g2, g3, g4, g5]) rfl ?_
  exact Res.yes HYES.out _ _ _ hTT.out (OB'.out.mono (by omega)) (OD'.out.mono (by omega)) BEL.out

theorem refDsRead_calls (v : Value) (l : List UInt8) (w0 : World) (hv : Byt w0 v l) (hl : l.length ≤ 100000000) : Calls Try.prog 10 #[v] w0 (Res l w0) := by
  by_cases h : l.length < 41
  · exact refDsRead_short v l w0 hv hl h
  · exact refDsRead_long v l w0 hv hl (by omega)
end Go.Proofs.Ytemojckmnlgkdaa
