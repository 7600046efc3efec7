/-
  The walk of the law StampBack.
-/
import Derived.Test.YtjjggnipicpjkaaStWorks
import Derived.Test.YtjjggnipicpjkaaStBackPlain
import Derived.Test.YtjjggnipicpjkaaRow
import Derived.Test.YtjjggnipicpjkaaTextHead
namespace Go.Proofs.Ytjjggnipicpjkaa
open Go Go.RowKit
set_option linter.unusedVariables false

/-- Six cells of a block written. -/
@[reducible] def set6 (w : World) (b : Nat) (d0 d1 d2 d3 d4 d5 : Value) : World :=
  (((((w.setCell ⟨b, 0, none⟩ d0).setCell ⟨b, 1, none⟩ d1).setCell ⟨b, 2, none⟩ d2).setCell ⟨b, 3, none⟩ d3).setCell ⟨b, 4, none⟩ d4).setCell ⟨b, 5, none⟩ d5
theorem below_set6 {B : Nat} {w w' : World} (h : Below B w w') {b : Nat} (hb : B ≤ b) (d0 d1 d2 d3 d4 d5 : Value) : Below B w (set6 w' b d0 d1 d2 d3 d4 d5) :=
  (((((h.setCell (p := ⟨b, 0, none⟩) hb d0).setCell (p := ⟨b, 1, none⟩) hb d1).setCell (p := ⟨b, 2, none⟩) hb d2).setCell (p := ⟨b, 3, none⟩) hb d3).setCell (p := ⟨b, 4, none⟩) hb d4).setCell (p := ⟨b, 5, none⟩) hb d5
theorem RowAt.set6far {w : World} {k b : Nat} {cs : Array Value} (h : RowAt w k cs) (hne : b ≠ k) (d0 d1 d2 d3 d4 d5 : Value) : RowAt (Go.Proofs.Ytjjggnipicpjkaa.set6 w b d0 d1 d2 d3 d4 d5) k cs :=
  (((((h.far hne).far hne).far hne).far hne).far hne).far hne
theorem RowAt.set6 {w : World} {b : Nat} {c0 c1 c2 c3 c4 c5 : Value} (h : RowAt w b #[c0, c1, c2, c3, c4, c5]) (d0 d1 d2 d3 d4 d5 : Value) : RowAt (Go.Proofs.Ytjjggnipicpjkaa.set6 w b d0 d1 d2 d3 d4 d5) b #[d0, d1, d2, d3, d4, d5] :=
  (((((h.set (i := 0) (u := d0) (by simp)).set (i := 1) (u := d1) (by simp)).set (i := 2) (u := d2) (by simp)).set (i := 3) (u := d3) (by simp)).set (i := 4) (u := d4) (by simp)).set (i := 5) (u := d5) (by simp)

/-- What is read of bytes, in its two ways. -/
def ReadWays (v : Value) (l : List UInt8) (w : World) : Prop :=
  (∃ q1 : Tm, Hid (∀ W, Below w.heap.size w W → Calls Try.prog 15 #[v] W fun e w' => e = .returned (.tuple #[.agg #[.int .u16 q1.y, .int .u8 q1.mo, .int .u8 q1.d, .int .u8 q1.h, .int .u8 q1.mi, .int .u8 q1.s], .int .i64 9]) ∧ Below W.heap.size W w')) ∨
  (∃ q1 : Tm, Hid (∀ W, Below w.heap.size w W → Calls Try.prog 15 #[v] W fun e w' => e = .returned (.tuple #[.agg #[.int .u16 q1.y, .int .u8 q1.mo, .int .u8 q1.d, .int .u8 q1.h, .int .u8 q1.mi, .int .u8 q1.s], .int .i64 0]) ∧ Below W.heap.size W w') ∧
    Hid (∀ W, Calls Try.prog 17 #[.agg #[.int .u16 q1.y, .int .u8 q1.mo, .int .u8 q1.d, .int .u8 q1.h, .int .u8 q1.mi, .int .u8 q1.s]] W fun e w' => ∃ v', e = .returned v' ∧ OwnB w' W.heap.size v' l ∧ Below W.heap.size W w'))
theorem read_ways (v : Value) (l : List UInt8) (w : World) (hv : Byt w v l) (hl : l.length ≤ 4096) : ReadWays v l w := by
  unfold ReadWays
  cases hB : rdB l with
  | false =>
    left
    refine ⟨rd l, Lib.hid (fun W hb => ?_)⟩
    have := read_calls v l W (hv.below hb) (by omega)
    rw [(rd_no l hB).2] at this
    exact this
  | true =>
    right
    refine ⟨rdT l, Lib.hid (fun W hb => ?_), Lib.hid (fun W => ?_)⟩
    · have := read_calls v l W (hv.below hb) (by omega)
      rw [(rd_yes l hB).1, (rd_yes l hB).2] at this
      exact this
    · have := write_calls (rdT l) W (rdT_fit l)
      rw [wrL_rdT l hB] at this
      exact this

/-- What is told of bytes, in its two ways. -/
def ToldWays (f : FuncId) (v : Value) (w : World) (P : Tm → Prop) : Prop :=
  (∃ q : Tm, Hid (∀ W, Below w.heap.size w W → Calls Try.prog f #[v] W fun e w' => e = .returned (.tuple #[.agg #[.int .u16 q.y, .int .u8 q.mo, .int .u8 q.d, .int .u8 q.h, .int .u8 q.mi, .int .u8 q.s], .bool false]) ∧ Below W.heap.size W w')) ∨
  (∃ q : Tm, Hid (∀ W, Below w.heap.size w W → Calls Try.prog f #[v] W fun e w' => e = .returned (.tuple #[.agg #[.int .u16 q.y, .int .u8 q.mo, .int .u8 q.d, .int .u8 q.h, .int .u8 q.mi, .int .u8 q.s], .bool true]) ∧ Below W.heap.size W w') ∧
    Hid (∀ W, Calls Try.prog 23 #[.agg #[.int .u16 q.y, .int .u8 q.mo, .int .u8 q.d, .int .u8 q.h, .int .u8 q.mi, .int .u8 q.s]] W fun e w' => e = .returned (.bool true) ∧ Below W.heap.size W w') ∧ P q)

theorem toldT_fit (k : Nat) (f : Int → Int) (l : List UInt8) (h : toldB k f l = true) : (toldT k f l).Fit ∧ rightB (toldT k f l) = true := by
  unfold toldB at h
  rw [Bool.and_eq_true, decide_eq_true_iff] at h
  obtain ⟨⟨h1, h2, h3⟩, h4⟩ := h
  refine ⟨?_, h4⟩
  have hb := right_bd h4
  have hd := numD_le l (k + 10) h3
  have e2 := hd (k + 2) 2 (by omega)
  have e4 := hd (k + 4) 2 (by omega)
  have e6 := hd (k + 6) 2 (by omega)
  have e8 := hd (k + 8) 2 (by omega)
  have hb1 : (toldT k f l).mo = numD l k 2 := rfl
  have hb2 : (toldT k f l).d = numD l (k + 2) 2 := rfl
  have hb3 : (toldT k f l).h = numD l (k + 4) 2 := rfl
  have hb4 : (toldT k f l).mi = numD l (k + 6) 2 := rfl
  have hb5 : (toldT k f l).s = numD l (k + 8) 2 := rfl
  exact ⟨by omega, by omega, by omega, by omega, by omega, by omega⟩

theorem utc_ways (v : Value) (l : List UInt8) (w : World) (hv : Byt w v l) (hl : l.length ≤ 4096) : ToldWays 25 v w (fun q => decide (q.y < 1950) = false ∧ decide (2050 ≤ q.y) = false) := by
  unfold ToldWays
  have hc := fun W (hb : Below w.heap.size w W) => utc_calls v l W (hv.below hb) (by omega)
  cases hB : toldB 2 utcY l with
  | false =>
    left
    refine ⟨told 2 utcY l, Lib.hid (fun W hb => ?_)⟩
    have := hc W hb
    rw [hB] at this
    exact this
  | true =>
    right
    have hf := toldT_fit 2 utcY l hB
    refine ⟨toldT 2 utcY l, Lib.hid (fun W hb => ?_), Lib.hid (fun W => right_any _ _ hf.2 hf.1 W), ?_⟩
    · have := hc W hb
      unfold told at this
      rw [hB, if_pos rfl] at this
      exact this
    · unfold toldB at hB
      rw [Bool.and_eq_true, decide_eq_true_iff] at hB
      have hd := numD_le l 12 hB.1.2.2 0 2 (by omega)
      have e : (toldT 2 utcY l).y = utcY (numD l 0 2) := rfl
      rw [e]
      unfold utcY
      simp only [decide_eq_false_iff_not]
      split <;> omega

theorem gen_ways (v : Value) (l : List UInt8) (w : World) (hv : Byt w v l) (hl : l.length ≤ 4096) : ToldWays 27 v w (fun _ => True) := by
  unfold ToldWays
  have hc := fun W (hb : Below w.heap.size w W) => general_calls v l W (hv.below hb) (by omega)
  cases hB : toldB 4 genY l with
  | false =>
    left
    refine ⟨told 4 genY l, Lib.hid (fun W hb => ?_)⟩
    have := hc W hb
    rw [hB] at this
    exact this
  | true =>
    right
    have hf := toldT_fit 4 genY l hB
    refine ⟨toldT 4 genY l, Lib.hid (fun W hb => ?_), Lib.hid (fun W => right_any _ _ hf.2 hf.1 W), trivial⟩
    have := hc W hb
    unfold told at this
    rw [hB, if_pos rfl] at this
    exact this

/-- What is read of what was written, and the answers of the tests on it. -/
def BackWays (t u : Tm) (R Z : Bool) (e : Int) : Prop :=
  (e = 0 ∧ u = t ∧ (R = true ∨ (R = false ∧ Z = true))) ∨ (e = 9 ∧ u = tm0 ∧ R = false ∧ Z = false)
theorem back_ways (t : Tm) (ht : t.Fit) : BackWays t (rd (wrL t)) (rightB t) (isZ t) (rdE (wrL t)) := by
  have h := rdB_wrL t ht
  unfold BackWays
  cases hR : rightB t with
  | true =>
    rw [hR, Bool.or_true] at h
    exact .inl ⟨(rd_yes _ h).2, by rw [(rd_yes _ h).1, rdT_wrL t ht], .inl rfl⟩
  | false =>
    cases hZ : isZ t with
    | true =>
      rw [hR, hZ] at h
      exact .inl ⟨(rd_yes _ h).2, by rw [(rd_yes _ h).1, rdT_wrL t ht], .inr ⟨rfl, rfl⟩⟩
    | false =>
      rw [hR, hZ] at h
      exact .inr ⟨(rd_no _ h).2, (rd_no _ h).1, rfl, rfl⟩

set_option maxRecDepth 100000 in
set_option maxHeartbeats 16000000 in
theorem stampBack_right (a : Option Addr) (len cap : Nat) (l : List UInt8) (t : Tm) (Zb : Bool) (w : World) (hl : len ≤ 4096) (hv : Hid (Byt w (.slice a len cap) l))
    (HW : Hid (∀ W, Calls Try.prog 17 #[.agg #[.int .u16 t.y, .int .u8 t.mo, .int .u8 t.d, .int .u8 t.h, .int .u8 t.mi, .int .u8 t.s]] W fun e w' => ∃ v', e = .returned v' ∧ OwnB w' W.heap.size v' (wrL t) ∧ Below W.heap.size W w'))
    (HRd : Hid (∀ v W, Byt W v (wrL t) → Calls Try.prog 15 #[v] W fun e w' => e = .returned (.tuple #[.agg #[.int .u16 t.y, .int .u8 t.mo, .int .u8 t.d, .int .u8 t.h, .int .u8 t.mi, .int .u8 t.s], .int .i64 0]) ∧ Below W.heap.size W w'))
    (HRt : Hid (∀ W, Calls Try.prog 23 #[.agg #[.int .u16 t.y, .int .u8 t.mo, .int .u8 t.d, .int .u8 t.h, .int .u8 t.mi, .int .u8 t.s]] W fun e w' => e = .returned (.bool true) ∧ Below W.heap.size W w'))
    (hz : ∀ W, (binOp .eql 25 (.agg #[.int .u16 t.y, .int .u8 t.mo, .int .u8 t.d, .int .u8 t.h, .int .u8 t.mi, .int .u8 t.s]) (.agg #[.int .u16 0, .int .u8 0, .int .u8 0, .int .u8 0, .int .u8 0, .int .u8 0])).run Try.prog W = .ok (.bool Zb) W)
    (hq : ∀ W, (binOp .neq 25 (.agg #[.int .u16 t.y, .int .u8 t.mo, .int .u8 t.d, .int .u8 t.h, .int .u8 t.mi, .int .u8 t.s]) (.agg #[.int .u16 t.y, .int .u8 t.mo, .int .u8 t.d, .int .u8 t.h, .int .u8 t.mi, .int .u8 t.s])).run Try.prog W = .ok (.bool false) W)
    (HBc : Hid (ReadWays (.slice a len cap) l w)) (HUc : Hid (ToldWays 25 (.slice a len cap) w (fun q => decide (q.y < 1950) = false ∧ decide (2050 ≤ q.y) = false))) (HGc : Hid (ToldWays 27 (.slice a len cap) w (fun _ => True))) :
    Calls Try.prog 10 #[.slice a len cap, .agg #[.int .u16 t.y, .int .u8 t.mo, .int .u8 t.d, .int .u8 t.h, .int .u8 t.mi, .int .u8 t.s]] w fun e w' => e = .returned (.bool true) ∧ Below w.heap.size w w' := by
  have hB0 : Hid (Below w.heap.size w (w.alloc (.cells #[.int .u16 t.y, .int .u8 t.mo, .int .u8 t.d, .int .u8 t.h, .int .u8 t.mi, .int .u8 t.s] 25))) := Lib.hid ((Below.refl _ _).alloc (Nat.le_refl _) _)
  have ct0 := Lib.hid (RowAt.new w #[.int .u16 t.y, .int .u8 t.mo, .int .u8 t.d, .int .u8 t.h, .int .u8 t.mi, .int .u8 t.s] 25 w.heap.size rfl)
  go_enter Try.func10, Try.ntmps10
  go_wp2_with fail
  refine (HW.out _).mono ?_
  rintro e w1 ⟨v1, rfl, ho, hb⟩
  have HB1 := Lib.hid (hB0.out.trans (hb.mono hB0.out.size))
  have CT1 := Lib.hid (ct0.out.below hb)
  have HO1 := Lib.hid ho
  clear ho
  clear hb
  go_wp2_with fail
  refine (HRd.out _ _ HO1.out.byt).mono ?_
  rintro e w2 ⟨rfl, hb⟩
  have HB2 := Lib.hid (HB1.out.trans (hb.mono HB1.out.size))
  have CT2 := Lib.hid (CT1.out.below hb)
  have HS2 := Lib.hid (HB2.out.size)
  have hne : w2.heap.size ≠ w.heap.size := by have h1 := CT2.out.lt; omega
  clear hb
  have HBa := Lib.hid (HB2.out.alloc HB2.out.size (.cells #[.int .u16 t.y, .int .u8 t.mo, .int .u8 t.d, .int .u8 t.h, .int .u8 t.mi, .int .u8 t.s] 25))
  have CTa := Lib.hid (CT2.out.alloc (.cells #[.int .u16 t.y, .int .u8 t.mo, .int .u8 t.d, .int .u8 t.h, .int .u8 t.mi, .int .u8 t.s] 25))
  have CUa := Lib.hid (RowAt.new w2 #[.int .u16 t.y, .int .u8 t.mo, .int .u8 t.d, .int .u8 t.h, .int .u8 t.mi, .int .u8 t.s] 25 w2.heap.size rfl)
  have a0 := CT2.out.cell 0 (.int .u16 t.y) rfl
  have a1 := CT2.out.cell 1 (.int .u8 t.mo) rfl
  have a2 := CT2.out.cell 2 (.int .u8 t.d) rfl
  have a3 := CT2.out.cell 3 (.int .u8 t.h) rfl
  have a4 := CT2.out.cell 4 (.int .u8 t.mi) rfl
  have a5 := CT2.out.cell 5 (.int .u8 t.s) rfl
  have za := CT2.out.lt
  go_wp2_with fail
  refine (HRt.out _).mono ?_
  rintro e w3 ⟨rfl, hb⟩
  have HB3 := Lib.hid (HBa.out.trans (hb.mono HBa.out.size))
  have CT3 := Lib.hid (CTa.out.below hb)
  have CU3 := Lib.hid (CUa.out.below hb)
  clear hb a0 a1 a2 a3 a4 a5 za
  have a0 := CT3.out.cell 0 (.int .u16 t.y) rfl
  have a1 := CT3.out.cell 1 (.int .u8 t.mo) rfl
  have a2 := CT3.out.cell 2 (.int .u8 t.d) rfl
  have a3 := CT3.out.cell 3 (.int .u8 t.h) rfl
  have a4 := CT3.out.cell 4 (.int .u8 t.mi) rfl
  have a5 := CT3.out.cell 5 (.int .u8 t.s) rfl
  have za := CT3.out.lt
  have b0 := CU3.out.cell 0 (.int .u16 t.y) rfl
  have b1 := CU3.out.cell 1 (.int .u8 t.mo) rfl
  have b2 := CU3.out.cell 2 (.int .u8 t.d) rfl
  have b3 := CU3.out.cell 3 (.int .u8 t.h) rfl
  have b4 := CU3.out.cell 4 (.int .u8 t.mi) rfl
  have b5 := CU3.out.cell 5 (.int .u8 t.s) rfl
  have zb := CU3.out.lt
  -- shown: a0 a1 a2 a3 a4 a5 za b0 b1 b2 b3 b4 b5 zb
  rcases HBc.out with ⟨q1, HD⟩ | ⟨q1, HD, HW1⟩
  · skip
    go_wp2_with fail
    refine (HD.out _ HB3.out).mono ?_
    rintro e w4 ⟨rfl, hb⟩
    have HB4 := Lib.hid (HB3.out.trans (hb.mono HB3.out.size))
    have CT4 := Lib.hid (CT3.out.below hb)
    have CU4 := Lib.hid (CU3.out.below hb)
    clear hb a0 a1 a2 a3 a4 a5 za b0 b1 b2 b3 b4 b5 zb
    have b0 := CU4.out.cell 0 _ rfl
    have b1 := CU4.out.cell 1 _ rfl
    have b2 := CU4.out.cell 2 _ rfl
    have b3 := CU4.out.cell 3 _ rfl
    have b4 := CU4.out.cell 4 _ rfl
    have b5 := CU4.out.cell 5 _ rfl
    have fz := CU4.out.free
    have zb := CU4.out.lt
    have za := CT4.out.lt
    have HB4s := Lib.hid (below_set6 HB4.out (b := w2.heap.size) HS2.out (.int .u16 q1.y) (.int .u8 q1.mo) (.int .u8 q1.d) (.int .u8 q1.h) (.int .u8 q1.mi) (.int .u8 q1.s))
    have CT4s := Lib.hid (CT4.out.set6far (b := w2.heap.size) hne (.int .u16 q1.y) (.int .u8 q1.mo) (.int .u8 q1.d) (.int .u8 q1.h) (.int .u8 q1.mi) (.int .u8 q1.s))
    have CU4s := Lib.hid (CU4.out.set6 (.int .u16 q1.y) (.int .u8 q1.mo) (.int .u8 q1.d) (.int .u8 q1.h) (.int .u8 q1.mi) (.int .u8 q1.s))
    rcases HUc.out with ⟨q2, HU⟩ | ⟨q2, HU, HR2, q2y⟩
    · skip
      go_wp2_with fail
      refine (HU.out _ HB4s.out).mono ?_
      rintro e w5 ⟨rfl, hb⟩
      have HB5 := Lib.hid (HB4s.out.trans (hb.mono HB4s.out.size))
      have CT5 := Lib.hid (CT4s.out.below hb)
      have CU5 := Lib.hid (CU4s.out.below hb)
      clear hb b0 b1 b2 b3 b4 b5 fz za zb
      have b0 := CU5.out.cell 0 _ rfl
      have b1 := CU5.out.cell 1 _ rfl
      have b2 := CU5.out.cell 2 _ rfl
      have b3 := CU5.out.cell 3 _ rfl
      have b4 := CU5.out.cell 4 _ rfl
      have b5 := CU5.out.cell 5 _ rfl
      have fz := CU5.out.free
      have zb := CU5.out.lt
      have za := CT5.out.lt
      have HB5s := Lib.hid (below_set6 HB5.out (b := w2.heap.size) HS2.out (.int .u16 q2.y) (.int .u8 q2.mo) (.int .u8 q2.d) (.int .u8 q2.h) (.int .u8 q2.mi) (.int .u8 q2.s))
      have CT5s := Lib.hid (CT5.out.set6far (b := w2.heap.size) hne (.int .u16 q2.y) (.int .u8 q2.mo) (.int .u8 q2.d) (.int .u8 q2.h) (.int .u8 q2.mi) (.int .u8 q2.s))
      have CU5s := Lib.hid (CU5.out.set6 (.int .u16 q2.y) (.int .u8 q2.mo) (.int .u8 q2.d) (.int .u8 q2.h) (.int .u8 q2.mi) (.int .u8 q2.s))
      rcases HGc.out with ⟨q3, HG⟩ | ⟨q3, HG, HR3, _⟩
      · skip
        go_wp2_with fail
        refine (HG.out _ HB5s.out).mono ?_
        rintro e w6 ⟨rfl, hb⟩
        have HB6 := Lib.hid (HB5s.out.trans (hb.mono HB5s.out.size))
        have CT6 := Lib.hid (CT5s.out.below hb)
        have CU6 := Lib.hid (CU5s.out.below hb)
        clear hb b0 b1 b2 b3 b4 b5 fz za zb
        have b0 := CU6.out.cell 0 _ rfl
        have b1 := CU6.out.cell 1 _ rfl
        have b2 := CU6.out.cell 2 _ rfl
        have b3 := CU6.out.cell 3 _ rfl
        have b4 := CU6.out.cell 4 _ rfl
        have b5 := CU6.out.cell 5 _ rfl
        have fz := CU6.out.free
        have zb := CU6.out.lt
        have za := CT6.out.lt
        have HB6s := Lib.hid (below_set6 HB6.out (b := w2.heap.size) HS2.out (.int .u16 q3.y) (.int .u8 q3.mo) (.int .u8 q3.d) (.int .u8 q3.h) (.int .u8 q3.mi) (.int .u8 q3.s))
        have CT6s := Lib.hid (CT6.out.set6far (b := w2.heap.size) hne (.int .u16 q3.y) (.int .u8 q3.mo) (.int .u8 q3.d) (.int .u8 q3.h) (.int .u8 q3.mi) (.int .u8 q3.s))
        have CU6s := Lib.hid (CU6.out.set6 (.int .u16 q3.y) (.int .u8 q3.mo) (.int .u8 q3.d) (.int .u8 q3.h) (.int .u8 q3.mi) (.int .u8 q3.s))
        go_wp2_with fail
        refine (works_calls _).mono ?_
        rintro e w99 ⟨rfl, hb⟩
        have HB99 := Lib.hid (HB6s.out.trans (hb.mono HB6s.out.size))
        clear hb
        go_wp2
        go_ret
        exact ⟨rfl, HB99.out⟩
      · skip
        go_wp2_with fail
        refine (HG.out _ HB5s.out).mono ?_
        rintro e w6 ⟨rfl, hb⟩
        have HB6 := Lib.hid (HB5s.out.trans (hb.mono HB5s.out.size))
        have CT6 := Lib.hid (CT5s.out.below hb)
        have CU6 := Lib.hid (CU5s.out.below hb)
        clear hb b0 b1 b2 b3 b4 b5 fz za zb
        have b0 := CU6.out.cell 0 _ rfl
        have b1 := CU6.out.cell 1 _ rfl
        have b2 := CU6.out.cell 2 _ rfl
        have b3 := CU6.out.cell 3 _ rfl
        have b4 := CU6.out.cell 4 _ rfl
        have b5 := CU6.out.cell 5 _ rfl
        have fz := CU6.out.free
        have zb := CU6.out.lt
        have za := CT6.out.lt
        have HB6s := Lib.hid (below_set6 HB6.out (b := w2.heap.size) HS2.out (.int .u16 q3.y) (.int .u8 q3.mo) (.int .u8 q3.d) (.int .u8 q3.h) (.int .u8 q3.mi) (.int .u8 q3.s))
        have CT6s := Lib.hid (CT6.out.set6far (b := w2.heap.size) hne (.int .u16 q3.y) (.int .u8 q3.mo) (.int .u8 q3.d) (.int .u8 q3.h) (.int .u8 q3.mi) (.int .u8 q3.s))
        have CU6s := Lib.hid (CU6.out.set6 (.int .u16 q3.y) (.int .u8 q3.mo) (.int .u8 q3.d) (.int .u8 q3.h) (.int .u8 q3.mi) (.int .u8 q3.s))
        go_wp2_with fail
        refine (HR3.out _).mono ?_
        rintro e w7 ⟨rfl, hb⟩
        have HB7 := Lib.hid (HB6s.out.trans (hb.mono HB6s.out.size))
        have CT7 := Lib.hid (CT6s.out.below hb)
        have CU7 := Lib.hid (CU6s.out.below hb)
        clear hb b0 b1 b2 b3 b4 b5 fz
        clear za zb
        go_wp2_with fail
        refine (works_calls _).mono ?_
        rintro e w99 ⟨rfl, hb⟩
        have HB99 := Lib.hid (HB7.out.trans (hb.mono HB7.out.size))
        clear hb
        go_wp2
        go_ret
        exact ⟨rfl, HB99.out⟩
    · skip
      go_wp2_with fail
      refine (HU.out _ HB4s.out).mono ?_
      rintro e w5 ⟨rfl, hb⟩
      have HB5 := Lib.hid (HB4s.out.trans (hb.mono HB4s.out.size))
      have CT5 := Lib.hid (CT4s.out.below hb)
      have CU5 := Lib.hid (CU4s.out.below hb)
      clear hb b0 b1 b2 b3 b4 b5 fz za zb
      have b0 := CU5.out.cell 0 _ rfl
      have b1 := CU5.out.cell 1 _ rfl
      have b2 := CU5.out.cell 2 _ rfl
      have b3 := CU5.out.cell 3 _ rfl
      have b4 := CU5.out.cell 4 _ rfl
      have b5 := CU5.out.cell 5 _ rfl
      have fz := CU5.out.free
      have zb := CU5.out.lt
      have za := CT5.out.lt
      have HB5s := Lib.hid (below_set6 HB5.out (b := w2.heap.size) HS2.out (.int .u16 q2.y) (.int .u8 q2.mo) (.int .u8 q2.d) (.int .u8 q2.h) (.int .u8 q2.mi) (.int .u8 q2.s))
      have CT5s := Lib.hid (CT5.out.set6far (b := w2.heap.size) hne (.int .u16 q2.y) (.int .u8 q2.mo) (.int .u8 q2.d) (.int .u8 q2.h) (.int .u8 q2.mi) (.int .u8 q2.s))
      have CU5s := Lib.hid (CU5.out.set6 (.int .u16 q2.y) (.int .u8 q2.mo) (.int .u8 q2.d) (.int .u8 q2.h) (.int .u8 q2.mi) (.int .u8 q2.s))
      go_wp2_with fail
      refine (HR2.out _).mono ?_
      rintro e w6 ⟨rfl, hb⟩
      have HB6 := Lib.hid (HB5s.out.trans (hb.mono HB5s.out.size))
      have CT6 := Lib.hid (CT5s.out.below hb)
      have CU6 := Lib.hid (CU5s.out.below hb)
      clear hb b0 b1 b2 b3 b4 b5 fz za zb
      have y0 := CU6.out.cell 0 (.int .u16 q2.y) rfl
      obtain ⟨y1, y2⟩ := q2y
      rcases HGc.out with ⟨q3, HG⟩ | ⟨q3, HG, HR3, _⟩
      · skip
        go_wp2_with fail
        refine (HG.out _ HB6.out).mono ?_
        rintro e w7 ⟨rfl, hb⟩
        have HB7 := Lib.hid (HB6.out.trans (hb.mono HB6.out.size))
        have CT7 := Lib.hid (CT6.out.below hb)
        have CU7 := Lib.hid (CU6.out.below hb)
        clear hb y0 y1 y2
        have b0 := CU7.out.cell 0 _ rfl
        have b1 := CU7.out.cell 1 _ rfl
        have b2 := CU7.out.cell 2 _ rfl
        have b3 := CU7.out.cell 3 _ rfl
        have b4 := CU7.out.cell 4 _ rfl
        have b5 := CU7.out.cell 5 _ rfl
        have fz := CU7.out.free
        have zb := CU7.out.lt
        have za := CT7.out.lt
        have HB7s := Lib.hid (below_set6 HB7.out (b := w2.heap.size) HS2.out (.int .u16 q3.y) (.int .u8 q3.mo) (.int .u8 q3.d) (.int .u8 q3.h) (.int .u8 q3.mi) (.int .u8 q3.s))
        have CT7s := Lib.hid (CT7.out.set6far (b := w2.heap.size) hne (.int .u16 q3.y) (.int .u8 q3.mo) (.int .u8 q3.d) (.int .u8 q3.h) (.int .u8 q3.mi) (.int .u8 q3.s))
        have CU7s := Lib.hid (CU7.out.set6 (.int .u16 q3.y) (.int .u8 q3.mo) (.int .u8 q3.d) (.int .u8 q3.h) (.int .u8 q3.mi) (.int .u8 q3.s))
        go_wp2_with fail
        refine (works_calls _).mono ?_
        rintro e w99 ⟨rfl, hb⟩
        have HB99 := Lib.hid (HB7s.out.trans (hb.mono HB7s.out.size))
        clear hb
        go_wp2
        go_ret
        exact ⟨rfl, HB99.out⟩
      · skip
        go_wp2_with fail
        refine (HG.out _ HB6.out).mono ?_
        rintro e w7 ⟨rfl, hb⟩
        have HB7 := Lib.hid (HB6.out.trans (hb.mono HB6.out.size))
        have CT7 := Lib.hid (CT6.out.below hb)
        have CU7 := Lib.hid (CU6.out.below hb)
        clear hb y0 y1 y2
        have b0 := CU7.out.cell 0 _ rfl
        have b1 := CU7.out.cell 1 _ rfl
        have b2 := CU7.out.cell 2 _ rfl
        have b3 := CU7.out.cell 3 _ rfl
        have b4 := CU7.out.cell 4 _ rfl
        have b5 := CU7.out.cell 5 _ rfl
        have fz := CU7.out.free
        have zb := CU7.out.lt
        have za := CT7.out.lt
        have HB7s := Lib.hid (below_set6 HB7.out (b := w2.heap.size) HS2.out (.int .u16 q3.y) (.int .u8 q3.mo) (.int .u8 q3.d) (.int .u8 q3.h) (.int .u8 q3.mi) (.int .u8 q3.s))
        have CT7s := Lib.hid (CT7.out.set6far (b := w2.heap.size) hne (.int .u16 q3.y) (.int .u8 q3.mo) (.int .u8 q3.d) (.int .u8 q3.h) (.int .u8 q3.mi) (.int .u8 q3.s))
        have CU7s := Lib.hid (CU7.out.set6 (.int .u16 q3.y) (.int .u8 q3.mo) (.int .u8 q3.d) (.int .u8 q3.h) (.int .u8 q3.mi) (.int .u8 q3.s))
        go_wp2_with fail
        refine (HR3.out _).mono ?_
        rintro e w8 ⟨rfl, hb⟩
        have HB8 := Lib.hid (HB7s.out.trans (hb.mono HB7s.out.size))
        have CT8 := Lib.hid (CT7s.out.below hb)
        have CU8 := Lib.hid (CU7s.out.below hb)
        clear hb b0 b1 b2 b3 b4 b5 fz
        clear za zb
        go_wp2_with fail
        refine (works_calls _).mono ?_
        rintro e w99 ⟨rfl, hb⟩
        have HB99 := Lib.hid (HB8.out.trans (hb.mono HB8.out.size))
        clear hb
        go_wp2
        go_ret
        exact ⟨rfl, HB99.out⟩
  · skip
    go_wp2_with fail
    refine (HD.out _ HB3.out).mono ?_
    rintro e w4 ⟨rfl, hb⟩
    have HB4 := Lib.hid (HB3.out.trans (hb.mono HB3.out.size))
    have CT4 := Lib.hid (CT3.out.below hb)
    have CU4 := Lib.hid (CU3.out.below hb)
    clear hb a0 a1 a2 a3 a4 a5 za b0 b1 b2 b3 b4 b5 zb
    have b0 := CU4.out.cell 0 _ rfl
    have b1 := CU4.out.cell 1 _ rfl
    have b2 := CU4.out.cell 2 _ rfl
    have b3 := CU4.out.cell 3 _ rfl
    have b4 := CU4.out.cell 4 _ rfl
    have b5 := CU4.out.cell 5 _ rfl
    have fz := CU4.out.free
    have zb := CU4.out.lt
    have za := CT4.out.lt
    have HB4s := Lib.hid (below_set6 HB4.out (b := w2.heap.size) HS2.out (.int .u16 q1.y) (.int .u8 q1.mo) (.int .u8 q1.d) (.int .u8 q1.h) (.int .u8 q1.mi) (.int .u8 q1.s))
    have CT4s := Lib.hid (CT4.out.set6far (b := w2.heap.size) hne (.int .u16 q1.y) (.int .u8 q1.mo) (.int .u8 q1.d) (.int .u8 q1.h) (.int .u8 q1.mi) (.int .u8 q1.s))
    have CU4s := Lib.hid (CU4.out.set6 (.int .u16 q1.y) (.int .u8 q1.mo) (.int .u8 q1.d) (.int .u8 q1.h) (.int .u8 q1.mi) (.int .u8 q1.s))
    go_wp2_with fail
    refine (HW1.out _).mono ?_
    rintro e w5 ⟨v9, rfl, ho, hb⟩
    have HB5 := Lib.hid (HB4s.out.trans (hb.mono HB4s.out.size))
    have CT5 := Lib.hid (CT4s.out.below hb)
    have CU5 := Lib.hid (CU4s.out.below hb)
    clear hb b0 b1 b2 b3 b4 b5 fz za zb
    have HE := eqBytes_calls v9 (.slice a len cap) l l _ ho.byt (hv.out.below (HB5.out))
    rw [decide_eq_true rfl] at HE
    have HEq := Lib.hid HE
    clear HE ho
    go_wp2_with fail
    refine HEq.out.mono ?_
    rintro e w' ⟨rfl, rfl⟩
    clear HEq
    rcases HUc.out with ⟨q2, HU⟩ | ⟨q2, HU, HR2, q2y⟩
    · skip
      go_wp2_with fail
      refine (HU.out _ HB5.out).mono ?_
      rintro e w6 ⟨rfl, hb⟩
      have HB6 := Lib.hid (HB5.out.trans (hb.mono HB5.out.size))
      have CT6 := Lib.hid (CT5.out.below hb)
      have CU6 := Lib.hid (CU5.out.below hb)
      clear hb
      have b0 := CU6.out.cell 0 _ rfl
      have b1 := CU6.out.cell 1 _ rfl
      have b2 := CU6.out.cell 2 _ rfl
      have b3 := CU6.out.cell 3 _ rfl
      have b4 := CU6.out.cell 4 _ rfl
      have b5 := CU6.out.cell 5 _ rfl
      have fz := CU6.out.free
      have zb := CU6.out.lt
      have za := CT6.out.lt
      have HB6s := Lib.hid (below_set6 HB6.out (b := w2.heap.size) HS2.out (.int .u16 q2.y) (.int .u8 q2.mo) (.int .u8 q2.d) (.int .u8 q2.h) (.int .u8 q2.mi) (.int .u8 q2.s))
      have CT6s := Lib.hid (CT6.out.set6far (b := w2.heap.size) hne (.int .u16 q2.y) (.int .u8 q2.mo) (.int .u8 q2.d) (.int .u8 q2.h) (.int .u8 q2.mi) (.int .u8 q2.s))
      have CU6s := Lib.hid (CU6.out.set6 (.int .u16 q2.y) (.int .u8 q2.mo) (.int .u8 q2.d) (.int .u8 q2.h) (.int .u8 q2.mi) (.int .u8 q2.s))
      rcases HGc.out with ⟨q3, HG⟩ | ⟨q3, HG, HR3, _⟩
      · skip
        go_wp2_with fail
        refine (HG.out _ HB6s.out).mono ?_
        rintro e w7 ⟨rfl, hb⟩
        have HB7 := Lib.hid (HB6s.out.trans (hb.mono HB6s.out.size))
        have CT7 := Lib.hid (CT6s.out.below hb)
        have CU7 := Lib.hid (CU6s.out.below hb)
        clear hb b0 b1 b2 b3 b4 b5 fz za zb
        have b0 := CU7.out.cell 0 _ rfl
        have b1 := CU7.out.cell 1 _ rfl
        have b2 := CU7.out.cell 2 _ rfl
        have b3 := CU7.out.cell 3 _ rfl
        have b4 := CU7.out.cell 4 _ rfl
        have b5 := CU7.out.cell 5 _ rfl
        have fz := CU7.out.free
        have zb := CU7.out.lt
        have za := CT7.out.lt
        have HB7s := Lib.hid (below_set6 HB7.out (b := w2.heap.size) HS2.out (.int .u16 q3.y) (.int .u8 q3.mo) (.int .u8 q3.d) (.int .u8 q3.h) (.int .u8 q3.mi) (.int .u8 q3.s))
        have CT7s := Lib.hid (CT7.out.set6far (b := w2.heap.size) hne (.int .u16 q3.y) (.int .u8 q3.mo) (.int .u8 q3.d) (.int .u8 q3.h) (.int .u8 q3.mi) (.int .u8 q3.s))
        have CU7s := Lib.hid (CU7.out.set6 (.int .u16 q3.y) (.int .u8 q3.mo) (.int .u8 q3.d) (.int .u8 q3.h) (.int .u8 q3.mi) (.int .u8 q3.s))
        go_wp2_with fail
        refine (works_calls _).mono ?_
        rintro e w99 ⟨rfl, hb⟩
        have HB99 := Lib.hid (HB7s.out.trans (hb.mono HB7s.out.size))
        clear hb
        go_wp2
        go_ret
        exact ⟨rfl, HB99.out⟩
      · skip
        go_wp2_with fail
        refine (HG.out _ HB6s.out).mono ?_
        rintro e w7 ⟨rfl, hb⟩
        have HB7 := Lib.hid (HB6s.out.trans (hb.mono HB6s.out.size))
        have CT7 := Lib.hid (CT6s.out.below hb)
        have CU7 := Lib.hid (CU6s.out.below hb)
        clear hb b0 b1 b2 b3 b4 b5 fz za zb
        have b0 := CU7.out.cell 0 _ rfl
        have b1 := CU7.out.cell 1 _ rfl
        have b2 := CU7.out.cell 2 _ rfl
        have b3 := CU7.out.cell 3 _ rfl
        have b4 := CU7.out.cell 4 _ rfl
        have b5 := CU7.out.cell 5 _ rfl
        have fz := CU7.out.free
        have zb := CU7.out.lt
        have za := CT7.out.lt
        have HB7s := Lib.hid (below_set6 HB7.out (b := w2.heap.size) HS2.out (.int .u16 q3.y) (.int .u8 q3.mo) (.int .u8 q3.d) (.int .u8 q3.h) (.int .u8 q3.mi) (.int .u8 q3.s))
        have CT7s := Lib.hid (CT7.out.set6far (b := w2.heap.size) hne (.int .u16 q3.y) (.int .u8 q3.mo) (.int .u8 q3.d) (.int .u8 q3.h) (.int .u8 q3.mi) (.int .u8 q3.s))
        have CU7s := Lib.hid (CU7.out.set6 (.int .u16 q3.y) (.int .u8 q3.mo) (.int .u8 q3.d) (.int .u8 q3.h) (.int .u8 q3.mi) (.int .u8 q3.s))
        go_wp2_with fail
        refine (HR3.out _).mono ?_
        rintro e w8 ⟨rfl, hb⟩
        have HB8 := Lib.hid (HB7s.out.trans (hb.mono HB7s.out.size))
        have CT8 := Lib.hid (CT7s.out.below hb)
        have CU8 := Lib.hid (CU7s.out.below hb)
        clear hb b0 b1 b2 b3 b4 b5 fz
        clear za zb
        go_wp2_with fail
        refine (works_calls _).mono ?_
        rintro e w99 ⟨rfl, hb⟩
        have HB99 := Lib.hid (HB8.out.trans (hb.mono HB8.out.size))
        clear hb
        go_wp2
        go_ret
        exact ⟨rfl, HB99.out⟩
    · skip
      go_wp2_with fail
      refine (HU.out _ HB5.out).mono ?_
      rintro e w6 ⟨rfl, hb⟩
      have HB6 := Lib.hid (HB5.out.trans (hb.mono HB5.out.size))
      have CT6 := Lib.hid (CT5.out.below hb)
      have CU6 := Lib.hid (CU5.out.below hb)
      clear hb
      have b0 := CU6.out.cell 0 _ rfl
      have b1 := CU6.out.cell 1 _ rfl
      have b2 := CU6.out.cell 2 _ rfl
      have b3 := CU6.out.cell 3 _ rfl
      have b4 := CU6.out.cell 4 _ rfl
      have b5 := CU6.out.cell 5 _ rfl
      have fz := CU6.out.free
      have zb := CU6.out.lt
      have za := CT6.out.lt
      have HB6s := Lib.hid (below_set6 HB6.out (b := w2.heap.size) HS2.out (.int .u16 q2.y) (.int .u8 q2.mo) (.int .u8 q2.d) (.int .u8 q2.h) (.int .u8 q2.mi) (.int .u8 q2.s))
      have CT6s := Lib.hid (CT6.out.set6far (b := w2.heap.size) hne (.int .u16 q2.y) (.int .u8 q2.mo) (.int .u8 q2.d) (.int .u8 q2.h) (.int .u8 q2.mi) (.int .u8 q2.s))
      have CU6s := Lib.hid (CU6.out.set6 (.int .u16 q2.y) (.int .u8 q2.mo) (.int .u8 q2.d) (.int .u8 q2.h) (.int .u8 q2.mi) (.int .u8 q2.s))
      go_wp2_with fail
      refine (HR2.out _).mono ?_
      rintro e w7 ⟨rfl, hb⟩
      have HB7 := Lib.hid (HB6s.out.trans (hb.mono HB6s.out.size))
      have CT7 := Lib.hid (CT6s.out.below hb)
      have CU7 := Lib.hid (CU6s.out.below hb)
      clear hb b0 b1 b2 b3 b4 b5 fz za zb
      have y0 := CU7.out.cell 0 (.int .u16 q2.y) rfl
      obtain ⟨y1, y2⟩ := q2y
      rcases HGc.out with ⟨q3, HG⟩ | ⟨q3, HG, HR3, _⟩
      · skip
        go_wp2_with fail
        refine (HG.out _ HB7.out).mono ?_
        rintro e w8 ⟨rfl, hb⟩
        have HB8 := Lib.hid (HB7.out.trans (hb.mono HB7.out.size))
        have CT8 := Lib.hid (CT7.out.below hb)
        have CU8 := Lib.hid (CU7.out.below hb)
        clear hb y0 y1 y2
        have b0 := CU8.out.cell 0 _ rfl
        have b1 := CU8.out.cell 1 _ rfl
        have b2 := CU8.out.cell 2 _ rfl
        have b3 := CU8.out.cell 3 _ rfl
        have b4 := CU8.out.cell 4 _ rfl
        have b5 := CU8.out.cell 5 _ rfl
        have fz := CU8.out.free
        have zb := CU8.out.lt
        have za := CT8.out.lt
        have HB8s := Lib.hid (below_set6 HB8.out (b := w2.heap.size) HS2.out (.int .u16 q3.y) (.int .u8 q3.mo) (.int .u8 q3.d) (.int .u8 q3.h) (.int .u8 q3.mi) (.int .u8 q3.s))
        have CT8s := Lib.hid (CT8.out.set6far (b := w2.heap.size) hne (.int .u16 q3.y) (.int .u8 q3.mo) (.int .u8 q3.d) (.int .u8 q3.h) (.int .u8 q3.mi) (.int .u8 q3.s))
        have CU8s := Lib.hid (CU8.out.set6 (.int .u16 q3.y) (.int .u8 q3.mo) (.int .u8 q3.d) (.int .u8 q3.h) (.int .u8 q3.mi) (.int .u8 q3.s))
        go_wp2_with fail
        refine (works_calls _).mono ?_
        rintro e w99 ⟨rfl, hb⟩
        have HB99 := Lib.hid (HB8s.out.trans (hb.mono HB8s.out.size))
        clear hb
        go_wp2
        go_ret
        exact ⟨rfl, HB99.out⟩
      · skip
        go_wp2_with fail
        refine (HG.out _ HB7.out).mono ?_
        rintro e w8 ⟨rfl, hb⟩
        have HB8 := Lib.hid (HB7.out.trans (hb.mono HB7.out.size))
        have CT8 := Lib.hid (CT7.out.below hb)
        have CU8 := Lib.hid (CU7.out.below hb)
        clear hb y0 y1 y2
        have b0 := CU8.out.cell 0 _ rfl
        have b1 := CU8.out.cell 1 _ rfl
        have b2 := CU8.out.cell 2 _ rfl
        have b3 := CU8.out.cell 3 _ rfl
        have b4 := CU8.out.cell 4 _ rfl
        have b5 := CU8.out.cell 5 _ rfl
        have fz := CU8.out.free
        have zb := CU8.out.lt
        have za := CT8.out.lt
        have HB8s := Lib.hid (below_set6 HB8.out (b := w2.heap.size) HS2.out (.int .u16 q3.y) (.int .u8 q3.mo) (.int .u8 q3.d) (.int .u8 q3.h) (.int .u8 q3.mi) (.int .u8 q3.s))
        have CT8s := Lib.hid (CT8.out.set6far (b := w2.heap.size) hne (.int .u16 q3.y) (.int .u8 q3.mo) (.int .u8 q3.d) (.int .u8 q3.h) (.int .u8 q3.mi) (.int .u8 q3.s))
        have CU8s := Lib.hid (CU8.out.set6 (.int .u16 q3.y) (.int .u8 q3.mo) (.int .u8 q3.d) (.int .u8 q3.h) (.int .u8 q3.mi) (.int .u8 q3.s))
        go_wp2_with fail
        refine (HR3.out _).mono ?_
        rintro e w9 ⟨rfl, hb⟩
        have HB9 := Lib.hid (HB8s.out.trans (hb.mono HB8s.out.size))
        have CT9 := Lib.hid (CT8s.out.below hb)
        have CU9 := Lib.hid (CU8s.out.below hb)
        clear hb b0 b1 b2 b3 b4 b5 fz
        clear za zb
        go_wp2_with fail
        refine (works_calls _).mono ?_
        rintro e w99 ⟨rfl, hb⟩
        have HB99 := Lib.hid (HB9.out.trans (hb.mono HB9.out.size))
        clear hb
        go_wp2
        go_ret
        exact ⟨rfl, HB99.out⟩

set_option maxRecDepth 100000 in
set_option maxHeartbeats 16000000 in
theorem stampBack_nought (a : Option Addr) (len cap : Nat) (l : List UInt8) (t : Tm) (w : World) (hl : len ≤ 4096) (hv : Hid (Byt w (.slice a len cap) l))
    (HW : Hid (∀ W, Calls Try.prog 17 #[.agg #[.int .u16 t.y, .int .u8 t.mo, .int .u8 t.d, .int .u8 t.h, .int .u8 t.mi, .int .u8 t.s]] W fun e w' => ∃ v', e = .returned v' ∧ OwnB w' W.heap.size v' (wrL t) ∧ Below W.heap.size W w'))
    (HRd : Hid (∀ v W, Byt W v (wrL t) → Calls Try.prog 15 #[v] W fun e w' => e = .returned (.tuple #[.agg #[.int .u16 t.y, .int .u8 t.mo, .int .u8 t.d, .int .u8 t.h, .int .u8 t.mi, .int .u8 t.s], .int .i64 0]) ∧ Below W.heap.size W w'))
    (HRt : Hid (∀ W, Calls Try.prog 23 #[.agg #[.int .u16 t.y, .int .u8 t.mo, .int .u8 t.d, .int .u8 t.h, .int .u8 t.mi, .int .u8 t.s]] W fun e w' => e = .returned (.bool false) ∧ Below W.heap.size W w'))
    (hz : ∀ W, (binOp .eql 25 (.agg #[.int .u16 t.y, .int .u8 t.mo, .int .u8 t.d, .int .u8 t.h, .int .u8 t.mi, .int .u8 t.s]) (.agg #[.int .u16 0, .int .u8 0, .int .u8 0, .int .u8 0, .int .u8 0, .int .u8 0])).run Try.prog W = .ok (.bool true) W)
    (hq : ∀ W, (binOp .neq 25 (.agg #[.int .u16 t.y, .int .u8 t.mo, .int .u8 t.d, .int .u8 t.h, .int .u8 t.mi, .int .u8 t.s]) (.agg #[.int .u16 t.y, .int .u8 t.mo, .int .u8 t.d, .int .u8 t.h, .int .u8 t.mi, .int .u8 t.s])).run Try.prog W = .ok (.bool false) W)
    (HBc : Hid (ReadWays (.slice a len cap) l w)) (HUc : Hid (ToldWays 25 (.slice a len cap) w (fun q => decide (q.y < 1950) = false ∧ decide (2050 ≤ q.y) = false))) (HGc : Hid (ToldWays 27 (.slice a len cap) w (fun _ => True))) :
    Calls Try.prog 10 #[.slice a len cap, .agg #[.int .u16 t.y, .int .u8 t.mo, .int .u8 t.d, .int .u8 t.h, .int .u8 t.mi, .int .u8 t.s]] w fun e w' => e = .returned (.bool true) ∧ Below w.heap.size w w' := by
  have hB0 : Hid (Below w.heap.size w (w.alloc (.cells #[.int .u16 t.y, .int .u8 t.mo, .int .u8 t.d, .int .u8 t.h, .int .u8 t.mi, .int .u8 t.s] 25))) := Lib.hid ((Below.refl _ _).alloc (Nat.le_refl _) _)
  have ct0 := Lib.hid (RowAt.new w #[.int .u16 t.y, .int .u8 t.mo, .int .u8 t.d, .int .u8 t.h, .int .u8 t.mi, .int .u8 t.s] 25 w.heap.size rfl)
  go_enter Try.func10, Try.ntmps10
  go_wp2_with fail
  refine (HW.out _).mono ?_
  rintro e w1 ⟨v1, rfl, ho, hb⟩
  have HB1 := Lib.hid (hB0.out.trans (hb.mono hB0.out.size))
  have CT1 := Lib.hid (ct0.out.below hb)
  have HO1 := Lib.hid ho
  clear ho
  clear hb
  go_wp2_with fail
  refine (HRd.out _ _ HO1.out.byt).mono ?_
  rintro e w2 ⟨rfl, hb⟩
  have HB2 := Lib.hid (HB1.out.trans (hb.mono HB1.out.size))
  have CT2 := Lib.hid (CT1.out.below hb)
  have HS2 := Lib.hid (HB2.out.size)
  have hne : w2.heap.size ≠ w.heap.size := by have h1 := CT2.out.lt; omega
  clear hb
  have HBa := Lib.hid (HB2.out.alloc HB2.out.size (.cells #[.int .u16 t.y, .int .u8 t.mo, .int .u8 t.d, .int .u8 t.h, .int .u8 t.mi, .int .u8 t.s] 25))
  have CTa := Lib.hid (CT2.out.alloc (.cells #[.int .u16 t.y, .int .u8 t.mo, .int .u8 t.d, .int .u8 t.h, .int .u8 t.mi, .int .u8 t.s] 25))
  have CUa := Lib.hid (RowAt.new w2 #[.int .u16 t.y, .int .u8 t.mo, .int .u8 t.d, .int .u8 t.h, .int .u8 t.mi, .int .u8 t.s] 25 w2.heap.size rfl)
  have a0 := CT2.out.cell 0 (.int .u16 t.y) rfl
  have a1 := CT2.out.cell 1 (.int .u8 t.mo) rfl
  have a2 := CT2.out.cell 2 (.int .u8 t.d) rfl
  have a3 := CT2.out.cell 3 (.int .u8 t.h) rfl
  have a4 := CT2.out.cell 4 (.int .u8 t.mi) rfl
  have a5 := CT2.out.cell 5 (.int .u8 t.s) rfl
  have za := CT2.out.lt
  go_wp2_with fail
  refine (HRt.out _).mono ?_
  rintro e w3 ⟨rfl, hb⟩
  have HB3 := Lib.hid (HBa.out.trans (hb.mono HBa.out.size))
  have CT3 := Lib.hid (CTa.out.below hb)
  have CU3 := Lib.hid (CUa.out.below hb)
  clear hb a0 a1 a2 a3 a4 a5 za
  have a0 := CT3.out.cell 0 (.int .u16 t.y) rfl
  have a1 := CT3.out.cell 1 (.int .u8 t.mo) rfl
  have a2 := CT3.out.cell 2 (.int .u8 t.d) rfl
  have a3 := CT3.out.cell 3 (.int .u8 t.h) rfl
  have a4 := CT3.out.cell 4 (.int .u8 t.mi) rfl
  have a5 := CT3.out.cell 5 (.int .u8 t.s) rfl
  have za := CT3.out.lt
  have b0 := CU3.out.cell 0 (.int .u16 t.y) rfl
  have b1 := CU3.out.cell 1 (.int .u8 t.mo) rfl
  have b2 := CU3.out.cell 2 (.int .u8 t.d) rfl
  have b3 := CU3.out.cell 3 (.int .u8 t.h) rfl
  have b4 := CU3.out.cell 4 (.int .u8 t.mi) rfl
  have b5 := CU3.out.cell 5 (.int .u8 t.s) rfl
  have zb := CU3.out.lt
  -- shown: a0 a1 a2 a3 a4 a5 za b0 b1 b2 b3 b4 b5 zb
  rcases HBc.out with ⟨q1, HD⟩ | ⟨q1, HD, HW1⟩
  · skip
    go_wp2_with fail
    refine (HD.out _ HB3.out).mono ?_
    rintro e w4 ⟨rfl, hb⟩
    have HB4 := Lib.hid (HB3.out.trans (hb.mono HB3.out.size))
    have CT4 := Lib.hid (CT3.out.below hb)
    have CU4 := Lib.hid (CU3.out.below hb)
    clear hb a0 a1 a2 a3 a4 a5 za b0 b1 b2 b3 b4 b5 zb
    have b0 := CU4.out.cell 0 _ rfl
    have b1 := CU4.out.cell 1 _ rfl
    have b2 := CU4.out.cell 2 _ rfl
    have b3 := CU4.out.cell 3 _ rfl
    have b4 := CU4.out.cell 4 _ rfl
    have b5 := CU4.out.cell 5 _ rfl
    have fz := CU4.out.free
    have zb := CU4.out.lt
    have za := CT4.out.lt
    have HB4s := Lib.hid (below_set6 HB4.out (b := w2.heap.size) HS2.out (.int .u16 q1.y) (.int .u8 q1.mo) (.int .u8 q1.d) (.int .u8 q1.h) (.int .u8 q1.mi) (.int .u8 q1.s))
    have CT4s := Lib.hid (CT4.out.set6far (b := w2.heap.size) hne (.int .u16 q1.y) (.int .u8 q1.mo) (.int .u8 q1.d) (.int .u8 q1.h) (.int .u8 q1.mi) (.int .u8 q1.s))
    have CU4s := Lib.hid (CU4.out.set6 (.int .u16 q1.y) (.int .u8 q1.mo) (.int .u8 q1.d) (.int .u8 q1.h) (.int .u8 q1.mi) (.int .u8 q1.s))
    rcases HUc.out with ⟨q2, HU⟩ | ⟨q2, HU, HR2, q2y⟩
    · skip
      go_wp2_with fail
      refine (HU.out _ HB4s.out).mono ?_
      rintro e w5 ⟨rfl, hb⟩
      have HB5 := Lib.hid (HB4s.out.trans (hb.mono HB4s.out.size))
      have CT5 := Lib.hid (CT4s.out.below hb)
      have CU5 := Lib.hid (CU4s.out.below hb)
      clear hb b0 b1 b2 b3 b4 b5 fz za zb
      have b0 := CU5.out.cell 0 _ rfl
      have b1 := CU5.out.cell 1 _ rfl
      have b2 := CU5.out.cell 2 _ rfl
      have b3 := CU5.out.cell 3 _ rfl
      have b4 := CU5.out.cell 4 _ rfl
      have b5 := CU5.out.cell 5 _ rfl
      have fz := CU5.out.free
      have zb := CU5.out.lt
      have za := CT5.out.lt
      have HB5s := Lib.hid (below_set6 HB5.out (b := w2.heap.size) HS2.out (.int .u16 q2.y) (.int .u8 q2.mo) (.int .u8 q2.d) (.int .u8 q2.h) (.int .u8 q2.mi) (.int .u8 q2.s))
      have CT5s := Lib.hid (CT5.out.set6far (b := w2.heap.size) hne (.int .u16 q2.y) (.int .u8 q2.mo) (.int .u8 q2.d) (.int .u8 q2.h) (.int .u8 q2.mi) (.int .u8 q2.s))
      have CU5s := Lib.hid (CU5.out.set6 (.int .u16 q2.y) (.int .u8 q2.mo) (.int .u8 q2.d) (.int .u8 q2.h) (.int .u8 q2.mi) (.int .u8 q2.s))
      rcases HGc.out with ⟨q3, HG⟩ | ⟨q3, HG, HR3, _⟩
      · skip
        go_wp2_with fail
        refine (HG.out _ HB5s.out).mono ?_
        rintro e w6 ⟨rfl, hb⟩
        have HB6 := Lib.hid (HB5s.out.trans (hb.mono HB5s.out.size))
        have CT6 := Lib.hid (CT5s.out.below hb)
        have CU6 := Lib.hid (CU5s.out.below hb)
        clear hb b0 b1 b2 b3 b4 b5 fz za zb
        have b0 := CU6.out.cell 0 _ rfl
        have b1 := CU6.out.cell 1 _ rfl
        have b2 := CU6.out.cell 2 _ rfl
        have b3 := CU6.out.cell 3 _ rfl
        have b4 := CU6.out.cell 4 _ rfl
        have b5 := CU6.out.cell 5 _ rfl
        have fz := CU6.out.free
        have zb := CU6.out.lt
        have za := CT6.out.lt
        have HB6s := Lib.hid (below_set6 HB6.out (b := w2.heap.size) HS2.out (.int .u16 q3.y) (.int .u8 q3.mo) (.int .u8 q3.d) (.int .u8 q3.h) (.int .u8 q3.mi) (.int .u8 q3.s))
        have CT6s := Lib.hid (CT6.out.set6far (b := w2.heap.size) hne (.int .u16 q3.y) (.int .u8 q3.mo) (.int .u8 q3.d) (.int .u8 q3.h) (.int .u8 q3.mi) (.int .u8 q3.s))
        have CU6s := Lib.hid (CU6.out.set6 (.int .u16 q3.y) (.int .u8 q3.mo) (.int .u8 q3.d) (.int .u8 q3.h) (.int .u8 q3.mi) (.int .u8 q3.s))
        go_wp2_with fail
        refine (works_calls _).mono ?_
        rintro e w99 ⟨rfl, hb⟩
        have HB99 := Lib.hid (HB6s.out.trans (hb.mono HB6s.out.size))
        clear hb
        go_wp2
        go_ret
        exact ⟨rfl, HB99.out⟩
      · skip
        go_wp2_with fail
        refine (HG.out _ HB5s.out).mono ?_
        rintro e w6 ⟨rfl, hb⟩
        have HB6 := Lib.hid (HB5s.out.trans (hb.mono HB5s.out.size))
        have CT6 := Lib.hid (CT5s.out.below hb)
        have CU6 := Lib.hid (CU5s.out.below hb)
        clear hb b0 b1 b2 b3 b4 b5 fz za zb
        have b0 := CU6.out.cell 0 _ rfl
        have b1 := CU6.out.cell 1 _ rfl
        have b2 := CU6.out.cell 2 _ rfl
        have b3 := CU6.out.cell 3 _ rfl
        have b4 := CU6.out.cell 4 _ rfl
        have b5 := CU6.out.cell 5 _ rfl
        have fz := CU6.out.free
        have zb := CU6.out.lt
        have za := CT6.out.lt
        have HB6s := Lib.hid (below_set6 HB6.out (b := w2.heap.size) HS2.out (.int .u16 q3.y) (.int .u8 q3.mo) (.int .u8 q3.d) (.int .u8 q3.h) (.int .u8 q3.mi) (.int .u8 q3.s))
        have CT6s := Lib.hid (CT6.out.set6far (b := w2.heap.size) hne (.int .u16 q3.y) (.int .u8 q3.mo) (.int .u8 q3.d) (.int .u8 q3.h) (.int .u8 q3.mi) (.int .u8 q3.s))
        have CU6s := Lib.hid (CU6.out.set6 (.int .u16 q3.y) (.int .u8 q3.mo) (.int .u8 q3.d) (.int .u8 q3.h) (.int .u8 q3.mi) (.int .u8 q3.s))
        go_wp2_with fail
        refine (HR3.out _).mono ?_
        rintro e w7 ⟨rfl, hb⟩
        have HB7 := Lib.hid (HB6s.out.trans (hb.mono HB6s.out.size))
        have CT7 := Lib.hid (CT6s.out.below hb)
        have CU7 := Lib.hid (CU6s.out.below hb)
        clear hb b0 b1 b2 b3 b4 b5 fz
        clear za zb
        go_wp2_with fail
        refine (works_calls _).mono ?_
        rintro e w99 ⟨rfl, hb⟩
        have HB99 := Lib.hid (HB7.out.trans (hb.mono HB7.out.size))
        clear hb
        go_wp2
        go_ret
        exact ⟨rfl, HB99.out⟩
    · skip
      go_wp2_with fail
      refine (HU.out _ HB4s.out).mono ?_
      rintro e w5 ⟨rfl, hb⟩
      have HB5 := Lib.hid (HB4s.out.trans (hb.mono HB4s.out.size))
      have CT5 := Lib.hid (CT4s.out.below hb)
      have CU5 := Lib.hid (CU4s.out.below hb)
      clear hb b0 b1 b2 b3 b4 b5 fz za zb
      have b0 := CU5.out.cell 0 _ rfl
      have b1 := CU5.out.cell 1 _ rfl
      have b2 := CU5.out.cell 2 _ rfl
      have b3 := CU5.out.cell 3 _ rfl
      have b4 := CU5.out.cell 4 _ rfl
      have b5 := CU5.out.cell 5 _ rfl
      have fz := CU5.out.free
      have zb := CU5.out.lt
      have za := CT5.out.lt
      have HB5s := Lib.hid (below_set6 HB5.out (b := w2.heap.size) HS2.out (.int .u16 q2.y) (.int .u8 q2.mo) (.int .u8 q2.d) (.int .u8 q2.h) (.int .u8 q2.mi) (.int .u8 q2.s))
      have CT5s := Lib.hid (CT5.out.set6far (b := w2.heap.size) hne (.int .u16 q2.y) (.int .u8 q2.mo) (.int .u8 q2.d) (.int .u8 q2.h) (.int .u8 q2.mi) (.int .u8 q2.s))
      have CU5s := Lib.hid (CU5.out.set6 (.int .u16 q2.y) (.int .u8 q2.mo) (.int .u8 q2.d) (.int .u8 q2.h) (.int .u8 q2.mi) (.int .u8 q2.s))
      go_wp2_with fail
      refine (HR2.out _).mono ?_
      rintro e w6 ⟨rfl, hb⟩
      have HB6 := Lib.hid (HB5s.out.trans (hb.mono HB5s.out.size))
      have CT6 := Lib.hid (CT5s.out.below hb)
      have CU6 := Lib.hid (CU5s.out.below hb)
      clear hb b0 b1 b2 b3 b4 b5 fz za zb
      have y0 := CU6.out.cell 0 (.int .u16 q2.y) rfl
      obtain ⟨y1, y2⟩ := q2y
      rcases HGc.out with ⟨q3, HG⟩ | ⟨q3, HG, HR3, _⟩
      · skip
        go_wp2_with fail
        refine (HG.out _ HB6.out).mono ?_
        rintro e w7 ⟨rfl, hb⟩
        have HB7 := Lib.hid (HB6.out.trans (hb.mono HB6.out.size))
        have CT7 := Lib.hid (CT6.out.below hb)
        have CU7 := Lib.hid (CU6.out.below hb)
        clear hb y0 y1 y2
        have b0 := CU7.out.cell 0 _ rfl
        have b1 := CU7.out.cell 1 _ rfl
        have b2 := CU7.out.cell 2 _ rfl
        have b3 := CU7.out.cell 3 _ rfl
        have b4 := CU7.out.cell 4 _ rfl
        have b5 := CU7.out.cell 5 _ rfl
        have fz := CU7.out.free
        have zb := CU7.out.lt
        have za := CT7.out.lt
        have HB7s := Lib.hid (below_set6 HB7.out (b := w2.heap.size) HS2.out (.int .u16 q3.y) (.int .u8 q3.mo) (.int .u8 q3.d) (.int .u8 q3.h) (.int .u8 q3.mi) (.int .u8 q3.s))
        have CT7s := Lib.hid (CT7.out.set6far (b := w2.heap.size) hne (.int .u16 q3.y) (.int .u8 q3.mo) (.int .u8 q3.d) (.int .u8 q3.h) (.int .u8 q3.mi) (.int .u8 q3.s))
        have CU7s := Lib.hid (CU7.out.set6 (.int .u16 q3.y) (.int .u8 q3.mo) (.int .u8 q3.d) (.int .u8 q3.h) (.int .u8 q3.mi) (.int .u8 q3.s))
        go_wp2_with fail
        refine (works_calls _).mono ?_
        rintro e w99 ⟨rfl, hb⟩
        have HB99 := Lib.hid (HB7s.out.trans (hb.mono HB7s.out.size))
        clear hb
        go_wp2
        go_ret
        exact ⟨rfl, HB99.out⟩
      · skip
        go_wp2_with fail
        refine (HG.out _ HB6.out).mono ?_
        rintro e w7 ⟨rfl, hb⟩
        have HB7 := Lib.hid (HB6.out.trans (hb.mono HB6.out.size))
        have CT7 := Lib.hid (CT6.out.below hb)
        have CU7 := Lib.hid (CU6.out.below hb)
        clear hb y0 y1 y2
        have b0 := CU7.out.cell 0 _ rfl
        have b1 := CU7.out.cell 1 _ rfl
        have b2 := CU7.out.cell 2 _ rfl
        have b3 := CU7.out.cell 3 _ rfl
        have b4 := CU7.out.cell 4 _ rfl
        have b5 := CU7.out.cell 5 _ rfl
        have fz := CU7.out.free
        have zb := CU7.out.lt
        have za := CT7.out.lt
        have HB7s := Lib.hid (below_set6 HB7.out (b := w2.heap.size) HS2.out (.int .u16 q3.y) (.int .u8 q3.mo) (.int .u8 q3.d) (.int .u8 q3.h) (.int .u8 q3.mi) (.int .u8 q3.s))
        have CT7s := Lib.hid (CT7.out.set6far (b := w2.heap.size) hne (.int .u16 q3.y) (.int .u8 q3.mo) (.int .u8 q3.d) (.int .u8 q3.h) (.int .u8 q3.mi) (.int .u8 q3.s))
        have CU7s := Lib.hid (CU7.out.set6 (.int .u16 q3.y) (.int .u8 q3.mo) (.int .u8 q3.d) (.int .u8 q3.h) (.int .u8 q3.mi) (.int .u8 q3.s))
        go_wp2_with fail
        refine (HR3.out _).mono ?_
        rintro e w8 ⟨rfl, hb⟩
        have HB8 := Lib.hid (HB7s.out.trans (hb.mono HB7s.out.size))
        have CT8 := Lib.hid (CT7s.out.below hb)
        have CU8 := Lib.hid (CU7s.out.below hb)
        clear hb b0 b1 b2 b3 b4 b5 fz
        clear za zb
        go_wp2_with fail
        refine (works_calls _).mono ?_
        rintro e w99 ⟨rfl, hb⟩
        have HB99 := Lib.hid (HB8.out.trans (hb.mono HB8.out.size))
        clear hb
        go_wp2
        go_ret
        exact ⟨rfl, HB99.out⟩
  · skip
    go_wp2_with fail
    refine (HD.out _ HB3.out).mono ?_
    rintro e w4 ⟨rfl, hb⟩
    have HB4 := Lib.hid (HB3.out.trans (hb.mono HB3.out.size))
    have CT4 := Lib.hid (CT3.out.below hb)
    have CU4 := Lib.hid (CU3.out.below hb)
    clear hb a0 a1 a2 a3 a4 a5 za b0 b1 b2 b3 b4 b5 zb
    have b0 := CU4.out.cell 0 _ rfl
    have b1 := CU4.out.cell 1 _ rfl
    have b2 := CU4.out.cell 2 _ rfl
    have b3 := CU4.out.cell 3 _ rfl
    have b4 := CU4.out.cell 4 _ rfl
    have b5 := CU4.out.cell 5 _ rfl
    have fz := CU4.out.free
    have zb := CU4.out.lt
    have za := CT4.out.lt
    have HB4s := Lib.hid (below_set6 HB4.out (b := w2.heap.size) HS2.out (.int .u16 q1.y) (.int .u8 q1.mo) (.int .u8 q1.d) (.int .u8 q1.h) (.int .u8 q1.mi) (.int .u8 q1.s))
    have CT4s := Lib.hid (CT4.out.set6far (b := w2.heap.size) hne (.int .u16 q1.y) (.int .u8 q1.mo) (.int .u8 q1.d) (.int .u8 q1.h) (.int .u8 q1.mi) (.int .u8 q1.s))
    have CU4s := Lib.hid (CU4.out.set6 (.int .u16 q1.y) (.int .u8 q1.mo) (.int .u8 q1.d) (.int .u8 q1.h) (.int .u8 q1.mi) (.int .u8 q1.s))
    go_wp2_with fail
    refine (HW1.out _).mono ?_
    rintro e w5 ⟨v9, rfl, ho, hb⟩
    have HB5 := Lib.hid (HB4s.out.trans (hb.mono HB4s.out.size))
    have CT5 := Lib.hid (CT4s.out.below hb)
    have CU5 := Lib.hid (CU4s.out.below hb)
    clear hb b0 b1 b2 b3 b4 b5 fz za zb
    have HE := eqBytes_calls v9 (.slice a len cap) l l _ ho.byt (hv.out.below (HB5.out))
    rw [decide_eq_true rfl] at HE
    have HEq := Lib.hid HE
    clear HE ho
    go_wp2_with fail
    refine HEq.out.mono ?_
    rintro e w' ⟨rfl, rfl⟩
    clear HEq
    rcases HUc.out with ⟨q2, HU⟩ | ⟨q2, HU, HR2, q2y⟩
    · skip
      go_wp2_with fail
      refine (HU.out _ HB5.out).mono ?_
      rintro e w6 ⟨rfl, hb⟩
      have HB6 := Lib.hid (HB5.out.trans (hb.mono HB5.out.size))
      have CT6 := Lib.hid (CT5.out.below hb)
      have CU6 := Lib.hid (CU5.out.below hb)
      clear hb
      have b0 := CU6.out.cell 0 _ rfl
      have b1 := CU6.out.cell 1 _ rfl
      have b2 := CU6.out.cell 2 _ rfl
      have b3 := CU6.out.cell 3 _ rfl
      have b4 := CU6.out.cell 4 _ rfl
      have b5 := CU6.out.cell 5 _ rfl
      have fz := CU6.out.free
      have zb := CU6.out.lt
      have za := CT6.out.lt
      have HB6s := Lib.hid (below_set6 HB6.out (b := w2.heap.size) HS2.out (.int .u16 q2.y) (.int .u8 q2.mo) (.int .u8 q2.d) (.int .u8 q2.h) (.int .u8 q2.mi) (.int .u8 q2.s))
      have CT6s := Lib.hid (CT6.out.set6far (b := w2.heap.size) hne (.int .u16 q2.y) (.int .u8 q2.mo) (.int .u8 q2.d) (.int .u8 q2.h) (.int .u8 q2.mi) (.int .u8 q2.s))
      have CU6s := Lib.hid (CU6.out.set6 (.int .u16 q2.y) (.int .u8 q2.mo) (.int .u8 q2.d) (.int .u8 q2.h) (.int .u8 q2.mi) (.int .u8 q2.s))
      rcases HGc.out with ⟨q3, HG⟩ | ⟨q3, HG, HR3, _⟩
      · skip
        go_wp2_with fail
        refine (HG.out _ HB6s.out).mono ?_
        rintro e w7 ⟨rfl, hb⟩
        have HB7 := Lib.hid (HB6s.out.trans (hb.mono HB6s.out.size))
        have CT7 := Lib.hid (CT6s.out.below hb)
        have CU7 := Lib.hid (CU6s.out.below hb)
        clear hb b0 b1 b2 b3 b4 b5 fz za zb
        have b0 := CU7.out.cell 0 _ rfl
        have b1 := CU7.out.cell 1 _ rfl
        have b2 := CU7.out.cell 2 _ rfl
        have b3 := CU7.out.cell 3 _ rfl
        have b4 := CU7.out.cell 4 _ rfl
        have b5 := CU7.out.cell 5 _ rfl
        have fz := CU7.out.free
        have zb := CU7.out.lt
        have za := CT7.out.lt
        have HB7s := Lib.hid (below_set6 HB7.out (b := w2.heap.size) HS2.out (.int .u16 q3.y) (.int .u8 q3.mo) (.int .u8 q3.d) (.int .u8 q3.h) (.int .u8 q3.mi) (.int .u8 q3.s))
        have CT7s := Lib.hid (CT7.out.set6far (b := w2.heap.size) hne (.int .u16 q3.y) (.int .u8 q3.mo) (.int .u8 q3.d) (.int .u8 q3.h) (.int .u8 q3.mi) (.int .u8 q3.s))
        have CU7s := Lib.hid (CU7.out.set6 (.int .u16 q3.y) (.int .u8 q3.mo) (.int .u8 q3.d) (.int .u8 q3.h) (.int .u8 q3.mi) (.int .u8 q3.s))
        go_wp2_with fail
        refine (works_calls _).mono ?_
        rintro e w99 ⟨rfl, hb⟩
        have HB99 := Lib.hid (HB7s.out.trans (hb.mono HB7s.out.size))
        clear hb
        go_wp2
        go_ret
        exact ⟨rfl, HB99.out⟩
      · skip
        go_wp2_with fail
        refine (HG.out _ HB6s.out).mono ?_
        rintro e w7 ⟨rfl, hb⟩
        have HB7 := Lib.hid (HB6s.out.trans (hb.mono HB6s.out.size))
        have CT7 := Lib.hid (CT6s.out.below hb)
        have CU7 := Lib.hid (CU6s.out.below hb)
        clear hb b0 b1 b2 b3 b4 b5 fz za zb
        have b0 := CU7.out.cell 0 _ rfl
        have b1 := CU7.out.cell 1 _ rfl
        have b2 := CU7.out.cell 2 _ rfl
        have b3 := CU7.out.cell 3 _ rfl
        have b4 := CU7.out.cell 4 _ rfl
        have b5 := CU7.out.cell 5 _ rfl
        have fz := CU7.out.free
        have zb := CU7.out.lt
        have za := CT7.out.lt
        have HB7s := Lib.hid (below_set6 HB7.out (b := w2.heap.size) HS2.out (.int .u16 q3.y) (.int .u8 q3.mo) (.int .u8 q3.d) (.int .u8 q3.h) (.int .u8 q3.mi) (.int .u8 q3.s))
        have CT7s := Lib.hid (CT7.out.set6far (b := w2.heap.size) hne (.int .u16 q3.y) (.int .u8 q3.mo) (.int .u8 q3.d) (.int .u8 q3.h) (.int .u8 q3.mi) (.int .u8 q3.s))
        have CU7s := Lib.hid (CU7.out.set6 (.int .u16 q3.y) (.int .u8 q3.mo) (.int .u8 q3.d) (.int .u8 q3.h) (.int .u8 q3.mi) (.int .u8 q3.s))
        go_wp2_with fail
        refine (HR3.out _).mono ?_
        rintro e w8 ⟨rfl, hb⟩
        have HB8 := Lib.hid (HB7s.out.trans (hb.mono HB7s.out.size))
        have CT8 := Lib.hid (CT7s.out.below hb)
        have CU8 := Lib.hid (CU7s.out.below hb)
        clear hb b0 b1 b2 b3 b4 b5 fz
        clear za zb
        go_wp2_with fail
        refine (works_calls _).mono ?_
        rintro e w99 ⟨rfl, hb⟩
        have HB99 := Lib.hid (HB8.out.trans (hb.mono HB8.out.size))
        clear hb
        go_wp2
        go_ret
        exact ⟨rfl, HB99.out⟩
    · skip
      go_wp2_with fail
      refine (HU.out _ HB5.out).mono ?_
      rintro e w6 ⟨rfl, hb⟩
      have HB6 := Lib.hid (HB5.out.trans (hb.mono HB5.out.size))
      have CT6 := Lib.hid (CT5.out.below hb)
      have CU6 := Lib.hid (CU5.out.below hb)
      clear hb
      have b0 := CU6.out.cell 0 _ rfl
      have b1 := CU6.out.cell 1 _ rfl
      have b2 := CU6.out.cell 2 _ rfl
      have b3 := CU6.out.cell 3 _ rfl
      have b4 := CU6.out.cell 4 _ rfl
      have b5 := CU6.out.cell 5 _ rfl
      have fz := CU6.out.free
      have zb := CU6.out.lt
      have za := CT6.out.lt
      have HB6s := Lib.hid (below_set6 HB6.out (b := w2.heap.size) HS2.out (.int .u16 q2.y) (.int .u8 q2.mo) (.int .u8 q2.d) (.int .u8 q2.h) (.int .u8 q2.mi) (.int .u8 q2.s))
      have CT6s := Lib.hid (CT6.out.set6far (b := w2.heap.size) hne (.int .u16 q2.y) (.int .u8 q2.mo) (.int .u8 q2.d) (.int .u8 q2.h) (.int .u8 q2.mi) (.int .u8 q2.s))
      have CU6s := Lib.hid (CU6.out.set6 (.int .u16 q2.y) (.int .u8 q2.mo) (.int .u8 q2.d) (.int .u8 q2.h) (.int .u8 q2.mi) (.int .u8 q2.s))
      go_wp2_with fail
      refine (HR2.out _).mono ?_
      rintro e w7 ⟨rfl, hb⟩
      have HB7 := Lib.hid (HB6s.out.trans (hb.mono HB6s.out.size))
      have CT7 := Lib.hid (CT6s.out.below hb)
      have CU7 := Lib.hid (CU6s.out.below hb)
      clear hb b0 b1 b2 b3 b4 b5 fz za zb
      have y0 := CU7.out.cell 0 (.int .u16 q2.y) rfl
      obtain ⟨y1, y2⟩ := q2y
      rcases HGc.out with ⟨q3, HG⟩ | ⟨q3, HG, HR3, _⟩
      · skip
        go_wp2_with fail
        refine (HG.out _ HB7.out).mono ?_
        rintro e w8 ⟨rfl, hb⟩
        have HB8 := Lib.hid (HB7.out.trans (hb.mono HB7.out.size))
        have CT8 := Lib.hid (CT7.out.below hb)
        have CU8 := Lib.hid (CU7.out.below hb)
        clear hb y0 y1 y2
        have b0 := CU8.out.cell 0 _ rfl
        have b1 := CU8.out.cell 1 _ rfl
        have b2 := CU8.out.cell 2 _ rfl
        have b3 := CU8.out.cell 3 _ rfl
        have b4 := CU8.out.cell 4 _ rfl
        have b5 := CU8.out.cell 5 _ rfl
        have fz := CU8.out.free
        have zb := CU8.out.lt
        have za := CT8.out.lt
        have HB8s := Lib.hid (below_set6 HB8.out (b := w2.heap.size) HS2.out (.int .u16 q3.y) (.int .u8 q3.mo) (.int .u8 q3.d) (.int .u8 q3.h) (.int .u8 q3.mi) (.int .u8 q3.s))
        have CT8s := Lib.hid (CT8.out.set6far (b := w2.heap.size) hne (.int .u16 q3.y) (.int .u8 q3.mo) (.int .u8 q3.d) (.int .u8 q3.h) (.int .u8 q3.mi) (.int .u8 q3.s))
        have CU8s := Lib.hid (CU8.out.set6 (.int .u16 q3.y) (.int .u8 q3.mo) (.int .u8 q3.d) (.int .u8 q3.h) (.int .u8 q3.mi) (.int .u8 q3.s))
        go_wp2_with fail
        refine (works_calls _).mono ?_
        rintro e w99 ⟨rfl, hb⟩
        have HB99 := Lib.hid (HB8s.out.trans (hb.mono HB8s.out.size))
        clear hb
        go_wp2
        go_ret
        exact ⟨rfl, HB99.out⟩
      · skip
        go_wp2_with fail
        refine (HG.out _ HB7.out).mono ?_
        rintro e w8 ⟨rfl, hb⟩
        have HB8 := Lib.hid (HB7.out.trans (hb.mono HB7.out.size))
        have CT8 := Lib.hid (CT7.out.below hb)
        have CU8 := Lib.hid (CU7.out.below hb)
        clear hb y0 y1 y2
        have b0 := CU8.out.cell 0 _ rfl
        have b1 := CU8.out.cell 1 _ rfl
        have b2 := CU8.out.cell 2 _ rfl
        have b3 := CU8.out.cell 3 _ rfl
        have b4 := CU8.out.cell 4 _ rfl
        have b5 := CU8.out.cell 5 _ rfl
        have fz := CU8.out.free
        have zb := CU8.out.lt
        have za := CT8.out.lt
        have HB8s := Lib.hid (below_set6 HB8.out (b := w2.heap.size) HS2.out (.int .u16 q3.y) (.int .u8 q3.mo) (.int .u8 q3.d) (.int .u8 q3.h) (.int .u8 q3.mi) (.int .u8 q3.s))
        have CT8s := Lib.hid (CT8.out.set6far (b := w2.heap.size) hne (.int .u16 q3.y) (.int .u8 q3.mo) (.int .u8 q3.d) (.int .u8 q3.h) (.int .u8 q3.mi) (.int .u8 q3.s))
        have CU8s := Lib.hid (CU8.out.set6 (.int .u16 q3.y) (.int .u8 q3.mo) (.int .u8 q3.d) (.int .u8 q3.h) (.int .u8 q3.mi) (.int .u8 q3.s))
        go_wp2_with fail
        refine (HR3.out _).mono ?_
        rintro e w9 ⟨rfl, hb⟩
        have HB9 := Lib.hid (HB8s.out.trans (hb.mono HB8s.out.size))
        have CT9 := Lib.hid (CT8s.out.below hb)
        have CU9 := Lib.hid (CU8s.out.below hb)
        clear hb b0 b1 b2 b3 b4 b5 fz
        clear za zb
        go_wp2_with fail
        refine (works_calls _).mono ?_
        rintro e w99 ⟨rfl, hb⟩
        have HB99 := Lib.hid (HB9.out.trans (hb.mono HB9.out.size))
        clear hb
        go_wp2
        go_ret
        exact ⟨rfl, HB99.out⟩

set_option maxRecDepth 100000 in
set_option maxHeartbeats 16000000 in
theorem stampBack_none (a : Option Addr) (len cap : Nat) (l : List UInt8) (t : Tm) (w : World) (hl : len ≤ 4096) (hv : Hid (Byt w (.slice a len cap) l))
    (HW : Hid (∀ W, Calls Try.prog 17 #[.agg #[.int .u16 t.y, .int .u8 t.mo, .int .u8 t.d, .int .u8 t.h, .int .u8 t.mi, .int .u8 t.s]] W fun e w' => ∃ v', e = .returned v' ∧ OwnB w' W.heap.size v' (wrL t) ∧ Below W.heap.size W w'))
    (HRd : Hid (∀ v W, Byt W v (wrL t) → Calls Try.prog 15 #[v] W fun e w' => e = .returned (.tuple #[.agg #[.int .u16 0, .int .u8 0, .int .u8 0, .int .u8 0, .int .u8 0, .int .u8 0], .int .i64 9]) ∧ Below W.heap.size W w'))
    (HRt : Hid (∀ W, Calls Try.prog 23 #[.agg #[.int .u16 t.y, .int .u8 t.mo, .int .u8 t.d, .int .u8 t.h, .int .u8 t.mi, .int .u8 t.s]] W fun e w' => e = .returned (.bool false) ∧ Below W.heap.size W w'))
    (hz : ∀ W, (binOp .eql 25 (.agg #[.int .u16 t.y, .int .u8 t.mo, .int .u8 t.d, .int .u8 t.h, .int .u8 t.mi, .int .u8 t.s]) (.agg #[.int .u16 0, .int .u8 0, .int .u8 0, .int .u8 0, .int .u8 0, .int .u8 0])).run Try.prog W = .ok (.bool false) W)
    (hq : ∀ W, (binOp .neq 25 (.agg #[.int .u16 t.y, .int .u8 t.mo, .int .u8 t.d, .int .u8 t.h, .int .u8 t.mi, .int .u8 t.s]) (.agg #[.int .u16 t.y, .int .u8 t.mo, .int .u8 t.d, .int .u8 t.h, .int .u8 t.mi, .int .u8 t.s])).run Try.prog W = .ok (.bool false) W)
    (HBc : Hid (ReadWays (.slice a len cap) l w)) (HUc : Hid (ToldWays 25 (.slice a len cap) w (fun q => decide (q.y < 1950) = false ∧ decide (2050 ≤ q.y) = false))) (HGc : Hid (ToldWays 27 (.slice a len cap) w (fun _ => True))) :
    Calls Try.prog 10 #[.slice a len cap, .agg #[.int .u16 t.y, .int .u8 t.mo, .int .u8 t.d, .int .u8 t.h, .int .u8 t.mi, .int .u8 t.s]] w fun e w' => e = .returned (.bool true) ∧ Below w.heap.size w w' := by
  have hB0 : Hid (Below w.heap.size w (w.alloc (.cells #[.int .u16 t.y, .int .u8 t.mo, .int .u8 t.d, .int .u8 t.h, .int .u8 t.mi, .int .u8 t.s] 25))) := Lib.hid ((Below.refl _ _).alloc (Nat.le_refl _) _)
  have ct0 := Lib.hid (RowAt.new w #[.int .u16 t.y, .int .u8 t.mo, .int .u8 t.d, .int .u8 t.h, .int .u8 t.mi, .int .u8 t.s] 25 w.heap.size rfl)
  go_enter Try.func10, Try.ntmps10
  go_wp2_with fail
  refine (HW.out _).mono ?_
  rintro e w1 ⟨v1, rfl, ho, hb⟩
  have HB1 := Lib.hid (hB0.out.trans (hb.mono hB0.out.size))
  have CT1 := Lib.hid (ct0.out.below hb)
  have HO1 := Lib.hid ho
  clear ho
  clear hb
  go_wp2_with fail
  refine (HRd.out _ _ HO1.out.byt).mono ?_
  rintro e w2 ⟨rfl, hb⟩
  have HB2 := Lib.hid (HB1.out.trans (hb.mono HB1.out.size))
  have CT2 := Lib.hid (CT1.out.below hb)
  have HS2 := Lib.hid (HB2.out.size)
  have hne : w2.heap.size ≠ w.heap.size := by have h1 := CT2.out.lt; omega
  clear hb
  have HBa := Lib.hid (HB2.out.alloc HB2.out.size (.cells #[.int .u16 0, .int .u8 0, .int .u8 0, .int .u8 0, .int .u8 0, .int .u8 0] 25))
  have CTa := Lib.hid (CT2.out.alloc (.cells #[.int .u16 0, .int .u8 0, .int .u8 0, .int .u8 0, .int .u8 0, .int .u8 0] 25))
  have CUa := Lib.hid (RowAt.new w2 #[.int .u16 0, .int .u8 0, .int .u8 0, .int .u8 0, .int .u8 0, .int .u8 0] 25 w2.heap.size rfl)
  have a0 := CT2.out.cell 0 (.int .u16 t.y) rfl
  have a1 := CT2.out.cell 1 (.int .u8 t.mo) rfl
  have a2 := CT2.out.cell 2 (.int .u8 t.d) rfl
  have a3 := CT2.out.cell 3 (.int .u8 t.h) rfl
  have a4 := CT2.out.cell 4 (.int .u8 t.mi) rfl
  have a5 := CT2.out.cell 5 (.int .u8 t.s) rfl
  have za := CT2.out.lt
  go_wp2_with fail
  refine (HRt.out _).mono ?_
  rintro e w3 ⟨rfl, hb⟩
  have HB3 := Lib.hid (HBa.out.trans (hb.mono HBa.out.size))
  have CT3 := Lib.hid (CTa.out.below hb)
  have CU3 := Lib.hid (CUa.out.below hb)
  clear hb a0 a1 a2 a3 a4 a5 za
  have a0 := CT3.out.cell 0 (.int .u16 t.y) rfl
  have a1 := CT3.out.cell 1 (.int .u8 t.mo) rfl
  have a2 := CT3.out.cell 2 (.int .u8 t.d) rfl
  have a3 := CT3.out.cell 3 (.int .u8 t.h) rfl
  have a4 := CT3.out.cell 4 (.int .u8 t.mi) rfl
  have a5 := CT3.out.cell 5 (.int .u8 t.s) rfl
  have za := CT3.out.lt
  have b0 := CU3.out.cell 0 (.int .u16 0) rfl
  have b1 := CU3.out.cell 1 (.int .u8 0) rfl
  have b2 := CU3.out.cell 2 (.int .u8 0) rfl
  have b3 := CU3.out.cell 3 (.int .u8 0) rfl
  have b4 := CU3.out.cell 4 (.int .u8 0) rfl
  have b5 := CU3.out.cell 5 (.int .u8 0) rfl
  have zb := CU3.out.lt
  -- shown: a0 a1 a2 a3 a4 a5 za b0 b1 b2 b3 b4 b5 zb
  rcases HBc.out with ⟨q1, HD⟩ | ⟨q1, HD, HW1⟩
  · skip
    go_wp2_with fail
    refine (HD.out _ HB3.out).mono ?_
    rintro e w4 ⟨rfl, hb⟩
    have HB4 := Lib.hid (HB3.out.trans (hb.mono HB3.out.size))
    have CT4 := Lib.hid (CT3.out.below hb)
    have CU4 := Lib.hid (CU3.out.below hb)
    clear hb a0 a1 a2 a3 a4 a5 za b0 b1 b2 b3 b4 b5 zb
    have b0 := CU4.out.cell 0 _ rfl
    have b1 := CU4.out.cell 1 _ rfl
    have b2 := CU4.out.cell 2 _ rfl
    have b3 := CU4.out.cell 3 _ rfl
    have b4 := CU4.out.cell 4 _ rfl
    have b5 := CU4.out.cell 5 _ rfl
    have fz := CU4.out.free
    have zb := CU4.out.lt
    have za := CT4.out.lt
    have HB4s := Lib.hid (below_set6 HB4.out (b := w2.heap.size) HS2.out (.int .u16 q1.y) (.int .u8 q1.mo) (.int .u8 q1.d) (.int .u8 q1.h) (.int .u8 q1.mi) (.int .u8 q1.s))
    have CT4s := Lib.hid (CT4.out.set6far (b := w2.heap.size) hne (.int .u16 q1.y) (.int .u8 q1.mo) (.int .u8 q1.d) (.int .u8 q1.h) (.int .u8 q1.mi) (.int .u8 q1.s))
    have CU4s := Lib.hid (CU4.out.set6 (.int .u16 q1.y) (.int .u8 q1.mo) (.int .u8 q1.d) (.int .u8 q1.h) (.int .u8 q1.mi) (.int .u8 q1.s))
    rcases HUc.out with ⟨q2, HU⟩ | ⟨q2, HU, HR2, q2y⟩
    · skip
      go_wp2_with fail
      refine (HU.out _ HB4s.out).mono ?_
      rintro e w5 ⟨rfl, hb⟩
      have HB5 := Lib.hid (HB4s.out.trans (hb.mono HB4s.out.size))
      have CT5 := Lib.hid (CT4s.out.below hb)
      have CU5 := Lib.hid (CU4s.out.below hb)
      clear hb b0 b1 b2 b3 b4 b5 fz za zb
      have b0 := CU5.out.cell 0 _ rfl
      have b1 := CU5.out.cell 1 _ rfl
      have b2 := CU5.out.cell 2 _ rfl
      have b3 := CU5.out.cell 3 _ rfl
      have b4 := CU5.out.cell 4 _ rfl
      have b5 := CU5.out.cell 5 _ rfl
      have fz := CU5.out.free
      have zb := CU5.out.lt
      have za := CT5.out.lt
      have HB5s := Lib.hid (below_set6 HB5.out (b := w2.heap.size) HS2.out (.int .u16 q2.y) (.int .u8 q2.mo) (.int .u8 q2.d) (.int .u8 q2.h) (.int .u8 q2.mi) (.int .u8 q2.s))
      have CT5s := Lib.hid (CT5.out.set6far (b := w2.heap.size) hne (.int .u16 q2.y) (.int .u8 q2.mo) (.int .u8 q2.d) (.int .u8 q2.h) (.int .u8 q2.mi) (.int .u8 q2.s))
      have CU5s := Lib.hid (CU5.out.set6 (.int .u16 q2.y) (.int .u8 q2.mo) (.int .u8 q2.d) (.int .u8 q2.h) (.int .u8 q2.mi) (.int .u8 q2.s))
      rcases HGc.out with ⟨q3, HG⟩ | ⟨q3, HG, HR3, _⟩
      · skip
        go_wp2_with fail
        refine (HG.out _ HB5s.out).mono ?_
        rintro e w6 ⟨rfl, hb⟩
        have HB6 := Lib.hid (HB5s.out.trans (hb.mono HB5s.out.size))
        have CT6 := Lib.hid (CT5s.out.below hb)
        have CU6 := Lib.hid (CU5s.out.below hb)
        clear hb b0 b1 b2 b3 b4 b5 fz za zb
        have b0 := CU6.out.cell 0 _ rfl
        have b1 := CU6.out.cell 1 _ rfl
        have b2 := CU6.out.cell 2 _ rfl
        have b3 := CU6.out.cell 3 _ rfl
        have b4 := CU6.out.cell 4 _ rfl
        have b5 := CU6.out.cell 5 _ rfl
        have fz := CU6.out.free
        have zb := CU6.out.lt
        have za := CT6.out.lt
        have HB6s := Lib.hid (below_set6 HB6.out (b := w2.heap.size) HS2.out (.int .u16 q3.y) (.int .u8 q3.mo) (.int .u8 q3.d) (.int .u8 q3.h) (.int .u8 q3.mi) (.int .u8 q3.s))
        have CT6s := Lib.hid (CT6.out.set6far (b := w2.heap.size) hne (.int .u16 q3.y) (.int .u8 q3.mo) (.int .u8 q3.d) (.int .u8 q3.h) (.int .u8 q3.mi) (.int .u8 q3.s))
        have CU6s := Lib.hid (CU6.out.set6 (.int .u16 q3.y) (.int .u8 q3.mo) (.int .u8 q3.d) (.int .u8 q3.h) (.int .u8 q3.mi) (.int .u8 q3.s))
        go_wp2_with fail
        refine (works_calls _).mono ?_
        rintro e w99 ⟨rfl, hb⟩
        have HB99 := Lib.hid (HB6s.out.trans (hb.mono HB6s.out.size))
        clear hb
        go_wp2
        go_ret
        exact ⟨rfl, HB99.out⟩
      · skip
        go_wp2_with fail
        refine (HG.out _ HB5s.out).mono ?_
        rintro e w6 ⟨rfl, hb⟩
        have HB6 := Lib.hid (HB5s.out.trans (hb.mono HB5s.out.size))
        have CT6 := Lib.hid (CT5s.out.below hb)
        have CU6 := Lib.hid (CU5s.out.below hb)
        clear hb b0 b1 b2 b3 b4 b5 fz za zb
        have b0 := CU6.out.cell 0 _ rfl
        have b1 := CU6.out.cell 1 _ rfl
        have b2 := CU6.out.cell 2 _ rfl
        have b3 := CU6.out.cell 3 _ rfl
        have b4 := CU6.out.cell 4 _ rfl
        have b5 := CU6.out.cell 5 _ rfl
        have fz := CU6.out.free
        have zb := CU6.out.lt
        have za := CT6.out.lt
        have HB6s := Lib.hid (below_set6 HB6.out (b := w2.heap.size) HS2.out (.int .u16 q3.y) (.int .u8 q3.mo) (.int .u8 q3.d) (.int .u8 q3.h) (.int .u8 q3.mi) (.int .u8 q3.s))
        have CT6s := Lib.hid (CT6.out.set6far (b := w2.heap.size) hne (.int .u16 q3.y) (.int .u8 q3.mo) (.int .u8 q3.d) (.int .u8 q3.h) (.int .u8 q3.mi) (.int .u8 q3.s))
        have CU6s := Lib.hid (CU6.out.set6 (.int .u16 q3.y) (.int .u8 q3.mo) (.int .u8 q3.d) (.int .u8 q3.h) (.int .u8 q3.mi) (.int .u8 q3.s))
        go_wp2_with fail
        refine (HR3.out _).mono ?_
        rintro e w7 ⟨rfl, hb⟩
        have HB7 := Lib.hid (HB6s.out.trans (hb.mono HB6s.out.size))
        have CT7 := Lib.hid (CT6s.out.below hb)
        have CU7 := Lib.hid (CU6s.out.below hb)
        clear hb b0 b1 b2 b3 b4 b5 fz
        clear za zb
        go_wp2_with fail
        refine (works_calls _).mono ?_
        rintro e w99 ⟨rfl, hb⟩
        have HB99 := Lib.hid (HB7.out.trans (hb.mono HB7.out.size))
        clear hb
        go_wp2
        go_ret
        exact ⟨rfl, HB99.out⟩
    · skip
      go_wp2_with fail
      refine (HU.out _ HB4s.out).mono ?_
      rintro e w5 ⟨rfl, hb⟩
      have HB5 := Lib.hid (HB4s.out.trans (hb.mono HB4s.out.size))
      have CT5 := Lib.hid (CT4s.out.below hb)
      have CU5 := Lib.hid (CU4s.out.below hb)
      clear hb b0 b1 b2 b3 b4 b5 fz za zb
      have b0 := CU5.out.cell 0 _ rfl
      have b1 := CU5.out.cell 1 _ rfl
      have b2 := CU5.out.cell 2 _ rfl
      have b3 := CU5.out.cell 3 _ rfl
      have b4 := CU5.out.cell 4 _ rfl
      have b5 := CU5.out.cell 5 _ rfl
      have fz := CU5.out.free
      have zb := CU5.out.lt
      have za := CT5.out.lt
      have HB5s := Lib.hid (below_set6 HB5.out (b := w2.heap.size) HS2.out (.int .u16 q2.y) (.int .u8 q2.mo) (.int .u8 q2.d) (.int .u8 q2.h) (.int .u8 q2.mi) (.int .u8 q2.s))
      have CT5s := Lib.hid (CT5.out.set6far (b := w2.heap.size) hne (.int .u16 q2.y) (.int .u8 q2.mo) (.int .u8 q2.d) (.int .u8 q2.h) (.int .u8 q2.mi) (.int .u8 q2.s))
      have CU5s := Lib.hid (CU5.out.set6 (.int .u16 q2.y) (.int .u8 q2.mo) (.int .u8 q2.d) (.int .u8 q2.h) (.int .u8 q2.mi) (.int .u8 q2.s))
      go_wp2_with fail
      refine (HR2.out _).mono ?_
      rintro e w6 ⟨rfl, hb⟩
      have HB6 := Lib.hid (HB5s.out.trans (hb.mono HB5s.out.size))
      have CT6 := Lib.hid (CT5s.out.below hb)
      have CU6 := Lib.hid (CU5s.out.below hb)
      clear hb b0 b1 b2 b3 b4 b5 fz za zb
      have y0 := CU6.out.cell 0 (.int .u16 q2.y) rfl
      obtain ⟨y1, y2⟩ := q2y
      rcases HGc.out with ⟨q3, HG⟩ | ⟨q3, HG, HR3, _⟩
      · skip
        go_wp2_with fail
        refine (HG.out _ HB6.out).mono ?_
        rintro e w7 ⟨rfl, hb⟩
        have HB7 := Lib.hid (HB6.out.trans (hb.mono HB6.out.size))
        have CT7 := Lib.hid (CT6.out.below hb)
        have CU7 := Lib.hid (CU6.out.below hb)
        clear hb y0 y1 y2
        have b0 := CU7.out.cell 0 _ rfl
        have b1 := CU7.out.cell 1 _ rfl
        have b2 := CU7.out.cell 2 _ rfl
        have b3 := CU7.out.cell 3 _ rfl
        have b4 := CU7.out.cell 4 _ rfl
        have b5 := CU7.out.cell 5 _ rfl
        have fz := CU7.out.free
        have zb := CU7.out.lt
        have za := CT7.out.lt
        have HB7s := Lib.hid (below_set6 HB7.out (b := w2.heap.size) HS2.out (.int .u16 q3.y) (.int .u8 q3.mo) (.int .u8 q3.d) (.int .u8 q3.h) (.int .u8 q3.mi) (.int .u8 q3.s))
        have CT7s := Lib.hid (CT7.out.set6far (b := w2.heap.size) hne (.int .u16 q3.y) (.int .u8 q3.mo) (.int .u8 q3.d) (.int .u8 q3.h) (.int .u8 q3.mi) (.int .u8 q3.s))
        have CU7s := Lib.hid (CU7.out.set6 (.int .u16 q3.y) (.int .u8 q3.mo) (.int .u8 q3.d) (.int .u8 q3.h) (.int .u8 q3.mi) (.int .u8 q3.s))
        go_wp2_with fail
        refine (works_calls _).mono ?_
        rintro e w99 ⟨rfl, hb⟩
        have HB99 := Lib.hid (HB7s.out.trans (hb.mono HB7s.out.size))
        clear hb
        go_wp2
        go_ret
        exact ⟨rfl, HB99.out⟩
      · skip
        go_wp2_with fail
        refine (HG.out _ HB6.out).mono ?_
        rintro e w7 ⟨rfl, hb⟩
        have HB7 := Lib.hid (HB6.out.trans (hb.mono HB6.out.size))
        have CT7 := Lib.hid (CT6.out.below hb)
        have CU7 := Lib.hid (CU6.out.below hb)
        clear hb y0 y1 y2
        have b0 := CU7.out.cell 0 _ rfl
        have b1 := CU7.out.cell 1 _ rfl
        have b2 := CU7.out.cell 2 _ rfl
        have b3 := CU7.out.cell 3 _ rfl
        have b4 := CU7.out.cell 4 _ rfl
        have b5 := CU7.out.cell 5 _ rfl
        have fz := CU7.out.free
        have zb := CU7.out.lt
        have za := CT7.out.lt
        have HB7s := Lib.hid (below_set6 HB7.out (b := w2.heap.size) HS2.out (.int .u16 q3.y) (.int .u8 q3.mo) (.int .u8 q3.d) (.int .u8 q3.h) (.int .u8 q3.mi) (.int .u8 q3.s))
        have CT7s := Lib.hid (CT7.out.set6far (b := w2.heap.size) hne (.int .u16 q3.y) (.int .u8 q3.mo) (.int .u8 q3.d) (.int .u8 q3.h) (.int .u8 q3.mi) (.int .u8 q3.s))
        have CU7s := Lib.hid (CU7.out.set6 (.int .u16 q3.y) (.int .u8 q3.mo) (.int .u8 q3.d) (.int .u8 q3.h) (.int .u8 q3.mi) (.int .u8 q3.s))
        go_wp2_with fail
        refine (HR3.out _).mono ?_
        rintro e w8 ⟨rfl, hb⟩
        have HB8 := Lib.hid (HB7s.out.trans (hb.mono HB7s.out.size))
        have CT8 := Lib.hid (CT7s.out.below hb)
        have CU8 := Lib.hid (CU7s.out.below hb)
        clear hb b0 b1 b2 b3 b4 b5 fz
        clear za zb
        go_wp2_with fail
        refine (works_calls _).mono ?_
        rintro e w99 ⟨rfl, hb⟩
        have HB99 := Lib.hid (HB8.out.trans (hb.mono HB8.out.size))
        clear hb
        go_wp2
        go_ret
        exact ⟨rfl, HB99.out⟩
  · skip
    go_wp2_with fail
    refine (HD.out _ HB3.out).mono ?_
    rintro e w4 ⟨rfl, hb⟩
    have HB4 := Lib.hid (HB3.out.trans (hb.mono HB3.out.size))
    have CT4 := Lib.hid (CT3.out.below hb)
    have CU4 := Lib.hid (CU3.out.below hb)
    clear hb a0 a1 a2 a3 a4 a5 za b0 b1 b2 b3 b4 b5 zb
    have b0 := CU4.out.cell 0 _ rfl
    have b1 := CU4.out.cell 1 _ rfl
    have b2 := CU4.out.cell 2 _ rfl
    have b3 := CU4.out.cell 3 _ rfl
    have b4 := CU4.out.cell 4 _ rfl
    have b5 := CU4.out.cell 5 _ rfl
    have fz := CU4.out.free
    have zb := CU4.out.lt
    have za := CT4.out.lt
    have HB4s := Lib.hid (below_set6 HB4.out (b := w2.heap.size) HS2.out (.int .u16 q1.y) (.int .u8 q1.mo) (.int .u8 q1.d) (.int .u8 q1.h) (.int .u8 q1.mi) (.int .u8 q1.s))
    have CT4s := Lib.hid (CT4.out.set6far (b := w2.heap.size) hne (.int .u16 q1.y) (.int .u8 q1.mo) (.int .u8 q1.d) (.int .u8 q1.h) (.int .u8 q1.mi) (.int .u8 q1.s))
    have CU4s := Lib.hid (CU4.out.set6 (.int .u16 q1.y) (.int .u8 q1.mo) (.int .u8 q1.d) (.int .u8 q1.h) (.int .u8 q1.mi) (.int .u8 q1.s))
    go_wp2_with fail
    refine (HW1.out _).mono ?_
    rintro e w5 ⟨v9, rfl, ho, hb⟩
    have HB5 := Lib.hid (HB4s.out.trans (hb.mono HB4s.out.size))
    have CT5 := Lib.hid (CT4s.out.below hb)
    have CU5 := Lib.hid (CU4s.out.below hb)
    clear hb b0 b1 b2 b3 b4 b5 fz za zb
    have HE := eqBytes_calls v9 (.slice a len cap) l l _ ho.byt (hv.out.below (HB5.out))
    rw [decide_eq_true rfl] at HE
    have HEq := Lib.hid HE
    clear HE ho
    go_wp2_with fail
    refine HEq.out.mono ?_
    rintro e w' ⟨rfl, rfl⟩
    clear HEq
    rcases HUc.out with ⟨q2, HU⟩ | ⟨q2, HU, HR2, q2y⟩
    · skip
      go_wp2_with fail
      refine (HU.out _ HB5.out).mono ?_
      rintro e w6 ⟨rfl, hb⟩
      have HB6 := Lib.hid (HB5.out.trans (hb.mono HB5.out.size))
      have CT6 := Lib.hid (CT5.out.below hb)
      have CU6 := Lib.hid (CU5.out.below hb)
      clear hb
      have b0 := CU6.out.cell 0 _ rfl
      have b1 := CU6.out.cell 1 _ rfl
      have b2 := CU6.out.cell 2 _ rfl
      have b3 := CU6.out.cell 3 _ rfl
      have b4 := CU6.out.cell 4 _ rfl
      have b5 := CU6.out.cell 5 _ rfl
      have fz := CU6.out.free
      have zb := CU6.out.lt
      have za := CT6.out.lt
      have HB6s := Lib.hid (below_set6 HB6.out (b := w2.heap.size) HS2.out (.int .u16 q2.y) (.int .u8 q2.mo) (.int .u8 q2.d) (.int .u8 q2.h) (.int .u8 q2.mi) (.int .u8 q2.s))
      have CT6s := Lib.hid (CT6.out.set6far (b := w2.heap.size) hne (.int .u16 q2.y) (.int .u8 q2.mo) (.int .u8 q2.d) (.int .u8 q2.h) (.int .u8 q2.mi) (.int .u8 q2.s))
      have CU6s := Lib.hid (CU6.out.set6 (.int .u16 q2.y) (.int .u8 q2.mo) (.int .u8 q2.d) (.int .u8 q2.h) (.int .u8 q2.mi) (.int .u8 q2.s))
      rcases HGc.out with ⟨q3, HG⟩ | ⟨q3, HG, HR3, _⟩
      · skip
        go_wp2_with fail
        refine (HG.out _ HB6s.out).mono ?_
        rintro e w7 ⟨rfl, hb⟩
        have HB7 := Lib.hid (HB6s.out.trans (hb.mono HB6s.out.size))
        have CT7 := Lib.hid (CT6s.out.below hb)
        have CU7 := Lib.hid (CU6s.out.below hb)
        clear hb b0 b1 b2 b3 b4 b5 fz za zb
        have b0 := CU7.out.cell 0 _ rfl
        have b1 := CU7.out.cell 1 _ rfl
        have b2 := CU7.out.cell 2 _ rfl
        have b3 := CU7.out.cell 3 _ rfl
        have b4 := CU7.out.cell 4 _ rfl
        have b5 := CU7.out.cell 5 _ rfl
        have fz := CU7.out.free
        have zb := CU7.out.lt
        have za := CT7.out.lt
        have HB7s := Lib.hid (below_set6 HB7.out (b := w2.heap.size) HS2.out (.int .u16 q3.y) (.int .u8 q3.mo) (.int .u8 q3.d) (.int .u8 q3.h) (.int .u8 q3.mi) (.int .u8 q3.s))
        have CT7s := Lib.hid (CT7.out.set6far (b := w2.heap.size) hne (.int .u16 q3.y) (.int .u8 q3.mo) (.int .u8 q3.d) (.int .u8 q3.h) (.int .u8 q3.mi) (.int .u8 q3.s))
        have CU7s := Lib.hid (CU7.out.set6 (.int .u16 q3.y) (.int .u8 q3.mo) (.int .u8 q3.d) (.int .u8 q3.h) (.int .u8 q3.mi) (.int .u8 q3.s))
        go_wp2_with fail
        refine (works_calls _).mono ?_
        rintro e w99 ⟨rfl, hb⟩
        have HB99 := Lib.hid (HB7s.out.trans (hb.mono HB7s.out.size))
        clear hb
        go_wp2
        go_ret
        exact ⟨rfl, HB99.out⟩
      · skip
        go_wp2_with fail
        refine (HG.out _ HB6s.out).mono ?_
        rintro e w7 ⟨rfl, hb⟩
        have HB7 := Lib.hid (HB6s.out.trans (hb.mono HB6s.out.size))
        have CT7 := Lib.hid (CT6s.out.below hb)
        have CU7 := Lib.hid (CU6s.out.below hb)
        clear hb b0 b1 b2 b3 b4 b5 fz za zb
        have b0 := CU7.out.cell 0 _ rfl
        have b1 := CU7.out.cell 1 _ rfl
        have b2 := CU7.out.cell 2 _ rfl
        have b3 := CU7.out.cell 3 _ rfl
        have b4 := CU7.out.cell 4 _ rfl
        have b5 := CU7.out.cell 5 _ rfl
        have fz := CU7.out.free
        have zb := CU7.out.lt
        have za := CT7.out.lt
        have HB7s := Lib.hid (below_set6 HB7.out (b := w2.heap.size) HS2.out (.int .u16 q3.y) (.int .u8 q3.mo) (.int .u8 q3.d) (.int .u8 q3.h) (.int .u8 q3.mi) (.int .u8 q3.s))
        have CT7s := Lib.hid (CT7.out.set6far (b := w2.heap.size) hne (.int .u16 q3.y) (.int .u8 q3.mo) (.int .u8 q3.d) (.int .u8 q3.h) (.int .u8 q3.mi) (.int .u8 q3.s))
        have CU7s := Lib.hid (CU7.out.set6 (.int .u16 q3.y) (.int .u8 q3.mo) (.int .u8 q3.d) (.int .u8 q3.h) (.int .u8 q3.mi) (.int .u8 q3.s))
        go_wp2_with fail
        refine (HR3.out _).mono ?_
        rintro e w8 ⟨rfl, hb⟩
        have HB8 := Lib.hid (HB7s.out.trans (hb.mono HB7s.out.size))
        have CT8 := Lib.hid (CT7s.out.below hb)
        have CU8 := Lib.hid (CU7s.out.below hb)
        clear hb b0 b1 b2 b3 b4 b5 fz
        clear za zb
        go_wp2_with fail
        refine (works_calls _).mono ?_
        rintro e w99 ⟨rfl, hb⟩
        have HB99 := Lib.hid (HB8.out.trans (hb.mono HB8.out.size))
        clear hb
        go_wp2
        go_ret
        exact ⟨rfl, HB99.out⟩
    · skip
      go_wp2_with fail
      refine (HU.out _ HB5.out).mono ?_
      rintro e w6 ⟨rfl, hb⟩
      have HB6 := Lib.hid (HB5.out.trans (hb.mono HB5.out.size))
      have CT6 := Lib.hid (CT5.out.below hb)
      have CU6 := Lib.hid (CU5.out.below hb)
      clear hb
      have b0 := CU6.out.cell 0 _ rfl
      have b1 := CU6.out.cell 1 _ rfl
      have b2 := CU6.out.cell 2 _ rfl
      have b3 := CU6.out.cell 3 _ rfl
      have b4 := CU6.out.cell 4 _ rfl
      have b5 := CU6.out.cell 5 _ rfl
      have fz := CU6.out.free
      have zb := CU6.out.lt
      have za := CT6.out.lt
      have HB6s := Lib.hid (below_set6 HB6.out (b := w2.heap.size) HS2.out (.int .u16 q2.y) (.int .u8 q2.mo) (.int .u8 q2.d) (.int .u8 q2.h) (.int .u8 q2.mi) (.int .u8 q2.s))
      have CT6s := Lib.hid (CT6.out.set6far (b := w2.heap.size) hne (.int .u16 q2.y) (.int .u8 q2.mo) (.int .u8 q2.d) (.int .u8 q2.h) (.int .u8 q2.mi) (.int .u8 q2.s))
      have CU6s := Lib.hid (CU6.out.set6 (.int .u16 q2.y) (.int .u8 q2.mo) (.int .u8 q2.d) (.int .u8 q2.h) (.int .u8 q2.mi) (.int .u8 q2.s))
      go_wp2_with fail
      refine (HR2.out _).mono ?_
      rintro e w7 ⟨rfl, hb⟩
      have HB7 := Lib.hid (HB6s.out.trans (hb.mono HB6s.out.size))
      have CT7 := Lib.hid (CT6s.out.below hb)
      have CU7 := Lib.hid (CU6s.out.below hb)
      clear hb b0 b1 b2 b3 b4 b5 fz za zb
      have y0 := CU7.out.cell 0 (.int .u16 q2.y) rfl
      obtain ⟨y1, y2⟩ := q2y
      rcases HGc.out with ⟨q3, HG⟩ | ⟨q3, HG, HR3, _⟩
      · skip
        go_wp2_with fail
        refine (HG.out _ HB7.out).mono ?_
        rintro e w8 ⟨rfl, hb⟩
        have HB8 := Lib.hid (HB7.out.trans (hb.mono HB7.out.size))
        have CT8 := Lib.hid (CT7.out.below hb)
        have CU8 := Lib.hid (CU7.out.below hb)
        clear hb y0 y1 y2
        have b0 := CU8.out.cell 0 _ rfl
        have b1 := CU8.out.cell 1 _ rfl
        have b2 := CU8.out.cell 2 _ rfl
        have b3 := CU8.out.cell 3 _ rfl
        have b4 := CU8.out.cell 4 _ rfl
        have b5 := CU8.out.cell 5 _ rfl
        have fz := CU8.out.free
        have zb := CU8.out.lt
        have za := CT8.out.lt
        have HB8s := Lib.hid (below_set6 HB8.out (b := w2.heap.size) HS2.out (.int .u16 q3.y) (.int .u8 q3.mo) (.int .u8 q3.d) (.int .u8 q3.h) (.int .u8 q3.mi) (.int .u8 q3.s))
        have CT8s := Lib.hid (CT8.out.set6far (b := w2.heap.size) hne (.int .u16 q3.y) (.int .u8 q3.mo) (.int .u8 q3.d) (.int .u8 q3.h) (.int .u8 q3.mi) (.int .u8 q3.s))
        have CU8s := Lib.hid (CU8.out.set6 (.int .u16 q3.y) (.int .u8 q3.mo) (.int .u8 q3.d) (.int .u8 q3.h) (.int .u8 q3.mi) (.int .u8 q3.s))
        go_wp2_with fail
        refine (works_calls _).mono ?_
        rintro e w99 ⟨rfl, hb⟩
        have HB99 := Lib.hid (HB8s.out.trans (hb.mono HB8s.out.size))
        clear hb
        go_wp2
        go_ret
        exact ⟨rfl, HB99.out⟩
      · skip
        go_wp2_with fail
        refine (HG.out _ HB7.out).mono ?_
        rintro e w8 ⟨rfl, hb⟩
        have HB8 := Lib.hid (HB7.out.trans (hb.mono HB7.out.size))
        have CT8 := Lib.hid (CT7.out.below hb)
        have CU8 := Lib.hid (CU7.out.below hb)
        clear hb y0 y1 y2
        have b0 := CU8.out.cell 0 _ rfl
        have b1 := CU8.out.cell 1 _ rfl
        have b2 := CU8.out.cell 2 _ rfl
        have b3 := CU8.out.cell 3 _ rfl
        have b4 := CU8.out.cell 4 _ rfl
        have b5 := CU8.out.cell 5 _ rfl
        have fz := CU8.out.free
        have zb := CU8.out.lt
        have za := CT8.out.lt
        have HB8s := Lib.hid (below_set6 HB8.out (b := w2.heap.size) HS2.out (.int .u16 q3.y) (.int .u8 q3.mo) (.int .u8 q3.d) (.int .u8 q3.h) (.int .u8 q3.mi) (.int .u8 q3.s))
        have CT8s := Lib.hid (CT8.out.set6far (b := w2.heap.size) hne (.int .u16 q3.y) (.int .u8 q3.mo) (.int .u8 q3.d) (.int .u8 q3.h) (.int .u8 q3.mi) (.int .u8 q3.s))
        have CU8s := Lib.hid (CU8.out.set6 (.int .u16 q3.y) (.int .u8 q3.mo) (.int .u8 q3.d) (.int .u8 q3.h) (.int .u8 q3.mi) (.int .u8 q3.s))
        go_wp2_with fail
        refine (HR3.out _).mono ?_
        rintro e w9 ⟨rfl, hb⟩
        have HB9 := Lib.hid (HB8s.out.trans (hb.mono HB8s.out.size))
        have CT9 := Lib.hid (CT8s.out.below hb)
        have CU9 := Lib.hid (CU8s.out.below hb)
        clear hb b0 b1 b2 b3 b4 b5 fz
        clear za zb
        go_wp2_with fail
        refine (works_calls _).mono ?_
        rintro e w99 ⟨rfl, hb⟩
        have HB99 := Lib.hid (HB9.out.trans (hb.mono HB9.out.size))
        clear hb
        go_wp2
        go_ret
        exact ⟨rfl, HB99.out⟩

set_option maxRecDepth 100000 in
set_option maxHeartbeats 4000000 in
theorem stampBack_big (a : Option Addr) (len cap : Nat) (t : Tm) (w : World) (hl : 4096 < len) (hc : len ≤ 9223372036854775807) :
    Calls Try.prog 10 #[.slice a len cap, tmV t] w fun e w' => e = .returned (.bool true) ∧ Below w.heap.size w w' := by
  have hB0 : Hid (Below w.heap.size w (w.alloc (.cells #[.int .u16 t.y, .int .u8 t.mo, .int .u8 t.d, .int .u8 t.h, .int .u8 t.mi, .int .u8 t.s] 25))) := Lib.hid ((Below.refl _ _).alloc (Nat.le_refl _) _)
  have hd : decide ((4096 : Int) < (len : Int)) = true := by simp; omega
  unfold tmV
  go_enter Try.func10, Try.ntmps10
  go_wp2_with (go_at_call 13; refine (works_calls _).mono ?_; rintro e w9 ⟨rfl, hb⟩; have HB9 := Lib.hid (hB0.out.trans (hb.mono hB0.out.size)); clear hb)
  go_ret
  exact ⟨rfl, HB9.out⟩

theorem stampBack_walk (v : Value) (l : List UInt8) (t : Tm) (w : World) (hv : Byt w v l) (ht : t.Fit) :
    Calls Try.prog 10 #[v, tmV t] w fun e w' => e = .returned (.bool true) ∧ Below w.heap.size w w' := by
  obtain ⟨a, cap, rfl, h1, h2, _⟩ := hv.open
  unfold maxLen at h2
  by_cases hl : l.length ≤ 4096
  · have HW := Lib.hid (fun W => write_calls t W ht)
    have HRd := fun v W (h : Byt W v (wrL t)) => read_calls v (wrL t) W h (by rw [wrL_length]; decide)
    have HRt := fun W => right_calls t W ht
    have hz := fun W => run_tm_eq t tm0 W
    have hq : ∀ W, (binOp .neq 25 (.agg #[.int .u16 t.y, .int .u8 t.mo, .int .u8 t.d, .int .u8 t.h, .int .u8 t.mi, .int .u8 t.s]) (.agg #[.int .u16 t.y, .int .u8 t.mo, .int .u8 t.d, .int .u8 t.h, .int .u8 t.mi, .int .u8 t.s])).run Try.prog W = .ok (.bool false) W := fun W => by
      have := run_tm_neq t t W
      rw [(eqT_iff t t).2 rfl] at this
      exact this
    have HBc := Lib.hid (read_ways _ l w hv hl)
    have HUc := Lib.hid (utc_ways _ l w hv hl)
    have HGc := Lib.hid (gen_ways _ l w hv hl)
    have hw := back_ways t ht
    unfold BackWays at hw
    rcases hw with ⟨e1, e2, e3 | ⟨e3, e4⟩⟩ | ⟨e1, e2, e3, e4⟩
    · rw [e1, e2] at HRd
      rw [e3] at HRt
      exact stampBack_right a _ cap l t _ w hl (Lib.hid hv) HW (Lib.hid HRd) (Lib.hid HRt) hz hq HBc HUc HGc
    · rw [e1, e2] at HRd
      rw [e3] at HRt
      have e5 : eqT t tm0 = true := e4
      rw [e5] at hz
      exact stampBack_nought a _ cap l t w hl (Lib.hid hv) HW (Lib.hid HRd) (Lib.hid HRt) hz hq HBc HUc HGc
    · rw [e1, e2] at HRd
      rw [e3] at HRt
      have e5 : eqT t tm0 = false := e4
      rw [e5] at hz
      exact stampBack_none a _ cap l t w hl (Lib.hid hv) HW (Lib.hid HRd) (Lib.hid HRt) hz hq HBc HUc HGc
  · exact stampBack_big a _ cap t w (by omega) (by omega)
end Go.Proofs.Ytjjggnipicpjkaa
