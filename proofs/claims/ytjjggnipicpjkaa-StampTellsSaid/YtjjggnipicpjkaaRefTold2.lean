/-
  The contracts of the document's own Utc and General.
-/
import Derived.Test.YtjjggnipicpjkaaRefTold
import Derived.Test.YtjjggnipicpjkaaStamp9
namespace Go.Proofs.Ytjjggnipicpjkaa
open Go Go.RowKit

theorem numD_drop (l : List UInt8) (k p n : Nat) : numD (l.drop k) p n = numD l (k + p) n := by
  induction n with
  | zero => rfl
  | succ n ih =>
    unfold numD
    rw [ih]
    have : (l.drop k).getD (p + n) 0 = l.getD (k + p + n) 0 := by simp [List.getD, Nat.add_assoc]
    rw [this]

theorem mom_told (k : Nat) (f : Int → Int) (l : List UInt8) (hl : l.length = k + 11) (hy : ∀ i, i < k → digB (l.getD i 0) = true) :
    momB (f (numD l 0 k)) (l.drop k) = toldB k f l ∧ momR (f (numD l 0 k)) (l.drop k) = told k f l := by
  have gd : ∀ i, (l.drop k).getD i 0 = l.getD (k + i) 0 := fun i => by simp [List.getD]
  have key : momB (f (numD l 0 k)) (l.drop k) = toldB k f l ∧ (toldB k f l = true → momT (f (numD l 0 k)) (l.drop k) = toldT k f l) := by
    by_cases hP : ∀ i, i < 10 → digB (l.getD (k + i) 0) = true
    · have t2 : ∀ j, j + 1 < 10 → two (l.drop k) j = numD l (k + j) 2 := fun j hj => by
        rw [(two_yes (l.drop k) j (by rw [gd]; exact hP j (by omega)) (by rw [gd]; exact hP (j + 1) hj)).1, numD_drop]
      have hT : momT (f (numD l 0 k)) (l.drop k) = toldT k f l := by
        unfold momT toldT
        rw [t2 0 (by omega), t2 2 (by omega), t2 4 (by omega), t2 6 (by omega), t2 8 (by omega)]
        rfl
      refine ⟨?_, fun _ => hT⟩
      unfold momB
      rw [hT, gd]
      by_cases h90 : (l.getD (k + 10) 0).toNat = 90
      · rw [decide_eq_true h90, Bool.true_and]
        exact (toldB_yes k f l ⟨hl, h90, fun i hi => by
          by_cases hik : i < k
          · exact (digB_iff _).1 (hy i hik)
          · have := (digB_iff _).1 (hP (i - k) (by omega))
            rw [show k + (i - k) = i by omega] at this
            exact this⟩).symm
      · rw [decide_eq_false h90, Bool.false_and]
        exact (toldB_no k f l (fun c => h90 c.2.1)).1.symm
    · have hno : toldB k f l = false := (toldB_no k f l (fun c => hP (fun i hi => (digB_iff _).2 (c.2.2 (k + i) (by omega))))).1
      refine ⟨?_, fun h => by rw [hno] at h; cases h⟩
      rw [hno]
      cases hB : momB (f (numD l 0 k)) (l.drop k) with
      | false => rfl
      | true =>
        exfalso
        apply hP
        unfold momB at hB
        rw [Bool.and_eq_true] at hB
        have hb := right_bd hB.2
        unfold momT at hb
        simp only at hb
        have n100 : ∀ j, two (l.drop k) j ≠ 100 → digB (l.getD (k + j) 0) = true ∧ digB (l.getD (k + (j + 1)) 0) = true := fun j hj => by
          constructor
          · cases h : digB (l.getD (k + j) 0) with
            | true => rfl
            | false => exact absurd (two_no (l.drop k) j (.inl (by rw [gd]; exact h))) hj
          · cases h : digB (l.getD (k + (j + 1)) 0) with
            | true => rfl
            | false => exact absurd (two_no (l.drop k) j (.inr (by rw [gd]; exact h))) hj
        have h0 := n100 0 (by omega)
        have h2 := n100 2 (by omega)
        have h4 := n100 4 (by omega)
        have h6 := n100 6 (by omega)
        have h8 := n100 8 (by omega)
        intro i hi
        have : i = 0 ∨ i = 1 ∨ i = 2 ∨ i = 3 ∨ i = 4 ∨ i = 5 ∨ i = 6 ∨ i = 7 ∨ i = 8 ∨ i = 9 := by omega
        rcases this with rfl | rfl | rfl | rfl | rfl | rfl | rfl | rfl | rfl | rfl
        · exact h0.1
        · exact h0.2
        · exact h2.1
        · exact h2.2
        · exact h4.1
        · exact h4.2
        · exact h6.1
        · exact h6.2
        · exact h8.1
        · exact h8.2
  refine ⟨key.1, ?_⟩
  unfold momR told
  rw [key.1]
  split
  · exact key.2 ‹_›
  · rfl

/-- The two digits ahead tell the year, or none. -/
theorem two_dig (l : List UInt8) (p : Nat) (h : two l p ≠ 100) : digB (l.getD p 0) = true ∧ digB (l.getD (p + 1) 0) = true := by
  constructor
  · cases e : digB (l.getD p 0) with
    | true => rfl
    | false => exact absurd (two_no l p (.inl e)) h
  · cases e : digB (l.getD (p + 1) 0) with
    | true => rfl
    | false => exact absurd (two_no l p (.inr e)) h
theorem two_100 (l : List UInt8) (p : Nat) (h : two l p = 100) : ¬ (digB (l.getD p 0) = true ∧ digB (l.getD (p + 1) 0) = true) := fun ⟨h1, h2⟩ => by
  have := (two_yes l p h1 h2).2; omega

/-- The document's two digits of a year. -/
def utcYr (x : Int) : Int := if 50 ≤ x then 1900 + x else 2000 + x

theorem none_of (k : Nat) (f : Int → Int) (l : List UInt8) (h : toldB k f l = false) : told k f l = tm0 := by unfold told; rw [h]; rfl
theorem dig_no (k p : Nat) (f : Int → Int) (l : List UInt8) (hp : p + 1 < k + 10) (h : two l p = 100) : toldB k f l = false :=
  (toldB_no k f l (fun c => two_100 l p h ⟨(digB_iff _).2 (c.2.2 p (by omega)), (digB_iff _).2 (c.2.2 (p + 1) hp)⟩)).1

set_option maxRecDepth 100000 in
set_option maxHeartbeats 4000000 in
theorem refUtc_calls (v : Value) (l : List UInt8) (w : World) (hv : Byt w v l) (hl : l.length ≤ 1000000) :
    Calls Try.prog 26 #[v] w fun e w' => e = .returned (.tuple #[tmV (told 2 utcY l), .bool (toldB 2 utcY l)]) ∧ Below w.heap.size w w' := by
  have HB0 : Hid (Below w.heap.size w (w.alloc (.cells #[.int .u16 0, .int .u8 0, .int .u8 0, .int .u8 0, .int .u8 0, .int .u8 0] 25))) := Lib.hid ((Below.refl _ _).alloc (Nat.le_refl _) _)
  have CZ0 := Lib.hid (RowAt.new w #[.int .u16 0, .int .u8 0, .int .u8 0, .int .u8 0, .int .u8 0, .int .u8 0] 25 w.heap.size rfl)
  by_cases hlen : l.length = 13
  · have T0 : Hid (∀ W, Below w.heap.size w W → Calls Try.prog 42 #[v, .int .i64 0] W fun e w' => e = .returned (.int .i64 (two l 0)) ∧ Below W.heap.size W w') := Lib.hid (fun W hb => refTwo_calls v l 0 W (hv.below hb) (by omega) (by omega))
    have b0 := two_bd l 0
    have HV := Lib.hid hv
    obtain ⟨a, cap, rfl, h1, h2, hc⟩ := hv.open
    unfold maxLen at h2
    obtain ⟨b, off, rfl, _⟩ := hc 0 (by omega)
    have HX : Hid (two l 0 = 100 → toldB 2 utcY l = false) := Lib.hid (fun h => dig_no 2 0 utcY l (by omega) h)
    have HM : Hid (two l 0 ≠ 100 → ∀ W, Below w.heap.size w W → Calls Try.prog 43 #[.int .i64 (utcY (two l 0)), .slice (some ⟨b, off + 2, none⟩) 11 (cap - 2)] W fun e w' => e = .returned (.tuple #[tmV (told 2 utcY l), .bool (toldB 2 utcY l)]) ∧ Below W.heap.size W w') := Lib.hid (fun h W hb => by
      have hd := two_dig l 0 h
      have hb0 := (two_yes l 0 hd.1 hd.2)
      have hm := mom_told 2 utcY l hlen (fun i hi => by
        have : i = 0 ∨ i = 1 := by omega
        rcases this with rfl | rfl
        · exact hd.1
        · exact hd.2)
      have hfr := byt_from (HV.out.below hb) (k := 2) (by omega)
      rw [hlen] at hfr
      have := moment_calls (utcY (two l 0)) _ (l.drop 2) W (by unfold utcY; split <;> omega) hfr (by rw [List.length_drop]; omega) (by rw [List.length_drop]; omega)
      rw [hb0.1, hm.1, hm.2] at this
      rw [hb0.1]
      exact this)
    obtain ⟨x, hx⟩ : ∃ x, Hid (x = two l 0) := ⟨_, Lib.hid rfl⟩
    obtain ⟨q, hq⟩ : ∃ q, Hid (q = told 2 utcY l) := ⟨_, Lib.hid rfl⟩
    obtain ⟨B, hB⟩ : ∃ B, Hid (B = toldB 2 utcY l) := ⟨_, Lib.hid rfl⟩
    have HN : Hid (B = false → q = tm0) := Lib.hid (fun h => by rw [hq.out]; exact none_of 2 utcY l (by rw [← hB.out]; exact h))
    rw [← hx.out] at T0 b0 HX HM
    rw [← hq.out, ← hB.out] at HM ⊢
    rw [← hB.out] at HX
    rw [hlen] at h1 T0 ⊢
    unfold tmV at HM ⊢
    clear hc hv hlen hl HV hx hq hB
    by_cases h100 : x = 100
    · have hB := HX.out h100
      have hres : Hid (Ending.returned (.tuple #[.agg #[.int .u16 0, .int .u8 0, .int .u8 0, .int .u8 0, .int .u8 0, .int .u8 0], .bool false]) = .returned (.tuple #[.agg #[.int .u16 q.y, .int .u8 q.mo, .int .u8 q.d, .int .u8 q.h, .int .u8 q.mi, .int .u8 q.s], .bool B])) := Lib.hid (by rw [HN.out hB, hB]; rfl)
      subst h100
      clear hB HX HM HN b0
      go_enter Try.func26, Try.ntmps26
      go_wp2_with fail
      refine (T0.out _ HB0.out).mono ?_
      rintro e w1 ⟨rfl, hb⟩
      have HB1 := Lib.hid (HB0.out.trans (hb.mono HB0.out.size))
      have CZ1 := Lib.hid (CZ0.out.below hb)
      clear hb
      have zl := CZ1.out.lt
      have zc := CZ1.out.cell
      have z0 := zc 0 (.int .u16 0) rfl
      have z1 := zc 1 (.int .u8 0) rfl
      have z2 := zc 2 (.int .u8 0) rfl
      have z3 := zc 3 (.int .u8 0) rfl
      have z4 := zc 4 (.int .u8 0) rfl
      have z5 := zc 5 (.int .u8 0) rfl
      have zf := CZ1.out.free
      clear zc
      go_wp2
      refine bodyPost_ret (v := .tuple #[.agg #[.int .u16 0, .int .u8 0, .int .u8 0, .int .u8 0, .int .u8 0, .int .u8 0], .bool false]) ?_ rfl ?_
      · simp [results, Try.results26, go_sem, z0, z1, z2, z3, z4, z5]
      · refine ⟨hres.out, ?_⟩
        exact below_six HB1.out (Nat.le_refl _) _ _ _ _ _ _
    · have HM2 := Lib.hid (HM.out h100)
      have hx1 : (x == 100) = false := by simpa using h100
      have hxu : ((decide (2050 ≤ 2000 + x) = true) ∧ Hid (utcY x = 2000 + x - 100)) ∨ (decide (2050 ≤ 2000 + x) = false ∧ Hid (utcY x = 2000 + x)) := by
        unfold utcY
        by_cases h50 : 50 ≤ x
        · left; rw [if_pos h50]; exact ⟨by simp; omega, Lib.hid (by omega)⟩
        · right; rw [if_neg h50]; exact ⟨by simp; omega, Lib.hid (by omega)⟩
      clear h100 HX HM HN
      rcases hxu with ⟨q1, hu⟩ | ⟨q1, hu⟩
      all_goals
        rw [hu.out] at HM2
        clear hu
        go_enter Try.func26, Try.ntmps26
        go_wp2_with fail
        refine (T0.out _ HB0.out).mono ?_
        rintro e w1 ⟨rfl, hb⟩
        have HB1 := Lib.hid (HB0.out.trans (hb.mono HB0.out.size))
        have CZ1 := Lib.hid (CZ0.out.below hb)
        clear hb
        go_wp2_with fail
        refine (T0.out _ HB1.out).mono ?_
        rintro e w2 ⟨rfl, hb⟩
        have HB2 := Lib.hid (HB1.out.trans (hb.mono HB1.out.size))
        have CZ2 := Lib.hid (CZ1.out.below hb)
        clear hb
        go_wp2_with fail
        refine (HM2.out _ HB2.out).mono ?_
        rintro e w3 ⟨rfl, hb⟩
        have HB3 := Lib.hid (HB2.out.trans (hb.mono HB2.out.size))
        have CZ3 := Lib.hid (CZ2.out.below hb)
        clear hb
        have zl := CZ3.out.lt
        have zc := CZ3.out.cell
        have z0 := zc 0 (.int .u16 0) rfl
        have z1 := zc 1 (.int .u8 0) rfl
        have z2 := zc 2 (.int .u8 0) rfl
        have z3 := zc 3 (.int .u8 0) rfl
        have z4 := zc 4 (.int .u8 0) rfl
        have z5 := zc 5 (.int .u8 0) rfl
        have zf := CZ3.out.free
        clear zc
        go_wp2
        refine bodyPost_ret (v := .tuple #[.agg #[.int .u16 q.y, .int .u8 q.mo, .int .u8 q.d, .int .u8 q.h, .int .u8 q.mi, .int .u8 q.s], .bool B]) ?_ rfl ?_
        · simp [results, Try.results26, go_sem, z0, z1, z2, z3, z4, z5]
        · refine ⟨rfl, ?_⟩
          exact below_six HB3.out (Nat.le_refl _) _ _ _ _ _ _
  · have hB : toldB 2 utcY l = false := told_len 2 utcY l hlen
    have hres : Hid (Ending.returned (.tuple #[.agg #[.int .u16 0, .int .u8 0, .int .u8 0, .int .u8 0, .int .u8 0, .int .u8 0], .bool false]) = .returned (.tuple #[tmV (told 2 utcY l), .bool (toldB 2 utcY l)])) := Lib.hid (by rw [none_of 2 utcY l hB, hB]; rfl)
    obtain ⟨a, cap, rfl, h1, h2, hc⟩ := hv.open
    unfold maxLen at h2
    have hd : ((l.length : Int) != 13) = true := by simp; omega
    obtain ⟨R, hR⟩ : ∃ R, Hid (R = Ending.returned (.tuple #[tmV (told 2 utcY l), .bool (toldB 2 utcY l)])) := ⟨_, Lib.hid rfl⟩
    rw [← hR.out] at hres ⊢
    clear hc hv hB hR hlen
    have zl : w.heap.size < (w.alloc (.cells #[.int .u16 0, .int .u8 0, .int .u8 0, .int .u8 0, .int .u8 0, .int .u8 0] 25)).heap.size := CZ0.out.lt
    go_enter Try.func26, Try.ntmps26
    go_wp2
    refine bodyPost_ret (v := .tuple #[.agg #[.int .u16 0, .int .u8 0, .int .u8 0, .int .u8 0, .int .u8 0, .int .u8 0], .bool false]) ?_ rfl ?_
    · simp [results, Try.results26, go_sem]
    · refine ⟨hres.out, ?_⟩
      exact HB0.out

/-! ### General -/

/-- Six cells are there. -/
def Six6 (w : World) (b : Nat) : Prop := ∃ d0 d1 d2 d3 d4 d5, RowAt w b #[d0, d1, d2, d3, d4, d5]
theorem Six6.of {w : World} {b : Nat} {d0 d1 d2 d3 d4 d5 : Value} (h : RowAt w b #[d0, d1, d2, d3, d4, d5]) : Six6 w b := ⟨_, _, _, _, _, _, h⟩
theorem row_six {w : World} {b : Nat} {c0 c1 c2 c3 c4 c5 : Value} (h : RowAt w b #[c0, c1, c2, c3, c4, c5]) (d0 d1 d2 d3 d4 d5 : Value) : RowAt ((((((w.setCell ⟨b, 0, none⟩ d0).setCell ⟨b, 1, none⟩ d1).setCell ⟨b, 2, none⟩ d2).setCell ⟨b, 3, none⟩ d3).setCell ⟨b, 4, none⟩ d4).setCell ⟨b, 5, none⟩ d5) b #[d0, d1, d2, d3, d4, d5] :=
  (((((h.set (i := 0) (u := d0) (by simp)).set (i := 1) (u := d1) (by simp)).set (i := 2) (u := d2) (by simp)).set (i := 3) (u := d3) (by simp)).set (i := 4) (u := d4) (by simp)).set (i := 5) (u := d5) (by simp)
/-- Growth, but for one block of six cells, which is written these values or stays. -/
def GG (B : Nat) (cs : Array Value) (w w' : World) : Prop := Below B w w' ∧ (RowAt w B cs → RowAt w' B cs) ∧ (Six6 w B → Six6 w' B)
theorem GG.refl {B : Nat} {cs : Array Value} (w : World) : GG B cs w w := ⟨Below.refl _ _, id, id⟩
theorem GG.trans {B : Nat} {cs : Array Value} (a b c : World) (h : GG B cs a b) (k : GG B cs b c) : GG B cs a c := ⟨h.1.trans k.1, fun x => k.2.1 (h.2.1 x), fun x => k.2.2 (h.2.2 x)⟩
theorem GGa {B : Nat} {cs : Array Value} {w w' : World} (h : GG B cs w w') : Below B w w' := h.1
theorem GGb {B : Nat} {cs : Array Value} {w w' : World} (hB : B ≤ w.heap.size) (h : Below w.heap.size w w') : GG B cs w w' := ⟨h.mono hB, fun x => x.below h, fun ⟨_, _, _, _, _, _, x⟩ => Six6.of (x.below h)⟩
theorem GGc {B : Nat} {w : World} {c0 c1 c2 c3 c4 c5 : Value} (h : RowAt w B #[c0, c1, c2, c3, c4, c5]) (d0 d1 d2 d3 d4 d5 : Value) : GG B #[d0, d1, d2, d3, d4, d5] w ((((((w.setCell ⟨B, 0, none⟩ d0).setCell ⟨B, 1, none⟩ d1).setCell ⟨B, 2, none⟩ d2).setCell ⟨B, 3, none⟩ d3).setCell ⟨B, 4, none⟩ d4).setCell ⟨B, 5, none⟩ d5) :=
  ⟨below_six (Below.refl _ _) (Nat.le_refl _) _ _ _ _ _ _, fun _ => row_six h _ _ _ _ _ _, fun _ => Six6.of (row_six h _ _ _ _ _ _)⟩

set_option maxRecDepth 100000 in
set_option maxHeartbeats 4000000 in
theorem refGeneral_calls (v : Value) (l : List UInt8) (w : World) (hv : Byt w v l) (hl : l.length ≤ 1000000) :
    Calls Try.prog 28 #[v] w fun e w' => e = .returned (.tuple #[tmV (told 4 genY l), .bool (toldB 4 genY l)]) ∧ Below w.heap.size w w' := by
  have HB0 : Hid (Below w.heap.size w (w.alloc (.cells #[.int .u16 0, .int .u8 0, .int .u8 0, .int .u8 0, .int .u8 0, .int .u8 0] 25))) := Lib.hid ((Below.refl _ _).alloc (Nat.le_refl _) _)
  have CZ0 := Lib.hid (RowAt.new w #[.int .u16 0, .int .u8 0, .int .u8 0, .int .u8 0, .int .u8 0, .int .u8 0] 25 w.heap.size rfl)
  by_cases hlen : l.length = 15
  · have T0 : Hid (∀ W, Below w.heap.size w W → Calls Try.prog 42 #[v, .int .i64 0] W fun e w' => e = .returned (.int .i64 (two l 0)) ∧ Below W.heap.size W w') := Lib.hid (fun W hb => refTwo_calls v l 0 W (hv.below hb) (by omega) (by omega))
    have T2 : Hid (∀ W, Below w.heap.size w W → Calls Try.prog 42 #[v, .int .i64 2] W fun e w' => e = .returned (.int .i64 (two l 2)) ∧ Below W.heap.size W w') := Lib.hid (fun W hb => refTwo_calls v l 2 W (hv.below hb) (by omega) (by omega))
    have b0 := two_bd l 0
    have b2 := two_bd l 2
    have HV := Lib.hid hv
    obtain ⟨a, cap, rfl, h1, h2, hc⟩ := hv.open
    unfold maxLen at h2
    obtain ⟨b, off, rfl, _⟩ := hc 0 (by omega)
    have HX : Hid (two l 0 = 100 → toldB 4 genY l = false) := Lib.hid (fun h => dig_no 4 0 genY l (by omega) h)
    have HX2 : Hid (two l 2 = 100 → toldB 4 genY l = false) := Lib.hid (fun h => dig_no 4 2 genY l (by omega) h)
    have HM : Hid (two l 0 ≠ 100 → two l 2 ≠ 100 → ∀ W, Below w.heap.size w W → Calls Try.prog 43 #[.int .i64 (100 * two l 0 + two l 2), .slice (some ⟨b, off + 4, none⟩) 11 (cap - 4)] W fun e w' => e = .returned (.tuple #[tmV (told 4 genY l), .bool (toldB 4 genY l)]) ∧ Below W.heap.size W w') := Lib.hid (fun h h' W hb => by
      have hd := two_dig l 0 h
      have hd2 := two_dig l 2 h'
      have hb0 := (two_yes l 0 hd.1 hd.2)
      have hb2 := (two_yes l 2 hd2.1 hd2.2)
      have hm := mom_told 4 genY l hlen (fun i hi => by
        have : i = 0 ∨ i = 1 ∨ i = 2 ∨ i = 3 := by omega
        rcases this with rfl | rfl | rfl | rfl
        · exact hd.1
        · exact hd.2
        · exact hd2.1
        · exact hd2.2)
      have e : genY (numD l 0 4) = 100 * two l 0 + two l 2 := by
        rw [hb0.1, hb2.1]
        unfold genY
        simp only [numD, Nat.zero_add, Nat.add_zero, Nat.reduceAdd]
        omega
      rw [e] at hm
      have hfr := byt_from (HV.out.below hb) (k := 4) (by omega)
      rw [hlen] at hfr
      have := moment_calls (100 * two l 0 + two l 2) _ (l.drop 4) W (by omega) hfr (by rw [List.length_drop]; omega) (by rw [List.length_drop]; omega)
      rw [hm.1, hm.2] at this
      exact this)
    obtain ⟨x, hx⟩ : ∃ x, Hid (x = two l 0) := ⟨_, Lib.hid rfl⟩
    obtain ⟨y, hy⟩ : ∃ x, Hid (x = two l 2) := ⟨_, Lib.hid rfl⟩
    obtain ⟨q, hq⟩ : ∃ q, Hid (q = told 4 genY l) := ⟨_, Lib.hid rfl⟩
    obtain ⟨B, hB⟩ : ∃ B, Hid (B = toldB 4 genY l) := ⟨_, Lib.hid rfl⟩
    have HN : Hid (B = false → q = tm0) := Lib.hid (fun h => by rw [hq.out]; exact none_of 4 genY l (by rw [← hB.out]; exact h))
    rw [← hx.out, ← hy.out] at HM
    rw [← hx.out] at T0 b0 HX
    rw [← hy.out] at T2 b2 HX2
    rw [← hq.out, ← hB.out] at HM ⊢
    rw [← hB.out] at HX HX2
    rw [hlen] at h1 T0 T2 ⊢
    unfold tmV at HM ⊢
    clear hc hv hlen hl HV hx hy hq hB
    by_cases h100 : x = 100
    · have hB := HX.out h100
      have hres : Hid (Ending.returned (.tuple #[.agg #[.int .u16 0, .int .u8 0, .int .u8 0, .int .u8 0, .int .u8 0, .int .u8 0], .bool false]) = .returned (.tuple #[.agg #[.int .u16 q.y, .int .u8 q.mo, .int .u8 q.d, .int .u8 q.h, .int .u8 q.mi, .int .u8 q.s], .bool B])) := Lib.hid (by rw [HN.out hB, hB]; rfl)
      subst h100
      clear hB HX HX2 HM HN b0
      go_enter Try.func28, Try.ntmps28
      go_wp2_with fail
      refine (T0.out _ HB0.out).mono ?_
      rintro e w1 ⟨rfl, hb⟩
      have HB1 := Lib.hid (HB0.out.trans (hb.mono HB0.out.size))
      have CZ1 := Lib.hid (CZ0.out.below hb)
      clear hb
      have zl := CZ1.out.lt
      have zc := CZ1.out.cell
      have z0 := zc 0 (.int .u16 0) rfl
      have z1 := zc 1 (.int .u8 0) rfl
      have z2 := zc 2 (.int .u8 0) rfl
      have z3 := zc 3 (.int .u8 0) rfl
      have z4 := zc 4 (.int .u8 0) rfl
      have z5 := zc 5 (.int .u8 0) rfl
      have zf := CZ1.out.free
      clear zc
      go_wp2
      refine bodyPost_ret (v := .tuple #[.agg #[.int .u16 0, .int .u8 0, .int .u8 0, .int .u8 0, .int .u8 0, .int .u8 0], .bool false]) ?_ rfl ?_
      · simp [results, Try.results28, go_sem, z0, z1, z2, z3, z4, z5]
      · refine ⟨hres.out, ?_⟩
        exact below_six HB1.out (Nat.le_refl _) _ _ _ _ _ _
    · have hx1 : (x == 100) = false := by simpa using h100
      by_cases h101 : y = 100
      · have hB := HX2.out h101
        have hres : Hid (Ending.returned (.tuple #[.agg #[.int .u16 0, .int .u8 0, .int .u8 0, .int .u8 0, .int .u8 0, .int .u8 0], .bool false]) = .returned (.tuple #[.agg #[.int .u16 q.y, .int .u8 q.mo, .int .u8 q.d, .int .u8 q.h, .int .u8 q.mi, .int .u8 q.s], .bool B])) := Lib.hid (by rw [HN.out hB, hB]; rfl)
        subst h101
        clear hB HX HX2 HM HN b2 h100
        go_enter Try.func28, Try.ntmps28
        go_wp2_with fail
        refine (T0.out _ HB0.out).mono ?_
        rintro e w1 ⟨rfl, hb⟩
        have HB1 := Lib.hid (HB0.out.trans (hb.mono HB0.out.size))
        have CZ1 := Lib.hid (CZ0.out.below hb)
        clear hb
        go_wp2_with fail
        refine (T2.out _ HB1.out).mono ?_
        rintro e w2 ⟨rfl, hb⟩
        have HB2 := Lib.hid (HB1.out.trans (hb.mono HB1.out.size))
        have CZ2 := Lib.hid (CZ1.out.below hb)
        clear hb
        have zl := CZ2.out.lt
        have zc := CZ2.out.cell
        have z0 := zc 0 (.int .u16 0) rfl
        have z1 := zc 1 (.int .u8 0) rfl
        have z2 := zc 2 (.int .u8 0) rfl
        have z3 := zc 3 (.int .u8 0) rfl
        have z4 := zc 4 (.int .u8 0) rfl
        have z5 := zc 5 (.int .u8 0) rfl
        have zf := CZ2.out.free
        clear zc
        go_wp2
        refine bodyPost_ret (v := .tuple #[.agg #[.int .u16 0, .int .u8 0, .int .u8 0, .int .u8 0, .int .u8 0, .int .u8 0], .bool false]) ?_ rfl ?_
        · simp [results, Try.results28, go_sem, z0, z1, z2, z3, z4, z5]
        · refine ⟨hres.out, ?_⟩
          exact below_six HB2.out (Nat.le_refl _) _ _ _ _ _ _
      · have hy1 : (y == 100) = false := by simpa using h101
        have HM2 := Lib.hid (HM.out h100 h101)
        clear h100 h101 HX HX2 HM HN
        go_enter Try.func28, Try.ntmps28
        go_wp2_with fail
        refine (T0.out _ HB0.out).mono ?_
        rintro e w1 ⟨rfl, hb⟩
        have HB1 := Lib.hid (HB0.out.trans (hb.mono HB0.out.size))
        have CZ1 := Lib.hid (CZ0.out.below hb)
        clear hb
        go_wp2_with fail
        refine (T2.out _ HB1.out).mono ?_
        rintro e w2 ⟨rfl, hb⟩
        have HBr := Lib.hid (HB1.out.trans (hb.mono HB1.out.size))
        have CZr := Lib.hid (CZ1.out.below hb)
        clear hb
        go_wp2_with fail
        have m1 : IntKind.i64.wrap (100 * x) = 100 * x := IntWalk.i64_in _ (by omega)
        have m2 : IntKind.i64.wrap (100 * x + y) = 100 * x + y := IntWalk.i64_in _ (by omega)
        have m3 : ¬ (cap = 4) := by omega
        have HM := HM2
        refine' wp_region_list (G := GG w.heap.size #[.int .u16 q.y, .int .u8 q.mo, .int .u8 q.d, .int .u8 q.h, .int .u8 q.mi, .int .u8 q.s]) GG.refl GG.trans (by kernel_rfl) (fun w' => Hid (Below w.heap.size w w') ∧ Hid (Six6 w' w.heap.size)) [isV _, isV _, isV _, isV _, isV _, isV _, isV _, isV _, isV _, isV _, isV _, fun _ w' => RowAt w' w.heap.size #[.int .u16 q.y, .int .u8 q.mo, .int .u8 q.d, .int .u8 q.h, .int .u8 q.mi, .int .u8 q.s], isV _] 29 [[], [(0, some 18)], [(1, some 19)], [], [(3, some 21)], [(2, some 20), (4, some 22)], [], [(6, some 24)], [(5, some 23), (7, some 25)], [(8, some 26)], [(8, some 26)], [(9, some 27)], [(10, some 28)]] [(0, some 18), (1, some 19), (2, some 20), (3, some 21), (4, some 22), (5, some 23), (6, some 24), (7, some 25), (8, some 26), (9, some 27), (10, some 28), (11, none), (12, some 3)] rfl (by kernel_rfl) ⟨fun _ _ _ _ h => h, fun _ _ _ _ h => h, fun _ _ _ _ h => h, fun _ _ _ _ h => h, fun _ _ _ _ h => h, fun _ _ _ _ h => h, fun _ _ _ _ h => h, fun _ _ _ _ h => h, fun _ _ _ _ h => h, fun _ _ _ _ h => h, fun _ _ _ _ h => h, fun _ _ _ hg h => hg.2.1 h, fun _ _ _ _ h => h, trivial⟩ (fun _ a a' _ e h => by cases a; cases a'; cases e; exact h) ?hS ?hsteps ?hend
        case hS =>
          intro w' hg
          exact ⟨Lib.hid (HBr.out.drew.trans (GGa hg)), Lib.hid (hg.2.2 (Six6.of CZr.out.drew))⟩
        case hsteps =>
          refine ⟨?_, ?_, ?_, ?_, ?_, ?_, ?_, ?_, ?_, ?_, ?_, ?_, ?_, trivial⟩
          · intro w' hs
            simp only [AllV, rgPut]
            clear hs
            first
              | (refine OpOk.off ?_ ?_ <;> rfl)
              | (refine OpOk.run ?_ (fun K hK => ?_)
                 · rfl
                 go_simp
                 refine hK.out _ _ (GG.refl _) ?_
                 exact rfl)
          · intro w' hs
            simp only [AllV, rdP, isV, forall_eq, rgPut, Act.put, List.setIfInBounds_toArray, List.set_cons_zero, List.set_cons_succ]
            obtain ⟨hbb, h6⟩ := hs
            first
              | (refine OpOk.off ?_ ?_ <;> rfl)
              | (refine OpOk.run ?_ (fun K hK => ?_)
                 · rfl
                 go_simp
                 go_at_call 42
                 refine ((T0.out _ hbb.out)).mono ?_
                 rintro e w1 ⟨rfl, hb⟩
                 refine hK.out _ _ (GGb hbb.out.size hb) ?_
                 exact rfl
                )
          · intro w' hs
            simp only [AllV, rdP, isV, forall_eq, rgPut, Act.put, List.setIfInBounds_toArray, List.set_cons_zero, List.set_cons_succ]
            clear hs
            first
              | (refine OpOk.off ?_ ?_ <;> rfl)
              | (refine OpOk.run ?_ (fun K hK => ?_)
                 · rfl
                 go_simp
                 refine hK.out _ _ (GG.refl _) ?_
                 exact rfl)
          · intro w' hs
            simp only [AllV, rgPut]
            clear hs
            first
              | (refine OpOk.off ?_ ?_ <;> rfl)
              | (refine OpOk.run ?_ (fun K hK => ?_)
                 · rfl
                 go_simp
                 refine hK.out _ _ (GG.refl _) ?_
                 exact rfl)
          · intro w' hs
            simp only [AllV, rdP, isV, forall_eq, rgPut, Act.put, List.setIfInBounds_toArray, List.set_cons_zero, List.set_cons_succ]
            obtain ⟨hbb, h6⟩ := hs
            first
              | (refine OpOk.off ?_ ?_ <;> rfl)
              | (refine OpOk.run ?_ (fun K hK => ?_)
                 · rfl
                 go_simp
                 go_at_call 42
                 refine ((T2.out _ hbb.out)).mono ?_
                 rintro e w1 ⟨rfl, hb⟩
                 refine hK.out _ _ (GGb hbb.out.size hb) ?_
                 exact rfl
                )
          · intro w' hs
            simp only [AllV, rdP, isV, forall_eq, rgPut, Act.put, List.setIfInBounds_toArray, List.set_cons_zero, List.set_cons_succ]
            clear hs
            first
              | (refine OpOk.off ?_ ?_ <;> rfl)
              | (refine OpOk.run ?_ (fun K hK => ?_)
                 · rfl
                 go_simp
                 refine hK.out _ _ (GG.refl _) ?_
                 exact rfl)
          · intro w' hs
            simp only [AllV, rgPut]
            clear hs
            first
              | (refine OpOk.off ?_ ?_ <;> rfl)
              | (refine OpOk.run ?_ (fun K hK => ?_)
                 · rfl
                 go_simp
                 refine hK.out _ _ (GG.refl _) ?_
                 exact rfl)
          · intro w' hs
            simp only [AllV, rdP, isV, forall_eq, rgPut, Act.put, List.setIfInBounds_toArray, List.set_cons_zero, List.set_cons_succ]
            clear hs
            first
              | (refine OpOk.off ?_ ?_ <;> rfl)
              | (refine OpOk.run ?_ (fun K hK => ?_)
                 · rfl
                 go_simp
                 refine hK.out _ _ (GG.refl _) ?_
                 exact rfl)
          · intro w' hs
            simp only [AllV, rdP, isV, forall_eq, rgPut, Act.put, List.setIfInBounds_toArray, List.set_cons_zero, List.set_cons_succ]
            obtain ⟨hbb, h6⟩ := hs
            first
              | (refine OpOk.off ?_ ?_ <;> rfl)
              | (refine OpOk.run ?_ (fun K hK => ?_)
                 · rfl
                 go_simp
                 go_at_call 43
                 refine ((HM.out _ hbb.out)).mono ?_
                 rintro e w1 ⟨rfl, hb⟩
                 refine hK.out _ _ (GGb hbb.out.size hb) ?_
                 exact rfl
                )
          · intro w' hs
            simp only [AllV, rdP, isV, forall_eq, rgPut, Act.put, List.setIfInBounds_toArray, List.set_cons_zero, List.set_cons_succ]
            clear hs
            first
              | (refine OpOk.off ?_ ?_ <;> rfl)
              | (refine OpOk.run ?_ (fun K hK => ?_)
                 · rfl
                 go_simp
                 refine hK.out _ _ (GG.refl _) ?_
                 exact rfl)
          · intro w' hs
            simp only [AllV, rdP, isV, forall_eq, rgPut, Act.put, List.setIfInBounds_toArray, List.set_cons_zero, List.set_cons_succ]
            clear hs
            first
              | (refine OpOk.off ?_ ?_ <;> rfl)
              | (refine OpOk.run ?_ (fun K hK => ?_)
                 · rfl
                 go_simp
                 refine hK.out _ _ (GG.refl _) ?_
                 exact rfl)
          · -- 11: Op.store 25 t2 t27
            intro w' hs
            simp only [AllV, rdP, isV, forall_eq, rgPut, Act.put, List.setIfInBounds_toArray, List.set_cons_zero, List.set_cons_succ]
            obtain ⟨hbb, h6⟩ := hs
            obtain ⟨d0, d1, d2, d3, d4, d5, hrow⟩ := h6.out
            have z0 := hrow.cell 0 d0 rfl
            have z1 := hrow.cell 1 d1 rfl
            have z2 := hrow.cell 2 d2 rfl
            have z3 := hrow.cell 3 d3 rfl
            have z4 := hrow.cell 4 d4 rfl
            have z5 := hrow.cell 5 d5 rfl
            have zf := hrow.free
            have HROW := Lib.hid hrow
            clear hrow h6
            refine OpOk.run ?_ (fun K hK => ?_)
            · rfl
            go_simp
            refine hK.out undef _ (GGc HROW.out _ _ _ _ _ _) ?_
            exact row_six HROW.out _ _ _ _ _ _
          · intro w' hs
            simp only [AllV, rdP, isV, forall_eq, rgPut, Act.put, List.setIfInBounds_toArray, List.set_cons_zero, List.set_cons_succ]
            clear hs
            first
              | (refine OpOk.off ?_ ?_ <;> rfl)
              | (refine OpOk.run ?_ (fun K hK => ?_)
                 · rfl
                 go_simp
                 refine hK.out _ _ (GG.refl _) ?_
                 exact rfl)
        case hend =>
          intro w' hs
          simp only [AllV, rdP, isV, forall_eq, rgPut, Act.put, List.setIfInBounds_toArray, List.set_cons_zero, List.set_cons_succ]
          intro v11 hrow
          have zc := hrow.cell
          have z0 := zc 0 (.int .u16 q.y) rfl
          have z1 := zc 1 (.int .u8 q.mo) rfl
          have z2 := zc 2 (.int .u8 q.d) rfl
          have z3 := zc 3 (.int .u8 q.h) rfl
          have z4 := zc 4 (.int .u8 q.mi) rfl
          have z5 := zc 5 (.int .u8 q.s) rfl
          clear zc
          go_wp2
          refine bodyPost_ret (v := .tuple #[.agg #[.int .u16 q.y, .int .u8 q.mo, .int .u8 q.d, .int .u8 q.h, .int .u8 q.mi, .int .u8 q.s], .bool B]) ?_ rfl ?_
          · simp [results, Try.results28, go_sem, z0, z1, z2, z3, z4, z5]
          · refine ⟨rfl, ?_⟩
            exact hs.1.out
  · have hB : toldB 4 genY l = false := told_len 4 genY l hlen
    have hres : Hid (Ending.returned (.tuple #[.agg #[.int .u16 0, .int .u8 0, .int .u8 0, .int .u8 0, .int .u8 0, .int .u8 0], .bool false]) = .returned (.tuple #[tmV (told 4 genY l), .bool (toldB 4 genY l)])) := Lib.hid (by rw [none_of 4 genY l hB, hB]; rfl)
    obtain ⟨a, cap, rfl, h1, h2, hc⟩ := hv.open
    unfold maxLen at h2
    have hd : ((l.length : Int) != 15) = true := by simp; omega
    obtain ⟨R, hR⟩ : ∃ R, Hid (R = Ending.returned (.tuple #[tmV (told 4 genY l), .bool (toldB 4 genY l)])) := ⟨_, Lib.hid rfl⟩
    rw [← hR.out] at hres ⊢
    clear hc hv hB hR hlen
    have zl : w.heap.size < (w.alloc (.cells #[.int .u16 0, .int .u8 0, .int .u8 0, .int .u8 0, .int .u8 0, .int .u8 0] 25)).heap.size := CZ0.out.lt
    go_enter Try.func28, Try.ntmps28
    go_wp2
    refine bodyPost_ret (v := .tuple #[.agg #[.int .u16 0, .int .u8 0, .int .u8 0, .int .u8 0, .int .u8 0, .int .u8 0], .bool false]) ?_ rfl ?_
    · simp [results, Try.results28, go_sem]
    · refine ⟨hres.out, ?_⟩
      exact HB0.out
end Go.Proofs.Ytjjggnipicpjkaa
