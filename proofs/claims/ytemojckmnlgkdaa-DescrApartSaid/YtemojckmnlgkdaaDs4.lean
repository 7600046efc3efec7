/-
  The contract of the closure of descr's Read, take; and the boxes of Read.
-/
import Derived.Test.YtemojckmnlgkdaaDs3
import Derived.Test.YtemojckmnlgkdaaOct3
import Derived.Test.YtemojckmnlgkdaaStamp9
namespace Go.Proofs.Ytemojckmnlgkdaa
open Go Go.RowKit
set_option linter.unusedVariables false

set_option maxRecDepth 100000 in
set_option maxHeartbeats 2000000 in
theorem take_calls (a : Option Addr) (len cap : Nat) (l : List UInt8) (p n : Nat) (k : Bool) (Bb Bat Bok : Nat) (w : World) (hlen : len = l.length) (hv : Byt w (.slice a len cap) l) (hb : RowAt w Bb #[.slice a len cap]) (ha : RowAt w Bat #[.int .i64 (p : Int)]) (hk : RowAt w Bok #[.bool k])
    (h1 : Bat ≠ Bok) (hp : p ≤ 1000000) (hn : n ≤ 1000000) (hl : len ≤ 1000000000) :
    Calls Try.prog 17 #[.int .i64 (n : Int), .pointer (some ⟨Bb, 0, none⟩), .pointer (some ⟨Bat, 0, none⟩), .pointer (some ⟨Bok, 0, none⟩)] w fun e w' => ∃ x c, e = .returned (.slice x (cutL l p n).length c) ∧
      OwnB w' w.heap.size (.slice x (cutL l p n).length c) (cutL l p n) ∧ RowAt w' Bat #[.int .i64 ((p + n : Nat) : Int)] ∧ RowAt w' Bok #[.bool (k && withinB len p n)] ∧ Chg [Bat, Bok] w w' := by
  have HC := Lib.hid (cut_calls (.slice a len cap) l p n w hv (by unfold I64; omega) (by unfold I64; omega) (by omega))
  rw [← hlen] at HC
  obtain ⟨X, hX⟩ : ∃ X, Hid (X = cutL l p n) := ⟨_, Lib.hid rfl⟩
  obtain ⟨F, hF⟩ : ∃ F, Hid (F = withinB len p n) := ⟨_, Lib.hid rfl⟩
  rw [← hX.out, ← hF.out] at HC
  rw [← hX.out, ← hF.out]
  obtain ⟨m, hm⟩ : ∃ m, Hid (m = X.length) := ⟨_, Lib.hid rfl⟩
  rw [← hm.out]
  have cb := hb.cell 0 (.slice a len cap) rfl
  have ca := ha.cell 0 (.int .i64 (p : Int)) rfl
  have HA := Lib.hid ha
  have HK := Lib.hid hk
  have hzz : Bat < w.heap.size ∧ Bok < w.heap.size := ⟨ha.lt, hk.lt⟩
  clear hv hb ha hk hlen
  have hne := Lib.hid h1
  have h1' : ¬ (Bok = Bat) := fun e => h1 e.symm
  go_enter Try.func17, Try.ntmps17
  go_wp2_with fail
  refine HC.out.mono ?_
  rintro e w1 ⟨v1, rfl, ho, hb⟩
  obtain ⟨x1, c1, rfl, hc1, hc2⟩ := Own.shape ho
  rw [← hm.out] at ho hc1 ⊢
  unfold maxLen at hc2
  have HO := Lib.hid ho
  have HA1 := Lib.hid (HA.out.below hb)
  have HK1 := Lib.hid (HK.out.below hb)
  have CB := Lib.hid (Below.chg hb [Bat, Bok])
  clear ho hb ca cb
  have ca := HA1.out.cell 0 (.int .i64 (p : Int)) rfl
  have ck := HK1.out.cell 0 (.bool k) rfl
  have fa := HA1.out.free
  have fk := HK1.out.free
  have zz : Bat < w1.heap.size ∧ Bok < w1.heap.size := ⟨HA1.out.lt, HK1.out.lt⟩
  have CE := Lib.hid ((CB.out.setCell (i := 0) (show Bok ∈ [Bat, Bok] by simp) (.bool (k && F))).setCell (i := 0) (show Bat ∈ [Bat, Bok] by simp) (.int .i64 ((p : Int) + (n : Int))))
  have HAE := Lib.hid (((HA1.out.far (i := 0) (u := .bool (k && F)) (fun e => hne.out e.symm)).set (i := 0) (u := .int .i64 ((p : Int) + (n : Int))) (by simp)))
  have HKE := Lib.hid (((HK1.out.set (i := 0) (u := .bool (k && F)) (by simp)).far (k := Bat) (i := 0) (u := .int .i64 ((p : Int) + (n : Int))) hne.out))
  have HOE : Hid (OwnB ((w1.setCell ⟨Bok, 0, none⟩ (.bool (k && F))).setCell ⟨Bat, 0, none⟩ (.int .i64 ((p : Int) + (n : Int)))) w.heap.size (.slice x1 m c1) X) := Lib.hid (HO.out.chg' (((Chg.refl [Bat, Bok] w1).setCell (i := 0) (show Bok ∈ [Bat, Bok] by simp) (.bool (k && F))).setCell (i := 0) (show Bat ∈ [Bat, Bok] by simp) (.int .i64 ((p : Int) + (n : Int)))) (fun y hy => by
    simp only [List.mem_cons, List.not_mem_nil, or_false] at hy
    rcases hy with rfl | rfl
    · exact hzz.1
    · exact hzz.2))
  cases k with
  | false =>
    rw [Bool.false_and] at CE HAE HKE HOE
    go_wp2
    go_ret
    exact ⟨x1, c1, rfl, HOE.out, HAE.out, HKE.out, CE.out⟩
  | true =>
    rw [Bool.true_and] at CE HAE HKE HOE
    go_wp2
    go_ret
    exact ⟨x1, c1, rfl, HOE.out, HAE.out, HKE.out, CE.out⟩

theorem cut_in (l : List UInt8) (p n : Nat) (h : p + n ≤ l.length) : cutL l (p : Int) (n : Int) = (l.drop p).take n ∧ withinB l.length (p : Int) (n : Int) = true := by
  have hw : withinB l.length (p : Int) (n : Int) = true := (withinB_iff _ _ _).2 (by omega)
  unfold cutL
  rw [hw, if_pos rfl]
  exact ⟨rfl, rfl⟩
theorem cut_out (l : List UInt8) (p n : Nat) (h : l.length < p + n) : cutL l (p : Int) (n : Int) = [] ∧ withinB l.length (p : Int) (n : Int) = false := by
  have hw : withinB l.length (p : Int) (n : Int) = false := by
    cases hw : withinB l.length (p : Int) (n : Int) with
    | false => rfl
    | true => have := (withinB_iff _ _ _).1 hw; omega
  unfold cutL
  rw [hw]
  exact ⟨rfl, rfl⟩
theorem got_all (q : List UInt8) (n : Nat) (h : q.length = n) (hs : sizedB n = true) : gotL q 0 n = numL q := by
  have hw : withinB q.length 0 (n : Int) = true := (withinB_iff _ _ _).2 (by omega)
  unfold gotL getOk
  rw [hs, hw]
  unfold seg
  rw [if_pos (by rfl)]
  simp only [Int.toNat_zero, List.drop_zero, Int.toNat_natCast, ← h, List.take_length]

/-- The boxes of Read in its midst: the bytes, the moment, where it stands, whether all was there; and that nothing else was turned. -/
structure DSt (w0 w : World) (sl : Value) (cells : Array Value) (p : Nat) (k : Bool) : Prop where
  b : RowAt w (w0.heap.size) #[sl]
  o : RowAt w (w0.heap.size + 1) cells
  a : RowAt w (w0.heap.size + 1 + 1) #[.int .i64 (p : Int)]
  k : RowAt w (w0.heap.size + 1 + 1 + 1) #[.bool k]
  bel : Below w0.heap.size w0 w

section
variable {w0 w w' : World} {sl : Value} {cells : Array Value} {p : Nat} {k : Bool}
theorem DSt.below (S : DSt w0 w sl cells p k) (hb : Below w.heap.size w w') : DSt w0 w' sl cells p k :=
  ⟨S.b.below hb, S.o.below hb, S.a.below hb, S.k.below hb, S.bel.trans (hb.mono S.bel.size)⟩
theorem DSt.took (S : DSt w0 w sl cells p k) {p' : Nat} {k' : Bool} (hA : RowAt w' (w0.heap.size + 1 + 1) #[.int .i64 (p' : Int)]) (hK : RowAt w' (w0.heap.size + 1 + 1 + 1) #[.bool k']) (hC : Chg [w0.heap.size + 1 + 1, w0.heap.size + 1 + 1 + 1] w w') : DSt w0 w' sl cells p' k' := by
  have hne : ∀ x, x ≠ w0.heap.size + 1 + 1 → x ≠ w0.heap.size + 1 + 1 + 1 → x ∉ [w0.heap.size + 1 + 1, w0.heap.size + 1 + 1 + 1] := fun x h1 h2 hx => by simp only [List.mem_cons, List.not_mem_nil, or_false] at hx; rcases hx with e | e <;> contradiction
  exact ⟨S.b.chg hC (hne _ (by omega) (by omega)), S.o.chg hC (hne _ (by omega) (by omega)), hA, hK,
    Below.andChg S.bel hC S.bel.size (fun x hx => by simp only [List.mem_cons, List.not_mem_nil, or_false] at hx; rcases hx with rfl | rfl <;> omega)⟩
/-- What was made since stays where take goes on. -/
theorem own_took {base : Nat} {v : Value} {l : List UInt8} (ho : OwnB w base v l) (hb : w0.heap.size + 1 + 1 + 1 < base) (hC : Chg [w0.heap.size + 1 + 1, w0.heap.size + 1 + 1 + 1] w w') : OwnB w' base v l :=
  ho.chg' hC (fun x hx => by simp only [List.mem_cons, List.not_mem_nil, or_false] at hx; rcases hx with rfl | rfl <;> omega)

/-- take, whatever is there. -/
theorem DSt.take {b : Option Addr} {len cap : Nat} {l : List UInt8} (S : DSt w0 w (.slice b len cap) cells p k) (hv : Byt w0 (.slice b len cap) l) (hlen : len = l.length) (n : Nat) (hp : p ≤ 1000000) (hn : n ≤ 1000000) (hl : len ≤ 1000000000) :
    Calls Try.prog 17 #[.int .i64 (n : Int), .pointer (some ⟨w0.heap.size, 0, none⟩), .pointer (some ⟨w0.heap.size + 1 + 1, 0, none⟩), .pointer (some ⟨w0.heap.size + 1 + 1 + 1, 0, none⟩)] w fun e w' => ∃ x m c, e = .returned (.slice x m c) ∧ OwnB w' w.heap.size (.slice x m c) (cutL l p n) ∧ DSt w0 w' (.slice b len cap) cells (p + n) (k && withinB len p n) ∧ Chg [w0.heap.size + 1 + 1, w0.heap.size + 1 + 1 + 1] w w' :=
  (take_calls b len cap l p n k _ _ _ w hlen (hv.below S.bel) S.b S.a S.k (by omega) hp hn hl).mono fun e w' ⟨x, c, he, ho, hA, hK, hC⟩ => ⟨x, _, c, he, ho, S.took hA hK hC, hC⟩
theorem DSt.take_in {b : Option Addr} {len cap : Nat} {l : List UInt8} (S : DSt w0 w (.slice b len cap) cells p k) (hv : Byt w0 (.slice b len cap) l) (hlen : len = l.length) (n : Nat) (hp : p ≤ 1000000) (hn : n ≤ 1000000) (hpn : p + n ≤ len) (hl : len ≤ 1000000000) :
    Calls Try.prog 17 #[.int .i64 (n : Int), .pointer (some ⟨w0.heap.size, 0, none⟩), .pointer (some ⟨w0.heap.size + 1 + 1, 0, none⟩), .pointer (some ⟨w0.heap.size + 1 + 1 + 1, 0, none⟩)] w fun e w' => ∃ x c, e = .returned (.slice x n c) ∧ OwnB w' w.heap.size (.slice x n c) ((l.drop p).take n) ∧ DSt w0 w' (.slice b len cap) cells (p + n) k ∧ Chg [w0.heap.size + 1 + 1, w0.heap.size + 1 + 1 + 1] w w' := by
  have hc := cut_in l p n (by omega)
  have hl2 : ((l.drop p).take n).length = n := by rw [List.length_take, List.length_drop]; omega
  have := take_calls b len cap l p n k _ _ _ w hlen (hv.below S.bel) S.b S.a S.k (by omega) hp hn hl
  rw [hlen, hc.1, hc.2, Bool.and_true, hl2] at this
  exact this.mono fun e w' ⟨x, c, he, ho, hA, hK, hC⟩ => ⟨x, c, he, ho, S.took hA hK hC, hC⟩
theorem DSt.take_out {b : Option Addr} {len cap : Nat} {l : List UInt8} (S : DSt w0 w (.slice b len cap) cells p k) (hv : Byt w0 (.slice b len cap) l) (hlen : len = l.length) (n : Nat) (hp : p ≤ 1000000) (hn : n ≤ 1000000) (hpn : len < p + n) (hl : len ≤ 1000000000) :
    Calls Try.prog 17 #[.int .i64 (n : Int), .pointer (some ⟨w0.heap.size, 0, none⟩), .pointer (some ⟨w0.heap.size + 1 + 1, 0, none⟩), .pointer (some ⟨w0.heap.size + 1 + 1 + 1, 0, none⟩)] w fun e w' => ∃ x m c, e = .returned (.slice x m c) ∧ DSt w0 w' (.slice b len cap) cells (p + n) false ∧ Chg [w0.heap.size + 1 + 1, w0.heap.size + 1 + 1 + 1] w w' := by
  have hc := cut_out l p n (by omega)
  have := take_calls b len cap l p n k _ _ _ w hlen (hv.below S.bel) S.b S.a S.k (by omega) hp hn hl
  rw [hlen, hc.1, hc.2, Bool.and_false] at this
  exact this.mono fun e w' ⟨x, c, he, ho, hA, hK, hC⟩ => ⟨x, _, c, he, S.took hA hK hC, hC⟩
end

/-- The moment's cells, none of them told yet. -/
def z6 : Array Value := #[.int .u16 0, .int .u8 0, .int .u8 0, .int .u8 0, .int .u8 0, .int .u8 0]
theorem DSt.start (w0 : World) (sl : Value) : DSt w0 ((((w0.alloc (.cells #[sl] 22)).alloc (.cells #[.int .u16 0, .int .u8 0, .int .u8 0, .int .u8 0, .int .u8 0, .int .u8 0] 25)).alloc (.cells #[.int .i64 0] 3)).alloc (.cells #[.bool true] 4)) sl #[.int .u16 0, .int .u8 0, .int .u8 0, .int .u8 0, .int .u8 0, .int .u8 0] 0 true := by
  have h : ∀ (w : World) (o : Obj), (w.alloc o).heap.size = w.heap.size + 1 := fun w o => by simp
  exact ⟨((RowAt.new w0 _ _ _ rfl).alloc _).alloc _ |>.alloc _, ((RowAt.new _ _ _ _ (by rw [h])).alloc _).alloc _, (RowAt.new _ _ _ _ (by rw [h, h])).alloc _, RowAt.new _ _ _ _ (by rw [h, h, h]),
    ((((Below.refl _ _).alloc (Nat.le_refl _) _).alloc (by rw [h]; omega) _).alloc (by rw [h, h]; omega) _).alloc (by rw [h, h, h]; omega) _⟩

/-- What is read of bytes, in its ways. -/
theorem rd_ways (l : List UInt8) (h40 : 40 ≤ l.length) : (dsN l = numL ((l.drop 16).take 4)) ∧
    (((l.drop 20).take 20 ≠ ahd ∧ dsR l = false) ∨ ((l.drop 20).take 20 = ahd ∧ ((dsN l ≤ 24 ∧ dsR l = false) ∨ (25 ≤ dsN l ∧ ((65560 < dsN l ∧ dsR l = false) ∨ (dsN l ≤ 65560 ∧ ((l.length < 16 + dsN l ∧ dsR l = false) ∨ (16 + dsN l ≤ l.length ∧
      ((rdB (l.take 16) = false ∧ dsR l = false) ∨ (rdB (l.take 16) = true ∧ ((eqT (rdT (l.take 16)) tm0 = true ∧ dsR l = false) ∨ (eqT (rdT (l.take 16)) tm0 = false ∧ dsR l = true)))))))))))) := by
  refine ⟨rfl, ?_⟩
  have no : ∀ h : ¬ dsP l, dsR l = false := dsR_no l
  by_cases h1 : (l.drop 20).take 20 = ahd
  · refine .inr ⟨h1, ?_⟩
    by_cases h2 : dsN l ≤ 24
    · exact .inl ⟨h2, no (fun h => by have := h.2.2.1; omega)⟩
    · refine .inr ⟨by omega, ?_⟩
      by_cases h3 : 65560 < dsN l
      · exact .inl ⟨h3, no (fun h => by have := h.2.2.2.1; omega)⟩
      · refine .inr ⟨by omega, ?_⟩
        by_cases h4 : l.length < 16 + dsN l
        · exact .inl ⟨h4, no (fun h => by have := h.2.2.2.2.1; omega)⟩
        · refine .inr ⟨by omega, ?_⟩
          cases h5 : rdB (l.take 16) with
          | false => exact .inl ⟨rfl, no (fun h => by have := h.2.2.2.2.2.1; rw [h5] at this; cases this)⟩
          | true =>
            refine .inr ⟨rfl, ?_⟩
            cases h6 : eqT (rdT (l.take 16)) tm0 with
            | true => exact .inl ⟨rfl, no (fun h => by
                have := tm_right _ h.2.2.2.2.2.2
                rw [h6] at this
                cases this)⟩
            | false =>
              refine .inr ⟨rfl, (dsR_iff l).2 ⟨h40, h1, by omega, by omega, by omega, h5, ?_⟩⟩
              unfold rdB isZ at h5
              rw [h6, Bool.false_or, Bool.and_eq_true] at h5
              exact h5.2
  · exact .inl ⟨h1, no (fun h => h1 h.2.1)⟩

/-- b[q:], of bytes that are within. -/
theorem byt_tail {w : World} {b off len cap q : Nat} {l : List UInt8} (h : Byt w (.slice (some ⟨b, off, none⟩) len cap) l) (hlen : len = l.length) (hq : q ≤ len) :
    ∃ y, (∀ W : World, (Instr.sliceAt 22 (.slice (some ⟨b, off, none⟩) len cap) (some (.int .i64 (q : Int))) none none).run Try.prog W = .ok (.slice y (len - q) (cap - q)) W) ∧ Byt w (.slice y (len - q) (cap - q)) (l.drop q) := by
  subst hlen
  obtain ⟨a', cap', e, hlc, hcm, hc⟩ := h.open
  simp only [Value.slice.injEq] at e
  obtain ⟨rfl, _, rfl⟩ := e
  refine ⟨if cap = q then some ⟨b, off, none⟩ else some ⟨b, off + q, none⟩, fun W => ?_, ?_⟩
  · obtain ⟨i, hi, hz0, hz1, hz2⟩ := info_parts infoB
    have b2 : (0 : Int) ≤ (q : Int) ∧ (q : Int) ≤ (l.length : Int) := by omega
    simp [Instr.sliceAt, Instr.slice, Instr.sliceBounds, Instr.sliceBound, run_underlying Try.underlying22, asIntOf, b2, sizeOf, typeInfo, hi, hz1, add0]
    try omega
  · refine Byt.of (by rw [List.length_drop]) (by omega) (by unfold maxLen at hcm ⊢; omega) fun i hi => ?_
    rw [List.length_drop] at hi
    obtain ⟨b', off', e, hcell⟩ := hc (q + i) (by omega)
    cases e
    refine ⟨b, off + q, by rw [if_neg (by omega)], ?_⟩
    rw [Nat.add_assoc, hcell]
    simp [List.getD]

theorem clone_shape (v : Value) (l : List UInt8) (w : World) (h : Byt w v l) (hl : l.length ≤ 140737488355328) :
    Calls Try.prog 21 #[v] w fun e w' => ∃ x n c, e = .returned (.slice x n c) ∧ OwnB w' w.heap.size (.slice x n c) l ∧ Below w.heap.size w w' :=
  (clone_calls v l w h hl).mono fun e w' ⟨v', he, ho, hb⟩ => by
    obtain ⟨x, c, rfl, _, _⟩ := Own.shape ho
    exact ⟨x, _, c, he, ho, hb⟩
end Go.Proofs.Ytemojckmnlgkdaa
