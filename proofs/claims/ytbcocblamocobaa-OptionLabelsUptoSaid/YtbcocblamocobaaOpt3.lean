/-
  The contracts of the closures of option's Read: take and number.
-/
import Derived.Test.YtbcocblamocobaaOpt2
import Derived.Test.YtbcocblamocobaaOct3
namespace Go.Proofs.Ytbcocblamocobaa
open Go Go.RowKit

set_option maxRecDepth 100000 in
set_option maxHeartbeats 2000000 in
theorem take_calls (a : Option Addr) (len cap : Nat) (l : List UInt8) (p : Nat) (n : Int) (k : Bool) (Bb Bat Bok : Nat) (w : World) (hlen : len = l.length) (hv : Byt w (.slice a len cap) l) (hb : RowAt w Bb #[.slice a len cap]) (ha : RowAt w Bat #[.int .i64 (p : Int)]) (hk : RowAt w Bok #[.bool k])
    (h1 : Bat ≠ Bok) (hp : p ≤ len) (hn : I64 n) (hl : len ≤ 1000000000) :
    Calls Try.prog 28 #[.int .i64 n, .pointer (some ⟨Bb, 0, none⟩), .pointer (some ⟨Bat, 0, none⟩), .pointer (some ⟨Bok, 0, none⟩)] w fun e w' => ∃ x c, e = .returned (.slice x (cutL l p n).length c) ∧
      OwnB w' w.heap.size (.slice x (cutL l p n).length c) (cutL l p n) ∧ RowAt w' Bat #[.int .i64 ((p + (cutL l p n).length : Nat) : Int)] ∧ RowAt w' Bok #[.bool (k && withinB len p n)] ∧ Chg [Bat, Bok] w w' := by
  have HC := Lib.hid (cut_calls (.slice a len cap) l p n w hv (by unfold I64; omega) hn (by omega))
  have hcl : (cutL l p n).length ≤ len := by rw [hlen]; exact cutL_length_le l p n
  rw [← hlen] at HC
  obtain ⟨X, hX⟩ : ∃ X, Hid (X = cutL l p n) := ⟨_, Lib.hid rfl⟩
  obtain ⟨F, hF⟩ : ∃ F, Hid (F = withinB len p n) := ⟨_, Lib.hid rfl⟩
  rw [← hX.out, ← hF.out] at HC
  rw [← hX.out] at hcl ⊢
  rw [← hF.out]
  obtain ⟨m, hm⟩ : ∃ m, Hid (m = X.length) := ⟨_, Lib.hid rfl⟩
  rw [← hm.out] at hcl ⊢
  unfold I64 at hn
  have cb := hb.cell 0 (.slice a len cap) rfl
  have ca := ha.cell 0 (.int .i64 (p : Int)) rfl
  have HA := Lib.hid ha
  have HK := Lib.hid hk
  have hzz : Bat < w.heap.size ∧ Bok < w.heap.size := ⟨ha.lt, hk.lt⟩
  clear hv hb ha hk hlen
  have hne := Lib.hid h1
  have h1' : ¬ (Bok = Bat) := fun e => h1 e.symm
  go_enter Try.func28, Try.ntmps28
  go_wp2_with fail
  refine HC.out.mono ?_
  rintro e w1 ⟨v1, rfl, ho, hb⟩
  obtain ⟨x1, c1, rfl, hc1, hc2⟩ := Own.shape ho
  rw [← hm.out] at ho hc1 ⊢
  unfold maxLen at hc2
  have HO := Lib.hid ho
  have HA1 := Lib.hid (HA.out.below hb)
  have HK1 := Lib.hid (HK.out.below hb)
  have CB := Lib.hid (Below.chg hb [Bat, Bok])
  clear ho hb ca cb
  have ca := HA1.out.cell 0 (.int .i64 (p : Int)) rfl
  have ck := HK1.out.cell 0 (.bool k) rfl
  have fa := HA1.out.free
  have fk := HK1.out.free
  have zz : Bat < w1.heap.size ∧ Bok < w1.heap.size := ⟨HA1.out.lt, HK1.out.lt⟩
  have CE := Lib.hid ((CB.out.setCell (i := 0) (show Bok ∈ [Bat, Bok] by simp) (.bool (k && F))).setCell (i := 0) (show Bat ∈ [Bat, Bok] by simp) (.int .i64 ((p : Int) + (m : Int))))
  have HAE := Lib.hid (((HA1.out.far (i := 0) (u := .bool (k && F)) (fun e => hne.out e.symm)).set (i := 0) (u := .int .i64 ((p : Int) + (m : Int))) (by simp)))
  have HKE := Lib.hid (((HK1.out.set (i := 0) (u := .bool (k && F)) (by simp)).far (k := Bat) (i := 0) (u := .int .i64 ((p : Int) + (m : Int))) hne.out))
  have HOE : Hid (OwnB ((w1.setCell ⟨Bok, 0, none⟩ (.bool (k && F))).setCell ⟨Bat, 0, none⟩ (.int .i64 ((p : Int) + (m : Int)))) w.heap.size (.slice x1 m c1) X) := Lib.hid (HO.out.chg' (((Chg.refl [Bat, Bok] w1).setCell (i := 0) (show Bok ∈ [Bat, Bok] by simp) (.bool (k && F))).setCell (i := 0) (show Bat ∈ [Bat, Bok] by simp) (.int .i64 ((p : Int) + (m : Int)))) (fun y hy => by
    simp only [List.mem_cons, List.not_mem_nil, or_false] at hy
    rcases hy with rfl | rfl
    · exact hzz.1
    · exact hzz.2))
  cases k with
  | false =>
    rw [Bool.false_and] at CE HAE HKE HOE
    go_wp2
    go_ret
    exact ⟨x1, c1, rfl, HOE.out, HAE.out, HKE.out, CE.out⟩
  | true =>
    rw [Bool.true_and] at CE HAE HKE HOE
    go_wp2
    go_ret
    exact ⟨x1, c1, rfl, HOE.out, HAE.out, HKE.out, CE.out⟩

theorem cut_in (l : List UInt8) (p n : Nat) (h : p + n ≤ l.length) : cutL l (p : Int) (n : Int) = (l.drop p).take n ∧ withinB l.length (p : Int) (n : Int) = true := by
  have hw : withinB l.length (p : Int) (n : Int) = true := (withinB_iff _ _ _).2 (by omega)
  unfold cutL
  rw [hw, if_pos rfl]
  exact ⟨rfl, rfl⟩
theorem cut_out (l : List UInt8) (p n : Nat) (h : l.length < p + n) : cutL l (p : Int) (n : Int) = [] ∧ withinB l.length (p : Int) (n : Int) = false := by
  have hw : withinB l.length (p : Int) (n : Int) = false := by
    cases hw : withinB l.length (p : Int) (n : Int) with
    | false => rfl
    | true => have := (withinB_iff _ _ _).1 hw; omega
  unfold cutL
  rw [hw]
  exact ⟨rfl, rfl⟩
theorem got_all (q : List UInt8) (n : Nat) (h : q.length = n) (hs : sizedB n = true) : gotL q 0 n = numL q := by
  have hw : withinB q.length 0 (n : Int) = true := (withinB_iff _ _ _).2 (by omega)
  unfold gotL getOk
  rw [hs, hw]
  unfold seg
  rw [if_pos (by rfl)]
  simp only [Int.toNat_zero, List.drop_zero, Int.toNat_natCast, ← h, List.take_length]

/-- The parts of take, where the bytes are there. -/
theorem take_in (a : Option Addr) (len cap : Nat) (l : List UInt8) (p n : Nat) (k : Bool) (Bb Bat Bok : Nat) (w : World) (hlen : len = l.length) (hv : Byt w (.slice a len cap) l) (hb : RowAt w Bb #[.slice a len cap]) (ha : RowAt w Bat #[.int .i64 (p : Int)]) (hk : RowAt w Bok #[.bool k])
    (h1 : Bat ≠ Bok) (hn : p + n ≤ len) (hl : len ≤ 1000000000) :
    Calls Try.prog 28 #[.int .i64 (n : Int), .pointer (some ⟨Bb, 0, none⟩), .pointer (some ⟨Bat, 0, none⟩), .pointer (some ⟨Bok, 0, none⟩)] w fun e w' => ∃ x c, e = .returned (.slice x n c) ∧
      OwnB w' w.heap.size (.slice x n c) ((l.drop p).take n) ∧ RowAt w' Bat #[.int .i64 ((p + n : Nat) : Int)] ∧ RowAt w' Bok #[.bool k] ∧ Chg [Bat, Bok] w w' := by
  have hc := cut_in l p n (by omega)
  have hl2 : ((l.drop p).take n).length = n := by rw [List.length_take, List.length_drop]; omega
  have := take_calls a len cap l p n k Bb Bat Bok w hlen hv hb ha hk h1 (by omega) (by unfold I64; omega) hl
  rw [hlen, hc.1, hc.2, Bool.and_true, hl2] at this
  exact this
/-- And where they are not. -/
theorem take_out (a : Option Addr) (len cap : Nat) (l : List UInt8) (p n : Nat) (k : Bool) (Bb Bat Bok : Nat) (w : World) (hlen : len = l.length) (hv : Byt w (.slice a len cap) l) (hb : RowAt w Bb #[.slice a len cap]) (ha : RowAt w Bat #[.int .i64 (p : Int)]) (hk : RowAt w Bok #[.bool k])
    (h1 : Bat ≠ Bok) (hp : p ≤ len) (hn : len < p + n) (hn2 : n ≤ 1000000000000) (hl : len ≤ 1000000000) :
    Calls Try.prog 28 #[.int .i64 (n : Int), .pointer (some ⟨Bb, 0, none⟩), .pointer (some ⟨Bat, 0, none⟩), .pointer (some ⟨Bok, 0, none⟩)] w fun e w' => ∃ x c, e = .returned (.slice x 0 c) ∧
      OwnB w' w.heap.size (.slice x 0 c) [] ∧ RowAt w' Bat #[.int .i64 (p : Int)] ∧ RowAt w' Bok #[.bool false] ∧ Chg [Bat, Bok] w w' := by
  have hc := cut_out l p n (by omega)
  have := take_calls a len cap l p n k Bb Bat Bok w hlen hv hb ha hk h1 hp (by unfold I64; omega) hl
  rw [hlen, hc.1, hc.2, Bool.and_false] at this
  exact this

set_option maxRecDepth 100000 in
set_option maxHeartbeats 2000000 in
theorem number_calls (a : Option Addr) (len cap : Nat) (l : List UInt8) (p n : Nat) (k : Bool) (Bt Bb Bat Bok : Nat) (w : World) (hlen : len = l.length) (hv : Byt w (.slice a len cap) l) (ht : RowAt w Bt #[.func (.func 28) #[] #[.pointer (some ⟨Bb, 0, none⟩), .pointer (some ⟨Bat, 0, none⟩), .pointer (some ⟨Bok, 0, none⟩)]])
    (hb : RowAt w Bb #[.slice a len cap]) (ha : RowAt w Bat #[.int .i64 (p : Int)]) (hk : RowAt w Bok #[.bool k]) (h1 : Bat ≠ Bok) (hn : p + n ≤ len) (hl : len ≤ 1000000000) (hs : n = 2 ∨ n = 4) :
    Calls Try.prog 30 #[.int .i64 (n : Int), .pointer (some ⟨Bt, 0, none⟩)] w fun e w' => e = .returned (.int .u64 (numL ((l.drop p).take n) : Int)) ∧ RowAt w' Bat #[.int .i64 ((p + n : Nat) : Int)] ∧ RowAt w' Bok #[.bool k] ∧ Chg [Bat, Bok] w w' := by
  have HT := Lib.hid (take_in a len cap l p n k Bb Bat Bok w hlen hv hb ha hk h1 hn hl)
  have ct := ht.cell 0 _ rfl
  have hl2 : ((l.drop p).take n).length = n := by rw [List.length_take, List.length_drop]; omega
  have hsz : sizedB (n : Int) = true := by rcases hs with rfl | rfl <;> decide
  have HG : Hid (∀ v W, Byt W v ((l.drop p).take n) → Calls Try.prog 31 #[v, .int .i64 0, .int .i64 (n : Int)] W fun e w' => (∃ E, e = .returned (.tuple #[.int .u64 (numL ((l.drop p).take n) : Int), .int .i64 E])) ∧ Below W.heap.size W w') := Lib.hid (fun v W h => by
    have := get_calls v _ 0 n W h (by unfold I64; omega) (by unfold I64; omega) (by omega)
    rw [got_all _ n hl2 hsz] at this
    exact this.mono fun e w' ⟨he, hb⟩ => ⟨⟨_, he⟩, hb⟩)
  obtain ⟨X, hX⟩ : ∃ X, Hid (X = (l.drop p).take n) := ⟨_, Lib.hid rfl⟩
  rw [← hX.out] at HT HG ⊢
  clear hv ht hb ha hk hl2 hsz h1
  go_enter Try.func30, Try.ntmps30
  go_wp2_with fail
  refine HT.out.mono ?_
  rintro e w1 ⟨x, c, rfl, ho, hA, hK, hC⟩
  have HO := Lib.hid ho
  have HA := Lib.hid hA
  have HK := Lib.hid hK
  have HC := Lib.hid hC
  clear ho hA hK hC
  go_wp2_with fail
  refine (HG.out _ _ HO.out.byt).mono ?_
  rintro e w2 ⟨⟨E, rfl⟩, hb⟩
  have HA2 := Lib.hid (HA.out.below hb)
  have HK2 := Lib.hid (HK.out.below hb)
  have HC2 := Lib.hid (HC.out.below hb)
  clear hb
  go_wp2
  go_ret
  exact ⟨rfl, HA2.out, HK2.out, HC2.out⟩
end Go.Proofs.Ytbcocblamocobaa
