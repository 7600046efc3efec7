/-
  Option's contracts in the forms that the laws' walks take: the values laid open.
-/
import Derived.Test.YtbcocblamocobaaOptWorks
import Derived.Test.YtbcocblamocobaaHead
namespace Go.Proofs.Ytbcocblamocobaa
open Go Go.RowKit
set_option linter.unusedVariables false

theorem large_any (o : Opt) (p d : Value) (b : Bool) (hb : lgB o.s o.d = b) (w : World) (hp : Byt w p o.p) (hd : Byt w d o.d) (hs : o.s.length ≤ 9223372036854775807) :
    Calls Try.prog 9 #[optV o.a o.s p d] w fun e w' => e = .returned (.bool b) ∧ Below w.heap.size w w' := by rw [← hb]; exact large_calls o.a o.s o.p o.d p d w hp hd hs
theorem lg_no (s d : List UInt8) (h : lgB s d = false) : s.length ≤ 16384 ∧ d.length ≤ 65536 := by
  unfold lgB at h
  simp only [decide_eq_false_iff_not] at h
  omega

/-- Write, of an option that is laid open. -/
theorem write_form {f : FuncId} (hf : ∀ (o : Opt) (p d : Value) (w : World), o.a < 4294967296 → Byt w p o.p → Byt w d o.d → o.s.length ≤ 100000000 → o.p.length ≤ 100000000 → o.d.length ≤ 100000000 →
      Calls Try.prog f #[optV o.a o.s p d] w fun e w' => ∃ v', e = .returned (.tuple #[v', .int .i64 (if wrOk o then 0 else 1)]) ∧ OwnB w' w.heap.size v' (if wrOk o then wrO o else []) ∧ Below w.heap.size w w')
    (o : Opt) (S : ByteArray) (hS : S = sOf o.s) (b : Bool) (hb : wrOk o = b) (L : List UInt8) (E : Int) (hL : L = if b then wrO o else []) (hE : E = if b then 0 else 1) (p d : Value) (w : World) (ha : o.a < 4294967296) (hp : Byt w p o.p) (hd : Byt w d o.d) (hs : o.s.length ≤ 100000000) (hP : o.p.length ≤ 100000000) (hD : o.d.length ≤ 100000000) :
    Calls Try.prog f #[.agg #[.int .u32 (o.a : Int), .string S, p, d]] w fun e w' => ∃ x c, e = .returned (.tuple #[.slice x L.length c, .int .i64 E]) ∧ OwnB w' w.heap.size (.slice x L.length c) L ∧ Below w.heap.size w w' := by
  subst hS
  exact write_shape (hf o p d w ha hp hd hs hP hD) b hb L E hL hE

/-- What Read gives of bytes that say an option. -/
theorem read_some_form (q : Opt) (l : List UInt8) (h : rdO l = some q) (S : ByteArray) (hS : S = sOf q.s) (n m : Nat) (hn : n = q.p.length) (hm : m = q.d.length) (v : Value) (w : World) (hv : Byt w v l) (hl : l.length ≤ 1000000000) :
    Calls Try.prog 18 #[v] w fun e w' => ∃ x1 c1 x2 c2, e = .returned (.tuple #[.agg #[.int .u32 (q.a : Int), .string S, .slice x1 n c1, .slice x2 m c2], .int .i64 0]) ∧ Byt w' (.slice x1 n c1) q.p ∧ Byt w' (.slice x2 m c2) q.d ∧ Below w.heap.size w w' := by
  subst hS hn hm
  have := read_shape (optRead_calls v l w hv hl)
  rw [(res_some l q h).1, (res_some l q h).2] at this
  exact this.mono fun e w' ⟨x1, c1, x2, c2, he, h1, h2, _, hb⟩ => ⟨x1, c1, x2, c2, he, h1.byt, h2.byt, hb⟩
/-- What Read gives of bytes that say none. -/
theorem read_none_form (l : List UInt8) (h : rdO l = none) (v : Value) (w : World) (hv : Byt w v l) (hl : l.length ≤ 1000000000) :
    Calls Try.prog 18 #[v] w fun e w' => ∃ a s x1 n1 c1 x2 n2 c2, e = .returned (.tuple #[.agg #[.int .u32 a, .string s, .slice x1 n1 c1, .slice x2 n2 c2], .int .i64 9]) ∧ Below w.heap.size w w' := by
  have := read_shape (optRead_calls v l w hv hl)
  have hE : rdE l = 9 := by unfold rdE; rw [h]; rfl
  rw [hE] at this
  exact this.mono fun e w' ⟨x1, c1, x2, c2, he, _, _, _, hb⟩ => ⟨_, _, _, _, _, _, _, _, he, hb⟩

/-- Cut ahead of its data an option's bytes say none. -/
theorem rd_cut (o : Opt) (h : wrOk o = true) (k : Nat) (hk : k < 8 + 2 * o.s.length + o.p.length) : rdO ((wrO o).take k) = none := by
  unfold wrOk at h
  rw [Bool.and_eq_true, decide_eq_true_iff] at h
  have hlen := wrO_length o
  have hE := end_at (lowN o.a 4 ++ lowN o.p.length 2) o.s (o.p ++ o.d) (by rw [List.length_append, lowN_length, lowN_length]) h.1
  rw [List.append_assoc] at hE
  change zp (wrO o) o.s.length = true ∧ ∀ j, j < o.s.length → zp (wrO o) j = false at hE
  have hz : ∀ j, zp ((wrO o).take k) j = true → zp (wrO o) j = true := fun j hj => by
    have hj := (zp_iff _ _).1 hj
    rw [List.length_take] at hj
    have g : ∀ i, i < k → ((wrO o).take k).getD i 0 = (wrO o).getD i 0 := fun i hi => by simp [List.getD, List.getElem?_take, hi]
    rw [g _ (by omega), g _ (by omega)] at hj
    exact (zp_iff _ _).2 ⟨by omega, hj.2⟩
  by_cases hk8 : k < 8 + 2 * o.s.length
  · apply rdO_none
    intro j
    cases hj : zp ((wrO o).take k) j with
    | false => rfl
    | true =>
      have h1 := hz j hj
      have h2 := ((zp_iff _ _).1 hj).1
      rw [List.length_take] at h2
      rw [hE.2 j (by omega)] at h1
      cases h1
  · have hf : (wrO o).take k = lowN o.a 4 ++ (lowN o.p.length 2 ++ (dbl o.s ++ ([0, 0] ++ (o.p ++ o.d).take (k - (8 + 2 * o.s.length))))) := by
      unfold wrO
      rw [List.take_append, List.take_append, List.take_append, List.take_append]
      simp only [lowN_length, dbl_length, List.length_cons, List.length_nil]
      rw [List.take_of_length_le (by rw [lowN_length]; omega), List.take_of_length_le (by rw [lowN_length]; omega), List.take_of_length_le (by rw [dbl_length]; omega), List.take_of_length_le (by simp only [List.length_cons, List.length_nil]; omega)]
      rw [show k - 4 - 2 - 2 * o.s.length - (0 + 1 + 1) = k - (8 + 2 * o.s.length) by omega]
    rw [hf, rd_form _ _ _ _ (lowN_length _ _) (lowN_length _ _) h.1, numL_lowN' _ _ (by omega), if_neg]
    rw [List.length_take, List.length_append]
    omega
end Go.Proofs.Ytbcocblamocobaa
