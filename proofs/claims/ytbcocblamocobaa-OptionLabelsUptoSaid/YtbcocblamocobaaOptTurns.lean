/-
  An option's bytes of which the path's length, or a byte of the label, is turned. Nothing of the program but the contracts' forms.
-/
import Derived.Test.YtbcocblamocobaaOptForms
namespace Go.Proofs.Ytbcocblamocobaa
open Go Go.RowKit
set_option linter.unusedVariables false

/-- The path told longer or shorter. -/
theorem wr_size (o : Opt) (z : Nat) : ((wrO o).set 4 (UInt8.ofNat z)).set 5 (UInt8.ofNat (z / 256)) = lowN o.a 4 ++ (lowN z 2 ++ (dbl o.s ++ ([0, 0] ++ (o.p ++ o.d)))) := by
  have e : ∀ X, lowN X 2 = [UInt8.ofNat X, UInt8.ofNat (X / 256)] := fun X => by
    rw [lowN_snoc, lowN_snoc]
    simp [lowN]
  unfold wrO
  rw [e, e, List.set_append_right _ _ (by rw [lowN_length]; omega), List.set_append_right _ _ (by rw [lowN_length]; omega)]
  simp only [lowN_length]
  rfl
theorem rd_size (o : Opt) (h : wrOk o = true) (ha : o.a < 4294967296) (z : Nat) (hz : z < 65536) :
    rdO (((wrO o).set 4 (UInt8.ofNat z)).set 5 (UInt8.ofNat (z / 256))) = if z ≤ o.p.length + o.d.length then some ⟨o.a, o.s, (o.p ++ o.d).take z, (o.p ++ o.d).drop z⟩ else none := by
  unfold wrOk at h
  rw [Bool.and_eq_true] at h
  rw [wr_size, rd_form _ _ _ _ (lowN_length _ _) (lowN_length _ _) h.1, numL_lowN' _ _ (by omega), numL_lowN' _ _ (by omega), List.length_append]

theorem set_getD (l : List UInt8) (k i : Nat) (x : UInt8) (hk : k < l.length) : (l.set k x).getD i 0 = if i = k then x else l.getD i 0 := by
  simp only [List.getD, List.getElem?_set]
  split
  · rename_i e
    subst e
    simp [hk]
  · rename_i e
    rw [if_neg (fun c => e c.symm)]
theorem wr_label (o : Opt) (i : Nat) (hi : i < o.s.length) : (wrO o).getD (6 + 2 * i) 0 = o.s.getD i 0 ∧ (wrO o).getD (7 + 2 * i) 0 = 0 := by
  have g : ∀ j, j < 2 * o.s.length → (wrO o).getD (6 + j) 0 = (dbl o.s).getD j 0 := fun j hj => by
    unfold wrO
    rw [getD_app, if_neg (by rw [lowN_length]; omega), getD_app, if_neg (by rw [lowN_length, lowN_length]; omega), getD_app, if_pos (by rw [lowN_length, lowN_length, dbl_length]; omega), lowN_length, lowN_length]
    congr 1
    omega
  have hd := dbl_getD o.s i hi
  rw [g _ (by omega), show 7 + 2 * i = 6 + (2 * i + 1) by omega, g _ (by omega)]
  exact hd
theorem wr_end (o : Opt) : (wrO o).getD (6 + 2 * o.s.length) 0 = 0 ∧ (wrO o).getD (7 + 2 * o.s.length) 0 = 0 := by
  have g : ∀ j, j < 2 → (wrO o).getD (6 + 2 * o.s.length + j) 0 = ([0, 0] : List UInt8).getD j 0 := fun j hj => by
    unfold wrO
    rw [getD_app, if_neg (by rw [lowN_length]; omega), getD_app, if_neg (by rw [lowN_length, lowN_length]; omega), getD_app, if_neg (by rw [lowN_length, lowN_length, dbl_length]; omega), getD_app, if_pos (by rw [lowN_length, lowN_length, dbl_length]; simp; omega), lowN_length, lowN_length, dbl_length]
    congr 1
    omega
  have h0 := g 0 (by omega)
  have h1 := g 1 (by omega)
  rw [Nat.add_zero] at h0
  exact ⟨h0, by rw [show 7 + 2 * o.s.length = 6 + 2 * o.s.length + 1 by omega]; exact h1⟩

/-- A byte of the label turned to what may not be there. -/
theorem rd_turned (o : Opt) (h : wrOk o = true) (j : Nat) (hj : j < 2 * o.s.length) (x : UInt8) (hx : (j % 2 = 1 ∧ x ≠ 0) ∨ (j % 2 = 0 ∧ 127 < x.toNat)) : rdO ((wrO o).set (6 + j) x) = none := by
  unfold wrOk at h
  rw [Bool.and_eq_true] at h
  have hlen := wrO_length o
  have hx0 : x ≠ 0 := by
    rcases hx with ⟨_, h1⟩ | ⟨_, h1⟩
    · exact h1
    · intro e; rw [e] at h1; exact absurd h1 (by decide)
  have S : ∀ i, ((wrO o).set (6 + j) x).getD i 0 = if i = 6 + j then x else (wrO o).getD i 0 := fun i => set_getD _ _ _ _ (by omega)
  have hz : zp ((wrO o).set (6 + j) x) o.s.length = true := by
    rw [zp_iff, List.length_set, S, S, if_neg (by omega), if_neg (by omega)]
    exact ⟨by omega, wr_end o⟩
  have hn : ∀ i, i < o.s.length → zp ((wrO o).set (6 + j) x) i = false := fun i hi => by
    cases hc : zp ((wrO o).set (6 + j) x) i with
    | false => rfl
    | true =>
      exfalso
      have h1 := ((zp_iff _ _).1 hc).2.1
      rw [S] at h1
      split at h1
      · exact hx0 h1
      · rw [(wr_label o i hi).1] at h1
        have := letter_at h.1 i hi
        rw [h1] at this
        exact absurd this.1 (by decide)
  rw [rdO_some _ _ hz hn]
  unfold rdK
  rw [if_neg]
  rintro ⟨h1, _⟩
  have h2 := (narOk_iff _).1 h1 (j / 2) (by rw [List.length_take, List.length_drop, List.length_set]; omega)
  have G : ∀ i, i < 2 * o.s.length → ((((wrO o).set (6 + j) x).drop 6).take (2 * o.s.length)).getD i 0 = ((wrO o).set (6 + j) x).getD (6 + i) 0 := fun i hi => by
    simp [List.getD, List.getElem?_take, hi, List.getElem?_drop]
  obtain ⟨_, h3, h4⟩ := h2
  rw [G _ (by omega), S] at h3 h4
  rcases hx with ⟨m1, m2⟩ | ⟨m1, m2⟩
  · rw [if_pos (by omega)] at h4
    exact m2 h4
  · rw [if_pos (by omega)] at h3
    omega

/-- What Read gives of bytes, whatever they say. -/
theorem read_any_form (l : List UInt8) (v : Value) (w : World) (hv : Byt w v l) (hl : l.length ≤ 1000000000) :
    Calls Try.prog 18 #[v] w fun e w' => ∃ a s x1 n1 c1 x2 n2 c2 E, e = .returned (.tuple #[.agg #[.int .u32 a, .string s, .slice x1 n1 c1, .slice x2 n2 c2], .int .i64 E]) ∧ Below w.heap.size w w' := by
  have := read_shape (optRead_calls v l w hv hl)
  exact this.mono fun e w' ⟨x1, c1, x2, c2, he, _, _, _, hb⟩ => ⟨_, _, _, _, _, _, _, _, _, he, hb⟩

/-- A copy that may be written. -/
theorem copy_form (l : List UInt8) (n : Nat) (hn : n = l.length) (h0 : 0 < n) (hl : n ≤ 1000000000) (v : Value) (w : World) (hv : Byt w v l) :
    Calls Try.prog 21 #[v] w fun e w' => ∃ g c, e = .returned (.slice (some ⟨g, 0, none⟩) n c) ∧ w.heap.size ≤ g ∧ g < w'.heap.size ∧ n ≤ c ∧ c ≤ 9223372036854775807 ∧ OwnB w' w.heap.size (.slice (some ⟨g, 0, none⟩) n c) l ∧ Below w.heap.size w w' := by
  subst hn
  refine (copyBytes_calls v l w hv (by omega)).mono ?_
  rintro e w' ⟨v', rfl, ho, hb⟩
  obtain ⟨g, c, rfl, h1, h2, h3, h4, h5⟩ := Own.head ho h0
  exact ⟨g, c, rfl, h1, h2, h4, h5, ho, hb⟩
end Go.Proofs.Ytbcocblamocobaa
