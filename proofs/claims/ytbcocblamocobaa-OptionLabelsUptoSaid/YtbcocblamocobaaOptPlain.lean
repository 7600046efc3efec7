/-
  Boot options in plain Lean: an option's bytes, and the option of bytes. Nothing of the program in sight.
-/
import Derived.Test.YtbcocblamocobaaOct10
namespace Go.Proofs.Ytbcocblamocobaa
open Go Go.RowKit

/-- An option: its attributes, label, path and data. -/
structure Opt where
  a : Nat
  s : List UInt8
  p : List UInt8
  d : List UInt8

theorem Opt.ext' {x y : Opt} (h1 : x.a = y.a) (h2 : x.s = y.s) (h3 : x.p = y.p) (h4 : x.d = y.d) : x = y := by
  cases x; cases y; simp_all

def opt0 : Opt := ⟨0, [], [], []⟩
/-- May it be written? -/
def wrOk (o : Opt) : Bool := o.s.all letB && decide (o.p.length ≤ 65535)
/-- Its bytes. -/
def wrO (o : Opt) : List UInt8 := lowN o.a 4 ++ (lowN o.p.length 2 ++ (dbl o.s ++ ([0, 0] ++ (o.p ++ o.d))))
theorem wrO_length (o : Opt) : (wrO o).length = 8 + 2 * o.s.length + o.p.length + o.d.length := by
  unfold wrO
  simp only [List.length_append, lowN_length, dbl_length, List.length_cons, List.length_nil]
  omega

/-- The k-th pair behind the front is there, and is two noughts. -/
def zp (l : List UInt8) (k : Nat) : Bool := decide (7 + 2 * k < l.length ∧ l.getD (6 + 2 * k) 0 = 0 ∧ l.getD (7 + 2 * k) 0 = 0)
theorem zp_iff (l : List UInt8) (k : Nat) : zp l k = true ↔ 7 + 2 * k < l.length ∧ l.getD (6 + 2 * k) 0 = 0 ∧ l.getD (7 + 2 * k) 0 = 0 := by unfold zp; exact decide_eq_true_iff
/-- The first such pair. -/
def endK (l : List UInt8) : Option Nat := (List.range l.length).find? (zp l)
theorem endK_some (l : List UInt8) (k : Nat) : endK l = some k ↔ zp l k = true ∧ ∀ j, j < k → zp l j = false := by
  unfold endK
  rw [List.find?_range_eq_some]
  constructor
  · rintro ⟨h1, _, h3⟩
    exact ⟨h1, fun j hj => by simpa using h3 j hj⟩
  · rintro ⟨h1, h2⟩
    have := (zp_iff l k).1 h1
    exact ⟨h1, by simp; omega, fun j hj => by simpa using h2 j hj⟩
theorem endK_none (l : List UInt8) : endK l = none ↔ ∀ j, zp l j = false := by
  unfold endK
  rw [List.find?_eq_none]
  constructor
  · intro h j
    cases hz : zp l j with
    | false => rfl
    | true =>
      have := (zp_iff l j).1 hz
      exact absurd hz (h j (List.mem_range.2 (by omega)))
  · intro h j _
    simp [h j]

/-- The path's length as bytes tell it. -/
def szL (l : List UInt8) : Nat := numL ((l.drop 4).take 2)
/-- The option of bytes whose label ends at the k-th pair, if they are one. -/
def rdK (l : List UInt8) (k : Nat) : Option Opt :=
  if narOk ((l.drop 6).take (2 * k)) = true ∧ 8 + 2 * k + szL l ≤ l.length then some ⟨numL (l.take 4), narS ((l.drop 6).take (2 * k)), (l.drop (8 + 2 * k)).take (szL l), l.drop (8 + 2 * k + szL l)⟩ else none
def rdO (l : List UInt8) : Option Opt := match endK l with | none => none | some k => rdK l k
theorem rdO_none (l : List UInt8) (h : ∀ j, zp l j = false) : rdO l = none := by unfold rdO; rw [(endK_none l).2 h]
theorem rdO_some (l : List UInt8) (k : Nat) (h : zp l k = true) (h2 : ∀ j, j < k → zp l j = false) : rdO l = rdK l k := by unfold rdO; rw [(endK_some l k).2 ⟨h, h2⟩]

/-! ### The label's pairs -/

theorem dbl_getD (s : List UInt8) (j : Nat) (h : j < s.length) : (dbl s).getD (2 * j) 0 = s.getD j 0 ∧ (dbl s).getD (2 * j + 1) 0 = 0 := by
  induction s generalizing j with
  | nil => simp at h
  | cons c s ih =>
    have e : dbl (c :: s) = c :: 0 :: dbl s := rfl
    rw [e]
    cases j with
    | zero => exact ⟨rfl, rfl⟩
    | succ j =>
      have := ih j (by simpa using h)
      have e1 : 2 * (j + 1) = (2 * j + 1) + 1 := by omega
      rw [e1]
      exact ⟨this.1, this.2⟩

theorem evs_dbl (s : List UInt8) : evs (dbl s) s.length = s := by
  apply List.ext_getElem (by rw [evs_length])
  intro i h1 h2
  have := (dbl_getD s i h2).1
  simp only [evs, List.getElem_map, List.getElem_range]
  rw [this]
  simp [List.getD, h2]

theorem letter_at {s : List UInt8} (hs : s.all letB = true) (j : Nat) (h : j < s.length) : 1 ≤ (s.getD j 0).toNat ∧ (s.getD j 0).toNat ≤ 127 := by
  have := List.all_eq_true.1 hs s[j] (List.getElem_mem h)
  have e : s.getD j 0 = s[j] := by simp [List.getD, h]
  rw [e]
  exact (letB_iff _).1 this

theorem nar_dbl (s : List UInt8) (hs : s.all letB = true) : narOk (dbl s) = true ∧ narS (dbl s) = s := by
  have h1 : narOk (dbl s) = true := (narOk_iff _).2 fun x hx => by
    rw [dbl_length] at hx
    have hd := dbl_getD s x (by omega)
    refine ⟨by rw [dbl_length]; omega, ?_, hd.2⟩
    rw [hd.1]
    exact letter_at hs x (by omega)
  refine ⟨h1, ?_⟩
  unfold narS
  rw [h1, if_pos rfl, dbl_length, show (2 * s.length + 1) / 2 = s.length by omega, evs_dbl]

/-- What is narrow is some letters, wide. -/
theorem nar_form (q : List UInt8) (h : narOk q = true) : (narS q).all letB = true ∧ dbl (narS q) = q := by
  have hp := (narOk_iff q).1 h
  have hlen : 2 * ((q.length + 1) / 2) = q.length := by
    by_cases h0 : q.length = 0
    · omega
    · have := (hp ((q.length - 1) / 2) (by omega)).1
      omega
  obtain ⟨k, hk⟩ : ∃ k, k = (q.length + 1) / 2 := ⟨_, rfl⟩
  have hS : narS q = evs q k := by unfold narS; rw [h, if_pos rfl, hk]
  rw [hS]
  have hel : ∀ i, i < k → (evs q k).getD i 0 = q.getD (2 * i) 0 := fun i hi => by
    have : i < (evs q k).length := by rw [evs_length]; exact hi
    simp [List.getD, evs, hi]
  constructor
  · apply List.all_eq_true.2
    intro c hc
    obtain ⟨i, hi, rfl⟩ := List.mem_iff_getElem.1 hc
    rw [evs_length] at hi
    have e : (evs q k)[i]'(by rw [evs_length]; exact hi) = (evs q k).getD i 0 := by simp [List.getD, evs_length, hi]
    rw [e, hel i hi]
    exact (letB_iff _).2 (hp i (by omega)).2.1
  · apply List.ext_getElem (by rw [dbl_length, evs_length]; omega)
    intro i h1 h2
    have e1 : (dbl (evs q k))[i] = (dbl (evs q k)).getD i 0 := by simp only [List.getD, h1, List.getElem?_eq_getElem, Option.getD_some]
    have e2 : q[i] = q.getD i 0 := by simp only [List.getD, h2, List.getElem?_eq_getElem, Option.getD_some]
    rw [e1, e2]
    have hd := dbl_getD (evs q k) (i / 2) (by rw [evs_length]; omega)
    by_cases hi : i % 2 = 0
    · rw [show i = 2 * (i / 2) by omega, hd.1, hel _ (by omega)]
    · have := (hp (i / 2) (by omega)).2.2
      rw [show i = 2 * (i / 2) + 1 by omega, hd.2, this]

/-! ### The parts of an option's bytes -/

theorem getD_app (a b : List UInt8) (i : Nat) : (a ++ b).getD i 0 = if i < a.length then a.getD i 0 else b.getD (i - a.length) 0 := by
  simp only [List.getD]
  split
  · rw [List.getElem?_append_left ‹_›]
  · rw [List.getElem?_append_right (by omega)]

/-- A text with a front of six bytes, letters wide, two noughts, and a rest: its label ends there. -/
theorem end_at (f s r : List UInt8) (hf : f.length = 6) (hs : s.all letB = true) : zp (f ++ (dbl s ++ ([0, 0] ++ r))) s.length = true ∧ ∀ j, j < s.length → zp (f ++ (dbl s ++ ([0, 0] ++ r))) j = false := by
  have g : ∀ i, 6 ≤ i → (f ++ (dbl s ++ ([0, 0] ++ r))).getD i 0 = (dbl s ++ ([0, 0] ++ r)).getD (i - 6) 0 := fun i hi => by
    rw [getD_app, if_neg (by omega), hf]
  constructor
  · rw [zp_iff]
    refine ⟨?_, ?_, ?_⟩
    · simp only [List.length_append, hf, dbl_length, List.length_cons, List.length_nil]; omega
    · rw [g _ (by omega), getD_app, if_neg (by rw [dbl_length]; omega), dbl_length, show 6 + 2 * s.length - 6 - 2 * s.length = 0 by omega]; rfl
    · rw [g _ (by omega), getD_app, if_neg (by rw [dbl_length]; omega), dbl_length, show 7 + 2 * s.length - 6 - 2 * s.length = 1 by omega]; rfl
  · intro j hj
    cases hz : zp (f ++ (dbl s ++ ([0, 0] ++ r))) j with
    | false => rfl
    | true =>
      exfalso
      have := ((zp_iff _ _).1 hz).2.1
      rw [g _ (by omega), getD_app, if_pos (by rw [dbl_length]; omega), show 6 + 2 * j - 6 = 2 * j by omega, (dbl_getD s j hj).1] at this
      have hl := letter_at hs j hj
      rw [this] at hl
      exact absurd hl.1 (by decide)

/-- The option of such a text. -/
theorem rd_form (q n s r : List UInt8) (hq : q.length = 4) (hn : n.length = 2) (hs : s.all letB = true) :
    rdO (q ++ (n ++ (dbl s ++ ([0, 0] ++ r)))) = if numL n ≤ r.length then some ⟨numL q, s, r.take (numL n), r.drop (numL n)⟩ else none := by
  have hE := end_at (q ++ n) s r (by rw [List.length_append]; omega) hs
  rw [List.append_assoc] at hE
  rw [rdO_some _ s.length hE.1 hE.2]
  have d6 : (q ++ (n ++ (dbl s ++ ([0, 0] ++ r)))).drop 6 = dbl s ++ ([0, 0] ++ r) := by
    rw [← List.append_assoc]
    exact List.drop_left' (by rw [List.length_append]; omega)
  have t6 : ((q ++ (n ++ (dbl s ++ ([0, 0] ++ r)))).drop 6).take (2 * s.length) = dbl s := by
    rw [d6]
    exact List.take_left' (dbl_length s)
  have d8 : (q ++ (n ++ (dbl s ++ ([0, 0] ++ r)))).drop (8 + 2 * s.length) = r := by
    rw [show q ++ (n ++ (dbl s ++ ([0, 0] ++ r))) = (q ++ (n ++ (dbl s ++ [0, 0]))) ++ r by simp]
    exact List.drop_left' (by simp only [List.length_append, dbl_length, List.length_cons, List.length_nil]; omega)
  have z : szL (q ++ (n ++ (dbl s ++ ([0, 0] ++ r)))) = numL n := by
    unfold szL
    rw [List.drop_left' hq, List.take_left' hn]
  have t4 : (q ++ (n ++ (dbl s ++ ([0, 0] ++ r)))).take 4 = q := List.take_left' hq
  have hlen : (q ++ (n ++ (dbl s ++ ([0, 0] ++ r)))).length = 8 + 2 * s.length + r.length := by
    simp only [List.length_append, dbl_length, List.length_cons, List.length_nil]; omega
  unfold rdK
  rw [t6, z, t4, (nar_dbl s hs).1, (nar_dbl s hs).2, d8, hlen]
  have e : List.drop (8 + 2 * s.length + numL n) (q ++ (n ++ (dbl s ++ ([0, 0] ++ r)))) = r.drop (numL n) := by rw [← List.drop_drop, d8]
  rw [e]
  by_cases h : numL n ≤ r.length
  · rw [if_pos h, if_pos ⟨rfl, by omega⟩]
  · rw [if_neg h, if_neg (fun c => h (by omega))]

theorem numL_lowN' (X n : Nat) (h : X < 256 ^ n) : numL (lowN X n) = X := by rw [numL_lowN]; exact Nat.mod_eq_of_lt h

/-- What is written is read. -/
theorem rd_wr (o : Opt) (ha : o.a < 2 ^ 32) (h : wrOk o = true) : rdO (wrO o) = some o := by
  unfold wrOk at h
  rw [Bool.and_eq_true, decide_eq_true_iff] at h
  unfold wrO
  rw [rd_form _ _ _ _ (lowN_length _ _) (lowN_length _ _) h.1, numL_lowN' _ _ (by omega), numL_lowN' _ _ (by omega), if_pos (by rw [List.length_append]; omega), List.take_left' rfl, List.drop_left' rfl]

/-- What stands behind an option's bytes is its data's end. -/
theorem wr_more (o : Opt) (m : List UInt8) : wrO o ++ m = wrO ⟨o.a, o.s, o.p, o.d ++ m⟩ := by
  unfold wrO
  simp only [List.append_assoc]

theorem low_num (q : List UInt8) (n : Nat) (h : q.length = n) : lowN (numL q) n = q := by
  apply numL_inj _ _ (by rw [lowN_length, h])
  rw [numL_lowN]
  have := numL_lt q
  rw [h] at this
  exact Nat.mod_eq_of_lt this

theorem take_on (l : List UInt8) (a b : Nat) : (l.drop a).take b ++ l.drop (a + b) = l.drop a := by
  have h := List.take_append_drop b (l.drop a)
  rw [List.drop_drop] at h
  exact h
theorem take_two (l : List UInt8) (i : Nat) (h : i + 1 < l.length) : (l.drop i).take 2 = [l.getD i 0, l.getD (i + 1) 0] := by
  have e1 : l.getD i 0 = l[i] := by simp only [List.getD, show i < l.length by omega, List.getElem?_eq_getElem, Option.getD_some]
  have e2 : l.getD (i + 1) 0 = l[i + 1] := by simp only [List.getD, h, List.getElem?_eq_getElem, Option.getD_some]
  rw [e1, e2, List.drop_eq_getElem_cons (by omega : i < l.length), List.drop_eq_getElem_cons h]
  rfl

/-- What is read is written as it was. -/
theorem wr_rd (l : List UInt8) (o : Opt) (h : rdO l = some o) : wrOk o = true ∧ wrO o = l ∧ o.a < 2 ^ 32 := by
  unfold rdO at h
  cases hk : endK l with
  | none => rw [hk] at h; cases h
  | some k =>
    rw [hk] at h
    simp only at h
    have he := ((endK_some l k).1 hk).1
    have hz := (zp_iff l k).1 he
    unfold rdK at h
    split at h
    · rename_i hc
      obtain ⟨hc1, hc2⟩ := hc
      cases h
      have hf := nar_form _ hc1
      have hsz : szL l < 2 ^ 16 := by
        unfold szL
        have := numL_lt ((l.drop 4).take 2)
        have e : ((l.drop 4).take 2).length = 2 := by rw [List.length_take, List.length_drop]; omega
        rw [e] at this
        omega
      have hpl : ((l.drop (8 + 2 * k)).take (szL l)).length = szL l := by rw [List.length_take, List.length_drop]; omega
      have ha : numL (l.take 4) < 2 ^ 32 := by
        have := numL_lt (l.take 4)
        have e : (l.take 4).length = 4 := by rw [List.length_take]; omega
        rw [e] at this
        omega
      refine ⟨?_, ?_, ha⟩
      · unfold wrOk
        rw [Bool.and_eq_true, decide_eq_true_iff]
        exact ⟨hf.1, by simp only; rw [hpl]; omega⟩
      · unfold wrO
        simp only
        rw [hpl, hf.2, low_num _ 4 (by rw [List.length_take]; omega)]
        have e2 : lowN (szL l) 2 = (l.drop 4).take 2 := low_num _ 2 (by rw [List.length_take, List.length_drop]; omega)
        rw [e2]
        have z2 : ([0, 0] : List UInt8) = (l.drop (6 + 2 * k)).take 2 := by
          rw [take_two l (6 + 2 * k) (by omega), hz.2.1, show 6 + 2 * k + 1 = 7 + 2 * k by omega, hz.2.2]
        rw [z2]
        have j1 : (l.drop (8 + 2 * k)).take (szL l) ++ l.drop (8 + 2 * k + szL l) = l.drop (8 + 2 * k) := take_on l _ _
        have j2 : (l.drop (6 + 2 * k)).take 2 ++ l.drop (8 + 2 * k) = l.drop (6 + 2 * k) := by
          have := take_on l (6 + 2 * k) 2
          rw [show 6 + 2 * k + 2 = 8 + 2 * k by omega] at this
          exact this
        have j3 : (l.drop 6).take (2 * k) ++ l.drop (6 + 2 * k) = l.drop 6 := take_on l _ _
        have j4 : (l.drop 4).take 2 ++ l.drop 6 = l.drop 4 := take_on l 4 2
        rw [j1, j2, j3, j4]
        exact List.take_append_drop _ _
    · cases h
end Go.Proofs.Ytbcocblamocobaa
