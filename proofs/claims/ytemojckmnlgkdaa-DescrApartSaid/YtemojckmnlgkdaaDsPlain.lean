/-
  A signed value, in plain Lean: its bytes, what bytes say, and the text that is signed. Nothing of the program in sight.
-/
import Derived.Test.YtemojckmnlgkdaaStBackPlain
import Derived.Test.YtemojckmnlgkdaaOct7
namespace Go.Proofs.Ytemojckmnlgkdaa
open Go Go.RowKit
set_option linter.unusedVariables false

/-- What stands between the length and the blob. -/
def ahd : List UInt8 := [0, 2, 241, 14, 157, 210, 175, 74, 223, 104, 238, 73, 138, 169, 52, 125, 55, 86, 101, 167]
theorem ahd_length : ahd.length = 20 := rfl

/-- May it be written? n: the blob's length. -/
def dsB (t : Tm) (n : Nat) : Bool := rightB t && decide (1 ≤ n ∧ n ≤ 65536)
theorem dsB_iff (t : Tm) (n : Nat) : dsB t n = true ↔ rightB t = true ∧ 1 ≤ n ∧ n ≤ 65536 := by unfold dsB; rw [Bool.and_eq_true, decide_eq_true_iff]
/-- Its bytes. -/
def dsW (t : Tm) (b d : List UInt8) : List UInt8 := wrL t ++ (lowN (24 + b.length) 4 ++ (ahd ++ (b ++ d)))
theorem dsW_length (t : Tm) (b d : List UInt8) : (dsW t b d).length = 40 + b.length + d.length := by
  unfold dsW
  simp only [List.length_append, wrL_length, lowN_length, ahd_length]
  omega
/-- The length that is told. -/
def dsN (l : List UInt8) : Nat := numL ((l.drop 16).take 4)
def dsP (l : List UInt8) : Prop := 40 ≤ l.length ∧ (l.drop 20).take 20 = ahd ∧ 25 ≤ dsN l ∧ dsN l ≤ 65560 ∧ 16 + dsN l ≤ l.length ∧ rdB (l.take 16) = true ∧ rightB (rdT (l.take 16)) = true
instance (l : List UInt8) : Decidable (dsP l) := by unfold dsP; infer_instance
/-- Do bytes say a signed value? -/
def dsR (l : List UInt8) : Bool := decide (dsP l)
theorem dsR_iff (l : List UInt8) : dsR l = true ↔ dsP l := by unfold dsR; exact decide_eq_true_iff
theorem dsR_no (l : List UInt8) (h : ¬ dsP l) : dsR l = false := by unfold dsR; exact decide_eq_false h
def dsBl (l : List UInt8) : List UInt8 := (l.drop 40).take (dsN l - 24)
def dsDt (l : List UInt8) : List UInt8 := l.drop (16 + dsN l)
def resT (l : List UInt8) : Tm := if dsR l then rdT (l.take 16) else tm0
def resB (l : List UInt8) : List UInt8 := if dsR l then dsBl l else []
def resD (l : List UInt8) : List UInt8 := if dsR l then dsDt l else []
def resE (l : List UInt8) : Int := if dsR l then 0 else 9
theorem res_yes (l : List UInt8) (h : dsR l = true) : resT l = rdT (l.take 16) ∧ resB l = dsBl l ∧ resD l = dsDt l ∧ resE l = 0 := by
  unfold resT resB resD resE
  rw [h]
  exact ⟨rfl, rfl, rfl, rfl⟩
theorem res_no (l : List UInt8) (h : dsR l = false) : resT l = tm0 ∧ resB l = [] ∧ resD l = [] ∧ resE l = 9 := by
  unfold resT resB resD resE
  rw [h]
  exact ⟨rfl, rfl, rfl, rfl⟩
theorem numL4 (X : Nat) (h : X < 4294967296) : numL (lowN X 4) = X := by
  rw [numL_lowN]; exact Nat.mod_eq_of_lt (by omega)
theorem dsN_lt (l : List UInt8) : dsN l < 4294967296 := by
  unfold dsN
  have h := numL_lt ((l.drop 16).take 4)
  have hl : ((l.drop 16).take 4).length ≤ 4 := List.length_take_le _ _
  have : 256 ^ ((l.drop 16).take 4).length ≤ 256 ^ 4 := Nat.pow_le_pow_right (by omega) hl
  omega
theorem dsBl_length (l : List UInt8) (h : dsP l) : (dsBl l).length = dsN l - 24 := by
  obtain ⟨h1, _, h3, _, h5, _⟩ := h
  unfold dsBl
  rw [List.length_take, List.length_drop]
  omega
theorem rd_fit (l : List UInt8) : (rd l).Fit := by unfold rd; split; exact rdT_fit l; exact tm0_fit
theorem resT_fit (l : List UInt8) : (resT l).Fit := by unfold resT; split; exact rdT_fit _; exact tm0_fit

theorem drop_on (a b : List UInt8) (n k : Nat) (h : a.length = n) : (a ++ b).drop (n + k) = b.drop k := by
  subst h
  rw [List.drop_append, List.drop_of_length_le (by omega), Nat.add_sub_cancel_left]
  rfl
/-- The parts of bytes that begin like a signed value's. -/
theorem parts (q n a r : List UInt8) (hq : q.length = 16) (hn : n.length = 4) (ha : a.length = 20) :
    (q ++ (n ++ (a ++ r))).take 16 = q ∧ ((q ++ (n ++ (a ++ r))).drop 16).take 4 = n ∧ ((q ++ (n ++ (a ++ r))).drop 20).take 20 = a ∧ ∀ k, (q ++ (n ++ (a ++ r))).drop (40 + k) = r.drop k := by
  refine ⟨List.take_left' hq, ?_, ?_, fun k => ?_⟩
  · rw [List.drop_left' hq, List.take_left' hn]
  · rw [show 20 = 16 + (4 + 0) by omega, drop_on _ _ 16 _ hq, drop_on _ _ 4 _ hn, List.drop_zero, List.take_left' (by omega)]
  · rw [show 40 + k = 16 + (4 + (20 + k)) by omega, drop_on _ _ 16 _ hq, drop_on _ _ 4 _ hn, drop_on _ _ 20 _ ha]

/-- What is written is read, whatever stands behind it. -/
theorem dsP_form (t : Tm) (ht : t.Fit) (x : List UInt8) (r : List UInt8) (N : Nat) (hN : N < 4294967296) :
    (rdT ((wrL t ++ (lowN N 4 ++ (x ++ r))).take 16) = t) ∧ dsN (wrL t ++ (lowN N 4 ++ (x ++ r))) = N := by
  have e : wrL t ++ (lowN N 4 ++ (x ++ r)) = wrL t ++ (lowN N 4 ++ (x ++ r)) := rfl
  constructor
  · rw [List.take_left' (wrL_length t)]; exact rdT_wrL t ht
  · unfold dsN
    rw [List.drop_left' (wrL_length t), List.take_left' (lowN_length _ _)]
    exact numL4 N hN

theorem dsR_W (t : Tm) (ht : t.Fit) (b d : List UInt8) (h : dsB t b.length = true) :
    dsR (dsW t b d) = true ∧ rdT ((dsW t b d).take 16) = t ∧ dsBl (dsW t b d) = b ∧ dsDt (dsW t b d) = d := by
  obtain ⟨hr, h1, h2⟩ := (dsB_iff _ _).1 h
  obtain ⟨p1, p2, p3, p4⟩ := parts (wrL t) (lowN (24 + b.length) 4) ahd (b ++ d) (wrL_length t) (lowN_length _ _) ahd_length
  have hN : dsN (dsW t b d) = 24 + b.length := by
    unfold dsN dsW
    rw [p2]; exact numL4 _ (by omega)
  have hT : rdT ((dsW t b d).take 16) = t := by unfold dsW; rw [p1]; exact rdT_wrL t ht
  refine ⟨?_, hT, ?_, ?_⟩
  · rw [dsR_iff]
    refine ⟨by rw [dsW_length]; omega, by unfold dsW; exact p3, by omega, by omega, by rw [dsW_length]; omega, ?_, by rw [hT]; exact hr⟩
    unfold dsW
    rw [p1, rdB_wrL t ht, hr, Bool.or_true]
  · unfold dsBl
    rw [hN]
    have := p4 0
    rw [Nat.add_zero, List.drop_zero] at this
    unfold dsW
    rw [this, show 24 + b.length - 24 = b.length by omega, List.take_left]
  · unfold dsDt
    rw [hN, show 16 + (24 + b.length) = 40 + b.length by omega]
    unfold dsW
    rw [p4, List.drop_left]

/-- What is read is written as it was. -/
theorem low4 (q : List UInt8) (h : q.length = 4) : lowN (numL q) 4 = q := by
  apply numL_inj _ _ (by rw [lowN_length, h])
  rw [numL_lowN]
  have := numL_lt q
  rw [h] at this
  exact Nat.mod_eq_of_lt this
theorem dsW_R (l : List UInt8) (h : dsR l = true) : dsB (rdT (l.take 16)) (dsBl l).length = true ∧ dsW (rdT (l.take 16)) (dsBl l) (dsDt l) = l ∧ (dsBl l).length = dsN l - 24 := by
  have h := (dsR_iff l).1 h
  have hbl := dsBl_length l h
  obtain ⟨h1, h2, h3, h4, h5, h6, h7⟩ := h
  refine ⟨(dsB_iff _ _).2 ⟨h7, by omega, by omega⟩, ?_, hbl⟩
  unfold dsW
  rw [hbl, show 24 + (dsN l - 24) = dsN l by omega, wrL_rdT _ h6, ← h2]
  unfold dsN at *
  rw [low4 _ (by rw [List.length_take, List.length_drop]; omega)]
  unfold dsBl dsDt dsN
  have e1 : (l.drop 40).take (numL ((l.drop 16).take 4) - 24) ++ l.drop (16 + numL ((l.drop 16).take 4)) = l.drop 40 := by
    have := List.take_append_drop (numL ((l.drop 16).take 4) - 24) (l.drop 40)
    rw [List.drop_drop, show 40 + (numL ((l.drop 16).take 4) - 24) = 16 + numL ((l.drop 16).take 4) by omega] at this
    exact this
  rw [e1]
  have e2 : (l.drop 20).take 20 ++ l.drop 40 = l.drop 20 := by
    have := List.take_append_drop 20 (l.drop 20)
    rw [List.drop_drop] at this
    exact this
  have e3 : (l.drop 16).take 4 ++ l.drop 20 = l.drop 16 := by
    have := List.take_append_drop 4 (l.drop 16)
    rw [List.drop_drop] at this
    exact this
  rw [e2, e3]
  exact List.take_append_drop 16 l

/-- THE DOCUMENT'S READING: the parts are taken leniently; it holds if writing gives the bytes again. -/
theorem ref_no (l : List UInt8) (h : l.length < 41 ∨ rdB (l.take 16) = false ∨ dsN l < 25 ∨ l.length < 16 + dsN l) : dsR l = false := by
  apply dsR_no
  rintro ⟨h1, h2, h3, h4, h5, h6, h7⟩
  rcases h with h | h | h | h
  · omega
  · rw [h] at h6; cases h6
  · omega
  · omega
theorem ref_no2 (l : List UInt8) (h : dsB (rdT (l.take 16)) (dsBl l).length = false) : dsR l = false := by
  cases hr : dsR l with
  | false => rfl
  | true => rw [(dsW_R l hr).1] at h; cases h
theorem ref_no3 (l : List UInt8) (h : dsW (rdT (l.take 16)) (dsBl l) (dsDt l) ≠ l) : dsR l = false := by
  cases hr : dsR l with
  | false => rfl
  | true => exact absurd (dsW_R l hr).2.1 h
theorem ref_yes (l : List UInt8) (h1 : dsB (rdT (l.take 16)) (dsBl l).length = true) (h : dsW (rdT (l.take 16)) (dsBl l) (dsDt l) = l) : dsR l = true := by
  have := (dsR_W (rdT (l.take 16)) (rdT_fit _) (dsBl l) (dsDt l) h1).1
  rw [h] at this
  exact this

/-- With a byte of the twenty turned it is none. -/
theorem ds_turned (t : Tm) (ht : t.Fit) (b d : List UInt8) (k : Nat) (hk : k < 20) (x : UInt8) (hx : x ≠ ahd.getD k 0) : dsR ((dsW t b d).set (20 + k) x) = false := by
  apply dsR_no
  rintro ⟨_, h2, _⟩
  apply hx
  have hlen := dsW_length t b d
  have e := congrArg (fun m : List UInt8 => m.getD k 0) h2
  simp only [List.getD] at e ⊢
  rw [List.getElem?_take_of_lt hk, List.getElem?_drop, List.getElem?_set_self (by omega)] at e
  exact e
theorem ds_byte (t : Tm) (b d : List UInt8) (k : Nat) (hk : k < 20) : (dsW t b d).getD (20 + k) 0 = ahd.getD k 0 := by
  have p3 := (parts (wrL t) (lowN (24 + b.length) 4) ahd (b ++ d) (wrL_length t) (lowN_length _ _) ahd_length).2.2.1
  have e := congrArg (fun m : List UInt8 => m.getD k 0) p3
  simp only [List.getD] at e ⊢
  rw [List.getElem?_take_of_lt hk, List.getElem?_drop] at e
  exact e

/-- Cut. -/
theorem ds_cut_no (t : Tm) (ht : t.Fit) (b d : List UInt8) (hb : b.length ≤ 65536) (n : Nat) (hn : n < 40 + b.length) : dsR ((dsW t b d).take n) = false := by
  apply dsR_no
  rintro ⟨h1, h2, h3, h4, h5, h6, h7⟩
  have hl : ((dsW t b d).take n).length ≤ n := List.length_take_le _ _
  have e : dsN ((dsW t b d).take n) = 24 + b.length := by
    have hN : dsN (dsW t b d) = 24 + b.length := by
      unfold dsN dsW
      rw [(parts (wrL t) (lowN (24 + b.length) 4) ahd (b ++ d) (wrL_length t) (lowN_length _ _) ahd_length).2.1]
      exact numL4 _ (by omega)
    rw [← hN]
    unfold dsN
    rw [List.drop_take, List.take_take, Nat.min_eq_left (by omega)]
  rw [e] at h5
  omega
theorem ds_cut_yes (t : Tm) (b d : List UInt8) (n : Nat) (hn : 40 + b.length ≤ n) : (dsW t b d).take n = dsW t b (d.take (n - 40 - b.length)) := by
  unfold dsW
  rw [List.take_append, List.take_append, List.take_append, List.take_append]
  simp only [wrL_length, lowN_length, ahd_length]
  rw [List.take_of_length_le (by rw [wrL_length]; omega), List.take_of_length_le (by rw [lowN_length]; omega), List.take_of_length_le (by rw [ahd_length]; omega), List.take_of_length_le (by omega)]
  rw [show n - 16 - 4 - 20 - b.length = n - 40 - b.length by omega]

/-- The text that is signed. -/
def dsX (s g : List UInt8) (a : Nat) (t : Tm) (d : List UInt8) : List UInt8 := wideL s ++ (g ++ (lowN a 4 ++ (wrL t ++ d)))
theorem dsX_length (s g : List UInt8) (a : Nat) (t : Tm) (d : List UInt8) : (dsX s g a t d).length = (wideL s).length + g.length + 20 + d.length := by
  unfold dsX
  simp only [List.length_append, lowN_length, wrL_length]
  omega
theorem wrL_inj {t u : Tm} (ht : t.Fit) (hu : u.Fit) (h : wrL t = wrL u) : t = u := by rw [← rdT_wrL t ht, ← rdT_wrL u hu, h]
theorem low4_inj {x y : Nat} (hx : x < 4294967296) (hy : y < 4294967296) (h : lowN x 4 = lowN y 4) : x = y := by rw [← numL4 x hx, ← numL4 y hy, h]
theorem dbl_getD' (s : List UInt8) (j : Nat) (h : j < s.length) : (dbl s).getD (2 * j) 0 = s.getD j 0 := by
  induction s generalizing j with
  | nil => simp at h
  | cons c s ih =>
    have e : dbl (c :: s) = c :: 0 :: dbl s := rfl
    rw [e]
    cases j with
    | zero => rfl
    | succ j =>
      have := ih j (by simpa using h)
      rw [show 2 * (j + 1) = (2 * j + 1) + 1 by omega]
      exact this
theorem dbl_inj {s r : List UInt8} (h : dbl s = dbl r) : s = r := by
  have e : (dbl s).length = (dbl r).length := by rw [h]
  rw [dbl_length, dbl_length] at e
  apply List.ext_getElem (by omega)
  intro i h1 h2
  have e0 := (dbl_getD' s i h1)
  rw [h, dbl_getD' r i h2] at e0
  simpa [List.getD, h1, h2] using e0.symm
theorem ds_apart (s1 s2 g1 g2 : List UInt8) (a1 a2 : Nat) (t1 t2 : Tm) (d1 d2 : List UInt8) (hs : s1.length = s2.length) (h1 : s1.all letB = true) (h2 : s2.all letB = true) (hg : g1.length = g2.length) (ha1 : a1 < 4294967296) (ha2 : a2 < 4294967296) (ht1 : t1.Fit) (ht2 : t2.Fit) :
    dsX s1 g1 a1 t1 d1 = dsX s2 g2 a2 t2 d2 ↔ s1 = s2 ∧ g1 = g2 ∧ a1 = a2 ∧ t1 = t2 ∧ d1 = d2 := by
  have w : ∀ s : List UInt8, s.all letB = true → wideL s = dbl s := fun s h => by unfold wideL; rw [if_pos h]
  constructor
  · intro h
    unfold dsX at h
    rw [w _ h1, w _ h2] at h
    obtain ⟨e1, h⟩ := List.append_inj h (by rw [dbl_length, dbl_length, hs])
    obtain ⟨e2, h⟩ := List.append_inj h hg
    obtain ⟨e3, h⟩ := List.append_inj h (by rw [lowN_length, lowN_length])
    obtain ⟨e4, h⟩ := List.append_inj h (by rw [wrL_length, wrL_length])
    exact ⟨dbl_inj e1, e2, low4_inj ha1 ha2 e3, wrL_inj ht1 ht2 e4, h⟩
  · rintro ⟨rfl, rfl, rfl, rfl, rfl⟩
    rfl
end Go.Proofs.Ytemojckmnlgkdaa
