/-
  Lists of signatures, in plain Lean: which lists bytes are, the bytes of lists, what a list has. Nothing of the program in sight.
-/
import Derived.Test.YtilanncobbdlfaaStamp9
namespace Go.Proofs.Ytilanncobbdlfaa
open Go Go.RowKit
set_option linter.unusedVariables false

/-- An item: its owner's sixteen bytes, and its data. -/
structure It where
  o : List UInt8
  d : List UInt8
deriving DecidableEq
/-- A list: its kind, and its items. -/
structure Li where
  k : Int
  i : List It
deriving DecidableEq

def nm1 : List UInt8 := [38, 22, 196, 193, 76, 80, 146, 64, 172, 169, 65, 249, 54, 147, 67, 40]
def nm2 : List UInt8 := [161, 89, 192, 165, 228, 148, 167, 74, 135, 181, 171, 21, 92, 43, 240, 114]
def nm3 : List UInt8 := [146, 164, 210, 59, 192, 150, 121, 64, 180, 32, 252, 249, 142, 241, 3, 237]
/-- The bytes of a kind. -/
def nmL (k : Int) : List UInt8 := if k = 1 then nm1 else if k = 2 then nm2 else if k = 3 then nm3 else []
/-- The kind of bytes. -/
def kdL (l : List UInt8) : Int := if l = nm1 then 1 else if l = nm2 then 2 else if l = nm3 then 3 else 0
theorem kdL_bd (l : List UInt8) : 0 ≤ kdL l ∧ kdL l ≤ 3 := by unfold kdL; split <;> (try split) <;> (try split) <;> omega
theorem nmL_kdL (l : List UInt8) (h : kdL l ≠ 0) : nmL (kdL l) = l := by
  unfold kdL at h ⊢
  split
  · rename_i e; rw [e]; rfl
  · split
    · rename_i e; rw [e]; rfl
    · split
      · rename_i e; rw [e]; rfl
      · rename_i a b c; simp [a, b, c] at h
theorem kdL_nmL (k : Int) (h : 1 ≤ k ∧ k ≤ 3) : kdL (nmL k) = k := by
  have : k = 1 ∨ k = 2 ∨ k = 3 := by omega
  rcases this with rfl | rfl | rfl <;> decide
theorem nmL_length (k : Int) (h : 1 ≤ k ∧ k ≤ 3) : (nmL k).length = 16 := by
  have : k = 1 ∨ k = 2 ∨ k = 3 := by omega
  rcases this with rfl | rfl | rfl <;> rfl
theorem nmL_length_le (k : Int) : (nmL k).length ≤ 16 := by
  unfold nmL
  split
  · decide
  · split
    · decide
    · split
      · decide
      · decide

/-- May that be an item's data? -/
def mayB (k : Int) (d : List UInt8) : Bool :=
  if k = 1 then decide (d.length = 32) else if k = 2 then decide (1 ≤ d.length ∧ d.length ≤ 8192) else if k = 3 then decide (d.length = 48) && rdB (d.drop 32) else false
theorem mayB_bd (k : Int) (d : List UInt8) (h : mayB k d = true) : (1 ≤ k ∧ k ≤ 3) ∧ 1 ≤ d.length ∧ d.length ≤ 8192 := by
  unfold mayB at h
  split at h
  · rw [decide_eq_true_iff] at h; omega
  · split at h
    · rw [decide_eq_true_iff] at h; omega
    · split at h
      · rw [Bool.and_eq_true, decide_eq_true_iff] at h; omega
      · cases h

/-- The number of four bytes. -/
def n4 (l : List UInt8) (p : Nat) : Nat := numL ((l.drop p).take 4)
theorem n4_lt (l : List UInt8) (p : Nat) : n4 l p < 4294967296 := by
  unfold n4
  have h := numL_lt ((l.drop p).take 4)
  have hl : ((l.drop p).take 4).length ≤ 4 := List.length_take_le _ _
  have : 256 ^ ((l.drop p).take 4).length ≤ 256 ^ 4 := Nat.pow_le_pow_right (by omega) hl
  omega

/-- Is there a head with which bytes begin? -/
def hdP (l : List UInt8) : Prop := 28 ≤ l.length ∧ kdL (l.take 16) ≠ 0 ∧ n4 l 20 = 0 ∧ 17 ≤ n4 l 24 ∧ n4 l 24 ≤ 8208 ∧ n4 l 16 ≤ l.length ∧ 28 + n4 l 24 ≤ n4 l 16 ∧ (n4 l 16 - 28) % n4 l 24 = 0
instance (l : List UInt8) : Decidable (hdP l) := by unfold hdP; infer_instance
/-- The item at a place. -/
def itL (l : List UInt8) (p s : Nat) : It := ⟨(l.drop p).take 16, (l.drop (p + 16)).take (s - 16)⟩
/-- n items from a place on. -/
def itsL (l : List UInt8) (s : Nat) : Nat → Nat → List It
  | _, 0 => []
  | p, n + 1 => itL l p s :: itsL l s (p + s) n
theorem itsL_length (l : List UInt8) (s : Nat) : ∀ n p, (itsL l s p n).length = n
  | 0, _ => rfl
  | n + 1, p => by unfold itsL; rw [List.length_cons, itsL_length l s n]
theorem itsL_snoc (l : List UInt8) (s : Nat) : ∀ n p, itsL l s p (n + 1) = itsL l s p n ++ [itL l (p + n * s) s]
  | 0, p => by simp [itsL]
  | n + 1, p => by
    have e : itsL l s p (n + 1 + 1) = itL l p s :: itsL l s (p + s) (n + 1) := rfl
    rw [e, itsL_snoc l s n (p + s), show p + s + n * s = p + (n + 1) * s by rw [Nat.add_mul]; omega]
    rfl
def cnt (l : List UInt8) : Nat := (n4 l 16 - 28) / n4 l 24
def kd (l : List UInt8) : Int := kdL (l.take 16)
def okB (l : List UInt8) : Bool := decide (hdP l) && (itsL l (n4 l 24) 28 (cnt l)).all fun x => mayB (kd l) x.d
/-- The list with which bytes begin. -/
def li1 (l : List UInt8) : Li := ⟨kd l, itsL l (n4 l 24) 28 (cnt l)⟩
theorem okB_len (l : List UInt8) (h : okB l = true) : 45 ≤ n4 l 16 ∧ n4 l 16 ≤ l.length := by
  unfold okB at h
  rw [Bool.and_eq_true, decide_eq_true_iff] at h
  obtain ⟨⟨h1, h2, h3, h4, h5, h6, h7, h8⟩, _⟩ := h
  omega
theorem cnt_mul (l : List UInt8) (h : hdP l) : 28 + cnt l * n4 l 24 = n4 l 16 ∧ 1 ≤ cnt l := by
  obtain ⟨h1, h2, h3, h4, h5, h6, h7, h8⟩ := h
  unfold cnt
  have h9 := Nat.div_add_mod (n4 l 16 - 28) (n4 l 24)
  rw [h8, Nat.add_zero, Nat.mul_comm] at h9
  refine ⟨by omega, ?_⟩
  rcases Nat.eq_zero_or_pos ((n4 l 16 - 28) / n4 l 24) with e | e
  · rw [e, Nat.zero_mul] at h9; omega
  · exact e

/-- The lists of bytes; n: no more than so many. -/
def rdN : Nat → List UInt8 → Option (List Li)
  | _, [] => some []
  | 0, _ => none
  | n + 1, c :: l => if okB (c :: l) then (rdN n ((c :: l).drop (n4 (c :: l) 16))).map (li1 (c :: l) :: ·) else none
theorem rdN_more (n : Nat) : ∀ (m : Nat) (l : List UInt8), l.length ≤ n → l.length ≤ m → rdN n l = rdN m l := by
  induction n with
  | zero =>
    intro m l h _
    have : l = [] := List.eq_nil_of_length_eq_zero (by omega)
    subst this
    cases m <;> rfl
  | succ n ih =>
    intro m l h1 h2
    cases l with
    | nil => cases m <;> rfl
    | cons c l =>
      cases m with
      | zero => simp at h2
      | succ m =>
        unfold rdN
        cases hk : okB (c :: l) with
        | false => rfl
        | true =>
          have hl := okB_len _ hk
          have hd : ((c :: l).drop (n4 (c :: l) 16)).length ≤ l.length := by rw [List.length_drop, List.length_cons]; omega
          simp only [List.length_cons] at h1 h2
          rw [ih m _ (by omega) (by omega)]
def rdLs (l : List UInt8) : Option (List Li) := rdN l.length l
theorem rdLs_nil : rdLs [] = some [] := rfl
theorem rdLs_step (l : List UInt8) (h : l ≠ []) : rdLs l = if okB l then (rdLs (l.drop (n4 l 16))).map (li1 l :: ·) else none := by
  cases l with
  | nil => exact absurd rfl h
  | cons c l =>
    unfold rdLs
    rw [List.length_cons]
    conv => lhs; unfold rdN
    cases hk : okB (c :: l) with
    | false => rfl
    | true =>
      have hl := okB_len _ hk
      have hd : ((c :: l).drop (n4 (c :: l) 16)).length ≤ l.length := by rw [List.length_drop, List.length_cons]; omega
      rw [rdN_more l.length ((c :: l).drop (n4 (c :: l) 16)).length _ hd (Nat.le_refl _)]
/-- What Read answers. -/
def resL (l : List UInt8) : List Li := if 65536 < l.length then [] else (rdLs l).getD []
def resE (l : List UInt8) : Int := if 65536 < l.length then 10 else if (rdLs l).isSome then 0 else 9

/-- May it be a list? -/
def szL (x : Li) : Nat := match x.i with | [] => 0 | y :: _ => y.d.length
def riB (x : Li) : Bool := x.i.all (fun y => mayB x.k y.d && decide (y.d.length = szL x)) && decide (x.i ≠ [])
def bodyL (is : List It) : List UInt8 := is.flatMap fun y => y.o ++ y.d
/-- A list's bytes. -/
def liW (x : Li) : List UInt8 := nmL x.k ++ (lowN (28 + (16 + szL x) * x.i.length) 4 ++ (lowN 0 4 ++ (lowN (16 + szL x) 4 ++ bodyL x.i)))
def lsW (ls : List Li) : List UInt8 := ls.flatMap liW
/-- What Write answers. -/
def wrB (ls : List Li) : Bool := ls.all riB
def wrR (ls : List Li) : List UInt8 := if wrB ls then (if (lsW ls).length ≤ 65536 then lsW ls else []) else []
def wrE (ls : List Li) : Int := if wrB ls then (if (lsW ls).length ≤ 65536 then 0 else 10) else 1

/-- What a list has. -/
def cutD (k : Int) (d : List UInt8) : List UInt8 := if k = 3 then d.take 32 else d
def hasI (k : Int) (data : List UInt8) (is : List It) : Bool := is.any fun y => decide (cutD k y.d = data)
def hasB (ls : List Li) (k : Int) (data : List UInt8) : Bool := ls.any fun x => decide (x.k = k) && hasI k data x.i
end Go.Proofs.Ytilanncobbdlfaa
