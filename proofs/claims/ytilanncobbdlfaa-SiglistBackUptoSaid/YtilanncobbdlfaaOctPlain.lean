/-
  The plain law of octet: what bytes say as numbers; no program in sight.
-/
namespace Go.Proofs.Ytilanncobbdlfaa

/-- May a number have so many bytes? -/
def sizedB (n : Int) : Bool := decide (n = 1 ∨ n = 2 ∨ n = 4 ∨ n = 8)
/-- Are so many bytes from a place on within? -/
def withinB (L : Nat) (p n : Int) : Bool := decide (0 ≤ p ∧ 0 ≤ n ∧ p ≤ (L : Int) ∧ n ≤ (L : Int) - p)
/-- The bytes from a place on. -/
def seg (l : List UInt8) (p n : Int) : List UInt8 := (l.drop p.toNat).take n.toNat

theorem withinB_iff (L : Nat) (p n : Int) : withinB L p n = true ↔ 0 ≤ p ∧ 0 ≤ n ∧ p ≤ (L : Int) ∧ n ≤ (L : Int) - p := by unfold withinB; exact decide_eq_true_iff
theorem sizedB_iff (n : Int) : sizedB n = true ↔ n = 1 ∨ n = 2 ∨ n = 4 ∨ n = 8 := by unfold sizedB; exact decide_eq_true_iff

theorem seg_length (l : List UInt8) (p n : Int) (h : withinB l.length p n = true) : (seg l p n).length = n.toNat := by
  rw [withinB_iff] at h
  unfold seg
  rw [List.length_take, List.length_drop]
  omega

theorem seg_getD (l : List UInt8) (p n : Int) (h : withinB l.length p n = true) (k : Nat) (hk : (k : Int) < n) : (seg l p n).getD k 0 = l.getD (p.toNat + k) 0 := by
  rw [withinB_iff] at h
  unfold seg
  simp only [List.getD, List.getElem?_take, List.getElem?_drop]
  rw [if_pos (by omega)]

/-- The number of bytes, the lowest first. -/
def numL : List UInt8 → Nat
  | [] => 0
  | c :: r => c.toNat + 256 * numL r

theorem numL_snoc (q : List UInt8) (c : UInt8) : numL (q ++ [c]) = numL q + c.toNat * 256 ^ q.length := by
  induction q with
  | nil => simp [numL]
  | cons d q ih =>
    simp only [List.cons_append, numL, ih, List.length_cons, Nat.pow_succ, Nat.mul_add, Nat.add_assoc]
    congr 2
    rw [Nat.mul_comm 256, Nat.mul_assoc]

theorem numL_lt (q : List UInt8) : numL q < 256 ^ q.length := by
  induction q with
  | nil => simp [numL]
  | cons d q ih =>
    simp only [numL, List.length_cons, Nat.pow_succ]
    have := d.toNat_lt
    omega

theorem numL_inj : ∀ (a b : List UInt8), a.length = b.length → numL a = numL b → a = b
  | [], [], _, _ => rfl
  | c :: a, d :: b, h, e => by
    simp only [numL] at e
    have h1 := c.toNat_lt
    have h2 := d.toNat_lt
    have h3 : c.toNat = d.toNat := by omega
    have h4 : numL a = numL b := by omega
    rw [UInt8.toNat_inj.1 h3, numL_inj a b (by simpa using h) h4]
  | [], _ :: _, h, _ => by simp at h
  | _ :: _, [], h, _ => by simp at h

theorem numL_append (a b : List UInt8) : numL (a ++ b) = numL a + 256 ^ a.length * numL b := by
  induction a with
  | nil => simp [numL]
  | cons c a ih =>
    simp only [List.cons_append, numL, ih, List.length_cons, Nat.pow_succ, Nat.mul_add, Nat.add_assoc]
    congr 2
    rw [Nat.mul_comm (256 ^ a.length) 256, Nat.mul_assoc]

/-- The number, the highest byte first, as the document's answer makes it. -/
def numB (q : List UInt8) : Nat := q.foldl (fun x c => x * 256 + c.toNat) 0
theorem numB_eq (q : List UInt8) : numB q = numL q.reverse := by
  have : ∀ (q : List UInt8) (x : Nat), q.foldl (fun x c => x * 256 + c.toNat) x = x * 256 ^ q.length + numL q.reverse := by
    intro q
    induction q with
    | nil => intro x; simp [numL]
    | cons c q ih =>
      intro x
      rw [List.foldl_cons, ih, List.reverse_cons, numL_snoc, List.length_reverse, List.length_cons, Nat.pow_succ]
      rw [Nat.add_mul, Nat.mul_assoc, Nat.mul_comm 256]
      omega
  unfold numB
  rw [this]
  simp
theorem numB_snoc (q : List UInt8) (c : UInt8) : numB (q ++ [c]) = numB q * 256 + c.toNat := by
  unfold numB; rw [List.foldl_append]; rfl
theorem numB_lt (q : List UInt8) : numB q < 256 ^ q.length := by
  rw [numB_eq]
  have := numL_lt q.reverse
  rwa [List.length_reverse] at this

/-! ### what Get, GetBig, Cut answer -/
def getOk (l : List UInt8) (p n : Int) : Bool := sizedB n && withinB l.length p n
def gotL (l : List UInt8) (p n : Int) : Nat := if getOk l p n then numL (seg l p n) else 0
def gotB (l : List UInt8) (p n : Int) : Nat := if getOk l p n then numL (seg l p n).reverse else 0
def gotE (l : List UInt8) (p n : Int) : Int := if getOk l p n then 0 else 1
def cutL (l : List UInt8) (p n : Int) : List UInt8 := if withinB l.length p n then seg l p n else []

theorem cutL_length_le (l : List UInt8) (p n : Int) : (cutL l p n).length ≤ l.length := by
  unfold cutL seg
  split
  · rw [List.length_take, List.length_drop]; omega
  · simp

/-! ### Put -/

/-- The lowest n bytes of a number, the lowest first. -/
def lowN (X n : Nat) : List UInt8 := (List.range n).map fun i => UInt8.ofNat (X / 2 ^ (8 * i))
theorem lowN_length (X n : Nat) : (lowN X n).length = n := by simp [lowN]
theorem lowN_getD (X n i : Nat) (h : i < n) : (lowN X n).getD i 0 = UInt8.ofNat (X / 2 ^ (8 * i)) := by simp [lowN, List.getD, h]
theorem lowN_snoc (X n : Nat) : lowN X (n + 1) = lowN X n ++ [UInt8.ofNat (X / 2 ^ (8 * n))] := by simp [lowN, List.range_succ]

theorem numL_lowN (X : Nat) : ∀ n, numL (lowN X n) = X % 256 ^ n := by
  intro n
  induction n with
  | zero => simp [lowN, numL, Nat.mod_one]
  | succ n ih =>
    rw [lowN_snoc, numL_snoc, ih, lowN_length, UInt8.toNat_ofNat']
    have e : (2 : Nat) ^ (8 * n) = 256 ^ n := by rw [Nat.pow_mul]
    rw [e]
    have e8 : (2 : Nat) ^ 8 = 256 := rfl
    rw [e8]
    have eK : (256 : Nat) ^ (n + 1) = 256 ^ n * 256 := Nat.pow_succ ..
    rw [eK]
    generalize 256 ^ n = K
    have := @Nat.mod_mul K 256 X
    rw [this, Nat.mul_comm K]

def putL (l : List UInt8) (X : Nat) (n : Int) : List UInt8 := if sizedB n then l ++ lowN X n.toNat else l
def putB (l : List UInt8) (X : Nat) (n : Int) : List UInt8 := if sizedB n then l ++ (lowN X n.toNat).reverse else l

/-- Of a list the places that P names, nought elsewhere. -/
def mixL (T : List UInt8) (N : Nat) (P : Nat → Bool) : List UInt8 := (List.range N).map fun j => if P j then T.getD j 0 else 0
theorem mixL_length (T : List UInt8) (N : Nat) (P : Nat → Bool) : (mixL T N P).length = N := by simp [mixL]
theorem mixL_set (T : List UInt8) (N : Nat) (P P' : Nat → Bool) (j0 : Nat) (h : ∀ j, j < N → P' j = (P j || decide (j = j0))) : (mixL T N P).set j0 (T.getD j0 0) = mixL T N P' := by
  apply List.ext_getElem
  · simp [mixL]
  · intro j h1 h2
    have hj : j < N := by simpa [mixL] using h2
    by_cases e : j0 = j
    · subst e
      simp [mixL, h j0 hj]
    · have e' : ¬ j = j0 := fun x => e x.symm
      simp [mixL, e, h j hj, e']
theorem mixL_all (T : List UInt8) (N : Nat) (P : Nat → Bool) (hT : T.length = N) (h : ∀ j, j < N → P j = true) : mixL T N P = T := by
  apply List.ext_getElem
  · simp [mixL, hT]
  · intro j h1 h2
    have hj : j < N := by simpa [mixL] using h1
    simp [mixL, h j hj, List.getD, h2]
theorem mixL_none (T : List UInt8) (N : Nat) (P : Nat → Bool) (h : ∀ j, j < N → P j = false) : mixL T N P = List.replicate N 0 := by
  apply List.ext_getElem
  · simp [mixL]
  · intro j h1 h2
    have hj : j < N := by simpa [mixL] using h1
    simp [mixL, h j hj]
theorem append_set (l m : List UInt8) (j : Nat) (c : UInt8) : (l ++ m).set (l.length + j) c = l ++ m.set j c := by
  rw [List.set_append_right _ _ (by omega)]
  congr 2
  omega
end Go.Proofs.Ytilanncobbdlfaa
