/-
  The plain law of CRC-32: no program in sight. The register goes over a byte by eight steps (the document) or by two halves and a table (the code): the same; both are linear, and the step is one-to-one.
-/
namespace Go.Proofs.YtbfhgpaobnlodaaDoor

def P32 : BitVec 32 := 0xedb88320#32

/-- The bit steps of the document. -/
def stp (x : BitVec 32) : BitVec 32 := (x >>> 1) ^^^ (if x.getLsbD 0 then P32 else 0#32)
def stps : Nat → BitVec 32 → BitVec 32
  | 0, x => x
  | k + 1, x => stps k (stp x)

def tabL : List (BitVec 32) := [0x00000000, 0x1db71064, 0x3b6e20c8, 0x26d930ac, 0x76dc4190, 0x6b6b51f4, 0x4db26158, 0x5005713c, 0xedb88320, 0xf00f9344, 0xd6d6a3e8, 0xcb61b38c, 0x9b64c2b0, 0x86d3d2d4, 0xa00ae278, 0xbdbdf21c]
def tab (j : Nat) : BitVec 32 := tabL.getD j 0

/-- Half a byte by the table. -/
def nib (x : BitVec 32) : BitVec 32 := (x >>> 4) ^^^ tab (x.toNat % 16)
def nibs : Nat → BitVec 32 → BitVec 32
  | 0, x => x
  | k + 1, x => nib (nibs k x)

/-- A byte as 32 bits. -/
def ext (c : UInt8) : BitVec 32 := BitVec.ofNat 32 c.toNat

/-- A byte: as the code does it. -/
def byt (x : BitVec 32) (c : UInt8) : BitVec 32 := nibs 2 (x ^^^ ext c)
def reg (x : BitVec 32) (l : List UInt8) : BitVec 32 := l.foldl byt x
def crcExt (s : BitVec 32) (l : List UInt8) : BitVec 32 := ~~~ reg (~~~ s) l

/-! ### linear -/

theorem stp_xor (x y : BitVec 32) : stp (x ^^^ y) = stp x ^^^ stp y := by
  unfold stp
  rw [BitVec.ushiftRight_xor_distrib, BitVec.getLsbD_xor]
  cases x.getLsbD 0 <;> cases y.getLsbD 0 <;> simp
  · rw [BitVec.xor_assoc]
  · rw [BitVec.xor_assoc, BitVec.xor_assoc, BitVec.xor_comm (y >>> 1)]
  · rw [BitVec.xor_assoc, BitVec.xor_comm P32, BitVec.xor_assoc, BitVec.xor_self, BitVec.xor_zero]

theorem stps_xor (k : Nat) : ∀ x y, stps k (x ^^^ y) = stps k x ^^^ stps k y := by
  induction k with
  | zero => intros; rfl
  | succ k ih => intro x y; simp only [stps, stp_xor, ih]

theorem stps_add (j k : Nat) : ∀ x, stps (j + k) x = stps k (stps j x) := by
  induction j with
  | zero => intro x; rw [Nat.zero_add]; rfl
  | succ j ih => intro x; rw [Nat.add_right_comm]; exact ih _

theorem stps_zero (k : Nat) : stps k 0#32 = 0#32 := by
  induction k with
  | zero => rfl
  | succ k ih => exact ih

/-- What has noughts in its lowest k bits only moves. -/
theorem stps_high (k : Nat) : ∀ x : BitVec 32, (∀ i, i < k → x.getLsbD i = false) → stps k x = x >>> k := by
  induction k with
  | zero => intro x _; simp [stps]
  | succ k ih =>
    intro x h
    have h0 : stp x = x >>> 1 := by unfold stp; rw [h 0 (by omega)]; simp
    rw [stps, h0, ih]
    · rw [← BitVec.shiftRight_add, Nat.add_comm]
    · intro i hi
      rw [BitVec.getLsbD_ushiftRight]
      exact h _ (by omega)

theorem split4 (x : BitVec 32) : x = ((x >>> 4) <<< 4) ^^^ BitVec.ofNat 32 (x.toNat % 16) := by
  have e : BitVec.ofNat 32 (x.toNat % 16) = x &&& 15#32 := by
    apply BitVec.eq_of_toNat_eq
    rw [BitVec.toNat_and, BitVec.toNat_ofNat, show (15#32).toNat = 2 ^ 4 - 1 from rfl, Nat.and_two_pow_sub_one_eq_mod]
    omega
  rw [e]
  ext i hi
  have h15 : (15#32).getLsbD i = decide (i < 4) := by
    have : i = 0 ∨ i = 1 ∨ i = 2 ∨ i = 3 ∨ 4 ≤ i := by omega
    rcases this with rfl | rfl | rfl | rfl | h
    · rfl
    · rfl
    · rfl
    · rfl
    · have : (15#32).getLsbD i = false := by
        rw [BitVec.getLsbD_ofNat, Nat.testBit_lt_two_pow (Nat.lt_of_lt_of_le (by decide : 15 < 2 ^ 4) (Nat.pow_le_pow_right (by decide) h))]
        simp
      rw [this]
      simp; omega
  rw [BitVec.getLsbD_eq_getElem hi] at h15
  rw [BitVec.getElem_xor, BitVec.getElem_and, BitVec.getElem_shiftLeft, h15]
  by_cases h : i < 4
  · simp [h]
  · simp [h, show 4 + (i - 4) = i by omega, BitVec.getLsbD_eq_getElem hi]

theorem tab_stps : ∀ j, j < 16 → stps 4 (BitVec.ofNat 32 j) = tab j := by decide

theorem nib_eq (x : BitVec 32) : nib x = stps 4 x := by
  conv => rhs; rw [split4 x]
  rw [stps_xor, tab_stps _ (by omega), stps_high]
  · unfold nib
    congr 1
    ext i hi
    simp only [BitVec.getElem_ushiftRight, BitVec.getLsbD_shiftLeft, BitVec.getLsbD_ushiftRight]
    by_cases h : 4 + i < 32
    · simp [h]
    · simp [h, BitVec.getLsbD_of_ge x (4 + i) (by omega)]
  · intro i hi
    rw [BitVec.getLsbD_shiftLeft]
    simp [hi]

theorem byt_eq (x : BitVec 32) (c : UInt8) : byt x c = stps 8 (x ^^^ ext c) := by
  show nib (nib (x ^^^ ext c)) = _
  rw [nib_eq, nib_eq, ← stps_add]

theorem stps_succ (k : Nat) (x : BitVec 32) : stps (k + 1) x = stp (stps k x) := by rw [stps_add]; rfl

/-! ### the document's way: bit by bit -/

def refStep (x y : BitVec 32) : BitVec 32 := (x >>> 1) ^^^ (if (x ^^^ y).getLsbD 0 then P32 else 0#32)
/-- The bit that the i-th step takes, as the code makes it. -/
def refBit (l : List UInt8) (i : Nat) : BitVec 32 := BitVec.ofNat 32 ((l.getD (i / 8) 0).toNat / 2 ^ (i % 8))
def refTo (x : BitVec 32) (l : List UInt8) : Nat → BitVec 32
  | 0 => x
  | i + 1 => refStep (refTo x l i) (refBit l i)

theorem ext_shift (c : UInt8) (j : Nat) : ext c >>> j = BitVec.ofNat 32 (c.toNat / 2 ^ j) := by
  apply BitVec.eq_of_toNat_eq
  have hc : c.toNat < 256 := c.toNat_lt
  have hd : c.toNat / 2 ^ j ≤ c.toNat := Nat.div_le_self _ _
  rw [BitVec.toNat_ushiftRight, Nat.shiftRight_eq_div_pow, BitVec.toNat_ofNat, ext, BitVec.toNat_ofNat]
  rw [Nat.mod_eq_of_lt (show c.toNat < 2 ^ 32 by omega), Nat.mod_eq_of_lt (show c.toNat / 2 ^ j < 2 ^ 32 by omega)]

theorem ext_shift8 (c : UInt8) : ext c >>> 8 = 0#32 := by
  rw [ext_shift]
  have hc : c.toNat < 256 := c.toNat_lt
  rw [show c.toNat / 2 ^ 8 = 0 by omega]

theorem refStep_eq (a b : BitVec 32) : refStep (a ^^^ b) b = stp a ^^^ (b >>> 1) := by
  unfold refStep stp
  rw [BitVec.ushiftRight_xor_distrib, show a ^^^ b ^^^ b = a by rw [BitVec.xor_assoc, BitVec.xor_self, BitVec.xor_zero]]
  rw [BitVec.xor_assoc, BitVec.xor_assoc, BitVec.xor_comm (b >>> 1)]

theorem refTo_part (x : BitVec 32) (l : List UInt8) (k : Nat) : ∀ j, j ≤ 8 → refTo x l (8 * k + j) = stps j (refTo x l (8 * k) ^^^ ext (l.getD k 0)) ^^^ (ext (l.getD k 0) >>> j) := by
  intro j
  induction j with
  | zero => intro _; simp [stps, BitVec.xor_assoc]
  | succ j ih =>
    intro hj
    rw [← Nat.add_assoc, refTo, ih (by omega)]
    have e : refBit l (8 * k + j) = ext (l.getD k 0) >>> j := by
      rw [ext_shift, refBit, show (8 * k + j) / 8 = k by omega, show (8 * k + j) % 8 = j by omega]
    rw [e, refStep_eq, stps_succ, ← BitVec.shiftRight_add]

theorem refTo_eq (x : BitVec 32) (l : List UInt8) : ∀ k, k ≤ l.length → refTo x l (8 * k) = reg x (l.take k) := by
  intro k
  induction k with
  | zero => intro _; simp [refTo, reg]
  | succ k ih =>
    intro hk
    rw [show 8 * (k + 1) = 8 * k + 8 by omega, refTo_part x l k 8 (by omega), ext_shift8, BitVec.xor_zero, ih (by omega)]
    rw [List.take_succ_eq_append_getElem (by omega), reg, reg, List.foldl_append, List.foldl_cons, List.foldl_nil, byt_eq]
    simp [List.getD, show k < l.length by omega]

/-! ### what follows -/

theorem reg_append (x : BitVec 32) (a b : List UInt8) : reg x (a ++ b) = reg (reg x a) b := List.foldl_append ..

theorem crcExt_append (s : BitVec 32) (a b : List UInt8) : crcExt (crcExt s a) b = crcExt s (a ++ b) := by
  unfold crcExt
  rw [BitVec.not_not, reg_append]

theorem crcExt_nil (s : BitVec 32) : crcExt s [] = s := by unfold crcExt reg; simp

theorem ext_xor (c d : UInt8) : ext (c ^^^ d) = ext c ^^^ ext d := by
  apply BitVec.eq_of_toNat_eq
  have hc : c.toNat < 256 := c.toNat_lt
  have hd : d.toNat < 256 := d.toNat_lt
  have hx : c.toNat ^^^ d.toNat < 2 ^ 8 := Nat.xor_lt_two_pow (n := 8) (by omega) (by omega)
  rw [BitVec.toNat_xor, ext, ext, ext, BitVec.toNat_ofNat, BitVec.toNat_ofNat, BitVec.toNat_ofNat, UInt8.toNat_xor]
  rw [Nat.mod_eq_of_lt (show c.toNat < 2 ^ 32 by omega), Nat.mod_eq_of_lt (show d.toNat < 2 ^ 32 by omega), Nat.mod_eq_of_lt (by omega)]

/-- Of two texts, put together bit by bit. -/
def xorL (a b : List UInt8) : List UInt8 := List.zipWith (· ^^^ ·) a b

theorem reg_xor : ∀ (a b : List UInt8) (x y : BitVec 32), a.length = b.length → reg (x ^^^ y) (xorL a b) = reg x a ^^^ reg y b
  | [], [], x, y, _ => rfl
  | c :: a, d :: b, x, y, h => by
    have e : byt (x ^^^ y) (c ^^^ d) = byt x c ^^^ byt y d := by
      rw [byt_eq, byt_eq, byt_eq, ← stps_xor, ext_xor]
      congr 1
      rw [BitVec.xor_assoc, BitVec.xor_assoc, ← BitVec.xor_assoc y, ← BitVec.xor_assoc (ext c), BitVec.xor_comm y]
    show reg (byt (x ^^^ y) (c ^^^ d)) (xorL a b) = _
    rw [e]
    exact reg_xor a b _ _ (by simpa using h)
  | [], _ :: _, _, _, h => by simp at h
  | _ :: _, [], _, _, h => by simp at h

theorem xorL_length (a b : List UInt8) (h : a.length = b.length) : (xorL a b).length = a.length := by simp [xorL, h]

/-- THE THEOREM OF STAGE 2. -/
theorem crc_together (a b c : List UInt8) (h : a.length = b.length) (h' : a.length = c.length) : crcExt 0 (xorL (xorL a b) c) = crcExt 0 a ^^^ crcExt 0 b ^^^ crcExt 0 c := by
  unfold crcExt
  have e : (~~~ 0#32) = (~~~ 0#32) ^^^ (~~~ 0#32) ^^^ (~~~ 0#32) := by decide
  have : reg (~~~ 0#32) (xorL (xorL a b) c) = reg (~~~ 0#32) a ^^^ reg (~~~ 0#32) b ^^^ reg (~~~ 0#32) c := by
    conv => lhs; rw [e]
    rw [reg_xor _ _ _ _ (by rw [xorL_length a b h, h']), reg_xor _ _ _ _ h]
  show ~~~ reg (~~~ 0#32) (xorL (xorL a b) c) = ~~~ reg (~~~ 0#32) a ^^^ ~~~ reg (~~~ 0#32) b ^^^ ~~~ reg (~~~ 0#32) c
  rw [this]
  generalize reg (~~~ 0#32) a = p
  generalize reg (~~~ 0#32) b = q
  generalize reg (~~~ 0#32) c = r
  ext i hi
  simp only [BitVec.getElem_not, BitVec.getElem_xor]
  cases p[i] <;> cases q[i] <;> cases r[i] <;> rfl

/-! ### one-to-one -/

theorem stp_zero_iff (x : BitVec 32) (h : stp x = 0#32) : x = 0#32 := by
  unfold stp at h
  have h0 : x.getLsbD 0 = false := by
    cases hx : x.getLsbD 0 with
    | false => rfl
    | true =>
      exfalso
      rw [hx] at h
      have := congrArg (fun z : BitVec 32 => z.getLsbD 31) h
      simp only [BitVec.getLsbD_xor, BitVec.getLsbD_ushiftRight, if_true] at this
      rw [BitVec.getLsbD_of_ge x (1 + 31) (by omega)] at this
      exact absurd this (by decide)
  rw [h0] at h
  simp only [Bool.false_eq_true, if_false, BitVec.xor_zero] at h
  apply BitVec.eq_of_getLsbD_eq
  intro i hi
  rw [BitVec.getLsbD_zero]
  cases i with
  | zero => exact h0
  | succ i =>
    have := congrArg (fun z : BitVec 32 => z.getLsbD i) h
    simp only [BitVec.getLsbD_ushiftRight, BitVec.getLsbD_zero] at this
    rw [Nat.add_comm]
    exact this

theorem stps_zero_iff (k : Nat) : ∀ x : BitVec 32, stps k x = 0#32 → x = 0#32 := by
  induction k with
  | zero => intro x h; exact h
  | succ k ih => intro x h; exact stp_zero_iff _ (ih _ h)

theorem xor_zero_iff (x y : BitVec 32) : x ^^^ y = 0#32 ↔ x = y := by
  constructor
  · intro h
    have := congrArg (· ^^^ y) h
    simp only [BitVec.xor_assoc, BitVec.xor_self, BitVec.xor_zero, BitVec.zero_xor] at this
    exact this
  · rintro rfl; exact BitVec.xor_self

theorem stps_inj (k : Nat) (x y : BitVec 32) (h : stps k x = stps k y) : x = y := by
  rw [← xor_zero_iff] at h ⊢
  rw [← stps_xor] at h
  exact stps_zero_iff k _ h

theorem reg_inj : ∀ (l : List UInt8) (x y : BitVec 32), reg x l = reg y l → x = y
  | [], _, _, h => h
  | c :: l, x, y, h => by
    have h1 : byt x c = byt y c := reg_inj l _ _ h
    rw [byt_eq, byt_eq] at h1
    have h2 := stps_inj 8 _ _ h1
    rw [← xor_zero_iff] at h2 ⊢
    rw [← h2, BitVec.xor_assoc, BitVec.xor_comm y, ← BitVec.xor_assoc (ext c), BitVec.xor_self, BitVec.zero_xor]

theorem crc_apart (s t : BitVec 32) (l : List UInt8) : (crcExt s l = crcExt t l) ↔ s = t := by
  constructor
  · intro h
    unfold crcExt at h
    have h1 := congrArg (~~~ ·) h
    simp only [BitVec.not_not] at h1
    have h2 := congrArg (~~~ ·) (reg_inj l _ _ h1)
    simpa only [BitVec.not_not] using h2
  · rintro rfl; rfl
end Go.Proofs.YtbfhgpaobnlodaaDoor
